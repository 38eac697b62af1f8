/-
  Products of linear factors, and the resultant with them. No program in sight.
  ResultRoots walked: with what comes to 0 at some numbers it is the product of what the other one comes to there.
-/
import Derived.Test.YtoahegjjffggaaaRows
import Derived.Test.YtoahegjjffggaaaMg0
import Derived.Test.YtoahegjjffggaaaMg2
import Derived.Test.YtoahegjjffggaaaMg6
import Derived.Test.YtoahegjjffggaaaMg8
namespace Go.Rk
open Go.RowKit Go.Proofs.Ytoahegjjffggaaa

/-- The product of the first k: the number r less x turned about. -/
def rootsL (roots : List Int) : Nat → List Int
  | 0 => [1]
  | k + 1 => mulL (rootsL roots k) [(-ix roots k) % 9973, 1]
def prodR (g roots : List Int) : Nat → Int
  | 0 => 1
  | k + 1 => prodR g roots k * (pv (ix g) g.length (ix roots k) % 9973) % 9973
theorem prodR_in (g roots : List Int) (k : Nat) : 0 ≤ prodR g roots k ∧ prodR g roots k ≤ 9972 := by
  cases k with
  | zero => exact ⟨show (0 : Int) ≤ 1 by decide, show (1 : Int) ≤ 9972 by decide⟩
  | succ k => rw [prodR]; omega
theorem rootsL_is (roots : List Int) : ∀ k, (rootsL roots k).length = k + 1 ∧ ix (rootsL roots k) k = 1 ∧ In 0 9972 (rootsL roots k) := by
  intro k
  induction k with
  | zero => exact ⟨rfl, rfl, fun j hj => by obtain rfl : j = 0 := by (have : j < 1 := hj); omega
                                            exact ⟨show (0 : Int) ≤ 1 by decide, show (1 : Int) ≤ 9972 by decide⟩⟩
  | succ k ih =>
    obtain ⟨h1, h2, _⟩ := ih
    have h := mulL_len (f := rootsL roots k) (g := [(-ix roots k) % 9973, 1]) (a := k) (b := 1) h1 rfl (by rw [h2]; decide) (by show (1 : Int) % 9973 ≠ 0; decide)
    refine ⟨h.1, ?_, mulL_in _ _⟩
    rw [rootsL, h.2.1, h2]
    rfl
theorem rootsL_one (roots : List Int) : rootsL roots 1 = [(-ix roots 0) % 9973, 1] := by
  have h := rootsL_is roots 1
  refine ix_ext h.1 fun k hk => ?_
  rw [h.1] at hk
  rcases (show k = 0 ∨ k = 1 by omega) with rfl | rfl
  · have e := mulL_ix (f := [1]) (g := [(-ix roots 0) % 9973, 1]) (q := 0) (show 0 < 1 + 2 by decide)
    have b := h.2.2 0 (by rw [h.1]; omega)
    have e2 : convF (ix [1]) (ix [(-ix roots 0) % 9973, 1]) 1 2 0 = (-ix roots 0) % 9973 := by
      unfold convF
      rw [sumTo, sumTo, Int.zero_add, if_pos ⟨Nat.le_refl _, by omega⟩]
      show 1 * ((-ix roots 0) % 9973) = _
      rw [Int.one_mul]
    have e3 : Eqm (ix (rootsL roots 1) 0) ((-ix roots 0) % 9973) := e.trans (Eqm.of_eq e2)
    exact e3.eq b (by omega)
  · exact h.2.1
theorem roots_res {g roots : List Int} {m : Nat} (hg : g.length = m + 1) (hm : ix g m % 9973 ≠ 0) : ∀ k, 1 ≤ k → Eqm (det (k + m) (sylM (rootsL roots k) g)) (prodR g roots k) := by
  have lin : ∀ k, Eqm (det (1 + m) (sylM [(-ix roots k) % 9973, 1] g)) (pv (ix g) g.length (ix roots k) % 9973) := fun k => by
    rw [Nat.add_comm 1 m]
    refine (syl_root hg (r := ix roots k) ?_).trans (Eqm.mod _).symm
    have := (Eqm.mod (-ix roots k)).neg
    rwa [Int.neg_neg] at this
  intro k
  induction k with
  | zero => intro h; exact absurd h (by omega)
  | succ k ih =>
    intro _
    rcases Nat.eq_zero_or_pos k with h0 | h0
    · subst h0
      rw [rootsL_one]
      refine (lin 0).trans ?_
      show Eqm _ (prodR g roots 0 * (pv (ix g) g.length (ix roots 0) % 9973) % 9973)
      show Eqm _ (1 * (pv (ix g) g.length (ix roots 0) % 9973) % 9973)
      rw [Int.one_mul]
      exact (Eqm.mod _).symm
    · have h := rootsL_is roots k
      have h' := rootsL_is roots (k + 1)
      have r := res_mul (f := rootsL roots k) (g := [(-ix roots k) % 9973, 1]) (h := g) (p := rootsL roots (k + 1)) (a := k) (b := 1) (m := m) h.1 rfl hg h'.1 hm (by omega) (by omega) fun q hq => by
        have := mulL_ix (f := rootsL roots k) (g := [(-ix roots k) % 9973, 1]) (q := q) (by rw [h.1]; show q < k + 1 + 2; omega)
        rw [h.1] at this
        exact this
      refine r.trans ?_
      rw [prodR]
      exact ((ih h0).mul (lin k)).trans (Eqm.mod _).symm
end Go.Rk
namespace Go.Proofs.Ytoahegjjffggaaa
open Go.RowKit Go.Rk

section
variable {a b : Option Addr} {n q ca cb : Nat} {l g : List Int} {w : World}
theorem roots_val {k : Nat} (hk : 1 ≤ k) (tg : twoR (rootsL l k) g = none) : resV (rootsL l k) g = prodR g l k := by
  obtain ⟨f1, f2, f3, f4, f5, f6, f7, f8⟩ := twoR_none tg
  obtain ⟨m, hm⟩ : ∃ m, g.length = m + 1 := ⟨g.length - 1, by omega⟩
  rw [show g.length - 1 = m by omega] at f6
  have h := rootsL_is l k
  have R := roots_res (roots := l) hm (low_nz f4 (by omega) f6) k hk
  unfold resV
  rw [show (rootsL l k).length + g.length - 2 = k + m by omega]
  have e := prodR_in g l k
  exact ((Eqm.mod _).trans R).eq (by omega) e
theorem rd_lin {w : World} {p : Nat} {c : Int} (h0 : w.cell? ⟨p, 0, none⟩ = some (.int .i64 c)) (h1 : w.cell? ⟨p, 1, none⟩ = some (.int .i64 1)) : RdI w (some ⟨p, 0, none⟩) 2 2 [c, 1] := by
  refine ⟨rfl, Nat.le_refl _, by decide, fun k hk => ⟨p, 0, rfl, ?_⟩⟩
  rcases (show k = 0 ∨ k = 1 by omega) with rfl | rfl
  · exact h0
  · exact h1

set_option maxHeartbeats 4000000 in
set_option maxRecDepth 100000 in
theorem resultRoots_walk (hl : RdI w a n ca l) (_ : Fit l) (hg : RdI w b q cb g) (_ : Fit g) :
    Calls Try.prog 4 #[.slice a n ca, .slice b q cb] w fun e w' => e = .returned (.bool true) ∧ Below w.heap.size w w' := by
  have lm := hl.len_max
  have HL := Lib.hid hl.len_eq
  have HG := Lib.hid hg.len_eq
  go_enter Try.func4, Try.ntmps4
  go_wp2_with (go_at_call 13; fail)
  refine (resultFact_any _).mono ?_
  rintro e w1 ⟨rfl, kk⟩
  by_cases h0 : n = 0
  · have z : ((n : Int) == 0) = true := beq_iff_eq.2 (by omega)
    go_wp2
    go_ret
    exact ⟨rfl, kk⟩
  have z0 : ((n : Int) == 0) = false := beq_eq_false_iff_ne.2 (by omega)
  by_cases h4 : 4 < n
  · have i1 : (4 : Int) < (n : Int) := by omega
    go_wp2
    go_ret
    exact ⟨rfl, kk⟩
  have i1 : (n : Int) ≤ 4 := by omega
  have C := R_All_any 0 9972 (hl.below kk)
  rcases hal : allB 0 9972 l with _ | _
  · rw [hal] at C
    have C := Lib.hid C
    clear hal
    go_wp2_with (first | (go_at_call 18; (with_reducible refine C.out.mono ?_); rintro e w' ⟨rfl, rfl⟩))
    go_ret
    exact ⟨rfl, kk⟩
  rw [hal] at C
  have C := Lib.hid C
  have IL := Lib.hid (allB_in hal)
  clear hal
  go_wp2_with (first | (go_at_call 18; (with_reducible refine C.out.mono ?_); rintro e w' ⟨rfl, rfl⟩))
  clear C z0 i1
  have hone : RdI (w1.alloc (.cells #[.int .i64 1] 3)) (some ⟨w1.heap.size, 0, none⟩) 1 1 (rootsL l 0) := RdI.one (z := 1) (by simp) (Nat.le_refl _) (by decide)
  have kk1 := below_al kk (.cells #[.int .i64 1] 3)
  go_loopw [6, 7] (fun v x wt => ∃ (k : Nat) (p : Option Addr) (cp : Nat), k ≤ n ∧ x = .int .i64 k ∧ v = .slice p (k + 1) cp ∧ RdI wt p (k + 1) cp (rootsL l k) ∧ Below w.heap.size w wt) (fun _ x _ => n - (intOf x).toNat)
  case atStart => exact ⟨0, _, _, Nat.zero_le _, rfl, rfl, hone, kk1⟩
  case round =>
    clear hone kk1
    obtain ⟨k, p, cp, hk, rfl, rfl, hP, hb⟩ := hrel
    have HR := Lib.hid (rootsL_is l k)
    by_cases hkn : k < n
    · have i2 : (k : Int) < (n : Int) := by omega
      obtain ⟨bl, ol, rfl, _, hc⟩ := (hl.below hb).at hkn
      have y1 := hc k hkn
      have bx := IL.out k (by rw [HL.out]; exact hkn)
      obtain ⟨X, hX⟩ : ∃ X, ix l k = X := ⟨_, rfl⟩
      rw [hX] at y1 bx
      have HX := Lib.hid hX
      have u1 : IntKind.i64.wrap (-X) = -X := Go.IntWalk.i64_in _ (by omega)
      have bc : 0 ≤ (-X) % 9973 ∧ (-X) % 9973 ≤ 9972 := by omega
      have ICL : Hid (In 0 9972 [(-X) % 9973, 1]) := fun j hj => by
        rcases (show j = 0 ∨ j = 1 by have : j < 2 := hj; omega) with rfl | rfl
        · exact bc
        · exact ⟨show (0 : Int) ≤ 1 by decide, show (1 : Int) ≤ 9972 by decide⟩
      have hP2 := hP.alloc (.cells #[.int .i64 ((-X) % 9973), .int .i64 1] 3)
      have hLn : RdI (wr.alloc (.cells #[.int .i64 ((-X) % 9973), .int .i64 1] 3)) (some ⟨wr.heap.size, 0, none⟩) 2 2 [(-X) % 9973, 1] := rd_lin (by simp [go_sem]) (by simp [go_sem])
      have hML : Hid ((mulL (rootsL l k) [(-X) % 9973, 1]).length = k + 1 + 1 ∧ mulL (rootsL l k) [(-X) % 9973, 1] = rootsL l (k + 1)) := ⟨by rw [← hX]; exact (rootsL_is l (k + 1)).1, by rw [← hX]; rfl⟩
      clear hX hc
      go_wp2_with (first | (go_at_call 17; refine (R_Mod_any _ _ (by omega) (by omega)).mono ?_; rintro e w' ⟨rfl, rfl⟩) | (go_at_call 15; fail))
      refine (poly_Mul_ok hP2 HR.out.2.2 (by omega) hLn ICL.out (by omega) (by omega)).mono ?_
      rintro e w4 ⟨aP, cP, rfl, hQ, b4⟩
      rw [hML.out.1] at hQ ⊢
      rw [hML.out.2] at hQ
      have hQ1 := hQ.rd
      have kk4 := below_tr (below_al hb _) b4
      clear b4 hQ hP2 hLn
      go_wp2
      go_roundw
      case rel => exact ⟨k + 1, aP, cP, by omega, by go_num, rfl, hQ1, kk4⟩
      case measure => simp [intOf]; omega
    · obtain rfl : n = k := by omega
      go_wp2_with (go_at_call 14; fail)
      rcases tg : twoR (rootsL l n) g with _ | c
      · have hv := roots_val (l := l) (g := g) (by omega) tg
        obtain ⟨_, f2, _, f4, _, _, _, f8⟩ := twoR_none tg
        have C := result_Of_ok hP (hg.below hb) tg
        rw [hv] at C
        have C := Lib.hid C
        have IG := Lib.hid f4
        have q6 : q ≤ 6 := by have := HG.out; have := HR.out.1; omega
        clear hv tg f2 f4 f8 hP
        (with_reducible refine C.out.mono ?_)
        rintro e w5 ⟨rfl, b5⟩
        replace hb := below_tr hb b5
        clear C b5
        go_wp2_with fail
        go_loopw [12, 13] (fun v x wt => ∃ (k : Nat) (s : Int), k ≤ n ∧ x = .int .i64 k ∧ v = .int .i64 s ∧ Hid (s = prodR g l k) ∧ Below w.heap.size w wt) (fun _ x _ => n - (intOf x).toNat)
        case atStart => exact ⟨0, 1, Nat.zero_le _, rfl, rfl, rfl, hb⟩
        case round =>
          clear hb
          obtain ⟨k, s, hk, rfl, rfl, hS, hb⟩ := hrel
          have bs : 0 ≤ s ∧ s ≤ 9972 := by rw [hS.out]; exact prodR_in _ _ _
          by_cases hkn2 : k < n
          · have i2 : (k : Int) < (n : Int) := by omega
            obtain ⟨bl, ol, rfl, _, hc⟩ := (hl.below hb).at hkn2
            have y1 := hc k hkn2
            have bx := IL.out k (by rw [HL.out]; exact hkn2)
            obtain ⟨X, hX⟩ : ∃ X, ix l k = X := ⟨_, rfl⟩
            rw [hX] at y1 bx
            have CA := poly_At_ok (hg.below hb) IG.out (by omega) bx
            obtain ⟨V, hV⟩ : ∃ V, V = pv (ix g) q X % 9973 := ⟨_, rfl⟩
            rw [← hV] at CA
            have bv : 0 ≤ V ∧ V ≤ 9972 := by omega
            have bm := mul_bd bs bv
            have CA := Lib.hid CA
            have iV : Hid (inB V 0 9972 = true) := by unfold Hid inB; simp; omega
            have HS : Hid (s * V % 9973 = prodR g l (k + 1)) := by
              unfold Hid
              rw [prodR, hS.out, hV, HG.out, hX]
            have u1 : IntKind.i64.wrap (s * V) = s * V := Go.IntWalk.i64_in _ (by omega)
            clear hX hV hc
            go_wp2_with (first
              | (go_at_call 19; (with_reducible refine CA.out.mono ?_); rintro e w' ⟨rfl, rfl⟩)
              | (go_at_call 16; refine (L3_in_any _ _ _ _).mono ?_; rintro e w' ⟨rfl, rfl⟩; rw [iV.out])
              | (go_at_call 17; refine (R_Mod_any _ _ (by omega) (by omega)).mono ?_; rintro e w' ⟨rfl, rfl⟩))
            go_roundw
            case rel => exact ⟨k + 1, _, by omega, by go_num, rfl, HS, hb⟩
            case measure => simp [intOf]; omega
          · obtain rfl : n = k := by omega
            obtain ⟨V, hV⟩ : ∃ V, V = prodR g l n := ⟨_, rfl⟩
            have z : (V == s) = true := beq_iff_eq.2 (by rw [hV, hS.out])
            rw [← hV]
            clear hV
            go_wp2
            go_ret
            exact ⟨rfl, hb⟩
      · refine (result_Of_err hP (hg.below hb) tg).mono ?_
        rintro e w5 ⟨rfl, rfl⟩
        clear tg
        go_wp2
        go_ret
        exact ⟨rfl, hb⟩
end
end Go.Proofs.Ytoahegjjffggaaa
