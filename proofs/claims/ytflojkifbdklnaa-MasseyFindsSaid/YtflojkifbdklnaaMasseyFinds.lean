/-
  MasseyFinds walked: the recurrence of a sequence that is long enough is found, and tells what comes later.
-/
import Derived.Test.YtflojkifbdklnaaRows
import Derived.Test.YtflojkifbdklnaaLib
import Derived.Test.YtflojkifbdklnaaNum
import Derived.Test.YtflojkifbdklnaaRef
import Derived.Test.YtflojkifbdklnaaTr
import Derived.Test.YtflojkifbdklnaaOpen
import Derived.Test.YtflojkifbdklnaaSameSum
import Derived.Test.YtflojkifbdklnaaRecur
import Derived.Test.YtflojkifbdklnaaRecurTerm
import Derived.Test.YtflojkifbdklnaaMasseyP
import Derived.Test.YtflojkifbdklnaaMasseyG
import Derived.Test.YtflojkifbdklnaaMasseyFact
namespace Go.Proofs.Ytflojkifbdklnaa
open Go.RowKit Go.Rk

theorem tm_gen {f s : List Int} (h : s.length = f.length) (T : Nat) : GenF (tm f s) (ix f) f.length T := fun t h1 _ => by
  rw [Rz_eqm, tm_next f s (by omega) h1]
  exact Eqm.mod _
theorem row_ix {f s : List Int} {m t : Nat} (h : t < m) : ix (rowN f s m) t = tm f s t := ix_rowN f s h
theorem row_gen {f s : List Int} (h : s.length = f.length) (m : Nat) : GenF (ix (rowN f s m)) (ix f) f.length m :=
  (tm_gen h m).congr (fun t ht => by rw [row_ix ht]; exact Eqm.refl _) fun _ _ => Eqm.refl _
theorem seqR_row {f s : List Int} {m : Nat} (hm : m ≤ 16) (hs : In 0 9972 s) : seqR (rowN f s m) = none := by
  unfold seqR
  rw [if_neg (by rw [rowN_len]; omega), any_of_in (rowN_in f s m hs)]
  rfl
/-- The recurrence found goes on as the one that was given. -/
theorem finds_same {f s F : List Int} {m L : Nat} (h : s.length = f.length) (hs : In 0 9972 s) (hF : F.length = L) (_ : 1 ≤ L) (hB : BM (ix (rowN f s m)) m (ix F) L) (hm : f.length + L ≤ m) (N : Nat) : rowN f s N = rowN F ((rowN f s m).take L) N := by
  have hst : ((rowN f s m).take L).length = L := by rw [List.length_take, rowN_len]; omega
  have hsi : In 0 9972 ((rowN f s m).take L) := fun j hj => by
    rw [hst] at hj
    rw [ix_take hj, row_ix (by omega)]
    exact tm_in f s hs j
  have hv : ∀ t, t < m → Eqm (tm f s t) (tm F ((rowN f s m).take L) t) := by
    intro t
    induction t using Nat.strongRecOn with
    | ind t ih =>
      intro ht
      rcases Nat.lt_or_ge t L with h2 | h2
      · rw [tm_start F _ (by rw [hst]; exact h2), ix_take h2, row_ix ht]
        exact Eqm.refl _
      · rw [tm_next F _ (by rw [hst]; exact h2) (by rw [hF]; exact h2), hF]
        have e1 := Rz_eqm.1 (hB.gen t h2 ht)
        rw [row_ix ht] at e1
        have e2 : Eqm (sumTo (fun k => ix F k * ix (rowN f s m) (t - 1 - k)) L) (sumTo (fun k => ix F k * tm F ((rowN f s m).take L) (t - 1 - k)) L) := Eqm.sum fun k hk => by
          rw [row_ix (by omega)]
          exact (Eqm.refl _).mul (ih (t - 1 - k) (by omega) (by omega))
        exact (e1.trans e2).trans (Eqm.mod _).symm
  have hall := gen_same (T := N) (tm_gen h N) (by have := tm_gen (f := F) (s := (rowN f s m).take L) (by rw [hst, hF]) N; rw [hF] at this; exact this) hm hv
  refine ix_ext (by rw [rowN_len, rowN_len]) fun k hk => ?_
  rw [rowN_len] at hk
  rw [row_ix hk, row_ix hk]
  have e : tm f s k % 9973 = tm F ((rowN f s m).take L) k % 9973 := hall k hk
  have b1 := tm_in f s hs k
  have b2 := tm_in F _ hsi k
  omega
theorem finds_zero {f s F : List Int} {m : Nat} (hs : In 0 9972 s) (hB : BM (ix (rowN f s m)) m (ix F) 0) : sumTo (ix (rowN f s m)) m = 0 := by
  rw [sumTo_congr (h := fun _ => 0) fun t ht => ?_, sumTo_zero]
  have e := hB.gen t (Nat.zero_le _) ht
  unfold Rz at e
  simp only [sumTo] at e
  rw [row_ix ht, Int.sub_zero] at e
  rw [row_ix ht]
  have b := tm_in f s hs t
  have e : tm f s t % 9973 = 0 % 9973 := e
  omega

set_option maxHeartbeats 2000000 in
set_option maxRecDepth 100000 in
theorem masseyFinds_walk {a b : Option Addr} {n ca m cb : Nat} {f s : List Int} {many : Int} {w : World} (hf : RdI w a n ca f) (_ : Fit f) (hs : RdI w b m cb s) (_ : Fit s) (_ : (Lit.int .i64 many).wf = true) :
    Calls Try.prog 12 #[.slice a n ca, .slice b m cb, .int .i64 many] w fun e w' => e = .returned (.bool true) ∧ Below w.heap.size w w' := by
  have hL := Lib.hid hf.len_eq
  go_enter Try.func12, Try.ntmps12
  go_wp2_with (first | (go_at_call 33; refine (masseyFact_any _).mono ?_; rintro e w1 ⟨rfl, k1⟩) | (go_at_call 35; fail))
  rcases hq : rowErr f s many with _ | c
  · obtain ⟨q1, q2, q3⟩ := rowErr_none hq
    obtain ⟨g1, g2, g3, g4, g5⟩ := checkR_none q1
    obtain ⟨M, rfl⟩ := Int.eq_ofNat_of_zero_le q2
    rw [hL.out] at g1 g2
    have C := Lib.hid (Row_okN (hf.below k1) (hs.below k1) hq)
    have G3 := Lib.hid g3
    have G4 := Lib.hid g4
    have G5 := Lib.hid g5
    clear hq q1 q2 g3 g4 g5
    (with_reducible refine C.out.mono ?_)
    clear C
    rintro e w2 ⟨ar, cr, rfl, ho, hb2⟩
    have k2 := below_tr k1 hb2
    have hr := ho.rd
    clear ho hb2 k1
    have CI := Lib.hid (L3_in_any M 0 16)
    by_cases h16 : M ≤ 16
    · rw [show inB (M : Int) 0 16 = true by unfold inB; simp; omega] at CI
      have C := Lib.hid (Fewest_ok hr (seqR_row h16 G5.out))
      go_wp2_with (first | (go_at_call 18; (with_reducible refine (CI.out _).mono ?_); rintro e w' ⟨rfl, rfl⟩) | (go_at_call 34; fail))
      clear CI
      (with_reducible refine C.out.mono ?_)
      clear C
      rintro e w3 ⟨L, F, rfl, hB, _, _, hb3⟩
      have k3 := below_tr k2 hb3
      have hr3 := hr.below hb3
      have hLM := hB.le
      have hLK : M ≤ n ∨ L ≤ n := by
        by_cases h : M ≤ n
        · exact .inl h
        · have := hB.low f.length (ix f) (row_gen G3.out M)
          rw [hL.out] at this
          exact .inr this
      have HB := Lib.hid hB
      clear hb3 k2 hr hB
      have z0 : ¬ (L : Int) < 0 := by omega
      have z1 : ¬ (M : Int) < (L : Int) := by omega
      by_cases hMn : M ≤ n
      · have i1 : (M : Int) ≤ (n : Int) := by omega
        have i2 : (L : Int) ≤ (M : Int) := by omega
        by_cases hgt : n < L
        · omega
        · have i3 : ¬ (n : Int) < (L : Int) := by omega
          go_wp2
          go_ret
          exact ⟨rfl, k3⟩
      · have hLn := hLK.resolve_left hMn
        have i1 : ¬ (M : Int) ≤ (n : Int) := by omega
        have i3 : ¬ (n : Int) < (L : Int) := by omega
        have u1 : IntKind.i64.wrap (2 * (n : Int)) = 2 * (n : Int) := Go.IntWalk.i64_in _ (by omega)
        by_cases h2n : M < 2 * n
        · have i4 : (M : Int) < 2 * (n : Int) := by omega
          go_wp2
          go_ret
          exact ⟨rfl, k3⟩
        · have i4 : ¬ (M : Int) < 2 * (n : Int) := by omega
          have C := Lib.hid (Factors_ok hr3 (seqR_row h16 G5.out))
          go_wp2_with (first | (go_at_call 36; fail))
          (with_reducible refine C.out.mono ?_)
          clear C
          rintro e w4 ⟨L', F2, hB2, hl2, hi2, hb4, hor⟩
          obtain rfl : L' = L := hB2.same HB.out fun _ _ => Eqm.refl _
          obtain ⟨_, a4, c4, rfl, hF4⟩ := hor.resolve_right fun h => by omega
          have k4 := below_tr k3 hb4
          have hr4 := hr3.below hb4
          have HB2 := Lib.hid hB2
          have HI2 := Lib.hid hi2
          have HL2 := Lib.hid hl2
          have z5 : ((L' : Int) != (L' : Int)) = false := bne_eq_false_iff_eq.2 rfl
          clear HB hor hr3 hb4 k3 hB2 hl2 hi2
          by_cases hz : L' = 0
          · subst hz
            have C := Sum_any hr4 (fun k hk => by have := rowN_in f s M G5.out k hk; omega) (by omega)
            rw [finds_zero G5.out HB2.out] at C
            have C := Lib.hid C
            go_wp2_with (first | (go_at_call 37; (with_reducible refine C.out.mono ?_); rintro e w' ⟨rfl, rfl⟩))
            go_ret
            exact ⟨rfl, k4⟩
          · have z6 : ((L' : Int) == 0) = false := beq_eq_false_iff_ne.2 (by omega)
            have C := Row_okN (many := 16) (hf.below k4) (hs.below k4) (rowErr_of (by rw [hL.out]; exact g1) (by rw [hL.out]; exact g2) G3.out G4.out G5.out (by decide) (by decide))
            rw [show ((16 : Nat) : Int) = 16 from rfl] at C
            have C := Lib.hid C
            go_wp2_with (first | (go_at_call 35; fail))
            (with_reducible refine C.out.mono ?_)
            clear C
            rintro e w5 ⟨a5, c5, rfl, ho5, hb5⟩
            have k5 := below_tr k4 hb5
            have hr5 := ho5.rd
            have hrow5 := (hr4.below hb5).take (n := L') hLM
            have hF5 := hF4.below hb5
            have hcr := hr4.le
            have hcm := hr4.max
            clear ho5 hb5 k4 hF4
            have hts : ((rowN f s M).take L').length = F2.length := by rw [List.length_take, rowN_len, HL2.out]; omega
            have hti : In 0 9972 ((rowN f s M).take L') := fun j hj => by
              rw [hts, HL2.out] at hj
              rw [ix_take hj]
              exact rowN_in f s M G5.out j (by rw [rowN_len]; omega)
            have C := Row_okN (many := 16) hF5 hrow5 (rowErr_of (by rw [HL2.out]; omega) (by rw [HL2.out]; omega) hts HI2.out hti (by decide) (by decide))
            rw [show ((16 : Nat) : Int) = 16 from rfl] at C
            have C := Lib.hid C
            have hsame : Hid (rowN f s 16 = rowN F2 ((rowN f s M).take L') 16) := finds_same G3.out G5.out HL2.out (by omega) HB2.out (by rw [hL.out]; omega) 16
            clear hts hti
            have i7 : L' ≤ cr := by omega
            go_wp2_with (first | (go_at_call 35; fail))
            (with_reducible refine C.out.mono ?_)
            clear C
            rintro e w6 ⟨a6, c6, rfl, ho6, hb6⟩
            have k6 := below_tr k5 hb6
            have C := Ints_any (hr5.below hb6) ho6.rd
            rw [decide_eq_true hsame.out] at C
            have C := Lib.hid C
            clear ho6 hb6 hr5 hF5 hrow5 k5
            go_wp2_with (first | (go_at_call 38; (with_reducible refine C.out.mono ?_); rintro e w7 ⟨rfl, hb7⟩))
            go_ret
            exact ⟨rfl, below_tr k6 hb7⟩
    · rw [show inB (M : Int) 0 16 = false by unfold inB; simp; omega] at CI
      go_wp2_with (first | (go_at_call 18; (with_reducible refine (CI.out _).mono ?_); rintro e w' ⟨rfl, rfl⟩))
      go_ret
      exact ⟨rfl, k2⟩
  · have C := Lib.hid (Row_err (hf.below k1) (hs.below k1) hq)
    clear hq
    (with_reducible refine C.out.mono ?_)
    clear C
    rintro e w2 ⟨rfl, rfl⟩
    go_wp2
    go_ret
    exact ⟨rfl, k1⟩
end Go.Proofs.Ytflojkifbdklnaa
