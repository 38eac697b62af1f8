/-
  DefiniteSum walked: a form above 0, turned about, is above 0; so is the sum of two.
-/
import Derived.Test.YtflojkifbdklnaaRows
import Derived.Test.YtflojkifbdklnaaLib
import Derived.Test.YtflojkifbdklnaaTr
import Derived.Test.YtflojkifbdklnaaOpen
import Derived.Test.YtflojkifbdklnaaRef
import Derived.Test.YtflojkifbdklnaaElim
import Derived.Test.YtflojkifbdklnaaMatD
import Derived.Test.YtflojkifbdklnaaForm
import Derived.Test.YtflojkifbdklnaaDefW
import Derived.Test.YtflojkifbdklnaaDefFact
import Derived.Deep.QuietTactic
import Derived.BigQuiet
import Derived.StillTailTactics
namespace Go.Proofs.Ytflojkifbdklnaa
open Go.RowKit Go.Rk

theorem sumTo_rev (f : Nat → Int) : ∀ n, sumTo (fun i => f (n - 1 - i)) n = sumTo f n
  | 0 => rfl
  | n + 1 => by
    rw [sumTo_succ_left, sumTo]
    have h : sumTo (fun i => f (n + 1 - 1 - (i + 1))) n = sumTo f n := by
      rw [← sumTo_rev f n]
      exact sumTo_congr fun i _ => by rw [show n + 1 - 1 - (i + 1) = n - 1 - i by omega]
    rw [h, show n + 1 - 1 - 0 = n by omega]
    omega
def revM (n : Nat) (A : Mx) : Mx := fun i j => A (n - 1 - i) (n - 1 - j)
theorem quad_rev (n : Nat) (A : Mx) (x : Nat → Int) : quad n (revM n A) x = quad n A fun i => x (n - 1 - i) := by
  unfold quad
  have h : ∀ i, i < n → sumTo (fun j => revM n A i j * x i * x j) n = (fun i' => sumTo (fun j => A i' j * x (n - 1 - i') * x (n - 1 - j)) n) (n - 1 - i) := fun i hi => by
    have := sumTo_rev (fun j => A (n - 1 - i) j * x i * x (n - 1 - j)) n
    show _ = sumTo (fun j => A (n - 1 - i) j * x (n - 1 - (n - 1 - i)) * x (n - 1 - j)) n
    rw [show n - 1 - (n - 1 - i) = i by omega, ← this]
    exact sumTo_congr fun j hj => by rw [show n - 1 - (n - 1 - j) = j by omega]; rfl
  rw [sumTo_congr h]
  exact sumTo_rev (fun i' => sumTo (fun j => A i' j * x (n - 1 - i') * x (n - 1 - j)) n) n
theorem pd_rev {n : Nat} {A : Mx} (h : PD n A) : PD n (revM n A) := fun x ⟨i, hi, hx⟩ => by
  rw [quad_rev]
  exact h _ ⟨n - 1 - i, by omega, by rw [show n - 1 - (n - 1 - i) = i by omega]; exact hx⟩
theorem pd_congr {n : Nat} {A B : Mx} (h : PD n A) (e : ∀ i j, i < n → j < n → B i j = A i j) : PD n B := fun x hx => by
  rw [quad_congr e (fun _ _ => rfl)]
  exact h x hx
theorem pd_rev_iff {n : Nat} {A : Mx} : PD n (revM n A) ↔ PD n A :=
  ⟨fun h => pd_congr (pd_rev h) fun i j hi hj => by show _ = A (n - 1 - (n - 1 - i)) (n - 1 - (n - 1 - j)); rw [show n - 1 - (n - 1 - i) = i by omega, show n - 1 - (n - 1 - j) = j by omega], pd_rev⟩
theorem pd_sum {n : Nat} {A B S : Mx} (h : PD n A) (k : PD n B) (e : ∀ i j, i < n → j < n → S i j = A i j + B i j) : PD n S := fun x hx => by
  have h1 := h x hx
  have h2 := k x hx
  have : quad n S x = quad n A x + quad n B x := by
    unfold quad
    rw [← sumTo_add]
    refine sumTo_congr fun i hi => ?_
    rw [← sumTo_add]
    exact sumTo_congr fun j hj => by rw [e i j hi hj]; grind
  omega
theorem formR_of {T : List (List Int)} {n : Nat} (h1 : 1 ≤ n) (h4 : n ≤ 4) (d : Dim n T) (e : Ent (-9) 9 n T) (s : Sym n (mx T)) : formR T = none := by
  unfold formR
  rw [squareR_of h1 (by omega) d e]
  dsimp only
  rw [if_pos]
  intro i hi j hj
  rw [d.1] at hi hj
  exact s j i hj hi
theorem leadB_pd {A : List (List Int)} {n : Nat} (s : Sym n (mx A)) : leadB A n = true ↔ PD n (mx A) := leadB_iff.trans (sylvester_iff s)

/-- The last k rows turned, the last one first. -/
def turnN (A : List (List Int)) (n k : Nat) : List (List Int) := (List.range k).map fun i => (rowOf A (n - 1 - i)).reverse
theorem turnN_succ (A : List (List Int)) (n k : Nat) : turnN A n (k + 1) = turnN A n k ++ [(rowOf A (n - 1 - k)).reverse] := by simp [turnN, List.range_succ]
theorem turnN_row {A : List (List Int)} {n k i : Nat} (h : i < k) : rowOf (turnN A n k) i = (rowOf A (n - 1 - i)).reverse := by
  rw [rowOf_lt (by simp [turnN]; exact h)]; simp [turnN]
theorem turnN_dim {A : List (List Int)} {n : Nat} (d : Dim n A) : Dim n (turnN A n n) :=
  ⟨by simp [turnN], fun i hi => by rw [turnN_row hi, List.length_reverse, d.2 _ (by omega)]⟩
theorem turnN_en {A : List (List Int)} {n i j : Nat} (d : Dim n A) (hi : i < n) (hj : j < n) : en (turnN A n n) i j = revM n (mx A) i j := by
  unfold en
  rw [turnN_row hi, ix_reverse (by rw [d.2 _ (by omega)]; exact hj), d.2 _ (by omega)]
  rfl

/-- So far sums stand: in the rows before i, and of row i at the places before j. -/
def sumP (A B : List (List Int)) (i j r s : Nat) : Int := if r < i ∨ (r = i ∧ s < j) then en A r s + en B r s else en A r s

set_option maxHeartbeats 4000000 in
set_option maxRecDepth 100000 in
theorem definiteSum_walk {a b : Option Addr} {n ca m cb : Nat} {M N : List (List Int)} {w : World} (h : RdM w a n ca M) (_ : ∀ r ∈ M, Fit r) (hb : RdM w b m cb N) (_ : ∀ r ∈ N, Fit r) :
    Calls Try.prog 9 #[.slice a n ca, .slice b m cb] w fun e w' => e = .returned (.bool true) ∧ Below w.heap.size w w' := by
  have hL := Lib.hid h.len_eq
  have hL2 := Lib.hid hb.len_eq
  have HMT := Lib.hid matTy
  go_enter Try.func9, Try.ntmps9
  go_wp2_with (first | (go_at_call 29; refine (definiteFact_any _).mono ?_; rintro e w1 ⟨rfl, k1⟩) | (go_at_call 30; fail))
  rcases hq : formR M with _ | c
  · have C := Lib.hid (definite_Is_ok (h.below k1) hq)
    obtain ⟨g1, g2, g3, g4, _, g6⟩ := formR_none hq hL.out
    have HD := Lib.hid g3
    have HE := Lib.hid g4
    have HS := Lib.hid g6
    have HT : Hid (formR (turnN M n n) = none) := formR_of g1 g2 (turnN_dim g3) (fun i j hi hj => by rw [turnN_en g3 hi hj]; exact g4 _ _ (by omega) (by omega)) (fun i j hi hj => by show en _ i j = en _ j i; rw [turnN_en g3 hi hj, turnN_en g3 hj hi]; exact g6 _ _ (by omega) (by omega))
    have HB : Hid (leadB (turnN M n n) n = leadB M n) := by
      refine Bool.eq_iff_iff.2 ?_
      rw [leadB_pd g6, leadB_pd (fun i j hi hj => by show en _ i j = en _ j i; rw [turnN_en g3 hi hj, turnN_en g3 hj hi]; exact g6 _ _ (by omega) (by omega)), ← pd_rev_iff (A := mx M)]
      exact ⟨fun k => pd_congr k fun i j hi hj => (turnN_en g3 hi hj).symm, fun k => pd_congr k fun i j hi hj => turnN_en g3 hi hj⟩
    clear hq g3 g4 g6
    (with_reducible refine C.out.mono ?_)
    clear C
    rintro e w2 ⟨rfl, hb2⟩
    have k2 := below_tr k1 hb2
    clear hb2 k1
    obtain ⟨B, hB⟩ : ∃ B, leadB M n = B := ⟨_, rfl⟩
    rw [hB] at HB ⊢
    have HBB := Lib.hid hB
    clear hB
    go_wp2
    go_loopw [9, 10] (fun s v wr => ∃ (k : Nat) (at_ : Option Addr) (ct : Nat), k ≤ n ∧ v = .int .i64 ((n : Int) - 1 - k) ∧ s = .slice at_ k ct ∧ OwM wr w.heap.size 22 3 at_ k ct (turnN M n k) ∧ Below w.heap.size w wr) (fun _ v _ => (intOf v + 1).toNat)
    case atStart => exact ⟨0, none, 0, Nat.zero_le _, by go_num, rfl, OwM.nil _ _ _ _, k2⟩
    case round =>
      clear k2
      obtain ⟨k, at_, ct, hk, rfl, rfl, ho, k2⟩ := hrel
      by_cases hkn : k < n
      · obtain ⟨i, hi⟩ : ∃ i : Nat, i = n - 1 - k := ⟨_, rfl⟩
        have ei : (n : Int) - 1 - k = (i : Int) := by omega
        have hin : i < n := by omega
        have HI := Lib.hid hi
        rw [ei]
        have i1 : (i : Int) < (n : Int) := by omega
        obtain ⟨ba, oa, rfl, hba, hra⟩ := (h.below k2).at (k := 0) g1
        obtain ⟨ar, cr, hc, hrd⟩ := hra i hin
        rw [HD.out.2 i hin] at hc hrd
        have C := Lib.hid (Turned_any hrd (by omega))
        clear hra hi
        go_wp2_with (first | (go_at_call 17; (with_reducible refine C.out.mono ?_); rintro e w3 ⟨ax, cx, rfl, hox, hbx⟩; have hsz := Nat.le_trans k2.size hbx.size) | (at_builtin; refine wpList_push_row HMT.out rfl (.tmp 36) (.tmp 42) rfl rfl rfl ho (hbx.alloc hbx.size _) (hox.alloc _) (by simp) (by omega) k2.size ?_; intro a5 cap5 w6 ho6 hb6))
        go_roundw
        case rel => exact ⟨k + 1, a5, cap5, by omega, by go_num, rfl, by rw [turnN_succ, ← HI.out]; exact ho6, (k2.trans ((hbx.alloc hbx.size _).mono k2.size)).trans (hb6.mono (Nat.le_refl _))⟩
        case measure => simp [intOf]; try omega
      · obtain rfl : k = n := by omega
        have C := Lib.hid (definite_Is_ok ho.rd HT.out)
        rw [HB.out] at C
        go_wp2_with (first | (go_at_call 30; (with_reducible refine C.out.mono ?_); rintro e w3 ⟨rfl, hb3⟩))
        have k3 := below_tr k2 hb3
        clear ho hb3 C k2
        rcases hr : formR N with _ | c
        · have C := Lib.hid (definite_Is_ok (hb.below k3) hr)
          have HR := Lib.hid hr
          clear hr
          rcases hl2 : leadB N m with _ | _
          · rw [hl2] at C
            clear hl2
            cases B
            all_goals
              go_wp2_with (first | (go_at_call 30; (with_reducible refine C.out.mono ?_); rintro e w4 ⟨rfl, hb4⟩))
              go_ret
              exact ⟨rfl, below_tr k3 hb4⟩
          · rw [hl2] at C
            have HL2 := Lib.hid hl2
            clear hl2
            cases B
            · go_wp2_with (first | (go_at_call 30; (with_reducible refine C.out.mono ?_); rintro e w4 ⟨rfl, hb4⟩))
              go_ret
              exact ⟨rfl, below_tr k3 hb4⟩
            · by_cases hmn : m = k
              · subst hmn
                have z1 : ((m : Int) != (m : Int)) = false := bne_eq_false_iff_eq.2 rfl
                go_wp2_with (first | (go_at_call 30; (with_reducible refine C.out.mono ?_); rintro e w4 ⟨rfl, hb4⟩) | (go_at_call 32; fail))
                have k4 := below_tr k3 hb4
                clear hb4 C k3
                have C := Lib.hid (R_Copy_any (h.below k4) (by omega) (fun k hk => by rw [HD.out.2 k hk]; omega))
                (with_reducible refine C.out.mono ?_)
                clear C
                rintro e w5 ⟨z, cz, rfl, ho, hb5⟩
                have k5 := below_tr k4 hb5
                obtain ⟨g, D, C, hzz, hd⟩ := (ho.mono k4.size).named (by omega) fun i hi => by rw [HD.out.2 i hi]; omega
                subst hzz
                clear ho hb5 k4
                have HPA : Hid (PD m (mx M)) := (leadB_pd HS.out).1 HBB.out
                obtain ⟨_, _, q3, q4, _, q6⟩ := formR_none HR.out hL2.out
                have HPB : Hid (PD m (mx N)) := (leadB_pd q6).1 HL2.out
                have HD2 := Lib.hid q3
                have HE2 := Lib.hid q4
                have HS2 := Lib.hid q6
                clear q3 q4 q6
                go_wp2
                go_loopw [14] (fun v wr => ∃ (i : Nat) (P : List (List Int)), i ≤ m ∧ v = .int .i64 i ∧ OwMD wr w.heap.size 22 3 g D C m cz P ∧ Hid (Is m P (sumP M N i 0)) ∧ Below w.heap.size w wr) (fun v _ => m - (intOf v).toNat)
                case atStart => exact ⟨0, M, Nat.zero_le _, rfl, hd, ⟨HD.out, fun r s _ _ => by unfold sumP; rw [if_neg (by omega)]⟩, k5⟩
                case round =>
                  clear hd k5
                  obtain ⟨i, P, hi, rfl, hd, hI, k5⟩ := hrel
                  by_cases hin : i < m
                  · have i1 : (i : Int) < (m : Int) := by omega
                    go_wp2
                    go_loopw [15] (fun v wr => ∃ (j : Nat) (P : List (List Int)), j ≤ m ∧ v = .int .i64 j ∧ OwMD wr w.heap.size 22 3 g D C m cz P ∧ Hid (Is m P (sumP M N i j)) ∧ Below w.heap.size w wr) (fun v _ => m - (intOf v).toNat)
                    case atStart => exact ⟨0, P, Nat.zero_le _, rfl, hd, hI, k5⟩
                    case round =>
                      clear hd k5 hI
                      obtain ⟨j, P, hj, rfl, hd, hI, k5⟩ := hrel
                      by_cases hjn : j < m
                      · have j1 : (j : Int) < (m : Int) := by omega
                        obtain ⟨ba, oa, rfl, _, hra⟩ := (h.below k5).at (k := 0) g1
                        obtain ⟨ar, cr, hc1, hrd⟩ := hra i hin
                        rw [HD.out.2 i hin] at hc1 hrd
                        obtain ⟨bx, ox, rfl, _, hcx⟩ := hrd.at hjn
                        obtain ⟨bb, ob, rfl, _, hrb⟩ := (hb.below k5).at (k := 0) g1
                        obtain ⟨ar2, cr2, hc2, hrd2⟩ := hrb i hin
                        rw [HD2.out.2 i hin] at hc2 hrd2
                        obtain ⟨by_, oy, rfl, _, hcy⟩ := hrd2.at hjn
                        have x1 := hcx j hjn
                        have x2 := hcy j hjn
                        have y1 := hd.cellO hin
                        have y3 := hd.frozenI hin (by rw [hI.out.1.2 i hin]; omega) j
                        have y4 := hd.cellI hin (j := j) (by rw [hI.out.1.2 i hin]; exact hjn)
                        rw [hI.out.1.2 i hin] at y1
                        have be1 : -9 ≤ ix (rowOf M i) j ∧ ix (rowOf M i) j ≤ 9 := HE.out i j hin hjn
                        have be2 : -9 ≤ ix (rowOf N i) j ∧ ix (rowOf N i) j ≤ 9 := HE2.out i j hin hjn
                        have hset : Hid (Is m (setE P i j (ix (rowOf M i) j + ix (rowOf N i) j)) (sumP M N i (j + 1))) := by
                          refine Is.congr (hI.out.set _) fun r s hr hs => ?_
                          unfold sumP
                          by_cases e4 : i = r ∧ j = s
                          · obtain ⟨rfl, rfl⟩ := e4
                            rw [if_pos ⟨rfl, rfl⟩, if_pos (by omega)]
                            rfl
                          · rw [if_neg e4]
                            by_cases e5 : r < i ∨ (r = i ∧ s < j)
                            · rw [if_pos e5, if_pos (by omega)]
                            · rw [if_neg e5, if_neg (by omega)]
                        have hd2 := (hd.set matTy.ne (j := j) hin (ix (rowOf M i) j + ix (rowOf N i) j)).drew
                        have lo := hd.lowI hin
                        have k6 := (k5.setCell (p := ⟨D i, j, none⟩) lo.1 (.int .i64 (ix (rowOf M i) j + ix (rowOf N i) j))).drew
                        have u1 : IntKind.i64.wrap (ix (rowOf M i) j + ix (rowOf N i) j) = ix (rowOf M i) j + ix (rowOf N i) j := Go.IntWalk.i64_in _ (by omega)
                        clear hra hrb hrd hrd2 hcx hcy hd hI lo be1 be2
                        generalize ix (rowOf M i) j = p at *
                        generalize ix (rowOf N i) j = q at *
                        go_wp2
                        go_still_tail 21, (by kernel_rfl)
                        repeat still_step
                        try refine wpStill_nil ?_
                        change wpList _ _ _ _ _ wr.drew
                        go_wp2
                        go_roundw
                        case rel => exact ⟨j + 1, _, by omega, by go_num, hd2, hset, k6⟩
                        case measure => simp [intOf]; omega
                      · obtain rfl : j = m := by omega
                        go_wp2
                        go_roundw
                        case rel => exact ⟨i + 1, P, by omega, by go_num, hd, hI.out.congr fun r s hr hs => by
                          unfold sumP
                          by_cases e5 : r < i ∨ (r = i ∧ s < j)
                          · rw [if_pos e5, if_pos (by omega)]
                          · rw [if_neg e5, if_neg (by omega)], k5⟩
                        case measure => simp [intOf]; omega
                  · obtain rfl : i = m := by omega
                    have hF : ∀ r s, r < i → s < i → en P r s = en M r s + en N r s := fun r s hr hs => by
                      rw [hI.out.2 r s hr hs]; unfold sumP; rw [if_pos (.inl hr)]
                    have hPL : P.length = i := hI.out.1.1
                    rcases hs : formR P with _ | c
                    · have hp : leadB P i = true := (leadB_pd (formR_none hs hPL).2.2.2.2.2).2 (pd_sum HPA.out HPB.out hF)
                      have C := Lib.hid (definite_Is_ok hd.toM.rd hs)
                      rw [hp] at C
                      clear hs hp
                      go_wp2_with (first | (go_at_call 30; (with_reducible refine C.out.mono ?_); rintro e w6 ⟨rfl, hb6⟩))
                      go_ret
                      exact ⟨rfl, below_tr k5 hb6⟩
                    · have C := Lib.hid (definite_Is_err hd.toM.rd hs)
                      clear hs
                      go_wp2_with (first | (go_at_call 30; (with_reducible refine C.out.mono ?_); rintro e w6 ⟨rfl, hb6⟩))
                      go_ret
                      exact ⟨rfl, below_tr k5 hb6⟩
              · have z1 : ((m : Int) != (k : Int)) = true := bne_iff_ne.2 (by omega)
                go_wp2_with (first | (go_at_call 30; (with_reducible refine C.out.mono ?_); rintro e w4 ⟨rfl, hb4⟩))
                go_ret
                exact ⟨rfl, below_tr k3 hb4⟩
        · have C := Lib.hid (definite_Is_err (hb.below k3) hr)
          clear hr
          cases B
          all_goals
            go_wp2_with (first | (go_at_call 30; (with_reducible refine C.out.mono ?_); rintro e w4 ⟨rfl, hb4⟩))
            go_ret
            exact ⟨rfl, below_tr k3 hb4⟩
  · have C := Lib.hid (definite_Is_err (h.below k1) hq)
    clear hq
    (with_reducible refine C.out.mono ?_)
    clear C
    rintro e w2 ⟨rfl, hb2⟩
    go_wp2
    go_ret
    exact ⟨rfl, below_tr k1 hb2⟩
end Go.Proofs.Ytflojkifbdklnaa
