/-
  BandSays walked: of any band what is wrong, its determinant, what it takes a row to, and its matrix.
-/
import Derived.Test.YtefmllkimdaimaaDoorRows
import Derived.Test.YtefmllkimdaimaaDoorLib
import Derived.Test.YtefmllkimdaimaaDoorNum
import Derived.Test.YtefmllkimdaimaaDoorRef
import Derived.Test.YtefmllkimdaimaaDoorRefTo
import Derived.Test.YtefmllkimdaimaaDoorTr
import Derived.Test.YtefmllkimdaimaaDoorOpen
import Derived.Test.YtefmllkimdaimaaDoorRDet
import Derived.Test.YtefmllkimdaimaaDoorBandMul
import Derived.Test.YtefmllkimdaimaaDoorBandRef
import Derived.Test.YtefmllkimdaimaaDoorSaysKit
namespace Go.Proofs.YtefmllkimdaimaaDoor
open Go.RowKit Go.Rk

theorem band_to {m a b x : List Int} {n : Nat} : toN (fullN m a b n n) x n n = mulB m a b x n n := by
  refine ix_ext (by rw [toN_len, mulB_len]) fun i hi => ?_
  rw [toN_len] at hi
  rw [toN_ix hi, mulB_ix n (Nat.le_refl _) i hi, ← tri_sum m a b x hi]
  unfold toV
  refine congrArg (fun z => z % 9973) (sumTo_congr fun t ht => ?_)
  rw [(full_is m a b n).2 i t hi ht]

set_option maxHeartbeats 4000000 in
set_option maxRecDepth 100000 in
theorem bandSays_err {p q r s : Option Addr} {n1 c1 n2 c2 n3 c3 n4 c4 : Nat} {m a b x : List Int} {w : World} (hg : ErrT w) (hm : RdI w p n1 c1 m) (_ : Fit m) (ha : RdI w q n2 c2 a) (_ : Fit a) (hb : RdI w r n3 c3 b) (_ : Fit b) (hx : RdI w s n4 c4 x) (_ : Fit x) {c : Int} (h : checkB m a b = some c) :
    Calls Tryd.prog 3 #[.slice p n1 c1, .slice q n2 c2, .slice r n3 c3, .slice s n4 c4] w fun e w' => e = .returned (.bool true) ∧ Below w.heap.size w w' := by
  have C0 := M_Band_any hm ha hb
  have l1 := hm.len_max
  have l4 := hx.len_max
  rw [h] at C0
  have C0 := Lib.hid C0
  have H := Lib.hid h
  have z1 : (c == 0) = false := beq_eq_false_iff_ne.2 (checkB_nz h)
  have z2 : (c != 0) = true := bne_iff_ne.2 (checkB_nz h)
  have hq : bandMulR m a b x = some c := by unfold bandMulR; rw [h]
  have HQ := Lib.hid hq
  clear h hq
  go_enter Tryd.func3, Tryd.ntmps3
  go_wp2_with (first
    | (go_at_call 13; (with_reducible refine C0.out.mono ?_); rintro e w1 ⟨rfl, rfl⟩; simp only [numV])
    | (go_at_call 15; refine (band_Check_is hm ha hb H.out).mono ?_; rintro e w2 ⟨rfl, rfl⟩; simp only [errV])
    | (go_at_call 14; fail))
  refine (E_same hg).mono ?_
  rintro e w2 ⟨rfl, k2⟩
  clear C0
  go_wp2_with (first
    | (go_at_call 18; refine (band_Det_err (hm.below k2) (ha.below k2) (hb.below k2) H.out).mono ?_; rintro e w3 ⟨rfl, rfl⟩)
    | (go_at_call 14; fail))
  refine (E_same (hg.below k2)).mono ?_
  rintro e w4 ⟨rfl, b4⟩
  have k4 := below_tr k2 b4
  clear b4 k2
  go_wp2_with (first
    | (go_at_call 21; refine (band_Mul_err (hm.below k4) (ha.below k4) (hb.below k4) (hx.below k4) HQ.out).mono ?_; rintro e w5 ⟨rfl, rfl⟩)
    | (go_at_call 14; fail))
  refine (E_same (hg.below k4)).mono ?_
  rintro e w6 ⟨rfl, b6⟩
  have k6 := below_tr k4 b6
  clear b6 k4
  go_wp2_with (first
    | (go_at_call 22; refine (Ints_none _).mono ?_; rintro e w7 ⟨rfl, b7⟩; have k7 := below_tr k6 b7; clear b7 k6)
    | (go_at_call 23; refine (band_Full_err (hm.below k7) (ha.below k7) (hb.below k7) H.out).mono ?_; rintro e w8 ⟨rfl, rfl⟩)
    | (go_at_call 14; refine (E_same (hg.below k7)).mono ?_; rintro e w9 ⟨rfl, b9⟩)
    | (go_at_call 24; refine (Rows_none _).mono ?_; rintro e w10 ⟨rfl, b10⟩))
  go_ret
  exact ⟨rfl, below_tr (below_tr k7 b9) b10⟩

set_option maxHeartbeats 4000000 in
set_option maxRecDepth 100000 in
theorem bandSays_len {p q r s : Option Addr} {n1 c1 n2 c2 n3 c3 n4 c4 : Nat} {m a b x : List Int} {w : World} (hg : ErrT w) (hm : RdI w p n1 c1 m) (_ : Fit m) (ha : RdI w q n2 c2 a) (_ : Fit a) (hb : RdI w r n3 c3 b) (_ : Fit b) (hx : RdI w s n4 c4 x) (_ : Fit x) (h : checkB m a b = none) (hl : n4 ≠ n1) :
    Calls Tryd.prog 3 #[.slice p n1 c1, .slice q n2 c2, .slice r n3 c3, .slice s n4 c4] w fun e w' => e = .returned (.bool true) ∧ Below w.heap.size w w' := by
  have C0 := M_Band_any hm ha hb
  have l1 := hm.len_max
  have l4 := hx.len_max
  rw [h] at C0
  have C0 := Lib.hid C0
  obtain ⟨g1, g2, g3, g4, g5, g6, g7⟩ := checkB_none h
  have e1 := hm.len_eq
  have e2 := ha.len_eq
  have e3 := hb.len_eq
  have e4 := hx.len_eq
  have hF0 : fullN m a b n1 n1 = rowsF (triM (ix m) (ix a) (ix b)) n1 n1 := (full_is m a b n1).same (rowsF_is _ _ _)
  have C1 : Hid (∀ w' : World, Below w.heap.size w w' → Calls Tryd.prog 16 #[.slice p n1 c1, .slice q n2 c2, .slice r n3 c3] w' fun e w2 => ∃ z cz, e = .returned (.slice z n1 cz) ∧ OwM w2 w'.heap.size 22 3 z n1 cz (fullN m a b n1 n1) ∧ Below w'.heap.size w' w2) := fun w' k => by rw [hF0]; exact M_Full_any (hm.below k) (ha.below k) (hb.below k) (by omega) (by omega) (by omega)
  have HD := Lib.hid (fullN_dm m a b n1 n1)
  have HE := Lib.hid (full_ent g5 g6 g7 e1 (by omega) (by omega))
  have HV : Hid (det n1 (mx (fullN m a b n1 n1)) % 9973 = contB m a b n1) := full_det g5 (by omega)
  have H := Lib.hid h
  have n10 : n1 ≤ 10 := by omega
  have n11 : 1 ≤ n1 := by omega
  have HX4 := Lib.hid e4
  have HM1 := Lib.hid e1
  clear h g1 g2 g3 g4 g5 g6 g7 e1 e2 e3 e4 hF0
  go_enter Tryd.func3, Tryd.ntmps3
  go_wp2_with (first
    | (go_at_call 13; (with_reducible refine C0.out.mono ?_); rintro e w1 ⟨rfl, rfl⟩; simp only [numV])
    | (go_at_call 15; refine (band_Check_is hm ha hb H.out).mono ?_; rintro e w2 ⟨rfl, rfl⟩; simp only [errV])
    | (go_at_call 14; fail))
  refine (E_nil0 hg).mono ?_
  rintro e w2 ⟨rfl, k2⟩
  clear C0
  go_wp2_with (first
    | (go_at_call 16; (with_reducible refine (C1.out _ k2).mono ?_); rintro e w3 ⟨aF, cF, rfl, hoF, b3⟩)
    | (go_at_call 17; fail))
  have k3 := below_tr k2 b3
  have hF := hoF.rd
  have C := R_DetMod_big n1 hF HD.out HE.out (by omega)
  rw [HV.out] at C
  have C := Lib.hid C
  obtain ⟨D, hD⟩ : ∃ D, D = contB m a b n1 := ⟨_, rfl⟩
  rw [← hD] at C
  have HDD := Lib.hid hD
  clear C1 hoF b3 k2 hD HV
  (with_reducible refine C.out.mono ?_)
  clear C
  rintro e w4 ⟨rfl, b4⟩
  have k4 := below_tr k3 b4
  have hF := hF.below b4
  have C := band_Det_ok (hm.below k4) (ha.below k4) (hb.below k4) H.out
  rw [← HDD.out] at C
  have C := Lib.hid C
  have z1 : (D == D) = true := beq_iff_eq.2 rfl
  clear b4 k3
  go_wp2_with (first | (go_at_call 18; (with_reducible refine C.out.mono ?_); rintro e w5 ⟨rfl, b5⟩) | (go_at_call 14; fail))
  have k5 := below_tr k4 b5
  have hF := hF.below b5
  clear C b5 k4
  refine (E_nil0 (hg.below k5)).mono ?_
  rintro e w6 ⟨rfl, b6⟩
  have k6 := below_tr k5 b6
  have hF := hF.below b6
  clear b6 k5
  have z2 : ((n4 : Int) != (n1 : Int)) = true := bne_iff_ne.2 (by omega)
  have hq : bandMulR m a b x = some 3 := by
    unfold bandMulR
    rw [H.out]
    simp only
    rw [if_pos (by rw [HX4.out, HM1.out]; omega)]
  have C2 := Lib.hid (band_Mul_err (hm.below k6) (ha.below k6) (hb.below k6) (hx.below k6) hq)
  clear hq hl
  by_cases h5 : 5 < n1
  · have i5 : (5 : Int) < (n1 : Int) := by omega
    go_wp2_with (first
      | (go_at_call 21; (with_reducible refine C2.out.mono ?_); rintro e w8 ⟨rfl, rfl⟩)
      | (go_at_call 14; refine (E_same (hg.below k6)).mono ?_; rintro e w9 ⟨rfl, b9⟩; have k9 := below_tr k6 b9; have hF := hF.below b9)
      | (go_at_call 22; refine (Ints_none _).mono ?_; rintro e w10 ⟨rfl, b10⟩; have k10 := below_tr k9 b10; have hF := hF.below b10)
      | (go_at_call 23; fail))
    clear C2
    have C := Lib.hid (band_Full_big (hm.below k10) (ha.below k10) (hb.below k10) H.out h5)
    go_wp2_with (first | (go_at_call 23; (with_reducible refine C.out.mono ?_); rintro e w11 ⟨rfl, rfl⟩) | (go_at_call 14; refine (E_same (hg.below k10)).mono ?_; rintro e w12 ⟨rfl, b12⟩) | (go_at_call 24; refine (Rows_none _).mono ?_; rintro e w13 ⟨rfl, b13⟩))
    go_ret
    exact ⟨rfl, below_tr (below_tr k10 b12) b13⟩
  · have i5 : ¬ (5 : Int) < (n1 : Int) := by omega
    go_wp2_with (first
      | (go_at_call 21; (with_reducible refine C2.out.mono ?_); rintro e w8 ⟨rfl, rfl⟩)
      | (go_at_call 14; refine (E_same (hg.below k6)).mono ?_; rintro e w9 ⟨rfl, b9⟩; have k9 := below_tr k6 b9; have hF := hF.below b9)
      | (go_at_call 22; refine (Ints_none _).mono ?_; rintro e w10 ⟨rfl, b10⟩; have k10 := below_tr k9 b10; have hF := hF.below b10)
      | (go_at_call 23; fail))
    clear C2
    have C := Lib.hid (band_Full_ok (hm.below k10) (ha.below k10) (hb.below k10) H.out (by omega))
    go_wp2_with (first | (go_at_call 23; (with_reducible refine C.out.mono ?_); rintro e w11 ⟨aG, cG, rfl, hG, b11⟩; have k11 := below_tr k10 b11; have hG1 := hG.rd; have hF1 := hF.below b11) | (go_at_call 14; refine (E_nil0 (hg.below k11)).mono ?_; rintro e w12 ⟨rfl, b12⟩) | (go_at_call 24; refine (Rows_eq (hG1.below b12) (hF1.below b12) rfl).mono ?_; rintro e w13 ⟨rfl, b13⟩))
    go_ret
    exact ⟨rfl, below_tr (below_tr k11 b12) b13⟩

set_option maxHeartbeats 4000000 in
set_option maxRecDepth 100000 in
theorem bandSays_rng {p q r s : Option Addr} {n1 c1 n2 c2 n3 c3 n4 c4 : Nat} {m a b x : List Int} {w : World} (hg : ErrT w) (hm : RdI w p n1 c1 m) (_ : Fit m) (ha : RdI w q n2 c2 a) (_ : Fit a) (hb : RdI w r n3 c3 b) (_ : Fit b) (hx : RdI w s n4 c4 x) (_ : Fit x) (h : checkB m a b = none) (hl : n4 = n1) (hy : anyB 0 9972 x = true) :
    Calls Tryd.prog 3 #[.slice p n1 c1, .slice q n2 c2, .slice r n3 c3, .slice s n4 c4] w fun e w' => e = .returned (.bool true) ∧ Below w.heap.size w w' := by
  obtain rfl : n1 = n4 := hl.symm
  have C0 := M_Band_any hm ha hb
  have l1 := hm.len_max
  have l4 := hx.len_max
  rw [h] at C0
  have C0 := Lib.hid C0
  obtain ⟨g1, g2, g3, g4, g5, g6, g7⟩ := checkB_none h
  have e1 := hm.len_eq
  have e2 := ha.len_eq
  have e3 := hb.len_eq
  have e4 := hx.len_eq
  have hF0 : fullN m a b n1 n1 = rowsF (triM (ix m) (ix a) (ix b)) n1 n1 := (full_is m a b n1).same (rowsF_is _ _ _)
  have C1 : Hid (∀ w' : World, Below w.heap.size w w' → Calls Tryd.prog 16 #[.slice p n1 c1, .slice q n2 c2, .slice r n3 c3] w' fun e w2 => ∃ z cz, e = .returned (.slice z n1 cz) ∧ OwM w2 w'.heap.size 22 3 z n1 cz (fullN m a b n1 n1) ∧ Below w'.heap.size w' w2) := fun w' k => by rw [hF0]; exact M_Full_any (hm.below k) (ha.below k) (hb.below k) (by omega) (by omega) (by omega)
  have HD := Lib.hid (fullN_dm m a b n1 n1)
  have HE := Lib.hid (full_ent g5 g6 g7 e1 (by omega) (by omega))
  have HV : Hid (det n1 (mx (fullN m a b n1 n1)) % 9973 = contB m a b n1) := full_det g5 (by omega)
  have H := Lib.hid h
  have n10 : n1 ≤ 10 := by omega
  have n11 : 1 ≤ n1 := by omega
  have HX4 := Lib.hid e4
  have HM1 := Lib.hid e1
  clear h g1 g2 g3 g4 g5 g6 g7 e1 e2 e3 e4 hF0
  go_enter Tryd.func3, Tryd.ntmps3
  go_wp2_with (first
    | (go_at_call 13; (with_reducible refine C0.out.mono ?_); rintro e w1 ⟨rfl, rfl⟩; simp only [numV])
    | (go_at_call 15; refine (band_Check_is hm ha hb H.out).mono ?_; rintro e w2 ⟨rfl, rfl⟩; simp only [errV])
    | (go_at_call 14; fail))
  refine (E_nil0 hg).mono ?_
  rintro e w2 ⟨rfl, k2⟩
  clear C0
  go_wp2_with (first
    | (go_at_call 16; (with_reducible refine (C1.out _ k2).mono ?_); rintro e w3 ⟨aF, cF, rfl, hoF, b3⟩)
    | (go_at_call 17; fail))
  have k3 := below_tr k2 b3
  have hF := hoF.rd
  have C := R_DetMod_big n1 hF HD.out HE.out (by omega)
  rw [HV.out] at C
  have C := Lib.hid C
  obtain ⟨D, hD⟩ : ∃ D, D = contB m a b n1 := ⟨_, rfl⟩
  rw [← hD] at C
  have HDD := Lib.hid hD
  clear C1 hoF b3 k2 hD HV
  (with_reducible refine C.out.mono ?_)
  clear C
  rintro e w4 ⟨rfl, b4⟩
  have k4 := below_tr k3 b4
  have hF := hF.below b4
  have C := band_Det_ok (hm.below k4) (ha.below k4) (hb.below k4) H.out
  rw [← HDD.out] at C
  have C := Lib.hid C
  have z1 : (D == D) = true := beq_iff_eq.2 rfl
  clear b4 k3
  go_wp2_with (first | (go_at_call 18; (with_reducible refine C.out.mono ?_); rintro e w5 ⟨rfl, b5⟩) | (go_at_call 14; fail))
  have k5 := below_tr k4 b5
  have hF := hF.below b5
  clear C b5 k4
  refine (E_nil0 (hg.below k5)).mono ?_
  rintro e w6 ⟨rfl, b6⟩
  have k6 := below_tr k5 b6
  have hF := hF.below b6
  clear b6 k5
  have z2 : ((n1 : Int) != (n1 : Int)) = false := bne_eq_false_iff_eq.2 rfl
  have C := R_All_any 0 9972 (hx.below k6)
  rw [allB_any] at C
  rw [hy] at C
  have C := Lib.hid C
  have hq : bandMulR m a b x = some 1 := by
    unfold bandMulR
    rw [H.out]
    simp only
    rw [if_neg (by rw [HX4.out, HM1.out]; omega), hy]
    rfl
  have C2 := Lib.hid (band_Mul_err (hm.below k6) (ha.below k6) (hb.below k6) (hx.below k6) hq)
  clear hq hy
  by_cases h5 : 5 < n1
  · have i5 : (5 : Int) < (n1 : Int) := by omega
    go_wp2_with (first
      | (go_at_call 19; (with_reducible refine C.out.mono ?_); rintro e w7 ⟨rfl, rfl⟩)
      | (go_at_call 21; (with_reducible refine C2.out.mono ?_); rintro e w8 ⟨rfl, rfl⟩)
      | (go_at_call 14; refine (E_same (hg.below k6)).mono ?_; rintro e w9 ⟨rfl, b9⟩; have k9 := below_tr k6 b9; have hF := hF.below b9)
      | (go_at_call 22; refine (Ints_none _).mono ?_; rintro e w10 ⟨rfl, b10⟩; have k10 := below_tr k9 b10; have hF := hF.below b10)
      | (go_at_call 23; fail))
    clear C C2
    have C := Lib.hid (band_Full_big (hm.below k10) (ha.below k10) (hb.below k10) H.out h5)
    go_wp2_with (first | (go_at_call 23; (with_reducible refine C.out.mono ?_); rintro e w11 ⟨rfl, rfl⟩) | (go_at_call 14; refine (E_same (hg.below k10)).mono ?_; rintro e w12 ⟨rfl, b12⟩) | (go_at_call 24; refine (Rows_none _).mono ?_; rintro e w13 ⟨rfl, b13⟩))
    go_ret
    exact ⟨rfl, below_tr (below_tr k10 b12) b13⟩
  · have i5 : ¬ (5 : Int) < (n1 : Int) := by omega
    go_wp2_with (first
      | (go_at_call 19; (with_reducible refine C.out.mono ?_); rintro e w7 ⟨rfl, rfl⟩)
      | (go_at_call 21; (with_reducible refine C2.out.mono ?_); rintro e w8 ⟨rfl, rfl⟩)
      | (go_at_call 14; refine (E_same (hg.below k6)).mono ?_; rintro e w9 ⟨rfl, b9⟩; have k9 := below_tr k6 b9; have hF := hF.below b9)
      | (go_at_call 22; refine (Ints_none _).mono ?_; rintro e w10 ⟨rfl, b10⟩; have k10 := below_tr k9 b10; have hF := hF.below b10)
      | (go_at_call 23; fail))
    clear C C2
    have C := Lib.hid (band_Full_ok (hm.below k10) (ha.below k10) (hb.below k10) H.out (by omega))
    go_wp2_with (first | (go_at_call 23; (with_reducible refine C.out.mono ?_); rintro e w11 ⟨aG, cG, rfl, hG, b11⟩; have k11 := below_tr k10 b11; have hG1 := hG.rd; have hF1 := hF.below b11) | (go_at_call 14; refine (E_nil0 (hg.below k11)).mono ?_; rintro e w12 ⟨rfl, b12⟩) | (go_at_call 24; refine (Rows_eq (hG1.below b12) (hF1.below b12) rfl).mono ?_; rintro e w13 ⟨rfl, b13⟩))
    go_ret
    exact ⟨rfl, below_tr (below_tr k11 b12) b13⟩

set_option maxHeartbeats 4000000 in
set_option maxRecDepth 100000 in
theorem bandSays_all {p q r s : Option Addr} {n1 c1 n2 c2 n3 c3 n4 c4 : Nat} {m a b x : List Int} {w : World} (hg : ErrT w) (hm : RdI w p n1 c1 m) (_ : Fit m) (ha : RdI w q n2 c2 a) (_ : Fit a) (hb : RdI w r n3 c3 b) (_ : Fit b) (hx : RdI w s n4 c4 x) (_ : Fit x) (h : checkB m a b = none) (hl : n4 = n1) (hy : anyB 0 9972 x = false) :
    Calls Tryd.prog 3 #[.slice p n1 c1, .slice q n2 c2, .slice r n3 c3, .slice s n4 c4] w fun e w' => e = .returned (.bool true) ∧ Below w.heap.size w w' := by
  obtain rfl : n1 = n4 := hl.symm
  have C0 := M_Band_any hm ha hb
  have l1 := hm.len_max
  have l4 := hx.len_max
  rw [h] at C0
  have C0 := Lib.hid C0
  obtain ⟨g1, g2, g3, g4, g5, g6, g7⟩ := checkB_none h
  have e1 := hm.len_eq
  have e2 := ha.len_eq
  have e3 := hb.len_eq
  have e4 := hx.len_eq
  have hF0 : fullN m a b n1 n1 = rowsF (triM (ix m) (ix a) (ix b)) n1 n1 := (full_is m a b n1).same (rowsF_is _ _ _)
  have C1 : Hid (∀ w' : World, Below w.heap.size w w' → Calls Tryd.prog 16 #[.slice p n1 c1, .slice q n2 c2, .slice r n3 c3] w' fun e w2 => ∃ z cz, e = .returned (.slice z n1 cz) ∧ OwM w2 w'.heap.size 22 3 z n1 cz (fullN m a b n1 n1) ∧ Below w'.heap.size w' w2) := fun w' k => by rw [hF0]; exact M_Full_any (hm.below k) (ha.below k) (hb.below k) (by omega) (by omega) (by omega)
  have HD := Lib.hid (fullN_dm m a b n1 n1)
  have HE := Lib.hid (full_ent g5 g6 g7 e1 (by omega) (by omega))
  have HV : Hid (det n1 (mx (fullN m a b n1 n1)) % 9973 = contB m a b n1) := full_det g5 (by omega)
  have H := Lib.hid h
  have n10 : n1 ≤ 10 := by omega
  have n11 : 1 ≤ n1 := by omega
  have HX4 := Lib.hid e4
  have HM1 := Lib.hid e1
  clear h g1 g2 g3 g4 g5 g6 g7 e1 e2 e3 e4 hF0
  go_enter Tryd.func3, Tryd.ntmps3
  go_wp2_with (first
    | (go_at_call 13; (with_reducible refine C0.out.mono ?_); rintro e w1 ⟨rfl, rfl⟩; simp only [numV])
    | (go_at_call 15; refine (band_Check_is hm ha hb H.out).mono ?_; rintro e w2 ⟨rfl, rfl⟩; simp only [errV])
    | (go_at_call 14; fail))
  refine (E_nil0 hg).mono ?_
  rintro e w2 ⟨rfl, k2⟩
  clear C0
  go_wp2_with (first
    | (go_at_call 16; (with_reducible refine (C1.out _ k2).mono ?_); rintro e w3 ⟨aF, cF, rfl, hoF, b3⟩)
    | (go_at_call 17; fail))
  have k3 := below_tr k2 b3
  have hF := hoF.rd
  have C := R_DetMod_big n1 hF HD.out HE.out (by omega)
  rw [HV.out] at C
  have C := Lib.hid C
  obtain ⟨D, hD⟩ : ∃ D, D = contB m a b n1 := ⟨_, rfl⟩
  rw [← hD] at C
  have HDD := Lib.hid hD
  clear C1 hoF b3 k2 hD HV
  (with_reducible refine C.out.mono ?_)
  clear C
  rintro e w4 ⟨rfl, b4⟩
  have k4 := below_tr k3 b4
  have hF := hF.below b4
  have C := band_Det_ok (hm.below k4) (ha.below k4) (hb.below k4) H.out
  rw [← HDD.out] at C
  have C := Lib.hid C
  have z1 : (D == D) = true := beq_iff_eq.2 rfl
  clear b4 k3
  go_wp2_with (first | (go_at_call 18; (with_reducible refine C.out.mono ?_); rintro e w5 ⟨rfl, b5⟩) | (go_at_call 14; fail))
  have k5 := below_tr k4 b5
  have hF := hF.below b5
  clear C b5 k4
  refine (E_nil0 (hg.below k5)).mono ?_
  rintro e w6 ⟨rfl, b6⟩
  have k6 := below_tr k5 b6
  have hF := hF.below b6
  clear b6 k5
  have z2 : ((n1 : Int) != (n1 : Int)) = false := bne_eq_false_iff_eq.2 rfl
  have C := R_All_any 0 9972 (hx.below k6)
  rw [allB_any] at C
  rw [hy] at C
  have C := Lib.hid C
  have hq : bandMulR m a b x = none := by
    unfold bandMulR
    rw [H.out]
    simp only
    rw [if_neg (by rw [HX4.out, HM1.out]; omega), hy]
    rfl
  have HX := Lib.hid (bandMulR_none hq).2.2
  have HQ := Lib.hid hq
  clear hq hy
  have C2 := Lib.hid (To_any hF HD.out HE.out (hx.below k6) HX.out (by omega))
  go_wp2_with (first
    | (go_at_call 19; (with_reducible refine C.out.mono ?_); rintro e w7 ⟨rfl, rfl⟩)
    | (go_at_call 20; (with_reducible refine C2.out.mono ?_); rintro e w7 ⟨aT, cT, rfl, hT, b7⟩)
    | (go_at_call 21; fail))
  have k7 := below_tr k6 b7
  have hF := hF.below b7
  have hT := hT.rd
  have C3 := Lib.hid (band_Mul_ok (hm.below k7) (ha.below k7) (hb.below k7) (hx.below k7) HQ.out)
  clear C C2 b7 k6
  (with_reducible refine C3.out.mono ?_)
  clear C3
  rintro e w8 ⟨aL, cL, rfl, hL, b8⟩
  have k8 := below_tr k7 b8
  have hF := hF.below b8
  have hT := hT.below b8
  have hL := hL.rd
  clear b8 k7
  go_wp2_with fail
  refine (E_nil0 (hg.below k8)).mono ?_
  rintro e w9 ⟨rfl, b9⟩
  have k9 := below_tr k8 b9
  have hF := hF.below b9
  have C := Lib.hid (Ints_eq (hL.below b9) (hT.below b9) band_to.symm)
  clear b9 k8 hL hT
  by_cases h5 : 5 < n1
  · have i5 : (5 : Int) < (n1 : Int) := by omega
    go_wp2_with (first | (go_at_call 22; (with_reducible refine C.out.mono ?_); rintro e w10 ⟨rfl, b10⟩; have k10 := below_tr k9 b10; have hF := hF.below b10; clear b10 k9 C) | (go_at_call 23; fail))
    have C := Lib.hid (band_Full_big (hm.below k10) (ha.below k10) (hb.below k10) H.out h5)
    go_wp2_with (first | (go_at_call 23; (with_reducible refine C.out.mono ?_); rintro e w11 ⟨rfl, rfl⟩) | (go_at_call 14; refine (E_same (hg.below k10)).mono ?_; rintro e w12 ⟨rfl, b12⟩) | (go_at_call 24; refine (Rows_none _).mono ?_; rintro e w13 ⟨rfl, b13⟩))
    go_ret
    exact ⟨rfl, below_tr (below_tr k10 b12) b13⟩
  · have i5 : ¬ (5 : Int) < (n1 : Int) := by omega
    go_wp2_with (first | (go_at_call 22; (with_reducible refine C.out.mono ?_); rintro e w10 ⟨rfl, b10⟩; have k10 := below_tr k9 b10; have hF := hF.below b10; clear b10 k9 C) | (go_at_call 23; fail))
    have C := Lib.hid (band_Full_ok (hm.below k10) (ha.below k10) (hb.below k10) H.out (by omega))
    go_wp2_with (first | (go_at_call 23; (with_reducible refine C.out.mono ?_); rintro e w11 ⟨aG, cG, rfl, hG, b11⟩; have k11 := below_tr k10 b11; have hG1 := hG.rd; have hF1 := hF.below b11) | (go_at_call 14; refine (E_nil0 (hg.below k11)).mono ?_; rintro e w12 ⟨rfl, b12⟩) | (go_at_call 24; refine (Rows_eq (hG1.below b12) (hF1.below b12) rfl).mono ?_; rintro e w13 ⟨rfl, b13⟩))
    go_ret
    exact ⟨rfl, below_tr (below_tr k11 b12) b13⟩

theorem bandSays_walk {p q r s : Option Addr} {n1 c1 n2 c2 n3 c3 n4 c4 : Nat} {m a b x : List Int} {w : World} (hg : ErrT w) (hm : RdI w p n1 c1 m) (_ : Fit m) (ha : RdI w q n2 c2 a) (_ : Fit a) (hb : RdI w r n3 c3 b) (_ : Fit b) (hx : RdI w s n4 c4 x) (_ : Fit x) :
    Calls Tryd.prog 3 #[.slice p n1 c1, .slice q n2 c2, .slice r n3 c3, .slice s n4 c4] w fun e w' => e = .returned (.bool true) ∧ Below w.heap.size w w' := by
  rcases h : checkB m a b with _ | c
  · by_cases hl : n4 = n1
    · rcases hy : anyB 0 9972 x
      · exact bandSays_all hg hm ‹_› ha ‹_› hb ‹_› hx ‹_› h hl hy
      · exact bandSays_rng hg hm ‹_› ha ‹_› hb ‹_› hx ‹_› h hl hy
    · exact bandSays_len hg hm ‹_› ha ‹_› hb ‹_› hx ‹_› h hl
  · exact bandSays_err hg hm ‹_› ha ‹_› hb ‹_› hx ‹_› h
end Go.Proofs.YtefmllkimdaimaaDoor
