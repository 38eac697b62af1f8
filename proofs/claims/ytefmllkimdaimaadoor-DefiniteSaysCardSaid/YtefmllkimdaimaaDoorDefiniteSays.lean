/-
  DefiniteSays walked: of any form what is wrong, what it comes to, and whether it is above 0.
-/
import Derived.Test.YtefmllkimdaimaaDoorRows
import Derived.Test.YtefmllkimdaimaaDoorLib
import Derived.Test.YtefmllkimdaimaaDoorNum
import Derived.Test.YtefmllkimdaimaaDoorRef
import Derived.Test.YtefmllkimdaimaaDoorTr
import Derived.Test.YtefmllkimdaimaaDoorOpen
import Derived.Test.YtefmllkimdaimaaDoorRDet
import Derived.Test.YtefmllkimdaimaaDoorRDetI
import Derived.Test.YtefmllkimdaimaaDoorCorner
import Derived.Test.YtefmllkimdaimaaDoorDefW
import Derived.Test.YtefmllkimdaimaaDoorFormRef
import Derived.Test.YtefmllkimdaimaaDoorSaysKit
namespace Go.Proofs.YtefmllkimdaimaaDoor
open Go.RowKit Go.Rk

theorem leadB_mono {A : List (List Int)} {j n : Nat} (h : leadB A j = false) (hj : j ≤ n) : leadB A n = false := by
  rcases h2 : leadB A n with _ | _
  · rfl
  · have := leadB_iff.2 fun k h1 hk => leadB_iff.1 h2 k h1 (Nat.le_trans hk hj)
    rw [h] at this
    cases this
theorem leadB_step {A : List (List Int)} {k : Nat} (hk : 1 ≤ k) (h : leadB A (k - 1) = true) : leadB A k = decide (0 < det k (mx A)) := by
  by_cases hd : 0 < det k (mx A)
  · rw [decide_eq_true hd]
    refine leadB_iff.2 fun j h1 hj => ?_
    rcases Nat.lt_or_ge j k with h2 | h2
    · exact leadB_iff.1 h j h1 (by omega)
    · obtain rfl : j = k := by omega
      exact hd
  · rw [decide_eq_false hd]
    rcases h2 : leadB A k with _ | _
    · rfl
    · exact absurd (leadB_iff.1 h2 k hk (Nat.le_refl _)) hd

section
variable {a b : Option Addr} {n ca m cb : Nat} {A : List (List Int)} {x : List Int} {w : World}
set_option maxHeartbeats 4000000 in
set_option maxRecDepth 100000 in
theorem definiteSays_err {c : Int} (hg : ErrT w) (hA : RdM w a n ca A) (hx : RdI w b m cb x) (h : formR A = some c) :
    Calls Tryd.prog 6 #[.slice a n ca, .slice b m cb] w fun e w' => e = .returned (.bool true) ∧ Below w.heap.size w w' := by
  have lm := hA.len_max
  have C0 := M_Form_any hA
  rw [h] at C0
  have C0 := Lib.hid C0
  have z1 : (c == 0) = false := beq_eq_false_iff_ne.2 (formR_nz h)
  have H := Lib.hid h
  have HQ : Hid (atR A x = some c) := by unfold Hid atR; rw [h]
  clear h
  rcases Nat.lt_or_ge 0 n with hn | hn
  all_goals
    have HN := Lib.hid hn
    clear hn
    go_enter Tryd.func6, Tryd.ntmps6
    go_wp2_with (first
      | (go_at_call 36; (with_reducible refine C0.out.mono ?_); rintro e w1 ⟨rfl, k1⟩; simp only [numV, Option.getD_some])
      | (go_at_call 37; refine (definite_Check_is (hA.below k1) H.out).mono ?_; rintro e w2 ⟨rfl, b2⟩; simp only [errV]; have k2 := below_tr k1 b2)
      | (go_at_call 14; fail))
    refine (E_same (hg.below k2)).mono ?_
    rintro e w3 ⟨rfl, b3⟩
    have k3 := below_tr k2 b3
    clear b3 k2 k1 b2
    go_wp2_with fail
    refine wp_loop_rounds 1 ?_
    rw [rounds_succ]
    have hn := HN.out
    first | (have i3 : ¬ (1 : Int) ≤ (n : Int) := by omega) | (have i3 : (1 : Int) ≤ (n : Int) := by omega)
    clear hn
    go_wp2_with (first
      | (go_at_call 38; refine (definite_Is_err (hA.below k3) H.out).mono ?_; rintro e w4 ⟨rfl, b4⟩; have k4 := below_tr k3 b4)
      | (go_at_call 14; fail))
    refine (E_same (hg.below k4)).mono ?_
    rintro e w5 ⟨rfl, b5⟩
    have k5 := below_tr k4 b5
    go_wp2_with (first
      | (go_at_call 40; refine (definite_At_err (hA.below k5) (hx.below k5) HQ.out).mono ?_; rintro e w6 ⟨rfl, b6⟩; have k6 := below_tr k5 b6)
      | (go_at_call 14; refine (E_same (hg.below k6)).mono ?_; rintro e w7 ⟨rfl, b7⟩))
    go_ret
    exact ⟨rfl, below_tr k6 b7⟩

set_option maxHeartbeats 4000000 in
set_option maxRecDepth 100000 in
theorem definiteSays_len (hg : ErrT w) (hA : RdM w a n ca A) (hx : RdI w b m cb x) (h : formR A = none) (hl : m ≠ n) :
    Calls Tryd.prog 6 #[.slice a n ca, .slice b m cb] w fun e w' => e = .returned (.bool true) ∧ Below w.heap.size w w' := by
  have lm := hA.len_max
  have lx := hx.len_max
  have C0 := M_Form_any hA
  rw [h] at C0
  have C0 := Lib.hid C0
  obtain ⟨g1, g2, g3, g4, g5, g6⟩ := formR_none h hA.len_eq
  have H := Lib.hid h
  have HD := Lib.hid g3
  have HE := Lib.hid g4
  have HAL := Lib.hid hA.len_eq
  have HXL := Lib.hid hx.len_eq
  have z2 : ((m : Int) != (n : Int)) = true := bne_iff_ne.2 (by omega)
  have HQ : Hid (atR A x = some 3) := by unfold Hid atR; rw [h]; simp only; rw [if_pos (by rw [HXL.out, HAL.out]; exact hl)]
  clear hl
  clear h g3 g4 g5 g6
  go_enter Tryd.func6, Tryd.ntmps6
  go_wp2_with (first
    | (go_at_call 36; (with_reducible refine C0.out.mono ?_); rintro e w1 ⟨rfl, k1⟩; simp only [numV, Option.getD_none])
    | (go_at_call 37; refine (definite_Check_is (hA.below k1) H.out).mono ?_; rintro e w2 ⟨rfl, b2⟩; simp only [errV]; have k2 := below_tr k1 b2)
    | (go_at_call 14; fail))
  refine (E_nil0 (hg.below k2)).mono ?_
  rintro e w3 ⟨rfl, b3⟩
  have k3 := below_tr k2 b3
  clear b3 k2 k1 b2 C0
  go_wp2
  go_loopw [7, 8] (fun v t wr => ∃ (k : Nat) (B : Bool), 1 ≤ k ∧ k ≤ n + 1 ∧ t = .int .i64 k ∧ v = .bool B ∧ Hid (B = leadB A (k - 1)) ∧ Below w.heap.size w wr) (fun _ t _ => n + 1 - (intOf t).toNat)
  case atStart => exact ⟨1, true, Nat.le_refl _, by omega, rfl, rfl, by unfold Hid; rfl, k3⟩
  case round =>
    clear k3
    obtain ⟨k, B, hk1, hk2, rfl, rfl, HB, hb⟩ := hrel
    by_cases hkn : k ≤ n
    · have i1 : (k : Int) ≤ (n : Int) := by omega
      cases B with
      | true =>
        have C := Lib.hid (M_Corner_any (hA.below hb) HD.out hkn (by omega))
        go_wp2_with (first | (go_at_call 33; (with_reducible refine C.out.mono ?_); rintro e w4 ⟨aC, cC, rfl, hal⟩) | (go_at_call 32; fail))
        have C2 := R_Det_any k hal.rd (cornN_dim HD.out hkn) (fun i s h1 h2 => by rw [cornN_en HD.out hkn h1 h2]; exact HE.out i s (by omega) (by omega)) (by omega)
        rw [show det k (mx (cornN A k k)) = det k (mx A) from det_congr fun i s h1 h2 => cornN_en HD.out hkn h1 h2] at C2
        have k4 := hb.trans (hal.bel.mono hb.size)
        have HS : Hid (leadB A k = decide (0 < det k (mx A))) := leadB_step hk1 HB.out.symm
        obtain ⟨D, hD⟩ : ∃ D, D = det k (mx A) := ⟨_, rfl⟩
        rw [← hD] at C2 HS
        have C2 := Lib.hid C2
        clear C hal hD
        (with_reducible refine C2.out.mono ?_)
        rintro e w5 ⟨rfl, b5⟩
        have k5 := k4.trans (b5.mono k4.size)
        clear b5 k4 C2
        by_cases hpos : 0 < D
        · rw [decide_eq_true hpos] at HS
          go_wp2
          go_roundw
          case rel => exact ⟨k + 1, true, by omega, by omega, by go_num, rfl, HS.out.symm, k5⟩
          case measure => simp [intOf]; omega
        · rw [decide_eq_false hpos] at HS
          go_wp2
          go_roundw
          case rel => exact ⟨k + 1, false, by omega, by omega, by go_num, by first | rfl | exact congrArg Value.bool (decide_eq_false (Int.not_lt.2 hpos)), HS.out.symm, k5⟩
          case measure => simp [intOf]; omega
      | false =>
        have HL : Hid (leadB A n = false) := leadB_mono HB.out.symm (by omega)
        have CI := Lib.hid (fun (w' : World) (k : Below w.heap.size w w') => definite_Is_ok (hA.below k) H.out)
        rw [HL.out] at CI
        go_wp2_with (first | (go_at_call 38; (with_reducible refine (CI.out _ hb).mono ?_); rintro e w6 ⟨rfl, b6⟩; have k6 := below_tr hb b6) | (go_at_call 14; fail))
        refine (E_nil0 (hg.below k6)).mono ?_
        rintro e w7 ⟨rfl, b7⟩
        have k7 := below_tr k6 b7
        clear b7 k6 CI
        go_wp2_with (first | (go_at_call 40; refine (definite_At_err (hA.below k7) (hx.below k7) HQ.out).mono ?_; rintro e w8 ⟨rfl, b8⟩; have k8 := below_tr k7 b8) | (go_at_call 14; refine (E_same (hg.below k8)).mono ?_; rintro e w9 ⟨rfl, b9⟩))
        go_ret
        exact ⟨rfl, below_tr k8 b9⟩
    · obtain rfl : k = n + 1 := by omega
      have i1 : ¬ ((n + 1 : Nat) : Int) ≤ (n : Int) := by omega
      have CI := Lib.hid (fun (w' : World) (k : Below w.heap.size w w') => definite_Is_ok (hA.below k) H.out)
      rw [show leadB A n = B from HB.out.symm] at CI
      have z9 : (B == B) = true := beq_iff_eq.2 rfl
      go_wp2_with (first | (go_at_call 38; (with_reducible refine (CI.out _ hb).mono ?_); rintro e w6 ⟨rfl, b6⟩; have k6 := below_tr hb b6) | (go_at_call 14; fail))
      refine (E_nil0 (hg.below k6)).mono ?_
      rintro e w7 ⟨rfl, b7⟩
      have k7 := below_tr k6 b7
      clear b7 k6 CI
      go_wp2_with (first | (go_at_call 40; refine (definite_At_err (hA.below k7) (hx.below k7) HQ.out).mono ?_; rintro e w8 ⟨rfl, b8⟩; have k8 := below_tr k7 b8) | (go_at_call 14; refine (E_same (hg.below k8)).mono ?_; rintro e w9 ⟨rfl, b9⟩))
      go_ret
      exact ⟨rfl, below_tr k8 b9⟩

set_option maxHeartbeats 4000000 in
set_option maxRecDepth 100000 in
theorem definiteSays_rng (hg : ErrT w) (hA : RdM w a n ca A) (hx : RdI w b m cb x) (h : formR A = none) (hl : m = n) (hy : anyB (-100) 100 x = true) :
    Calls Tryd.prog 6 #[.slice a n ca, .slice b m cb] w fun e w' => e = .returned (.bool true) ∧ Below w.heap.size w w' := by
  have lm := hA.len_max
  have lx := hx.len_max
  have C0 := M_Form_any hA
  rw [h] at C0
  have C0 := Lib.hid C0
  obtain ⟨g1, g2, g3, g4, g5, g6⟩ := formR_none h hA.len_eq
  have H := Lib.hid h
  have HD := Lib.hid g3
  have HE := Lib.hid g4
  have HAL := Lib.hid hA.len_eq
  have HXL := Lib.hid hx.len_eq
  obtain rfl : n = m := hl.symm
  have CR : Hid (∀ w' : World, Below w.heap.size w w' → Calls Tryd.prog 19 #[.slice b n cb, .int .i64 (-100), .int .i64 100] w' fun e w2 => e = .returned (.bool false) ∧ w' = w2) := fun w' k => by
    have := R_All_any (-100) 100 (hx.below k)
    rw [allB_any, hy] at this
    exact this
  have HQ : Hid (atR A x = some 1) := by unfold Hid atR; rw [h]; simp only; rw [if_neg (by rw [HXL.out, HAL.out]; simp), hy]; rfl
  clear hy
  clear h g3 g4 g5 g6
  go_enter Tryd.func6, Tryd.ntmps6
  go_wp2_with (first
    | (go_at_call 36; (with_reducible refine C0.out.mono ?_); rintro e w1 ⟨rfl, k1⟩; simp only [numV, Option.getD_none])
    | (go_at_call 37; refine (definite_Check_is (hA.below k1) H.out).mono ?_; rintro e w2 ⟨rfl, b2⟩; simp only [errV]; have k2 := below_tr k1 b2)
    | (go_at_call 14; fail))
  refine (E_nil0 (hg.below k2)).mono ?_
  rintro e w3 ⟨rfl, b3⟩
  have k3 := below_tr k2 b3
  clear b3 k2 k1 b2 C0
  go_wp2
  go_loopw [7, 8] (fun v t wr => ∃ (k : Nat) (B : Bool), 1 ≤ k ∧ k ≤ n + 1 ∧ t = .int .i64 k ∧ v = .bool B ∧ Hid (B = leadB A (k - 1)) ∧ Below w.heap.size w wr) (fun _ t _ => n + 1 - (intOf t).toNat)
  case atStart => exact ⟨1, true, Nat.le_refl _, by omega, rfl, rfl, by unfold Hid; rfl, k3⟩
  case round =>
    clear k3
    obtain ⟨k, B, hk1, hk2, rfl, rfl, HB, hb⟩ := hrel
    by_cases hkn : k ≤ n
    · have i1 : (k : Int) ≤ (n : Int) := by omega
      cases B with
      | true =>
        have C := Lib.hid (M_Corner_any (hA.below hb) HD.out hkn (by omega))
        go_wp2_with (first | (go_at_call 33; (with_reducible refine C.out.mono ?_); rintro e w4 ⟨aC, cC, rfl, hal⟩) | (go_at_call 32; fail))
        have C2 := R_Det_any k hal.rd (cornN_dim HD.out hkn) (fun i s h1 h2 => by rw [cornN_en HD.out hkn h1 h2]; exact HE.out i s (by omega) (by omega)) (by omega)
        rw [show det k (mx (cornN A k k)) = det k (mx A) from det_congr fun i s h1 h2 => cornN_en HD.out hkn h1 h2] at C2
        have k4 := hb.trans (hal.bel.mono hb.size)
        have HS : Hid (leadB A k = decide (0 < det k (mx A))) := leadB_step hk1 HB.out.symm
        obtain ⟨D, hD⟩ : ∃ D, D = det k (mx A) := ⟨_, rfl⟩
        rw [← hD] at C2 HS
        have C2 := Lib.hid C2
        clear C hal hD
        (with_reducible refine C2.out.mono ?_)
        rintro e w5 ⟨rfl, b5⟩
        have k5 := k4.trans (b5.mono k4.size)
        clear b5 k4 C2
        by_cases hpos : 0 < D
        · rw [decide_eq_true hpos] at HS
          go_wp2
          go_roundw
          case rel => exact ⟨k + 1, true, by omega, by omega, by go_num, rfl, HS.out.symm, k5⟩
          case measure => simp [intOf]; omega
        · rw [decide_eq_false hpos] at HS
          go_wp2
          go_roundw
          case rel => exact ⟨k + 1, false, by omega, by omega, by go_num, by first | rfl | exact congrArg Value.bool (decide_eq_false (Int.not_lt.2 hpos)), HS.out.symm, k5⟩
          case measure => simp [intOf]; omega
      | false =>
        have HL : Hid (leadB A n = false) := leadB_mono HB.out.symm (by omega)
        have CI := Lib.hid (fun (w' : World) (k : Below w.heap.size w w') => definite_Is_ok (hA.below k) H.out)
        rw [HL.out] at CI
        go_wp2_with (first | (go_at_call 38; (with_reducible refine (CI.out _ hb).mono ?_); rintro e w6 ⟨rfl, b6⟩; have k6 := below_tr hb b6) | (go_at_call 14; fail))
        refine (E_nil0 (hg.below k6)).mono ?_
        rintro e w7 ⟨rfl, b7⟩
        have k7 := below_tr k6 b7
        clear b7 k6 CI
        go_wp2_with (first | (go_at_call 19; refine (CR.out _ k7).mono ?_; rintro e w8 ⟨rfl, rfl⟩) | (go_at_call 40; refine (definite_At_err (hA.below k7) (hx.below k7) HQ.out).mono ?_; rintro e w8 ⟨rfl, b8⟩; have k8 := below_tr k7 b8) | (go_at_call 14; refine (E_same (hg.below k8)).mono ?_; rintro e w9 ⟨rfl, b9⟩))
        go_ret
        exact ⟨rfl, below_tr k8 b9⟩
    · obtain rfl : k = n + 1 := by omega
      have i1 : ¬ ((n + 1 : Nat) : Int) ≤ (n : Int) := by omega
      have CI := Lib.hid (fun (w' : World) (k : Below w.heap.size w w') => definite_Is_ok (hA.below k) H.out)
      rw [show leadB A n = B from HB.out.symm] at CI
      have z9 : (B == B) = true := beq_iff_eq.2 rfl
      go_wp2_with (first | (go_at_call 38; (with_reducible refine (CI.out _ hb).mono ?_); rintro e w6 ⟨rfl, b6⟩; have k6 := below_tr hb b6) | (go_at_call 14; fail))
      refine (E_nil0 (hg.below k6)).mono ?_
      rintro e w7 ⟨rfl, b7⟩
      have k7 := below_tr k6 b7
      clear b7 k6 CI
      go_wp2_with (first | (go_at_call 19; refine (CR.out _ k7).mono ?_; rintro e w8 ⟨rfl, rfl⟩) | (go_at_call 40; refine (definite_At_err (hA.below k7) (hx.below k7) HQ.out).mono ?_; rintro e w8 ⟨rfl, b8⟩; have k8 := below_tr k7 b8) | (go_at_call 14; refine (E_same (hg.below k8)).mono ?_; rintro e w9 ⟨rfl, b9⟩))
      go_ret
      exact ⟨rfl, below_tr k8 b9⟩

set_option maxHeartbeats 4000000 in
set_option maxRecDepth 100000 in
theorem definiteSays_all (hg : ErrT w) (hA : RdM w a n ca A) (hx : RdI w b m cb x) (h : formR A = none) (hl : m = n) (hy : anyB (-100) 100 x = false) :
    Calls Tryd.prog 6 #[.slice a n ca, .slice b m cb] w fun e w' => e = .returned (.bool true) ∧ Below w.heap.size w w' := by
  have lm := hA.len_max
  have lx := hx.len_max
  have C0 := M_Form_any hA
  rw [h] at C0
  have C0 := Lib.hid C0
  obtain ⟨g1, g2, g3, g4, g5, g6⟩ := formR_none h hA.len_eq
  have H := Lib.hid h
  have HD := Lib.hid g3
  have HE := Lib.hid g4
  have HAL := Lib.hid hA.len_eq
  have HXL := Lib.hid hx.len_eq
  obtain rfl : n = m := hl.symm
  have CR : Hid (∀ w' : World, Below w.heap.size w w' → Calls Tryd.prog 19 #[.slice b n cb, .int .i64 (-100), .int .i64 100] w' fun e w2 => e = .returned (.bool true) ∧ w' = w2) := fun w' k => by
    have := R_All_any (-100) 100 (hx.below k)
    rw [allB_any, hy] at this
    exact this
  have HQ : Hid (atR A x = none) := by unfold Hid atR; rw [h]; simp only; rw [if_neg (by rw [HXL.out, HAL.out]; simp), hy]; rfl
  have CW := Lib.hid (fun (w' : World) (k : Below w.heap.size w w') => M_Worth_any (hA.below k) g3 g4 (hx.below k) (atR_none HQ.out).2.2 g2)
  have CT := Lib.hid (fun (w' : World) (k : Below w.heap.size w w') => definite_At_ok (hA.below k) (hx.below k) HQ.out)
  obtain ⟨V, hV⟩ : ∃ V, V = quad n (mx A) (ix x) := ⟨_, rfl⟩
  rw [← hV] at CW CT
  have z3 : (V == V) = true := beq_iff_eq.2 rfl
  clear hy hV
  clear h g3 g4 g5 g6
  go_enter Tryd.func6, Tryd.ntmps6
  go_wp2_with (first
    | (go_at_call 36; (with_reducible refine C0.out.mono ?_); rintro e w1 ⟨rfl, k1⟩; simp only [numV, Option.getD_none])
    | (go_at_call 37; refine (definite_Check_is (hA.below k1) H.out).mono ?_; rintro e w2 ⟨rfl, b2⟩; simp only [errV]; have k2 := below_tr k1 b2)
    | (go_at_call 14; fail))
  refine (E_nil0 (hg.below k2)).mono ?_
  rintro e w3 ⟨rfl, b3⟩
  have k3 := below_tr k2 b3
  clear b3 k2 k1 b2 C0
  go_wp2
  go_loopw [7, 8] (fun v t wr => ∃ (k : Nat) (B : Bool), 1 ≤ k ∧ k ≤ n + 1 ∧ t = .int .i64 k ∧ v = .bool B ∧ Hid (B = leadB A (k - 1)) ∧ Below w.heap.size w wr) (fun _ t _ => n + 1 - (intOf t).toNat)
  case atStart => exact ⟨1, true, Nat.le_refl _, by omega, rfl, rfl, by unfold Hid; rfl, k3⟩
  case round =>
    clear k3
    obtain ⟨k, B, hk1, hk2, rfl, rfl, HB, hb⟩ := hrel
    by_cases hkn : k ≤ n
    · have i1 : (k : Int) ≤ (n : Int) := by omega
      cases B with
      | true =>
        have C := Lib.hid (M_Corner_any (hA.below hb) HD.out hkn (by omega))
        go_wp2_with (first | (go_at_call 33; (with_reducible refine C.out.mono ?_); rintro e w4 ⟨aC, cC, rfl, hal⟩) | (go_at_call 32; fail))
        have C2 := R_Det_any k hal.rd (cornN_dim HD.out hkn) (fun i s h1 h2 => by rw [cornN_en HD.out hkn h1 h2]; exact HE.out i s (by omega) (by omega)) (by omega)
        rw [show det k (mx (cornN A k k)) = det k (mx A) from det_congr fun i s h1 h2 => cornN_en HD.out hkn h1 h2] at C2
        have k4 := hb.trans (hal.bel.mono hb.size)
        have HS : Hid (leadB A k = decide (0 < det k (mx A))) := leadB_step hk1 HB.out.symm
        obtain ⟨D, hD⟩ : ∃ D, D = det k (mx A) := ⟨_, rfl⟩
        rw [← hD] at C2 HS
        have C2 := Lib.hid C2
        clear C hal hD
        (with_reducible refine C2.out.mono ?_)
        rintro e w5 ⟨rfl, b5⟩
        have k5 := k4.trans (b5.mono k4.size)
        clear b5 k4 C2
        by_cases hpos : 0 < D
        · rw [decide_eq_true hpos] at HS
          go_wp2
          go_roundw
          case rel => exact ⟨k + 1, true, by omega, by omega, by go_num, rfl, HS.out.symm, k5⟩
          case measure => simp [intOf]; omega
        · rw [decide_eq_false hpos] at HS
          go_wp2
          go_roundw
          case rel => exact ⟨k + 1, false, by omega, by omega, by go_num, by first | rfl | exact congrArg Value.bool (decide_eq_false (Int.not_lt.2 hpos)), HS.out.symm, k5⟩
          case measure => simp [intOf]; omega
      | false =>
        have HL : Hid (leadB A n = false) := leadB_mono HB.out.symm (by omega)
        have CI := Lib.hid (fun (w' : World) (k : Below w.heap.size w w') => definite_Is_ok (hA.below k) H.out)
        rw [HL.out] at CI
        go_wp2_with (first | (go_at_call 38; (with_reducible refine (CI.out _ hb).mono ?_); rintro e w6 ⟨rfl, b6⟩; have k6 := below_tr hb b6) | (go_at_call 14; fail))
        refine (E_nil0 (hg.below k6)).mono ?_
        rintro e w7 ⟨rfl, b7⟩
        have k7 := below_tr k6 b7
        clear b7 k6 CI
        go_wp2_with (first | (go_at_call 19; refine (CR.out _ k7).mono ?_; rintro e w8 ⟨rfl, rfl⟩) | (go_at_call 39; refine (CW.out _ k7).mono ?_; rintro e w8 ⟨rfl, b8⟩; have k8 := below_tr k7 b8) | (go_at_call 40; refine (CT.out _ k8).mono ?_; rintro e w9 ⟨rfl, b9⟩; have k9 := below_tr k8 b9) | (go_at_call 14; refine (E_nil0 (hg.below k9)).mono ?_; rintro e w10 ⟨rfl, b10⟩))
        go_ret
        exact ⟨rfl, below_tr k9 b10⟩
    · obtain rfl : k = n + 1 := by omega
      have i1 : ¬ ((n + 1 : Nat) : Int) ≤ (n : Int) := by omega
      have CI := Lib.hid (fun (w' : World) (k : Below w.heap.size w w') => definite_Is_ok (hA.below k) H.out)
      rw [show leadB A n = B from HB.out.symm] at CI
      have z9 : (B == B) = true := beq_iff_eq.2 rfl
      go_wp2_with (first | (go_at_call 38; (with_reducible refine (CI.out _ hb).mono ?_); rintro e w6 ⟨rfl, b6⟩; have k6 := below_tr hb b6) | (go_at_call 14; fail))
      refine (E_nil0 (hg.below k6)).mono ?_
      rintro e w7 ⟨rfl, b7⟩
      have k7 := below_tr k6 b7
      clear b7 k6 CI
      go_wp2_with (first | (go_at_call 19; refine (CR.out _ k7).mono ?_; rintro e w8 ⟨rfl, rfl⟩) | (go_at_call 39; refine (CW.out _ k7).mono ?_; rintro e w8 ⟨rfl, b8⟩; have k8 := below_tr k7 b8) | (go_at_call 40; refine (CT.out _ k8).mono ?_; rintro e w9 ⟨rfl, b9⟩; have k9 := below_tr k8 b9) | (go_at_call 14; refine (E_nil0 (hg.below k9)).mono ?_; rintro e w10 ⟨rfl, b10⟩))
      go_ret
      exact ⟨rfl, below_tr k9 b10⟩

theorem definiteSays_walk (hg : ErrT w) (hA : RdM w a n ca A) (_ : ∀ r ∈ A, Fit r) (hx : RdI w b m cb x) (_ : Fit x) :
    Calls Tryd.prog 6 #[.slice a n ca, .slice b m cb] w fun e w' => e = .returned (.bool true) ∧ Below w.heap.size w w' := by
  rcases h : formR A with _ | c
  · by_cases hl : m = n
    · rcases hy : anyB (-100) 100 x
      · exact definiteSays_all hg hA hx h hl hy
      · exact definiteSays_rng hg hA hx h hl hy
    · exact definiteSays_len hg hA hx h hl
  · exact definiteSays_err hg hA hx h
end
end Go.Proofs.YtefmllkimdaimaaDoor
