/-
  DetMul walked: the determinant of a product is the product; turned a matrix has the same.
-/
import Derived.Test.YtdgpeliinnmflaaRows
import Derived.Test.YtdgpeliinnmflaaLib
import Derived.Test.YtdgpeliinnmflaaRef
import Derived.Test.YtdgpeliinnmflaaDetOf
import Derived.Test.YtdgpeliinnmflaaDetFact
import Derived.Test.YtdgpeliinnmflaaDetLaw
import Derived.Test.YtdgpeliinnmflaaTurnW
import Derived.Test.YtdgpeliinnmflaaMatBin
namespace Go.Proofs.Ytdgpeliinnmflaa
open Go.RowKit Go.Rk

theorem squareR_grounds {most lo hi : Int} {M : List (List Int)} (h : squareR most lo hi M = none) : groundsR most lo hi M = none ∧ (rowOf M 0).length = M.length := by
  unfold squareR at h
  split at h
  · next h1 =>
    split at h
    · next h2 => exact ⟨h1, h2.symm⟩
    · cases h
  · next h1 => exact absurd h h1

/-- The determinant of the product, by the prime. -/
theorem det_prod {n : Nat} {A B P : List (List Int)} (h : IsR n n P (fun i j => mulE A B n i j % 9973)) : det n (mx P) % 9973 = (det n (mx A) % 9973) * (det n (mx B) % 9973) % 9973 := by
  have e : Eqm (det n (mx P)) (det n (mulM n (mx A) (mx B))) := det_eqm fun i j hi hj => by
    show Eqm (en P i j) _
    rw [h.2 i j hi hj]
    exact Int.emod_emod_of_dvd _ (Int.dvd_refl _)
  rw [det_mul] at e
  rw [e, Int.mul_emod]

theorem det_turned {n : Nat} {A P : List (List Int)} (h : IsR n n P (fun i j => en A j i)) : det n (mx P) = det n (mx A) := by
  rw [← det_tr (mx A)]
  exact det_congr fun i j hi hj => h.2 i j hi hj

set_option maxHeartbeats 4000000 in
set_option maxRecDepth 100000 in
theorem detMul_walk {a b : Option Addr} {n k ca cb : Nat} {A B : List (List Int)} {w : World} (hA : RdM w a n ca A) (_ : ∀ r ∈ A, Fit r) (hB : RdM w b k cb B) (_ : ∀ r ∈ B, Fit r) :
    Calls Try.prog 9 #[.slice a n ca, .slice b k cb] w fun e w' => e = .returned (.bool true) ∧ Below w.heap.size w w' := by
  have hmx := hA.len_max
  have hmy := hB.len_max
  rcases hq : squareR 5 0 9972 A with _ | x
  · obtain ⟨q1, q2, q3, q4⟩ := squareR_none hq
    have e1 := hA.len_eq
    have e2 := hB.len_eq
    rw [e1] at q1 q2 q3 q4
    have gA := (squareR_grounds hq).1
    have IX : Hid (inB (det n (mx A) % 9973) 0 9972 = true) := by unfold Hid inB; simp; omega
    obtain ⟨X, hX⟩ : ∃ X, det n (mx A) % 9973 = X := ⟨_, rfl⟩
    have hx : 0 ≤ X ∧ X ≤ 9972 := by omega
    rw [hX] at IX
    have HX := Lib.hid hX
    have HQ := Lib.hid hq
    have HGA := Lib.hid gA
    have HD := Lib.hid q3
    clear hX hq gA q3
    rcases hqb : squareR 5 0 9972 B with _ | y
    · have gB := (squareR_grounds hqb).1
      obtain ⟨r1, r2, r3, r4⟩ := squareR_none hqb
      rw [e2] at r1 r2 r3 r4
      obtain ⟨Y, hY⟩ : ∃ Y, det k (mx B) % 9973 = Y := ⟨_, rfl⟩
      have hy : 0 ≤ Y ∧ Y ≤ 9972 := by omega
      have IY : Hid (inB Y 0 9972 = true) := by unfold Hid inB; simp; omega
      have HY := Lib.hid hY
      have HQB := Lib.hid hqb
      by_cases hnk : n = k
      · subst hnk
        have HME : Hid (mulErr A B = none) := by
          unfold Hid mulErr
          rw [HGA.out, gB]
          show (if _ then _ else _) = _
          rw [if_pos (by rw [HD.out.2 0 (by omega), e2])]
        have hrb : (rowOf B 0).length = n := r3.2 0 (by omega)
        have z1 : ((n : Int) != (n : Int)) = false := bne_eq_false_iff_eq.2 rfl
        clear hY hqb gB r3 r4 q4
        go_enter Try.func9, Try.ntmps9
        go_wp2_with (first | (go_at_call 23; refine (detFact_any _).mono ?_; rintro e w1 ⟨rfl, hb1⟩) | (go_at_call 24; fail))
        have C2 := Lib.hid (det_Of_ok (hA.below hb1) HQ.out)
        rw [HX.out] at C2
        (with_reducible refine C2.out.mono ?_)
        clear C2
        rintro e w2 ⟨rfl, hb2⟩
        have k2 := hb1.trans (hb2.mono hb1.size)
        have C3 := Lib.hid (Turn_ok (hA.below k2) HGA.out HD.out ⟨q1, by omega⟩ ⟨q1, by omega⟩)
        clear hb1 hb2
        go_wp2_with (go_at_call 20; fail)
        (with_reducible refine C3.out.mono ?_)
        clear C3
        rintro e w3 ⟨a3, cap3, T, rfl, ho3, hi3, hb3⟩
        have k3 := k2.trans (hb3.mono k2.size)
        have HT : Hid (det n (mx T) % 9973 = X) := by unfold Hid; rw [det_turned hi3, HX.out]
        have C4 := Lib.hid (det_Of_ok ho3.rd (squareR_of q1 (by omega) hi3.1 fun i j hi hj => by rw [hi3.2 i j hi hj]; exact (grounds_dm e1 HGA.out).2.2.2 j i hj (by rw [HD.out.2 0 (by omega)]; exact hi)))
        rw [HT.out] at C4
        go_wp2_with (go_at_call 24; fail)
        (with_reducible refine C4.out.mono ?_)
        clear C4
        rintro e w4 ⟨rfl, hb4⟩
        have k4 := k3.trans (hb4.mono k3.size)
        clear ho3 hi3 HT hb3 hb4
        have z2 : (X != X) = false := bne_eq_false_iff_eq.2 rfl
        have C5 := Lib.hid (det_Of_ok (hB.below k4) HQB.out)
        rw [HY.out] at C5
        go_wp2_with (first | (go_at_call 16; refine (L2_in_any _ _ _ _).mono ?_; rintro e w' ⟨rfl, rfl⟩; rw [IX.out]) | (go_at_call 24; fail))
        (with_reducible refine C5.out.mono ?_)
        clear C5
        rintro e w5 ⟨rfl, hb5⟩
        have k5 := k4.trans (hb5.mono k4.size)
        have C6 := Lib.hid (Mul_ok (hA.below k5) (hB.below k5) HME.out)
        rw [hrb] at C6
        clear hb5
        go_wp2_with (go_at_call 18; fail)
        (with_reducible refine C6.out.mono ?_)
        clear C6
        rintro e w6 ⟨a6, cap6, P, rfl, ho6, hi6, hb6⟩
        have k6 := k5.trans (hb6.mono k5.size)
        have hdp := det_prod hi6
        rw [HX.out, HY.out] at hdp
        have C7 := Lib.hid (det_Of_ok ho6.rd (squareR_of q1 (by omega) hi6.1 fun i j hi hj => by rw [hi6.2 i j hi hj]; dsimp only; omega))
        obtain ⟨Z, hZ⟩ : ∃ Z, Z = X * Y := ⟨_, rfl⟩
        have hz : 0 ≤ Z ∧ Z ≤ 9972 * 9972 := by rw [hZ]; exact ⟨Int.mul_nonneg hx.1 hy.1, Int.mul_le_mul hx.2 hy.2 hy.1 (by omega)⟩
        rw [← hZ] at hdp
        rw [hdp] at C7
        have u1 : IntKind.i64.wrap (X * Y) = Z := by rw [hZ]; exact Go.IntWalk.i64_in _ (by omega)
        have hw : 0 ≤ Z % 9973 ∧ Z % 9973 ≤ 9972 := by omega
        clear hZ hdp ho6 hi6 hb6
        go_wp2_with (go_at_call 24; fail)
        (with_reducible refine C7.out.mono ?_)
        clear C7
        rintro e w7 ⟨rfl, hb7⟩
        have k7 := k6.trans (hb7.mono k6.size)
        have z3 : (Z % 9973 == Z % 9973) = true := beq_iff_eq.2 rfl
        go_wp2_with (first | (go_at_call 16; refine (L2_in_any _ _ _ _).mono ?_; rintro e w' ⟨rfl, rfl⟩; rw [IY.out]) | (go_at_call 26; refine (R_Mod_any _ _ (by omega) (by omega)).mono ?_; rintro e w' ⟨rfl, rfl⟩))
        go_ret
        exact ⟨rfl, k7⟩
      · have z1 : ((n : Int) != (k : Int)) = true := bne_iff_ne.2 (by omega)
        clear hY hqb gB r3 r4 q4
        go_enter Try.func9, Try.ntmps9
        go_wp2_with (first | (go_at_call 23; refine (detFact_any _).mono ?_; rintro e w1 ⟨rfl, hb1⟩) | (go_at_call 24; fail))
        have C2 := Lib.hid (det_Of_ok (hA.below hb1) HQ.out)
        rw [HX.out] at C2
        (with_reducible refine C2.out.mono ?_)
        clear C2
        rintro e w2 ⟨rfl, hb2⟩
        have k2 := hb1.trans (hb2.mono hb1.size)
        have C3 := Lib.hid (Turn_ok (hA.below k2) HGA.out HD.out ⟨q1, by omega⟩ ⟨q1, by omega⟩)
        clear hb1 hb2
        go_wp2_with (go_at_call 20; fail)
        (with_reducible refine C3.out.mono ?_)
        clear C3
        rintro e w3 ⟨a3, cap3, T, rfl, ho3, hi3, hb3⟩
        have k3 := k2.trans (hb3.mono k2.size)
        have HT : Hid (det n (mx T) % 9973 = X) := by unfold Hid; rw [det_turned hi3, HX.out]
        have C4 := Lib.hid (det_Of_ok ho3.rd (squareR_of q1 (by omega) hi3.1 fun i j hi hj => by rw [hi3.2 i j hi hj]; exact (grounds_dm e1 HGA.out).2.2.2 j i hj (by rw [HD.out.2 0 (by omega)]; exact hi)))
        rw [HT.out] at C4
        go_wp2_with (go_at_call 24; fail)
        (with_reducible refine C4.out.mono ?_)
        clear C4
        rintro e w4 ⟨rfl, hb4⟩
        have k4 := k3.trans (hb4.mono k3.size)
        clear ho3 hi3 HT hb3 hb4
        have z2 : (X != X) = false := bne_eq_false_iff_eq.2 rfl
        have C5 := Lib.hid (det_Of_ok (hB.below k4) HQB.out)
        rw [HY.out] at C5
        go_wp2_with (first | (go_at_call 16; refine (L2_in_any _ _ _ _).mono ?_; rintro e w' ⟨rfl, rfl⟩; rw [IX.out]) | (go_at_call 24; fail))
        (with_reducible refine C5.out.mono ?_)
        clear C5
        rintro e w5 ⟨rfl, hb5⟩
        have k5 := k4.trans (hb5.mono k4.size)
        go_wp2
        go_ret
        exact ⟨rfl, k5⟩
    · have HQB := Lib.hid hqb
      clear hqb q4
      go_enter Try.func9, Try.ntmps9
      go_wp2_with (first | (go_at_call 23; refine (detFact_any _).mono ?_; rintro e w1 ⟨rfl, hb1⟩) | (go_at_call 24; fail))
      have C2 := Lib.hid (det_Of_ok (hA.below hb1) HQ.out)
      rw [HX.out] at C2
      (with_reducible refine C2.out.mono ?_)
      clear C2
      rintro e w2 ⟨rfl, hb2⟩
      have k2 := hb1.trans (hb2.mono hb1.size)
      have C3 := Lib.hid (Turn_ok (hA.below k2) HGA.out HD.out ⟨q1, by omega⟩ ⟨q1, by omega⟩)
      clear hb1 hb2
      go_wp2_with (go_at_call 20; fail)
      (with_reducible refine C3.out.mono ?_)
      clear C3
      rintro e w3 ⟨a3, cap3, T, rfl, ho3, hi3, hb3⟩
      have k3 := k2.trans (hb3.mono k2.size)
      have HT : Hid (det n (mx T) % 9973 = X) := by unfold Hid; rw [det_turned hi3, HX.out]
      have C4 := Lib.hid (det_Of_ok ho3.rd (squareR_of q1 (by omega) hi3.1 fun i j hi hj => by rw [hi3.2 i j hi hj]; exact (grounds_dm e1 HGA.out).2.2.2 j i hj (by rw [HD.out.2 0 (by omega)]; exact hi)))
      rw [HT.out] at C4
      go_wp2_with (go_at_call 24; fail)
      (with_reducible refine C4.out.mono ?_)
      clear C4
      rintro e w4 ⟨rfl, hb4⟩
      have k4 := k3.trans (hb4.mono k3.size)
      clear ho3 hi3 HT hb3 hb4
      have z2 : (X != X) = false := bne_eq_false_iff_eq.2 rfl
      have C5 := Lib.hid (det_Of_err (hB.below k4) HQB.out)
      go_wp2_with (first | (go_at_call 16; refine (L2_in_any _ _ _ _).mono ?_; rintro e w' ⟨rfl, rfl⟩; rw [IX.out]) | (go_at_call 24; fail))
      (with_reducible refine C5.out.mono ?_)
      clear C5
      rintro e w5 ⟨rfl, rfl⟩
      go_wp2
      go_ret
      exact ⟨rfl, k4⟩
  · have HQ := Lib.hid hq
    clear hq
    go_enter Try.func9, Try.ntmps9
    go_wp2_with (first | (go_at_call 23; refine (detFact_any _).mono ?_; rintro e w1 ⟨rfl, hb1⟩) | (go_at_call 24; (with_reducible refine (det_Of_err (hA.below hb1) HQ.out).mono ?_); rintro e w2 ⟨rfl, rfl⟩))
    go_ret
    exact ⟨rfl, hb1⟩
end Go.Proofs.Ytdgpeliinnmflaa
