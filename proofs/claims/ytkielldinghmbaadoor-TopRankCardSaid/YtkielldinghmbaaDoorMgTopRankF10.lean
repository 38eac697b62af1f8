/-
  num.First of two; mat.Add and mat.Mul walked.
  DetMul walked: the determinant of a product is the product; turned a matrix has the same.
  Matrices by the prime: products go together, powers add up. No program in sight.
-/
import Derived.Test.YtkielldinghmbaaDoorRows
import Derived.StillTailTactics
import Derived.Deep.QuietTactic
import Derived.BigQuiet
import Derived.Test.YtkielldinghmbaaDoorMgTopRankF0
import Derived.Test.YtkielldinghmbaaDoorMgTopRankF3
import Derived.Test.YtkielldinghmbaaDoorMgTopRankF4
import Derived.Test.YtkielldinghmbaaDoorMgTopRankF5
import Derived.Test.YtkielldinghmbaaDoorMgTopRankF6
import Derived.Test.YtkielldinghmbaaDoorMgTopRankF7
import Derived.Test.YtkielldinghmbaaDoorMgTopRankF8
import Derived.Test.YtkielldinghmbaaDoorMgTopRankF9
namespace Go.Proofs.YtkielldinghmbaaDoor
open Go.RowKit Go.Shelf Go.Rk

def firstO (a b : Option Int) : Option Int := match a with | some x => some x | none => b

set_option maxHeartbeats 1000000 in
theorem First_any {x y : Option Int} {b : Nat} {w : World} (h0 : w.cell? ⟨b, 0, none⟩ = some (errV x)) (h1 : w.cell? ⟨b, 1, none⟩ = some (errV y)) :
    Calls Tryd.prog 66 #[.slice (some ⟨b, 0, none⟩) 2 2] w fun e w' => e = .returned (errV (firstO x y)) ∧ w = w' := by
  go_enter Tryd.func66, Tryd.ntmps66
  go_wp2
  go_loop [7] (fun i => ∃ k : Nat, k ≤ 2 ∧ i = .int .i64 k ∧ Hid (1 ≤ k → x = none) ∧ Hid (2 ≤ k → y = none)) (fun i => 2 - (intOf i).toNat)
  case atStart => exact ⟨0, by omega, rfl, fun h => absurd h (by omega), fun h => absurd h (by omega)⟩
  case round =>
    obtain ⟨k, hk, rfl, q1, q2⟩ := hrel
    rcases (show k = 0 ∨ k = 1 ∨ k = 2 by omega) with rfl | rfl | rfl
    · rcases x with _ | x
      · simp only [errV] at h0
        go_wp2
        go_round
        case rel => exact ⟨1, by omega, by go_num, fun _ => by first | rfl | trivial, fun h => absurd h (by omega)⟩
        case measure => simp [intOf]
      · simp only [errV] at h0
        go_wp2
        go_ret
        exact ⟨rfl, rfl⟩
    · have e := q1.out (by omega)
      subst e
      rcases y with _ | y
      · simp only [errV] at h1
        go_wp2
        go_round
        case rel => exact ⟨2, by omega, by go_num, fun _ => by first | rfl | trivial, fun _ => by first | rfl | trivial⟩
        case measure => simp [intOf]
      · simp only [errV] at h1
        go_wp2
        go_ret
        exact ⟨rfl, rfl⟩
    · have e := q1.out (by omega)
      have e2 := q2.out (by omega)
      subst e; subst e2
      go_wp2
      go_ret
      exact ⟨rfl, rfl⟩

/-- What is wrong with two matrices' product. -/
def mulErr (A B : List (List Int)) : Option Int :=
  match firstO (groundsR 5 0 9972 A) (groundsR 5 0 9972 B) with
  | some x => some x
  | none => if (rowOf A 0).length = B.length then none else some 3
def addErr (A B : List (List Int)) : Option Int :=
  match firstO (groundsR 5 0 9972 A) (groundsR 5 0 9972 B) with
  | some x => some x
  | none => if A.length = B.length ∧ (rowOf A 0).length = (rowOf B 0).length then none else some 3

theorem firstO_none {a b : Option Int} (h : firstO a b = none) : a = none ∧ b = none := by
  cases a with
  | none => exact ⟨rfl, h⟩
  | some x => cases h

section
variable {a b : Option Addr} {n k ca cb : Nat} {A B : List (List Int)} {w : World}
set_option maxRecDepth 100000 in
set_option maxHeartbeats 2000000 in
theorem Mul_err {x : Int} (hA : RdM w a n ca A) (hB : RdM w b k cb B) (hq : mulErr A B = some x) :
    Calls Tryd.prog 25 #[.slice a n ca, .slice b k cb] w fun e w' => e = .returned (.tuple #[.slice none 0 0, .iface 70 (.int .i64 x)]) ∧ Below w.heap.size w w' := by
  unfold mulErr at hq
  obtain ⟨ga, hga⟩ : ∃ ga, groundsR 5 0 9972 A = ga := ⟨_, rfl⟩
  obtain ⟨gb, hgb⟩ : ∃ gb, groundsR 5 0 9972 B = gb := ⟨_, rfl⟩
  have C1 := Lib.hid (mat_Check_is hA hga)
  have C2 := Lib.hid (mat_Check_is hB hgb)
  rw [hga, hgb] at hq
  have kB := (Below.refl w.heap.size w).alloc (Nat.le_refl _) (.cells #[errV ga, errV gb] 26)
  rcases hf : firstO ga gb with _ | y
  · rw [hf] at hq
    have HF := Lib.hid hf
    obtain ⟨rfl, rfl⟩ := firstO_none hf
    obtain ⟨l1, l2, l3, l4, l5⟩ := groundsR_none hga
    have e1 := hA.len_eq
    have e2 := hB.len_eq
    rw [e1] at l1
    dsimp only at hq
    split at hq
    · cases hq
    · next hne =>
      injection hq with hq
      subst hq
      rw [e2] at hne
      have z : (((rowOf A 0).length : Int) != (k : Int)) = true := bne_iff_ne.2 (by omega)
      obtain ⟨ba, oa, rfl, hba, hra⟩ := (hA.below kB).at l1
      obtain ⟨ai, ci, hc0, _⟩ := hra 0 l1
      rw [Nat.add_zero] at hc0
      simp only [errV] at hc0 kB
      have b1 : (0 : Int) < (n : Int) := by omega
      have b2 : (1 : Int) ≤ (n : Int) := by omega
      clear hf hga hgb hra l2 l3 l4 l5 e1 e2 hne
      go_enter Tryd.func25, Tryd.ntmps25
      go_wp2_with (first | (go_at_call 18; first | ((with_reducible refine C1.out.mono ?_); clear C1; rintro e w' ⟨rfl, rfl⟩; simp only [errV]) | ((with_reducible refine C2.out.mono ?_); rintro e w' ⟨rfl, rfl⟩; simp only [errV])) | (go_at_call 66; refine (First_any (x := none) (y := none) (by simp [errV]) (by simp [errV])).mono ?_; rintro e w' ⟨rfl, rfl⟩; rw [HF.out]; simp only [errV]))
      go_ret2
      exact ⟨rfl, kB⟩
  · rw [hf] at hq
    have HF := Lib.hid hf
    dsimp only at hq
    injection hq with hq
    subst hq
    clear hf hga hgb
    rcases ga with _ | ga <;> rcases gb with _ | gb
    · cases HF.out
    · simp only [errV] at kB
      go_enter Tryd.func25, Tryd.ntmps25
      go_wp2_with (first | (go_at_call 18; first | ((with_reducible refine C1.out.mono ?_); clear C1; rintro e w' ⟨rfl, rfl⟩; simp only [errV]) | ((with_reducible refine C2.out.mono ?_); rintro e w' ⟨rfl, rfl⟩; simp only [errV])) | (go_at_call 66; refine (First_any (x := none) (y := (some gb)) (by simp [errV]) (by simp [errV])).mono ?_; rintro e w' ⟨rfl, rfl⟩; rw [HF.out]; simp only [errV]))
      go_ret2
      exact ⟨rfl, kB⟩
    · simp only [errV] at kB
      go_enter Tryd.func25, Tryd.ntmps25
      go_wp2_with (first | (go_at_call 18; first | ((with_reducible refine C1.out.mono ?_); clear C1; rintro e w' ⟨rfl, rfl⟩; simp only [errV]) | ((with_reducible refine C2.out.mono ?_); rintro e w' ⟨rfl, rfl⟩; simp only [errV])) | (go_at_call 66; refine (First_any (x := (some ga)) (y := none) (by simp [errV]) (by simp [errV])).mono ?_; rintro e w' ⟨rfl, rfl⟩; rw [HF.out]; simp only [errV]))
      go_ret2
      exact ⟨rfl, kB⟩
    · simp only [errV] at kB
      go_enter Tryd.func25, Tryd.ntmps25
      go_wp2_with (first | (go_at_call 18; first | ((with_reducible refine C1.out.mono ?_); clear C1; rintro e w' ⟨rfl, rfl⟩; simp only [errV]) | ((with_reducible refine C2.out.mono ?_); rintro e w' ⟨rfl, rfl⟩; simp only [errV])) | (go_at_call 66; refine (First_any (x := (some ga)) (y := (some gb)) (by simp [errV]) (by simp [errV])).mono ?_; rintro e w' ⟨rfl, rfl⟩; rw [HF.out]; simp only [errV]))
      go_ret2
      exact ⟨rfl, kB⟩

theorem grounds_dm (e : A.length = n) (g : groundsR 5 0 9972 A = none) : (1 ≤ n ∧ n ≤ 5) ∧ (1 ≤ (rowOf A 0).length ∧ (rowOf A 0).length ≤ 5) ∧ Dm n (rowOf A 0).length A ∧ EntR 0 9972 n (rowOf A 0).length A := by
  obtain ⟨l1, l2, l3, l4, l5⟩ := groundsR_none g
  rw [e] at l1 l3 l5
  exact ⟨⟨l1, by omega⟩, ⟨l2, by omega⟩, ⟨e, fun i hi => (l5 i hi).1⟩, fun i j hi hj => (l5 i hi).2 j (by rw [(l5 i hi).1]; exact hj)⟩

theorem mulErr_none (h : mulErr A B = none) : groundsR 5 0 9972 A = none ∧ groundsR 5 0 9972 B = none ∧ (rowOf A 0).length = B.length := by
  unfold mulErr at h
  split at h
  · cases h
  · next h1 =>
    split at h
    · next h2 => exact ⟨(firstO_none h1).1, (firstO_none h1).2, h2⟩
    · cases h
theorem addErr_none (h : addErr A B = none) : groundsR 5 0 9972 A = none ∧ groundsR 5 0 9972 B = none ∧ A.length = B.length ∧ (rowOf A 0).length = (rowOf B 0).length := by
  unfold addErr at h
  split at h
  · cases h
  · next h1 =>
    split at h
    · next h2 => exact ⟨(firstO_none h1).1, (firstO_none h1).2, h2⟩
    · cases h

set_option maxRecDepth 100000 in
set_option maxHeartbeats 2000000 in
theorem Mul_ok (hA : RdM w a n ca A) (hB : RdM w b k cb B) (hq : mulErr A B = none) :
    Calls Tryd.prog 25 #[.slice a n ca, .slice b k cb] w fun e w' => ∃ a' cap' P, e = .returned (.tuple #[.slice a' n cap', .nilIface]) ∧ OwM w' w.heap.size 32 3 a' n cap' P ∧ IsR n (rowOf B 0).length P (fun i j => mulE A B k i j % 9973) ∧ Below w.heap.size w w' := by
  obtain ⟨g1, g2, g3⟩ := mulErr_none hq
  have C1 := Lib.hid (mat_Check_is hA g1)
  have C2 := Lib.hid (mat_Check_is hB g2)
  obtain ⟨n1, n2, dA, eA⟩ := grounds_dm hA.len_eq g1
  obtain ⟨m1, m2, dB, eB⟩ := grounds_dm hB.len_eq g2
  rw [hB.len_eq] at g3
  rw [g3] at dA eA
  have kB := (Below.refl w.heap.size w).alloc (Nat.le_refl _) (.cells #[.nilIface, .nilIface] 26)
  have C3 := Lib.hid (mul_any (hA.below kB) (hB.below kB) dA dB eA eB ⟨n1.1, by omega⟩ ⟨m1.1, by omega⟩ ⟨m2.1, by omega⟩)
  have z : ((k : Int) != (k : Int)) = false := bne_eq_false_iff_eq.2 rfl
  obtain ⟨ba, oa, rfl, hba, hra⟩ := (hA.below kB).at (k := 0) (by omega)
  obtain ⟨ai, ci, hc0, _⟩ := hra 0 (by omega)
  rw [Nat.add_zero, g3] at hc0
  have b1 : (0 : Int) < (n : Int) := by omega
  have b2 : (1 : Int) ≤ (n : Int) := by omega
  have HF : Hid (firstO none none = none) := rfl
  clear hq g1 g2 g3 hra dA dB eA eB m1 m2
  go_enter Tryd.func25, Tryd.ntmps25
  go_wp2_with (first | (go_at_call 18; first | ((with_reducible refine C1.out.mono ?_); clear C1; rintro e w' ⟨rfl, rfl⟩; simp only [errV]) | ((with_reducible refine C2.out.mono ?_); rintro e w' ⟨rfl, rfl⟩; simp only [errV])) | (go_at_call 66; refine (First_any (x := none) (y := none) (by simp [errV]) (by simp [errV])).mono ?_; rintro e w' ⟨rfl, rfl⟩; rw [HF.out]; simp only [errV]) | (go_at_call 69; (with_reducible refine C3.out.mono ?_); rintro e w3 ⟨a3, cap3, P, rfl, ho3, hi3, hb3⟩))
  go_ret2
  exact ⟨a3, cap3, P, rfl, ho3.mono kB.size, hi3, kB.trans (hb3.mono kB.size)⟩

set_option maxRecDepth 100000 in
set_option maxHeartbeats 2000000 in
theorem Add_err {x : Int} (hA : RdM w a n ca A) (hB : RdM w b k cb B) (hq : addErr A B = some x) :
    Calls Tryd.prog 23 #[.slice a n ca, .slice b k cb] w fun e w' => e = .returned (.tuple #[.slice none 0 0, .iface 70 (.int .i64 x)]) ∧ Below w.heap.size w w' := by
  unfold addErr at hq
  obtain ⟨ga, hga⟩ : ∃ ga, groundsR 5 0 9972 A = ga := ⟨_, rfl⟩
  obtain ⟨gb, hgb⟩ : ∃ gb, groundsR 5 0 9972 B = gb := ⟨_, rfl⟩
  have C1 := Lib.hid (mat_Check_is hA hga)
  have C2 := Lib.hid (mat_Check_is hB hgb)
  rw [hga, hgb] at hq
  have kB := (Below.refl w.heap.size w).alloc (Nat.le_refl _) (.cells #[errV ga, errV gb] 26)
  rcases hf : firstO ga gb with _ | y
  · rw [hf] at hq
    have HF := Lib.hid hf
    obtain ⟨rfl, rfl⟩ := firstO_none hf
    have e1 := hA.len_eq
    have e2 := hB.len_eq
    obtain ⟨n1, _⟩ := grounds_dm hA.len_eq hga
    obtain ⟨m1, _⟩ := grounds_dm hB.len_eq hgb
    dsimp only at hq
    split at hq
    · cases hq
    · next hne =>
      injection hq with hq
      subst hq
      rw [e1, e2] at hne
      simp only [errV] at kB
      by_cases hnk : n = k
      · have z1 : ((n : Int) != (k : Int)) = false := bne_eq_false_iff_eq.2 (by omega)
        have z2 : (((rowOf A 0).length : Int) != ((rowOf B 0).length : Int)) = true := bne_iff_ne.2 (by omega)
        obtain ⟨wB, hwB⟩ : ∃ wB, w.alloc (.cells #[.nilIface, .nilIface] 26) = wB := ⟨_, rfl⟩
        have HWB := Lib.hid hwB
        have kB2 := kB
        rw [hwB] at kB2
        obtain ⟨ba, oa, rfl, hba, hra⟩ := (hA.below kB2).at n1.1
        obtain ⟨ai, ci, hc0, _⟩ := hra 0 n1.1
        rw [Nat.add_zero] at hc0
        obtain ⟨bb, ob, rfl, hbb, hrb⟩ := (hB.below kB2).at m1.1
        obtain ⟨bi, di, hd0, _⟩ := hrb 0 m1.1
        rw [Nat.add_zero] at hd0
        have b1 : (0 : Int) < (n : Int) := by omega
        have b2 : (1 : Int) ≤ (n : Int) := by omega
        have b3 : (0 : Int) < (k : Int) := by omega
        have b4 : (1 : Int) ≤ (k : Int) := by omega
        clear hf hga hgb hra hrb e1 e2 hne hwB hnk
        go_enter Tryd.func23, Tryd.ntmps23
        go_wp2_with (first | (go_at_call 18; first | ((with_reducible refine C1.out.mono ?_); clear C1; rintro e w' ⟨rfl, rfl⟩; simp only [errV]) | ((with_reducible refine C2.out.mono ?_); rintro e w' ⟨rfl, rfl⟩; simp only [errV])) | (go_at_call 66; refine (First_any (x := none) (y := none) (by simp [errV]) (by simp [errV])).mono ?_; rintro e w' ⟨rfl, rfl⟩; rw [HF.out]; simp only [errV]; rw [HWB.out]))
        go_quiet (fail)
        go_wp2
        go_ret2
        exact ⟨rfl, below_drewN kB2 nq⟩
      · have z1 : ((n : Int) != (k : Int)) = true := bne_iff_ne.2 (by omega)
        obtain ⟨wB, hwB⟩ : ∃ wB, w.alloc (.cells #[.nilIface, .nilIface] 26) = wB := ⟨_, rfl⟩
        have HWB := Lib.hid hwB
        have kB2 := kB
        rw [hwB] at kB2
        clear hf hga hgb e1 e2 hne hwB hnk
        go_enter Tryd.func23, Tryd.ntmps23
        go_wp2_with (first | (go_at_call 18; first | ((with_reducible refine C1.out.mono ?_); clear C1; rintro e w' ⟨rfl, rfl⟩; simp only [errV]) | ((with_reducible refine C2.out.mono ?_); rintro e w' ⟨rfl, rfl⟩; simp only [errV])) | (go_at_call 66; refine (First_any (x := none) (y := none) (by simp [errV]) (by simp [errV])).mono ?_; rintro e w' ⟨rfl, rfl⟩; rw [HF.out]; simp only [errV]; rw [HWB.out]))
        go_quiet (fail)
        go_wp2
        go_ret2
        exact ⟨rfl, below_drewN kB2 nq⟩
  · rw [hf] at hq
    have HF := Lib.hid hf
    dsimp only at hq
    injection hq with hq
    subst hq
    clear hf hga hgb
    rcases ga with _ | ga <;> rcases gb with _ | gb
    · cases HF.out
    · simp only [errV] at kB
      go_enter Tryd.func23, Tryd.ntmps23
      go_wp2_with (first | (go_at_call 18; first | ((with_reducible refine C1.out.mono ?_); clear C1; rintro e w' ⟨rfl, rfl⟩; simp only [errV]) | ((with_reducible refine C2.out.mono ?_); rintro e w' ⟨rfl, rfl⟩; simp only [errV])) | (go_at_call 66; refine (First_any (x := none) (y := (some gb)) (by simp [errV]) (by simp [errV])).mono ?_; rintro e w' ⟨rfl, rfl⟩; rw [HF.out]; simp only [errV]))
      go_ret2
      exact ⟨rfl, kB⟩
    · simp only [errV] at kB
      go_enter Tryd.func23, Tryd.ntmps23
      go_wp2_with (first | (go_at_call 18; first | ((with_reducible refine C1.out.mono ?_); clear C1; rintro e w' ⟨rfl, rfl⟩; simp only [errV]) | ((with_reducible refine C2.out.mono ?_); rintro e w' ⟨rfl, rfl⟩; simp only [errV])) | (go_at_call 66; refine (First_any (x := (some ga)) (y := none) (by simp [errV]) (by simp [errV])).mono ?_; rintro e w' ⟨rfl, rfl⟩; rw [HF.out]; simp only [errV]))
      go_ret2
      exact ⟨rfl, kB⟩
    · simp only [errV] at kB
      go_enter Tryd.func23, Tryd.ntmps23
      go_wp2_with (first | (go_at_call 18; first | ((with_reducible refine C1.out.mono ?_); clear C1; rintro e w' ⟨rfl, rfl⟩; simp only [errV]) | ((with_reducible refine C2.out.mono ?_); rintro e w' ⟨rfl, rfl⟩; simp only [errV])) | (go_at_call 66; refine (First_any (x := (some ga)) (y := (some gb)) (by simp [errV]) (by simp [errV])).mono ?_; rintro e w' ⟨rfl, rfl⟩; rw [HF.out]; simp only [errV]))
      go_ret2
      exact ⟨rfl, kB⟩
end
end Go.Proofs.YtkielldinghmbaaDoor
namespace Go.Proofs.YtkielldinghmbaaDoor
open Go.RowKit Go.Rk

theorem squareR_grounds {most lo hi : Int} {M : List (List Int)} (h : squareR most lo hi M = none) : groundsR most lo hi M = none ∧ (rowOf M 0).length = M.length := by
  unfold squareR at h
  split at h
  · next h1 =>
    split at h
    · next h2 => exact ⟨h1, h2.symm⟩
    · cases h
  · next h1 => exact absurd h h1

/-- The determinant of the product, by the prime. -/
theorem det_prod {n : Nat} {A B P : List (List Int)} (h : IsR n n P (fun i j => mulE A B n i j % 9973)) : det n (mx P) % 9973 = (det n (mx A) % 9973) * (det n (mx B) % 9973) % 9973 := by
  have e : Eqm (det n (mx P)) (det n (mulM n (mx A) (mx B))) := det_eqm fun i j hi hj => by
    show Eqm (en P i j) _
    rw [h.2 i j hi hj]
    exact Int.emod_emod_of_dvd _ (Int.dvd_refl _)
  rw [det_mul] at e
  rw [e, Int.mul_emod]

theorem det_turned {n : Nat} {A P : List (List Int)} (h : IsR n n P (fun i j => en A j i)) : det n (mx P) = det n (mx A) := by
  rw [← det_tr (mx A)]
  exact det_congr fun i j hi hj => h.2 i j hi hj

end Go.Proofs.YtkielldinghmbaaDoor
namespace Go.Rk
open Go.RowKit

/-- A matrix of so many rows and columns, written out. -/
def mkM (n c : Nat) (F : Nat → Nat → Int) : List (List Int) := (List.range n).map fun i => (List.range c).map fun j => F i j
theorem mkM_row {n c : Nat} {F : Nat → Nat → Int} {i : Nat} (hi : i < n) : rowOf (mkM n c F) i = (List.range c).map fun j => F i j := by
  rw [rowOf_lt (by simp [mkM]; exact hi)]; simp [mkM]
theorem mkM_is (n c : Nat) (F : Nat → Nat → Int) : IsR n c (mkM n c F) F := by
  refine ⟨⟨by simp [mkM], fun i hi => by rw [mkM_row hi]; simp⟩, fun i j hi hj => ?_⟩
  unfold en
  rw [mkM_row hi, ix_lt (by simp; exact hj)]
  simp
theorem IsR.eq {n c : Nat} {M : List (List Int)} {F : Nat → Nat → Int} (h : IsR n c M F) : M = mkM n c F :=
  h.1.ext (mkM_is n c F).1 fun i j hi hj => by rw [h.2 i j hi hj, (mkM_is n c F).2 i j hi hj]

/-- Two matrices that are one by the prime, in the first n rows and c columns. -/
def EqM (n c : Nat) (A B : Mx) : Prop := ∀ i j, i < n → j < c → Eqm (A i j) (B i j)
theorem EqM.refl (n c : Nat) (A : Mx) : EqM n c A A := fun _ _ _ _ => Eqm.refl _
theorem EqM.symm {n c : Nat} {A B : Mx} (h : EqM n c A B) : EqM n c B A := fun i j hi hj => (h i j hi hj).symm
theorem EqM.trans {n c : Nat} {A B C : Mx} (h : EqM n c A B) (k : EqM n c B C) : EqM n c A C := fun i j hi hj => (h i j hi hj).trans (k i j hi hj)
theorem sumTo_eqm {g h : Nat → Int} {n : Nat} (e : ∀ i, i < n → Eqm (g i) (h i)) : Eqm (sumTo g n) (sumTo h n) := by
  induction n with
  | zero => exact Eqm.refl _
  | succ n ih => exact Eqm.add (ih fun i hi => e i (by omega)) (e n (by omega))
theorem EqM.mul {n k c : Nat} {A A' B B' : Mx} (h : EqM n k A A') (g : EqM k c B B') : EqM n c (mulM k A B) (mulM k A' B') :=
  fun i j hi hj => sumTo_eqm fun t ht => Eqm.mul (h i t hi ht) (g t j ht hj)
theorem mulM_go (k c : Nat) (A B C : Mx) : mulM c (mulM k A B) C = mulM k A (mulM c B C) := by
  funext i j
  unfold mulM
  rw [sumTo_congr (h := fun t => sumTo (fun s => A i s * B s t * C t j) k) fun t _ => by rw [Int.mul_comm, ← sumTo_mul]; exact sumTo_congr fun s _ => Int.mul_comm _ _]
  rw [sumTo_swap]
  refine sumTo_congr fun s _ => ?_
  rw [← sumTo_mul]
  exact sumTo_congr fun t _ => Int.mul_assoc _ _ _
theorem mulM_add (k : Nat) (A B C : Mx) : mulM k A (fun i j => B i j + C i j) = fun i j => mulM k A B i j + mulM k A C i j := by
  funext i j
  unfold mulM
  rw [← sumTo_add]
  exact sumTo_congr fun t _ => Int.mul_add _ _ _
theorem mulM_tr (k : Nat) (A B : Mx) : trM (mulM k A B) = mulM k (trM B) (trM A) := by
  funext i j
  unfold trM mulM
  exact sumTo_congr fun t _ => Int.mul_comm _ _

/-- The one that changes nothing. -/
def oneM : Mx := fun i j => if i = j then 1 else 0
theorem sumTo_pick (g : Nat → Int) {n i : Nat} (hi : i < n) : sumTo (fun t => (if i = t then 1 else 0) * g t) n = g i := by
  induction n with
  | zero => omega
  | succ n ih =>
    rw [sumTo]
    by_cases e : i = n
    · subst e
      rw [if_pos rfl, sumTo_congr (h := fun _ => 0) fun t ht => by rw [if_neg (by omega), Int.zero_mul], sumTo_zero]
      omega
    · rw [ih (by omega), if_neg e]
      omega
theorem one_mulM {n : Nat} (A : Mx) {i : Nat} (hi : i < n) (j : Nat) : mulM n oneM A i j = A i j := sumTo_pick (fun t => A t j) hi
theorem mulM_one {n : Nat} (A : Mx) (i : Nat) {j : Nat} (hj : j < n) : mulM n A oneM i j = A i j := by
  unfold mulM oneM
  have e (t : Nat) : A i t * (if t = j then 1 else 0) = (if j = t then 1 else 0) * A i t := by
    rw [Int.mul_comm]
    by_cases h : t = j
    · rw [if_pos h, if_pos h.symm]
    · rw [if_neg h, if_neg fun h2 => h h2.symm]
  rw [sumTo_congr fun t _ => e t]
  exact sumTo_pick (fun t => A i t) hj

def powM (n : Nat) (A : Mx) : Nat → Mx
  | 0 => oneM
  | e + 1 => mulM n A (powM n A e)
theorem powM_congr {n : Nat} {A B : Mx} (h : EqM n n A B) : ∀ e, EqM n n (powM n A e) (powM n B e)
  | 0 => EqM.refl _ _ _
  | e + 1 => EqM.mul h (powM_congr h e)
theorem powM_add {n : Nat} (A : Mx) (a b : Nat) : EqM n n (mulM n (powM n A a) (powM n A b)) (powM n A (a + b)) := by
  induction a with
  | zero => rw [Nat.zero_add]; exact fun i _ hi _ => Eqm.of_eq (one_mulM _ hi _)
  | succ a ih =>
    rw [show a + 1 + b = (a + b) + 1 by omega, powM, mulM_go]
    exact EqM.mul (EqM.refl _ _ _) ih
theorem powM_one {n : Nat} (A : Mx) : EqM n n (powM n A 1) A := fun i _ _ hj => Eqm.of_eq (mulM_one A i hj)
theorem powM_mul {n : Nat} (A : Mx) (a b : Nat) : EqM n n (powM n (powM n A a) b) (powM n A (a * b)) := by
  induction b with
  | zero => exact EqM.refl _ _ _
  | succ b ih =>
    rw [powM, Nat.mul_succ, Nat.add_comm]
    exact (EqM.mul (EqM.refl _ _ _) ih).trans (powM_add A a (a * b))
theorem powM_two {n : Nat} (A : Mx) (k : Nat) : EqM n n (powM n (mulM n A A) k) (powM n A (2 * k)) := by
  refine (powM_congr ?_ k).trans (powM_mul A 2 k)
  exact EqM.mul (EqM.refl _ _ _) (powM_one A).symm
/-- A step of powers by halves. -/
theorem pow_even {n : Nat} (X A : Mx) (k : Nat) : EqM n n (mulM n X (powM n (mulM n A A) k)) (mulM n X (powM n A (2 * k))) := EqM.mul (EqM.refl _ _ _) (powM_two A k)
theorem pow_odd {n : Nat} (X A : Mx) (k : Nat) : EqM n n (mulM n (mulM n X A) (powM n (mulM n A A) k)) (mulM n X (powM n A (2 * k + 1))) := by
  rw [mulM_go]
  exact EqM.mul (EqM.refl _ _ _) (EqM.mul (EqM.refl _ _ _) (powM_two A k))
end Go.Rk
