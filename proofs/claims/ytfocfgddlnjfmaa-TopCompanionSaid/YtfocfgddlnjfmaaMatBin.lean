/-
  num.First of two; mat.Add and mat.Mul walked.
-/
import Derived.Test.YtfocfgddlnjfmaaRows
import Derived.Test.YtfocfgddlnjfmaaLib
import Derived.Test.YtfocfgddlnjfmaaNum
import Derived.Test.YtfocfgddlnjfmaaDetW
import Derived.Test.YtfocfgddlnjfmaaEach
import Derived.Test.YtfocfgddlnjfmaaRect
import Derived.Test.YtfocfgddlnjfmaaRound
import Derived.Test.YtfocfgddlnjfmaaMatMul
import Derived.StillTailTactics
import Derived.Deep.QuietTactic
import Derived.BigQuiet
namespace Go.Proofs.Ytfocfgddlnjfmaa
open Go.RowKit Go.Shelf Go.Rk

def firstO (a b : Option Int) : Option Int := match a with | some x => some x | none => b

set_option maxHeartbeats 1000000 in
theorem First_any {x y : Option Int} {b : Nat} {w : World} (h0 : w.cell? ⟨b, 0, none⟩ = some (errV x)) (h1 : w.cell? ⟨b, 1, none⟩ = some (errV y)) :
    Calls Try.prog 78 #[.slice (some ⟨b, 0, none⟩) 2 2] w fun e w' => e = .returned (errV (firstO x y)) ∧ w = w' := by
  go_enter Try.func78, Try.ntmps78
  go_wp2
  go_loop [7] (fun i => ∃ k : Nat, k ≤ 2 ∧ i = .int .i64 k ∧ Hid (1 ≤ k → x = none) ∧ Hid (2 ≤ k → y = none)) (fun i => 2 - (intOf i).toNat)
  case atStart => exact ⟨0, by omega, rfl, fun h => absurd h (by omega), fun h => absurd h (by omega)⟩
  case round =>
    obtain ⟨k, hk, rfl, q1, q2⟩ := hrel
    rcases (show k = 0 ∨ k = 1 ∨ k = 2 by omega) with rfl | rfl | rfl
    · rcases x with _ | x
      · simp only [errV] at h0
        go_wp2
        go_round
        case rel => exact ⟨1, by omega, by go_num, fun _ => by first | rfl | trivial, fun h => absurd h (by omega)⟩
        case measure => simp [intOf]
      · simp only [errV] at h0
        go_wp2
        go_ret
        exact ⟨rfl, rfl⟩
    · have e := q1.out (by omega)
      subst e
      rcases y with _ | y
      · simp only [errV] at h1
        go_wp2
        go_round
        case rel => exact ⟨2, by omega, by go_num, fun _ => by first | rfl | trivial, fun _ => by first | rfl | trivial⟩
        case measure => simp [intOf]
      · simp only [errV] at h1
        go_wp2
        go_ret
        exact ⟨rfl, rfl⟩
    · have e := q1.out (by omega)
      have e2 := q2.out (by omega)
      subst e; subst e2
      go_wp2
      go_ret
      exact ⟨rfl, rfl⟩

/-- What is wrong with two matrices' product. -/
def mulErr (A B : List (List Int)) : Option Int :=
  match firstO (groundsR 5 0 9972 A) (groundsR 5 0 9972 B) with
  | some x => some x
  | none => if (rowOf A 0).length = B.length then none else some 3
def addErr (A B : List (List Int)) : Option Int :=
  match firstO (groundsR 5 0 9972 A) (groundsR 5 0 9972 B) with
  | some x => some x
  | none => if A.length = B.length ∧ (rowOf A 0).length = (rowOf B 0).length then none else some 3

theorem firstO_none {a b : Option Int} (h : firstO a b = none) : a = none ∧ b = none := by
  cases a with
  | none => exact ⟨rfl, h⟩
  | some x => cases h

section
variable {a b : Option Addr} {n k ca cb : Nat} {A B : List (List Int)} {w : World}
set_option maxRecDepth 100000 in
set_option maxHeartbeats 2000000 in
theorem Mul_err {x : Int} (hA : RdM w a n ca A) (hB : RdM w b k cb B) (hq : mulErr A B = some x) :
    Calls Try.prog 58 #[.slice a n ca, .slice b k cb] w fun e w' => e = .returned (.tuple #[.slice none 0 0, .iface 64 (.int .i64 x)]) ∧ Below w.heap.size w w' := by
  unfold mulErr at hq
  obtain ⟨ga, hga⟩ : ∃ ga, groundsR 5 0 9972 A = ga := ⟨_, rfl⟩
  obtain ⟨gb, hgb⟩ : ∃ gb, groundsR 5 0 9972 B = gb := ⟨_, rfl⟩
  have C1 := Lib.hid (mat_Check_is hA hga)
  have C2 := Lib.hid (mat_Check_is hB hgb)
  rw [hga, hgb] at hq
  have kB := (Below.refl w.heap.size w).alloc (Nat.le_refl _) (.cells #[errV ga, errV gb] 27)
  rcases hf : firstO ga gb with _ | y
  · rw [hf] at hq
    have HF := Lib.hid hf
    obtain ⟨rfl, rfl⟩ := firstO_none hf
    obtain ⟨l1, l2, l3, l4, l5⟩ := groundsR_none hga
    have e1 := hA.len_eq
    have e2 := hB.len_eq
    rw [e1] at l1
    dsimp only at hq
    split at hq
    · cases hq
    · next hne =>
      injection hq with hq
      subst hq
      rw [e2] at hne
      have z : (((rowOf A 0).length : Int) != (k : Int)) = true := bne_iff_ne.2 (by omega)
      obtain ⟨ba, oa, rfl, hba, hra⟩ := (hA.below kB).at l1
      obtain ⟨ai, ci, hc0, _⟩ := hra 0 l1
      rw [Nat.add_zero] at hc0
      simp only [errV] at hc0 kB
      have b1 : (0 : Int) < (n : Int) := by omega
      have b2 : (1 : Int) ≤ (n : Int) := by omega
      clear hf hga hgb hra l2 l3 l4 l5 e1 e2 hne
      go_enter Try.func58, Try.ntmps58
      go_wp2_with (first | (go_at_call 62; first | ((with_reducible refine C1.out.mono ?_); clear C1; rintro e w' ⟨rfl, rfl⟩; simp only [errV]) | ((with_reducible refine C2.out.mono ?_); rintro e w' ⟨rfl, rfl⟩; simp only [errV])) | (go_at_call 78; refine (First_any (x := none) (y := none) (by simp [errV]) (by simp [errV])).mono ?_; rintro e w' ⟨rfl, rfl⟩; rw [HF.out]; simp only [errV]))
      go_ret2
      exact ⟨rfl, kB⟩
  · rw [hf] at hq
    have HF := Lib.hid hf
    dsimp only at hq
    injection hq with hq
    subst hq
    clear hf hga hgb
    rcases ga with _ | ga <;> rcases gb with _ | gb
    · cases HF.out
    · simp only [errV] at kB
      go_enter Try.func58, Try.ntmps58
      go_wp2_with (first | (go_at_call 62; first | ((with_reducible refine C1.out.mono ?_); clear C1; rintro e w' ⟨rfl, rfl⟩; simp only [errV]) | ((with_reducible refine C2.out.mono ?_); rintro e w' ⟨rfl, rfl⟩; simp only [errV])) | (go_at_call 78; refine (First_any (x := none) (y := (some gb)) (by simp [errV]) (by simp [errV])).mono ?_; rintro e w' ⟨rfl, rfl⟩; rw [HF.out]; simp only [errV]))
      go_ret2
      exact ⟨rfl, kB⟩
    · simp only [errV] at kB
      go_enter Try.func58, Try.ntmps58
      go_wp2_with (first | (go_at_call 62; first | ((with_reducible refine C1.out.mono ?_); clear C1; rintro e w' ⟨rfl, rfl⟩; simp only [errV]) | ((with_reducible refine C2.out.mono ?_); rintro e w' ⟨rfl, rfl⟩; simp only [errV])) | (go_at_call 78; refine (First_any (x := (some ga)) (y := none) (by simp [errV]) (by simp [errV])).mono ?_; rintro e w' ⟨rfl, rfl⟩; rw [HF.out]; simp only [errV]))
      go_ret2
      exact ⟨rfl, kB⟩
    · simp only [errV] at kB
      go_enter Try.func58, Try.ntmps58
      go_wp2_with (first | (go_at_call 62; first | ((with_reducible refine C1.out.mono ?_); clear C1; rintro e w' ⟨rfl, rfl⟩; simp only [errV]) | ((with_reducible refine C2.out.mono ?_); rintro e w' ⟨rfl, rfl⟩; simp only [errV])) | (go_at_call 78; refine (First_any (x := (some ga)) (y := (some gb)) (by simp [errV]) (by simp [errV])).mono ?_; rintro e w' ⟨rfl, rfl⟩; rw [HF.out]; simp only [errV]))
      go_ret2
      exact ⟨rfl, kB⟩

theorem grounds_dm (e : A.length = n) (g : groundsR 5 0 9972 A = none) : (1 ≤ n ∧ n ≤ 5) ∧ (1 ≤ (rowOf A 0).length ∧ (rowOf A 0).length ≤ 5) ∧ Dm n (rowOf A 0).length A ∧ EntR 0 9972 n (rowOf A 0).length A := by
  obtain ⟨l1, l2, l3, l4, l5⟩ := groundsR_none g
  rw [e] at l1 l3 l5
  exact ⟨⟨l1, by omega⟩, ⟨l2, by omega⟩, ⟨e, fun i hi => (l5 i hi).1⟩, fun i j hi hj => (l5 i hi).2 j (by rw [(l5 i hi).1]; exact hj)⟩

theorem mulErr_none (h : mulErr A B = none) : groundsR 5 0 9972 A = none ∧ groundsR 5 0 9972 B = none ∧ (rowOf A 0).length = B.length := by
  unfold mulErr at h
  split at h
  · cases h
  · next h1 =>
    split at h
    · next h2 => exact ⟨(firstO_none h1).1, (firstO_none h1).2, h2⟩
    · cases h
theorem addErr_none (h : addErr A B = none) : groundsR 5 0 9972 A = none ∧ groundsR 5 0 9972 B = none ∧ A.length = B.length ∧ (rowOf A 0).length = (rowOf B 0).length := by
  unfold addErr at h
  split at h
  · cases h
  · next h1 =>
    split at h
    · next h2 => exact ⟨(firstO_none h1).1, (firstO_none h1).2, h2⟩
    · cases h

set_option maxRecDepth 100000 in
set_option maxHeartbeats 2000000 in
theorem Mul_ok (hA : RdM w a n ca A) (hB : RdM w b k cb B) (hq : mulErr A B = none) :
    Calls Try.prog 58 #[.slice a n ca, .slice b k cb] w fun e w' => ∃ a' cap' P, e = .returned (.tuple #[.slice a' n cap', .nilIface]) ∧ OwM w' w.heap.size 22 3 a' n cap' P ∧ IsR n (rowOf B 0).length P (fun i j => mulE A B k i j % 9973) ∧ Below w.heap.size w w' := by
  obtain ⟨g1, g2, g3⟩ := mulErr_none hq
  have C1 := Lib.hid (mat_Check_is hA g1)
  have C2 := Lib.hid (mat_Check_is hB g2)
  obtain ⟨n1, n2, dA, eA⟩ := grounds_dm hA.len_eq g1
  obtain ⟨m1, m2, dB, eB⟩ := grounds_dm hB.len_eq g2
  rw [hB.len_eq] at g3
  rw [g3] at dA eA
  have kB := (Below.refl w.heap.size w).alloc (Nat.le_refl _) (.cells #[.nilIface, .nilIface] 27)
  have C3 := Lib.hid (mul_any (hA.below kB) (hB.below kB) dA dB eA eB ⟨n1.1, by omega⟩ ⟨m1.1, by omega⟩ ⟨m2.1, by omega⟩)
  have z : ((k : Int) != (k : Int)) = false := bne_eq_false_iff_eq.2 rfl
  obtain ⟨ba, oa, rfl, hba, hra⟩ := (hA.below kB).at (k := 0) (by omega)
  obtain ⟨ai, ci, hc0, _⟩ := hra 0 (by omega)
  rw [Nat.add_zero, g3] at hc0
  have b1 : (0 : Int) < (n : Int) := by omega
  have b2 : (1 : Int) ≤ (n : Int) := by omega
  have HF : Hid (firstO none none = none) := rfl
  clear hq g1 g2 g3 hra dA dB eA eB m1 m2
  go_enter Try.func58, Try.ntmps58
  go_wp2_with (first | (go_at_call 62; first | ((with_reducible refine C1.out.mono ?_); clear C1; rintro e w' ⟨rfl, rfl⟩; simp only [errV]) | ((with_reducible refine C2.out.mono ?_); rintro e w' ⟨rfl, rfl⟩; simp only [errV])) | (go_at_call 78; refine (First_any (x := none) (y := none) (by simp [errV]) (by simp [errV])).mono ?_; rintro e w' ⟨rfl, rfl⟩; rw [HF.out]; simp only [errV]) | (go_at_call 65; (with_reducible refine C3.out.mono ?_); rintro e w3 ⟨a3, cap3, P, rfl, ho3, hi3, hb3⟩))
  go_ret2
  exact ⟨a3, cap3, P, rfl, ho3.mono kB.size, hi3, kB.trans (hb3.mono kB.size)⟩

end
end Go.Proofs.Ytfocfgddlnjfmaa
