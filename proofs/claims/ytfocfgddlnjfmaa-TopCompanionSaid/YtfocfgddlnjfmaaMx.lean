/-
  Matrices by the prime: products go together, powers add up. No program in sight.
-/
import Derived.Test.YtfocfgddlnjfmaaRect
import Derived.Test.YtfocfgddlnjfmaaDet
import Derived.Test.YtfocfgddlnjfmaaDetMore
namespace Go.Rk
open Go.RowKit

/-- A matrix of so many rows and columns, written out. -/
def mkM (n c : Nat) (F : Nat → Nat → Int) : List (List Int) := (List.range n).map fun i => (List.range c).map fun j => F i j
theorem mkM_row {n c : Nat} {F : Nat → Nat → Int} {i : Nat} (hi : i < n) : rowOf (mkM n c F) i = (List.range c).map fun j => F i j := by
  rw [rowOf_lt (by simp [mkM]; exact hi)]; simp [mkM]
theorem mkM_is (n c : Nat) (F : Nat → Nat → Int) : IsR n c (mkM n c F) F := by
  refine ⟨⟨by simp [mkM], fun i hi => by rw [mkM_row hi]; simp⟩, fun i j hi hj => ?_⟩
  unfold en
  rw [mkM_row hi, ix_lt (by simp; exact hj)]
  simp
theorem IsR.eq {n c : Nat} {M : List (List Int)} {F : Nat → Nat → Int} (h : IsR n c M F) : M = mkM n c F :=
  h.1.ext (mkM_is n c F).1 fun i j hi hj => by rw [h.2 i j hi hj, (mkM_is n c F).2 i j hi hj]

/-- Two matrices that are one by the prime, in the first n rows and c columns. -/
def EqM (n c : Nat) (A B : Mx) : Prop := ∀ i j, i < n → j < c → Eqm (A i j) (B i j)
theorem EqM.refl (n c : Nat) (A : Mx) : EqM n c A A := fun _ _ _ _ => Eqm.refl _
theorem EqM.symm {n c : Nat} {A B : Mx} (h : EqM n c A B) : EqM n c B A := fun i j hi hj => (h i j hi hj).symm
theorem EqM.trans {n c : Nat} {A B C : Mx} (h : EqM n c A B) (k : EqM n c B C) : EqM n c A C := fun i j hi hj => (h i j hi hj).trans (k i j hi hj)
theorem sumTo_eqm {g h : Nat → Int} {n : Nat} (e : ∀ i, i < n → Eqm (g i) (h i)) : Eqm (sumTo g n) (sumTo h n) := by
  induction n with
  | zero => exact Eqm.refl _
  | succ n ih => exact Eqm.add (ih fun i hi => e i (by omega)) (e n (by omega))
theorem EqM.mul {n k c : Nat} {A A' B B' : Mx} (h : EqM n k A A') (g : EqM k c B B') : EqM n c (mulM k A B) (mulM k A' B') :=
  fun i j hi hj => sumTo_eqm fun t ht => Eqm.mul (h i t hi ht) (g t j ht hj)
theorem mulM_go (k c : Nat) (A B C : Mx) : mulM c (mulM k A B) C = mulM k A (mulM c B C) := by
  funext i j
  unfold mulM
  rw [sumTo_congr (h := fun t => sumTo (fun s => A i s * B s t * C t j) k) fun t _ => by rw [Int.mul_comm, ← sumTo_mul]; exact sumTo_congr fun s _ => Int.mul_comm _ _]
  rw [sumTo_swap]
  refine sumTo_congr fun s _ => ?_
  rw [← sumTo_mul]
  exact sumTo_congr fun t _ => Int.mul_assoc _ _ _
theorem mulM_add (k : Nat) (A B C : Mx) : mulM k A (fun i j => B i j + C i j) = fun i j => mulM k A B i j + mulM k A C i j := by
  funext i j
  unfold mulM
  rw [← sumTo_add]
  exact sumTo_congr fun t _ => Int.mul_add _ _ _
theorem mulM_tr (k : Nat) (A B : Mx) : trM (mulM k A B) = mulM k (trM B) (trM A) := by
  funext i j
  unfold trM mulM
  exact sumTo_congr fun t _ => Int.mul_comm _ _

/-- The one that changes nothing. -/
def oneM : Mx := fun i j => if i = j then 1 else 0
theorem sumTo_pick (g : Nat → Int) {n i : Nat} (hi : i < n) : sumTo (fun t => (if i = t then 1 else 0) * g t) n = g i := by
  induction n with
  | zero => omega
  | succ n ih =>
    rw [sumTo]
    by_cases e : i = n
    · subst e
      rw [if_pos rfl, sumTo_congr (h := fun _ => 0) fun t ht => by rw [if_neg (by omega), Int.zero_mul], sumTo_zero]
      omega
    · rw [ih (by omega), if_neg e]
      omega
theorem one_mulM {n : Nat} (A : Mx) {i : Nat} (hi : i < n) (j : Nat) : mulM n oneM A i j = A i j := sumTo_pick (fun t => A t j) hi
theorem mulM_one {n : Nat} (A : Mx) (i : Nat) {j : Nat} (hj : j < n) : mulM n A oneM i j = A i j := by
  unfold mulM oneM
  have e (t : Nat) : A i t * (if t = j then 1 else 0) = (if j = t then 1 else 0) * A i t := by
    rw [Int.mul_comm]
    by_cases h : t = j
    · rw [if_pos h, if_pos h.symm]
    · rw [if_neg h, if_neg fun h2 => h h2.symm]
  rw [sumTo_congr fun t _ => e t]
  exact sumTo_pick (fun t => A i t) hj

def powM (n : Nat) (A : Mx) : Nat → Mx
  | 0 => oneM
  | e + 1 => mulM n A (powM n A e)
theorem powM_congr {n : Nat} {A B : Mx} (h : EqM n n A B) : ∀ e, EqM n n (powM n A e) (powM n B e)
  | 0 => EqM.refl _ _ _
  | e + 1 => EqM.mul h (powM_congr h e)
theorem powM_add {n : Nat} (A : Mx) (a b : Nat) : EqM n n (mulM n (powM n A a) (powM n A b)) (powM n A (a + b)) := by
  induction a with
  | zero => rw [Nat.zero_add]; exact fun i _ hi _ => Eqm.of_eq (one_mulM _ hi _)
  | succ a ih =>
    rw [show a + 1 + b = (a + b) + 1 by omega, powM, mulM_go]
    exact EqM.mul (EqM.refl _ _ _) ih
theorem powM_one {n : Nat} (A : Mx) : EqM n n (powM n A 1) A := fun i _ _ hj => Eqm.of_eq (mulM_one A i hj)
theorem powM_mul {n : Nat} (A : Mx) (a b : Nat) : EqM n n (powM n (powM n A a) b) (powM n A (a * b)) := by
  induction b with
  | zero => exact EqM.refl _ _ _
  | succ b ih =>
    rw [powM, Nat.mul_succ, Nat.add_comm]
    exact (EqM.mul (EqM.refl _ _ _) ih).trans (powM_add A a (a * b))
theorem powM_two {n : Nat} (A : Mx) (k : Nat) : EqM n n (powM n (mulM n A A) k) (powM n A (2 * k)) := by
  refine (powM_congr ?_ k).trans (powM_mul A 2 k)
  exact EqM.mul (EqM.refl _ _ _) (powM_one A).symm
/-- A step of powers by halves. -/
theorem pow_even {n : Nat} (X A : Mx) (k : Nat) : EqM n n (mulM n X (powM n (mulM n A A) k)) (mulM n X (powM n A (2 * k))) := EqM.mul (EqM.refl _ _ _) (powM_two A k)
theorem pow_odd {n : Nat} (X A : Mx) (k : Nat) : EqM n n (mulM n (mulM n X A) (powM n (mulM n A A) k)) (mulM n X (powM n A (2 * k + 1))) := by
  rw [mulM_go]
  exact EqM.mul (EqM.refl _ _ _) (EqM.mul (EqM.refl _ _ _) (powM_two A k))
end Go.Rk
