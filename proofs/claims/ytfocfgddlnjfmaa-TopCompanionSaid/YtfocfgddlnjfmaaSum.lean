/-
  Finite sums of integers, and numbers modulo 9973. Plain Lean, no program in sight.
-/
import Derived.Test.YtfocfgddlnjfmaaLib
namespace Go.Rk

def sumTo (g : Nat → Int) : Nat → Int
  | 0 => 0
  | n + 1 => sumTo g n + g n

theorem sumTo_congr {g h : Nat → Int} {n : Nat} (e : ∀ i, i < n → g i = h i) : sumTo g n = sumTo h n := by
  induction n with
  | zero => rfl
  | succ n ih => rw [sumTo, sumTo, ih fun i hi => e i (Nat.lt_succ_of_lt hi), e n (Nat.lt_succ_self n)]

theorem sumTo_add (g h : Nat → Int) (n : Nat) : sumTo (fun i => g i + h i) n = sumTo g n + sumTo h n := by
  induction n with
  | zero => rfl
  | succ n ih => rw [sumTo, sumTo, sumTo, ih]; omega

theorem sumTo_mul (c : Int) (g : Nat → Int) (n : Nat) : sumTo (fun i => c * g i) n = c * sumTo g n := by
  induction n with
  | zero => simp [sumTo]
  | succ n ih => rw [sumTo, sumTo, ih, Int.mul_add]

theorem sumTo_zero (n : Nat) : sumTo (fun _ => 0) n = 0 := by
  induction n with
  | zero => rfl
  | succ n ih => rw [sumTo, ih]; rfl

theorem sumTo_swap (g : Nat → Nat → Int) (n m : Nat) : sumTo (fun i => sumTo (fun j => g i j) m) n = sumTo (fun j => sumTo (fun i => g i j) n) m := by
  induction n with
  | zero => simp [sumTo, sumTo_zero]
  | succ n ih =>
    simp only [sumTo]
    rw [ih, ← sumTo_add]

theorem sumTo_succ_left (g : Nat → Int) (n : Nat) : sumTo g (n + 1) = g 0 + sumTo (fun i => g (i + 1)) n := by
  induction n with
  | zero => simp [sumTo]
  | succ n ih => rw [sumTo, ih, sumTo]; omega

/-- The same modulo 9973. -/
def Eqm (a b : Int) : Prop := a % 9973 = b % 9973

theorem Eqm.refl (a : Int) : Eqm a a := rfl
theorem Eqm.symm {a b : Int} (h : Eqm a b) : Eqm b a := Eq.symm h
theorem Eqm.trans {a b c : Int} (h : Eqm a b) (k : Eqm b c) : Eqm a c := Eq.trans h k
theorem Eqm.of_eq {a b : Int} (h : a = b) : Eqm a b := by rw [h]; rfl
theorem Eqm.mod (a : Int) : Eqm (a % 9973) a := Int.emod_emod_of_dvd a (Int.dvd_refl 9973)
theorem Eqm.add {a b c d : Int} (h : Eqm a b) (k : Eqm c d) : Eqm (a + c) (b + d) := by
  unfold Eqm at *; rw [Int.add_emod, h, k, ← Int.add_emod]
theorem Eqm.mul {a b c d : Int} (h : Eqm a b) (k : Eqm c d) : Eqm (a * c) (b * d) := by
  unfold Eqm at *; rw [Int.mul_emod, h, k, ← Int.mul_emod]
theorem Eqm.neg {a b : Int} (h : Eqm a b) : Eqm (-a) (-b) := by unfold Eqm at *; omega
theorem Eqm.sub {a b c d : Int} (h : Eqm a b) (k : Eqm c d) : Eqm (a - c) (b - d) := by unfold Eqm at *; omega
theorem Eqm.eq {a b : Int} (h : Eqm a b) (ha : 0 ≤ a ∧ a ≤ 9972) (hb : 0 ≤ b ∧ b ≤ 9972) : a = b := by unfold Eqm at h; omega
theorem Eqm.sum {g h : Nat → Int} {n : Nat} (e : ∀ i, i < n → Eqm (g i) (h i)) : Eqm (sumTo g n) (sumTo h n) := by
  induction n with
  | zero => rfl
  | succ n ih => exact (ih fun i hi => e i (Nat.lt_succ_of_lt hi)).add (e n (Nat.lt_succ_self n))

end Go.Rk
