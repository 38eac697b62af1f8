/-
  A small change and what undoes it: the products of a column and a row added to a matrix (Sherman, Morrison). No program in sight.
-/
import Derived.Test.YtkielldinghmbaaDoorMg7
namespace Go.Rk
open Go.RowKit

theorem eqm_iff {a b : Int} : Eqm a b ↔ ∃ q, a = b + 9973 * q := by
  unfold Eqm
  constructor
  · intro h; exact ⟨a / 9973 - b / 9973, by omega⟩
  · rintro ⟨q, rfl⟩; omega

theorem sumTo_lin4 (f g h l : Nat → Int) (a b c d : Int) (n : Nat) : sumTo (fun t => a * f t + b * g t + c * h t + d * l t) n = a * sumTo f n + b * sumTo g n + c * sumTo h n + d * sumTo l n := by
  induction n with
  | zero => simp [sumTo]
  | succ n ih => simp only [sumTo]; rw [ih]; grind

def colM (n : Nat) (X : Mx) (u : Nat → Int) (i : Nat) : Int := sumTo (fun j => X i j * u j) n
def rowM (n : Nat) (X : Mx) (v : Nat → Int) (j : Nat) : Int := sumTo (fun i => v i * X i j) n
def chgM (A : Mx) (u v : Nat → Int) : Mx := fun i j => A i j + u i * v j

section
variable {n : Nat} {A X : Mx} {u v : Nat → Int} {k o : Int}
theorem col_back (h : EqM n n (mulM n A X) oneM) {i : Nat} (hi : i < n) : Eqm (colM n A (colM n X u) i) (u i) := by
  have e : EqM n 1 (mulM n A (mulM n X fun s _ => u s)) (fun s _ => u s) := by
    rw [← mulM_go]
    exact (EqM.mul h (EqM.refl n 1 _)).trans fun i j hi _ => Eqm.of_eq (one_mulM _ hi j)
  exact e i 0 hi (by omega)
theorem chg_inv (h : EqM n n (mulM n A X) oneM) (hk : Eqm (1 + sumTo (fun i => v i * colM n X u i) n) k) (ho : Eqm (k * o) 1) :
    EqM n n (mulM n (chgM A u v) fun i j => X i j - colM n X u i * rowM n X v j * o) oneM := by
  intro i j hi hj
  have e : mulM n (chgM A u v) (fun i j => X i j - colM n X u i * rowM n X v j * o) i j
      = 1 * sumTo (fun t => A i t * X t j) n + u i * sumTo (fun t => v t * X t j) n + (-(rowM n X v j * o)) * sumTo (fun t => A i t * colM n X u t) n + (-(u i * rowM n X v j * o)) * sumTo (fun t => v t * colM n X u t) n := by
    rw [← sumTo_lin4]
    exact sumTo_congr fun t _ => by unfold chgM; grind
  rw [e]
  obtain ⟨q1, h1⟩ := eqm_iff.1 (h i j hi hj)
  obtain ⟨q2, h2⟩ := eqm_iff.1 (col_back (u := u) h hi)
  obtain ⟨q3, h3⟩ := eqm_iff.1 hk
  obtain ⟨q4, h4⟩ := eqm_iff.1 ho
  unfold mulM at h1
  unfold colM at h2
  have h5 : sumTo (fun t => v t * X t j) n = rowM n X v j := rfl
  have h6 : sumTo (fun t => A i t * colM n X u t) n = u i + 9973 * q2 := h2
  rw [h1, h5, h6]
  generalize sumTo (fun t => v t * colM n X u t) n = S at h3 ⊢
  generalize rowM n X v j = r
  generalize oneM i j = z
  generalize u i = y
  refine eqm_iff.2 ⟨q1 - r * o * q2 - y * r * q4 - y * r * o * q3, ?_⟩
  obtain rfl : S = k + 9973 * q3 - 1 := by omega
  grind
theorem chg_none (h : EqM n n (mulM n A X) oneM) (hk : Eqm (1 + sumTo (fun i => v i * colM n X u i) n) 0) : det n (chgM A u v) % 9973 = 0 := by
  rcases Decidable.em (det n (chgM A u v) % 9973 = 0) with hd | hd
  · exact hd
  exfalso
  have Y := inv_of_adj (n := n) (A := chgM A u v) (X := fun i j => adj n (chgM A u v) i j * powm (det n (chgM A u v) % 9973) 9971) (over_inv hd) fun _ _ _ _ => Eqm.refl _
  have z : ∀ i, i < n → Eqm (colM n (chgM A u v) (colM n X u) i) 0 := by
    intro i hi
    have e : colM n (chgM A u v) (colM n X u) i = 1 * sumTo (fun t => A i t * colM n X u t) n + u i * sumTo (fun t => v t * colM n X u t) n + 0 * sumTo (fun _ => 0) n + 0 * sumTo (fun _ => 0) n := by
      rw [← sumTo_lin4]
      exact sumTo_congr fun t _ => by unfold chgM; grind
    rw [e]
    obtain ⟨q2, h2⟩ := eqm_iff.1 (col_back (u := u) h hi)
    obtain ⟨q3, h3⟩ := eqm_iff.1 hk
    have h6 : sumTo (fun t => A i t * colM n X u t) n = u i + 9973 * q2 := h2
    rw [h6]
    generalize sumTo (fun t => v t * colM n X u t) n = S at h3 ⊢
    obtain rfl : S = 9973 * q3 - 1 := by omega
    refine eqm_iff.2 ⟨q2 + u i * q3, ?_⟩
    grind
  have c0 : ∀ i, i < n → Eqm (colM n X u i) 0 := by
    intro i hi
    refine (col_back (u := colM n X u) Y.left hi).symm.trans ?_
    unfold colM at z ⊢
    refine (sumTo_eqm (h := fun _ => 0) fun t ht => ?_).trans (Eqm.of_eq (sumTo_zero n))
    have := (Eqm.refl ((fun i j => adj n (chgM A u v) i j * powm (det n (chgM A u v) % 9973) 9971) i t)).mul (z t ht)
    rwa [Int.mul_zero] at this
  have s0 : Eqm (sumTo (fun i => v i * colM n X u i) n) 0 := by
    refine (sumTo_eqm (h := fun _ => 0) fun t ht => ?_).trans (Eqm.of_eq (sumTo_zero n))
    have := (Eqm.refl (v t)).mul (c0 t ht)
    rwa [Int.mul_zero] at this
  have := (Eqm.refl 1).add s0
  have := this.symm.trans hk
  unfold Eqm at this
  omega
end
end Go.Rk
