/-
  The determinant of powers is the product of differences; what factors come to, from the last one on. Plain Lean, no program in sight.
-/
import Derived.Test.YtefmllkimdaimaaDoorSum
import Derived.Test.YtefmllkimdaimaaDoorLib
import Derived.Test.YtefmllkimdaimaaDoorMat
import Derived.Test.YtefmllkimdaimaaDoorMatD
import Derived.Test.YtefmllkimdaimaaDoorDet
import Derived.Test.YtefmllkimdaimaaDoorDetMore
import Derived.Test.YtefmllkimdaimaaDoorElim
import Derived.Test.YtefmllkimdaimaaDoorTri
import Derived.Test.YtefmllkimdaimaaDoorMasseyP
namespace Go.Rk

def powM_ (x : Nat → Int) : Mx := fun i j => x i ^ j
def pairP (x : Nat → Int) (n : Nat) : Int := prodTo (fun j => prodTo (fun i => x j - x i) j) n

theorem prodTo_mul (f g : Nat → Int) (n : Nat) : prodTo (fun i => f i * g i) n = prodTo f n * prodTo g n := by
  induction n with
  | zero => rfl
  | succ n ih => rw [prodTo, prodTo, prodTo, ih]; grind

theorem pairP_succ (x : Nat → Int) (n : Nat) : pairP x (n + 1) = prodTo (fun i => x (i + 1) - x 0) n * pairP (fun i => x (i + 1)) n := by
  unfold pairP
  rw [prodTo_succ_left, ← prodTo_mul]
  show 1 * _ = _
  rw [Int.one_mul]
  exact prodTo_congr fun j _ => prodTo_succ_left _ _

theorem det_scaled {n : Nat} (d : Nat → Int) (A : Mx) : det n (fun i j => d i * A i j) = prodTo d n * det n A := by
  have h := det_mul n (fun i j => if i = j then d i else 0) A
  rw [det_lower (fun i j => if i = j then d i else 0) fun i j _ _ hij => if_neg (by omega), prodTo_congr (h := d) fun i _ => if_pos rfl] at h
  rw [← h]
  refine det_congr fun i j hi _ => ?_
  show _ = sumTo (fun k => (if i = k then d i else 0) * A k j) n
  rw [sumTo_congr (h := fun k => if k = i then d i * A k j else 0) fun k _ => by by_cases e : i = k <;> grind, sumTo_one (fun k => d i * A k j), if_pos hi]

theorem det_powers : ∀ (n : Nat) (x : Nat → Int), det n (powM_ x) = pairP x n
  | 0, _ => rfl
  | n + 1, x => by
    have ih := det_powers n fun i => x (i + 1)
    have hU : det (n + 1) (triM (fun _ => 1) (fun _ => -x 0) (fun _ => 0)) = 1 := by
      rw [det_upper _ fun i j _ _ h => by unfold triM; rw [if_neg (by omega), if_neg (by omega)]; split <;> rfl]
      have : ∀ m, prodTo (fun i => triM (fun _ => 1) (fun _ => -x 0) (fun _ => 0) i i) m = 1 := fun m => by
        induction m with
        | zero => rfl
        | succ m ih => rw [prodTo, ih]; simp [triM]
      exact this _
    have hW := det_mul (n + 1) (powM_ x) (triM (fun _ => 1) (fun _ => -x 0) (fun _ => 0))
    rw [hU, Int.mul_one] at hW
    rw [← hW, det_congr (B := fun i j => if j = 0 then 1 else x i ^ (j - 1) * (x i - x 0)) fun i j _ hj => ?_]
    · show sumTo (fun j => sg j * _ * _) (n + 1) = _
      rw [sumTo_succ_left, sumTo_congr (h := fun _ => 0) fun j _ => by
        show sg (j + 1) * (x 0 ^ j * (x 0 - x 0)) * _ = 0
        rw [Int.sub_self, Int.mul_zero, Int.mul_zero, Int.zero_mul], sumTo_zero, Int.add_zero, pairP_succ, ← ih, ← det_scaled]
      show 1 * 1 * _ = _
      rw [Int.mul_one, Int.one_mul]
      refine det_congr fun i j _ _ => ?_
      unfold minor
      rw [skip_zero, skip_zero]
      show x (i + 1) ^ j * (x (i + 1) - x 0) = (x (i + 1) - x 0) * x (i + 1) ^ j
      rw [Int.mul_comm]
    · show sumTo (fun k => x i ^ k * triM _ _ _ k j) (n + 1) = _
      rw [sumTo_congr (h := fun k => (if k = j then x i ^ k else 0) + (if k = j - 1 then (if 0 < j then x i ^ k * -x 0 else 0) else 0)) fun k _ => by unfold triM; grind, sumTo_add, sumTo_one (fun k => x i ^ k), sumTo_one (fun k => if 0 < j then x i ^ k * -x 0 else 0), if_pos hj, if_pos (by omega)]
      by_cases h : j = 0
      · subst h; simp
      · obtain ⟨m, rfl⟩ : ∃ m, j = m + 1 := ⟨j - 1, by omega⟩
        rw [if_pos (by omega), if_neg (by omega), Nat.add_sub_cancel, Int.pow_succ]
        grind

theorem nz_mul {x y : Int} (hx : ¬ Eqm x 0) (hy : ¬ Eqm y 0) : ¬ Eqm (x * y) 0 := fun h => by
  obtain ⟨v, hv⟩ := inv_ex hx
  have h1 : Eqm (v * (x * y)) 0 := (Eqm.mul (Eqm.refl v) h).trans (Eqm.of_eq (Int.mul_zero _))
  have h2 : Eqm (v * (x * y)) y := by
    rw [← Int.mul_assoc]
    exact (Eqm.mul hv (Eqm.refl y)).trans (Eqm.of_eq (Int.one_mul _))
  exact hy (h2.symm.trans h1)
theorem prodTo_nz {f : Nat → Int} {n : Nat} : (¬ Eqm (prodTo f n) 0) ↔ ∀ i, i < n → ¬ Eqm (f i) 0 := by
  induction n with
  | zero => exact ⟨fun _ i h => absurd h (Nat.not_lt_zero _), fun _ => by show ¬ (1:Int) % 9973 = 0 % 9973; decide⟩
  | succ n ih =>
    rw [prodTo]
    constructor
    · intro h i hi
      by_cases e : i = n
      · subst e
        exact fun z => h ((Eqm.mul (Eqm.refl _) z).trans (Eqm.of_eq (Int.mul_zero _)))
      · exact ih.1 (fun z => h ((Eqm.mul z (Eqm.refl _)).trans (Eqm.of_eq (Int.zero_mul _)))) i (by omega)
    · intro h
      exact nz_mul (ih.2 fun i hi => h i (by omega)) (h n (Nat.lt_succ_self n))

/-- The product of differences, as it is reckoned: the rounds of one row, and those of all. -/
def pinn (l : List Int) (j : Nat) (o : Int) : Nat → Int
  | 0 => o
  | i + 1 => pinn l j o i * ((ix l j - ix l i) % 9973) % 9973
def pout (l : List Int) : Nat → Int
  | 0 => 1
  | j + 1 => pinn l j (pout l j) j
theorem pinn_eqm (l : List Int) (j : Nat) (o : Int) : ∀ i, Eqm (pinn l j o i) (o * prodTo (fun i => ix l j - ix l i) i)
  | 0 => Eqm.of_eq (Int.mul_one _).symm
  | i + 1 => by
    rw [pinn, prodTo]
    refine (Eqm.mod _).trans (((pinn_eqm l j o i).mul (Eqm.mod _)).trans (Eqm.of_eq ?_))
    grind
theorem pinn_in {l : List Int} {j : Nat} {o : Int} (h : 0 ≤ o ∧ o ≤ 9972) : ∀ i, 0 ≤ pinn l j o i ∧ pinn l j o i ≤ 9972
  | 0 => h
  | i + 1 => by rw [pinn]; omega
theorem pout_in (l : List Int) : ∀ j, 0 ≤ pout l j ∧ pout l j ≤ 9972
  | 0 => ⟨show (0:Int) ≤ 1 by decide, show (1:Int) ≤ 9972 by decide⟩
  | j + 1 => pinn_in (pout_in l j) j
theorem pout_eqm (l : List Int) : ∀ j, Eqm (pout l j) (pairP (ix l) j)
  | 0 => Eqm.refl _
  | j + 1 => by
    rw [pout]
    show Eqm _ (prodTo _ j * prodTo _ j)
    exact (pinn_eqm l j _ j).trans ((pout_eqm l j).mul (Eqm.refl _))
theorem pout_det {l : List Int} {n : Nat} {M : Mx} (hM : ∀ i j, i < n → j < n → M i j = powm (ix l i) j) : det n M % 9973 = pout l n := by
  have h : Eqm (det n M) (pout l n) := by
    refine (det_eqm (B := powM_ (ix l)) fun i j hi hj => ?_).trans ?_
    · rw [hM i j hi hj]; exact Eqm.mod _
    · rw [det_powers]; exact (pout_eqm l n).symm
  have := pout_in l n
  unfold Eqm at h
  omega
theorem pout_zero {l : List Int} {n : Nat} (hl : In 0 9972 l) (hn : n ≤ l.length) : pout l n = 0 ↔ ∃ j, j < n ∧ ∃ i, i < j ∧ ix l i = ix l j := by
  have h : (¬ pout l n = 0) ↔ ∀ j, j < n → ∀ i, i < j → ¬ ix l i = ix l j := by
    have h1 : (¬ pout l n = 0) ↔ ¬ Eqm (pairP (ix l) n) 0 := by
      have a := pout_in l n
      have b := pout_eqm l n
      unfold Eqm at b ⊢
      omega
    rw [h1]
    unfold pairP
    rw [prodTo_nz]
    constructor
    · intro h j hj i hi
      have := prodTo_nz.1 (h j hj) i hi
      intro e
      rw [e, Int.sub_self] at this
      exact this (Eqm.refl _)
    · intro h j hj
      refine prodTo_nz.2 fun i hi z => h j hj i hi ?_
      have a := hl j (by omega)
      have b := hl i (by omega)
      unfold Eqm at z
      omega
  constructor
  · intro z
    refine Classical.byContradiction fun c => ?_
    exact h.2 (fun j hj i hi e => c ⟨j, hj, i, hi, e⟩) z
  · rintro ⟨j, hj, i, hi, e⟩
    exact Classical.byContradiction fun z => h.1 z j hj i hi e

/-- What factors come to, from the last one on: k of them. -/
def hornF (l : List Int) (x : Int) : Nat → Int
  | 0 => 0
  | k + 1 => (hornF l x k * x + ix l (l.length - 1 - k)) % 9973
theorem hornF_in (l : List Int) (x : Int) : ∀ k, 0 ≤ hornF l x k ∧ hornF l x k ≤ 9972
  | 0 => ⟨show (0:Int) ≤ 0 by decide, show (0:Int) ≤ 9972 by decide⟩
  | k + 1 => by rw [hornF]; omega
theorem hornF_eqm (l : List Int) (x : Int) : ∀ k, k ≤ l.length → Eqm (hornF l x k) (sumTo (fun t => ix l (l.length - k + t) * x ^ t) k)
  | 0, _ => Eqm.refl _
  | k + 1, h => by
    rw [hornF, sumTo_succ_left]
    refine (Eqm.mod _).trans (((((hornF_eqm l x k (by omega)).mul (Eqm.refl x))).add (Eqm.refl _)).trans (Eqm.of_eq ?_))
    rw [Nat.add_zero, Int.pow_zero, Int.mul_one, show l.length - 1 - k = l.length - (k + 1) from by omega, Int.add_comm, Int.mul_comm, ← sumTo_mul]
    refine congrArg (fun z => ix l (l.length - (k + 1)) + z) (sumTo_congr fun t ht => ?_)
    rw [show l.length - (k + 1) + (t + 1) = l.length - k + t from by omega, Int.pow_succ]
    grind
/-- What factors come to at a number, by the prime. -/
def atV (l : List Int) (x : Int) : Int := sumTo (fun t => ix l t * x ^ t) l.length % 9973
theorem hornF_full (l : List Int) (x : Int) : hornF l x l.length = atV l x := by
  have h := hornF_eqm l x l.length (Nat.le_refl _)
  have b := hornF_in l x l.length
  unfold atV
  simp only [Nat.sub_self, Nat.zero_add] at h
  unfold Eqm at h
  omega
end Go.Rk
