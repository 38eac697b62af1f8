/-
  Forms: Sylvester's criterion by the corner's square; Hadamard's bound by Gram's matrix. Plain Lean, no program in sight.
-/
import Derived.Test.YtefmllkimdaimaaDoorSum
import Derived.Test.YtefmllkimdaimaaDoorDet
import Derived.Test.YtefmllkimdaimaaDoorDetMore
import Derived.Test.YtefmllkimdaimaaDoorBareissP
namespace Go.Rk

def quad (n : Nat) (M : Mx) (x : Nat → Int) : Int := sumTo (fun i => sumTo (fun j => M i j * x i * x j) n) n
def Sym (n : Nat) (M : Mx) : Prop := ∀ i j, i < n → j < n → M i j = M j i
def PD (n : Nat) (M : Mx) : Prop := ∀ x : Nat → Int, (∃ i, i < n ∧ x i ≠ 0) → 0 < quad n M x
def PS (n : Nat) (M : Mx) : Prop := ∀ x : Nat → Int, 0 ≤ quad n M x
def lin0 (n : Nat) (M : Mx) (y : Nat → Int) : Int := sumTo (fun j => M 0 (j + 1) * y j) n
def subM (M : Mx) : Mx := fun i j => M (i + 1) (j + 1)

theorem quad_congr {n : Nat} {M N : Mx} {x y : Nat → Int} (h : ∀ i j, i < n → j < n → M i j = N i j) (e : ∀ i, i < n → x i = y i) : quad n M x = quad n N y :=
  sumTo_congr fun i hi => sumTo_congr fun j hj => by rw [h i j hi hj, e i hi, e j hj]
theorem quad_zero {n : Nat} {M : Mx} {x : Nat → Int} (e : ∀ i, i < n → x i = 0) : quad n M x = 0 := by
  unfold quad
  rw [sumTo_congr (h := fun _ => 0) fun i hi => by
    rw [sumTo_congr (h := fun _ => 0) fun j _ => by rw [e i hi, Int.mul_zero, Int.zero_mul], sumTo_zero], sumTo_zero]
theorem quad_split {n : Nat} {M : Mx} (h : Sym (n + 1) M) (x : Nat → Int) : quad (n + 1) M x = M 0 0 * x 0 * x 0 + 2 * (x 0 * lin0 n M fun j => x (j + 1)) + quad n (subM M) fun j => x (j + 1) := by
  unfold quad lin0 subM
  rw [sumTo_succ_left]
  rw [sumTo_succ_left (fun j => M 0 j * x 0 * x j)]
  have e1 : sumTo (fun i => M 0 (i + 1) * x 0 * x (i + 1)) n = x 0 * sumTo (fun j => M 0 (j + 1) * x (j + 1)) n := by
    rw [← sumTo_mul]
    exact sumTo_congr fun j _ => by rw [Int.mul_comm (M 0 (j + 1)) (x 0), Int.mul_assoc]
  have e2 : sumTo (fun i => sumTo (fun j => M (i + 1) j * x (i + 1) * x j) (n + 1)) n = x 0 * sumTo (fun j => M 0 (j + 1) * x (j + 1)) n + sumTo (fun i => sumTo (fun j => M (i + 1) (j + 1) * x (i + 1) * x (j + 1)) n) n := by
    rw [← sumTo_mul, ← sumTo_add]
    refine sumTo_congr fun i hi => ?_
    rw [sumTo_succ_left, h (i + 1) 0 (by omega) (by omega)]
    congr 1
    rw [Int.mul_comm]
  rw [e1, e2]
  show _ = M 0 0 * x 0 * x 0 + 2 * (x 0 * sumTo (fun j => M 0 (j + 1) * x (j + 1)) n) + sumTo (fun i => sumTo (fun j => M (i + 1) (j + 1) * x (i + 1) * x (j + 1)) n) n
  omega
theorem quad_chio {n : Nat} {M : Mx} (h : Sym (n + 1) M) (y : Nat → Int) : quad n (chio M) y = M 0 0 * quad n (subM M) y - lin0 n M y * lin0 n M y := by
  have e1 : ∀ i, i < n → sumTo (fun j => chio M i j * y i * y j) n = M 0 0 * sumTo (fun j => subM M i j * y i * y j) n + -lin0 n M y * (M 0 (i + 1) * y i) := fun i hi => by
    unfold lin0
    rw [← sumTo_mul, Int.neg_mul, Int.mul_comm (sumTo _ n), ← Int.neg_mul, ← sumTo_mul, ← sumTo_add]
    refine sumTo_congr fun j hj => ?_
    unfold chio subM
    rw [h (i + 1) 0 (by omega) (by omega)]
    grind
  unfold quad
  rw [sumTo_congr e1, sumTo_add, sumTo_mul, sumTo_mul]
  unfold lin0
  rw [Int.neg_mul]
  omega
/-- The corner's square. -/
theorem quad_square {n : Nat} {M : Mx} (h : Sym (n + 1) M) (x : Nat → Int) :
    M 0 0 * quad (n + 1) M x = (M 0 0 * x 0 + lin0 n M fun j => x (j + 1)) * (M 0 0 * x 0 + lin0 n M fun j => x (j + 1)) + quad n (chio M) fun j => x (j + 1) := by
  rw [quad_split h, quad_chio h]
  generalize lin0 n M (fun j => x (j + 1)) = L
  generalize quad n (subM M) (fun j => x (j + 1)) = Q
  grind
theorem chio_sym {n : Nat} {M : Mx} (h : Sym (n + 1) M) : Sym n (chio M) := fun i j hi hj => by
  unfold chio
  rw [h (i + 1) (j + 1) (by omega) (by omega), h (i + 1) 0 (by omega) (by omega), h 0 (j + 1) (by omega) (by omega), Int.mul_comm (M 0 (i + 1))]

theorem sq_nonneg' (a : Int) : 0 ≤ a * a := by
  rcases Int.le_total 0 a with h | h
  · exact Int.mul_nonneg h h
  · have := Int.mul_nonneg (show 0 ≤ -a by omega) (show 0 ≤ -a by omega)
    rwa [Int.neg_mul_neg] at this
theorem sq_pos' {a : Int} (h : a ≠ 0) : 0 < a * a := by
  have h1 := sq_nonneg' a
  have h2 : a * a ≠ 0 := Int.mul_ne_zero h h
  omega
theorem pos_of_mul {a b : Int} (ha : 0 < a) (h : 0 < a * b) : 0 < b := by
  refine Int.lt_of_not_ge fun c => ?_
  have := Int.mul_nonneg (show 0 ≤ a by omega) (show 0 ≤ -b by omega)
  rw [Int.mul_neg] at this
  omega
theorem nonneg_of_mul {a b : Int} (ha : 0 < a) (h : 0 ≤ a * b) : 0 ≤ b := by
  refine Int.not_lt.1 fun c => ?_
  have := Int.mul_pos ha (show 0 < -b by omega)
  rw [Int.mul_neg] at this
  omega
theorem pow_pos' {a : Int} (h : 0 < a) (k : Nat) : 0 < a ^ k := by
  induction k with
  | zero => rw [Int.pow_zero]; decide
  | succ k ih => rw [Int.pow_succ]; exact Int.mul_pos ih h
theorem det_one (M : Mx) : det 1 M = M 0 0 := by
  show 0 + sg 0 * M 0 0 * 1 = _
  simp [sg]

theorem sylvester_to : ∀ (n : Nat) {M : Mx}, Sym n M → (∀ k, 1 ≤ k → k ≤ n → 0 < det k M) → PD n M
  | 0, _, _, _ => fun _ ⟨i, hi, _⟩ => absurd hi (Nat.not_lt_zero i)
  | n + 1, M, hs, hd => fun x ⟨i, hi, hx⟩ => by
    have m0 : 0 < M 0 0 := by have := hd 1 (Nat.le_refl _) (by omega); rwa [det_one] at this
    have ih := sylvester_to n (chio_sym hs) fun k h1 h2 => by
      rw [det_chio_pos M h1 (by omega)]
      exact Int.mul_pos (pow_pos' m0 _) (hd (k + 1) (by omega) (by omega))
    have sq := quad_square hs x
    refine pos_of_mul m0 ?_
    rw [sq]
    by_cases c : ∃ j, j < n ∧ x (j + 1) ≠ 0
    · have := ih (fun j => x (j + 1)) c
      have := sq_nonneg' (M 0 0 * x 0 + lin0 n M fun j => x (j + 1))
      omega
    · have z : ∀ j, j < n → x (j + 1) = 0 := fun j hj => Classical.byContradiction fun h => c ⟨j, hj, h⟩
      rw [quad_zero (M := chio M) z]
      have l0 : (lin0 n M fun j => x (j + 1)) = 0 := by
        unfold lin0
        rw [sumTo_congr (h := fun _ => 0) fun j hj => by simp only [z j hj, Int.mul_zero], sumTo_zero]
      rw [l0, Int.add_zero, Int.add_zero]
      have x0 : x 0 ≠ 0 := by
        rcases i with _ | i
        · exact hx
        · exact absurd (z i (by omega)) hx
      exact sq_pos' (Int.mul_ne_zero (by omega) x0)

theorem lin0_smul (n : Nat) (M : Mx) (a : Int) (y : Nat → Int) : (lin0 n M fun j => a * y j) = a * lin0 n M y := by
  unfold lin0
  rw [← sumTo_mul]
  exact sumTo_congr fun j _ => by grind
theorem quad_smul (n : Nat) (M : Mx) (a : Int) (y : Nat → Int) : (quad n M fun j => a * y j) = a * a * quad n M y := by
  unfold quad
  rw [← sumTo_mul]
  refine sumTo_congr fun i _ => ?_
  rw [← sumTo_mul]
  exact sumTo_congr fun j _ => by grind

theorem chio_lift {n : Nat} {M : Mx} (hs : Sym (n + 1) M) (y : Nat → Int) : M 0 0 * quad (n + 1) M (fun j => if j = 0 then -lin0 n M y else M 0 0 * y (j - 1)) = M 0 0 * M 0 0 * quad n (chio M) y := by
  have sq := quad_square hs (fun j => if j = 0 then -lin0 n M y else M 0 0 * y (j - 1))
  simp only [if_true, Nat.add_one_ne_zero, if_false, Nat.add_sub_cancel] at sq
  rw [lin0_smul, quad_smul] at sq
  rw [sq]
  generalize lin0 n M y = L
  grind

theorem PD.corner {n k : Nat} {M : Mx} (h : PD n M) (hk : k ≤ n) : PD k M := fun x ⟨i, hi, hx⟩ => by
  have h1 := h (fun j => if j < k then x j else 0) ⟨i, by omega, by simp only [if_pos hi]; exact hx⟩
  have e : ∀ m (g : Nat → Int), k ≤ m → (∀ j, k ≤ j → g j = 0) → sumTo g m = sumTo g k := fun m g hm hz => by
    induction m with
    | zero => rw [show k = 0 by omega]
    | succ m ih =>
      by_cases c : k = m + 1
      · rw [c]
      · rw [sumTo, hz m (by omega), Int.add_zero]
        exact ih (by omega)
  have h2 : quad n M (fun j => if j < k then x j else 0) = quad k M x := by
    unfold quad
    rw [e n _ hk fun i hi => by
      rw [sumTo_congr (h := fun _ => 0) fun j _ => by simp only [if_neg (show ¬ i < k by omega), Int.mul_zero, Int.zero_mul], sumTo_zero]]
    refine sumTo_congr fun i hi => ?_
    rw [e n _ hk fun j hj => by simp only [if_neg (show ¬ j < k by omega), Int.mul_zero]]
    exact sumTo_congr fun j hj => by simp only [if_pos hi, if_pos hj]
  rwa [h2] at h1

theorem PD.at_unit {n i : Nat} {M : Mx} (h : PD n M) (hi : i < n) : 0 < M i i := by
  have h1 := h (unit_ i) ⟨i, hi, by simp [unit_]⟩
  have h2 : quad n M (unit_ i) = M i i := by
    unfold quad
    rw [sumTo_congr (h := fun r => unit_ i r * M r i) fun r _ => ?_, unit_pick (fun r => M r i) hi]
    rw [sumTo_congr (h := fun c => unit_ i c * (M r c * unit_ i r)) fun c _ => by grind, unit_pick (fun c => M r c * unit_ i r) hi, Int.mul_comm]
  rwa [h2] at h1

theorem sylvester_from : ∀ (n : Nat) {M : Mx}, Sym n M → PD n M → 0 < det n M
  | 0, _, _, _ => show (0:Int) < 1 by decide
  | n + 1, M, hs, hp => by
    have m0 : 0 < M 0 0 := hp.at_unit (by omega)
    by_cases hn : n = 0
    · subst hn; rw [det_one]; exact m0
    · have pc : PD n (chio M) := fun y ⟨i, hi, hy⟩ => by
        have h1 := hp (fun j => if j = 0 then -lin0 n M y else M 0 0 * y (j - 1)) ⟨i + 1, by omega, by
          simp only [Nat.add_one_ne_zero, if_false, Nat.add_sub_cancel]
          exact Int.mul_ne_zero (by omega) hy⟩
        have h2 := chio_lift hs y
        have h3 := Int.mul_pos m0 h1
        rw [h2] at h3
        exact pos_of_mul (Int.mul_pos m0 m0) h3
      have ih := sylvester_from n (chio_sym hs) pc
      rw [det_chio_pos M (by omega) (by omega)] at ih
      exact pos_of_mul (pow_pos' m0 _) ih

theorem Sym.corner {n k : Nat} {M : Mx} (h : Sym n M) (hk : k ≤ n) : Sym k M := fun i j hi hj => h i j (by omega) (by omega)
/-- Sylvester's criterion. -/
theorem sylvester_iff {n : Nat} {M : Mx} (hs : Sym n M) : (∀ k, 1 ≤ k → k ≤ n → 0 < det k M) ↔ PD n M :=
  ⟨sylvester_to n hs, fun h k _ hk => sylvester_from k (hs.corner hk) (h.corner hk)⟩

/-- What is beside the middle is outweighed. -/
theorem PD.beside {n i j : Nat} {M : Mx} (hs : Sym n M) (h : PD n M) (hi : i < n) (hj : j < n) (hij : i ≠ j) : M i j * M i j < M i i * M j j := by
  have p := h.at_unit hj
  have h1 := h (fun k => unit_ i k * M j j + unit_ j k * -M i j) ⟨i, hi, by simp [unit_, hij]; omega⟩
  have h2 : quad n M (fun k => unit_ i k * M j j + unit_ j k * -M i j) = M j j * (M i i * M j j - M i j * M i j) := by
    have e : ∀ r, r < n → sumTo (fun c => M r c * (unit_ i r * M j j + unit_ j r * -M i j) * (unit_ i c * M j j + unit_ j c * -M i j)) n = (unit_ i r * M j j + unit_ j r * -M i j) * (M r i * M j j + M r j * -M i j) := fun r _ => by
      rw [sumTo_congr (h := fun c => unit_ i c * (M r c * (unit_ i r * M j j + unit_ j r * -M i j) * M j j) + unit_ j c * (M r c * (unit_ i r * M j j + unit_ j r * -M i j) * -M i j)) fun c _ => by grind, sumTo_add, unit_pick (fun c => M r c * (unit_ i r * M j j + unit_ j r * -M i j) * M j j) hi, unit_pick (fun c => M r c * (unit_ i r * M j j + unit_ j r * -M i j) * -M i j) hj]
      grind
    unfold quad
    rw [sumTo_congr e, sumTo_congr (h := fun r => unit_ i r * (M j j * (M r i * M j j + M r j * -M i j)) + unit_ j r * (-M i j * (M r i * M j j + M r j * -M i j))) fun r _ => by grind, sumTo_add, unit_pick (fun r => M j j * (M r i * M j j + M r j * -M i j)) hi, unit_pick (fun r => -M i j * (M r i * M j j + M r j * -M i j)) hj, hs j i hj hi]
    grind
  rw [h2] at h1
  have := pos_of_mul p h1
  omega

/-! ### Hadamard -/
theorem prodTo_le {f g : Nat → Int} {n : Nat} (h : ∀ i, i < n → 0 ≤ f i ∧ f i ≤ g i) : 0 ≤ prodTo f n ∧ prodTo f n ≤ prodTo g n := by
  induction n with
  | zero => exact ⟨show (0:Int) ≤ 1 by decide, Int.le_refl _⟩
  | succ n ih =>
    have h1 := ih fun i hi => h i (by omega)
    have h2 := h n (Nat.lt_succ_self n)
    exact ⟨Int.mul_nonneg h1.1 h2.1, Int.mul_le_mul h1.2 h2.2 h2.1 (by omega)⟩
theorem prodTo_smul (a : Int) (f : Nat → Int) (n : Nat) : prodTo (fun i => a * f i) n = a ^ n * prodTo f n := by
  induction n with
  | zero => show (1:Int) = a ^ 0 * 1; rw [Int.pow_zero]; rfl
  | succ n ih => rw [prodTo, prodTo, ih, Int.pow_succ]; grind
theorem PS.at_unit {n i : Nat} {M : Mx} (h : PS n M) (hi : i < n) : 0 ≤ M i i := by
  have h1 := h (unit_ i)
  have h2 : quad n M (unit_ i) = M i i := by
    unfold quad
    rw [sumTo_congr (h := fun r => unit_ i r * M r i) fun r _ => ?_, unit_pick (fun r => M r i) hi]
    rw [sumTo_congr (h := fun c => unit_ i c * (M r c * unit_ i r)) fun c _ => by grind, unit_pick (fun c => M r c * unit_ i r) hi, Int.mul_comm]
  rwa [h2] at h1
theorem PS.row_zero {n : Nat} {M : Mx} (hs : Sym (n + 1) M) (h : PS (n + 1) M) (z : M 0 0 = 0) {j : Nat} (hj : j < n) : M 0 (j + 1) = 0 := by
  refine Classical.byContradiction fun c => ?_
  have d0 := h.at_unit (i := j + 1) (by omega)
  have h1 := h (fun k => if k = 0 then -((M (j + 1) (j + 1) + 1) * M 0 (j + 1)) else unit_ j (k - 1))
  rw [quad_split hs] at h1
  simp only [if_true, Nat.add_one_ne_zero, if_false, Nat.add_sub_cancel] at h1
  have e1 : (lin0 n M fun k => unit_ j k) = M 0 (j + 1) := by
    unfold lin0
    rw [sumTo_congr (h := fun k => unit_ j k * M 0 (k + 1)) fun k _ => Int.mul_comm _ _]
    exact unit_pick (fun k => M 0 (k + 1)) hj
  have e2 : (quad n (subM M) fun k => unit_ j k) = M (j + 1) (j + 1) := by
    unfold quad
    rw [sumTo_congr (h := fun r => unit_ j r * subM M r j) fun r _ => ?_, unit_pick (fun r => subM M r j) hj]
    · rfl
    rw [sumTo_congr (h := fun c => unit_ j c * (subM M r c * unit_ j r)) fun c _ => by grind, unit_pick (fun c => subM M r c * unit_ j r) hj, Int.mul_comm]
  rw [e1, e2, z] at h1
  have g1 := sq_pos' c
  generalize M 0 (j + 1) = g at *
  generalize M (j + 1) (j + 1) = d at *
  have g2 : (d + 1) * 1 ≤ (d + 1) * (g * g) := Int.mul_le_mul_of_nonneg_left (by omega) (by omega)
  have g3 : -((d + 1) * g) * g = -((d + 1) * (g * g)) := by grind
  rw [g3] at h1
  omega
theorem gram_le : ∀ (n : Nat) {M : Mx}, Sym n M → PS n M → 0 ≤ det n M ∧ det n M ≤ prodTo (fun i => M i i) n
  | 0, _, _, _ => ⟨show (0:Int) ≤ 1 by decide, Int.le_refl _⟩
  | n + 1, M, hs, hp => by
    have m0 : 0 ≤ M 0 0 := hp.at_unit (by omega)
    have md : ∀ i, i < n + 1 → 0 ≤ M i i := fun i hi => hp.at_unit hi
    by_cases z : M 0 0 = 0
    · have : det (n + 1) M = 0 := (det_alt (n + 1)).zero_row M (i := 0) (by omega) fun c hc => by
        rcases c with _ | c
        · exact z
        · exact hp.row_zero hs z (by omega)
      rw [this]
      exact ⟨Int.le_refl _, (prodTo_le (f := fun i => M i i) fun i hi => ⟨md i hi, Int.le_refl _⟩).1⟩
    · have m1 : 0 < M 0 0 := by omega
      by_cases hn : n = 0
      · subst hn
        rw [det_one]
        show _ ∧ _ ≤ 1 * M 0 0
        omega
      · have pc : PS n (chio M) := fun y => by
          have h2 := chio_lift hs y
          have h3 := Int.mul_nonneg m0 (hp (fun j => if j = 0 then -lin0 n M y else M 0 0 * y (j - 1)))
          rw [h2] at h3
          exact nonneg_of_mul (Int.mul_pos m1 m1) h3
        have ih := gram_le n (chio_sym hs) pc
        rw [det_chio_pos M (by omega) (by omega)] at ih
        have up := (prodTo_le (f := fun i => chio M i i) (g := fun i => M 0 0 * M (i + 1) (i + 1)) (n := n) fun i hi => ⟨pc.at_unit hi, by
          unfold chio
          rw [hs (i + 1) 0 (by omega) (by omega)]
          have := sq_nonneg' (M 0 (i + 1))
          rw [Int.mul_comm (M 0 0)]
          omega⟩).2
        rw [prodTo_smul] at up
        have P := pow_pos' m1 (n - 1)
        have e : M 0 0 ^ n = M 0 0 ^ (n - 1) * M 0 0 := by
          rw [← Int.pow_succ]
          congr 1
          omega
        rw [e] at up
        refine ⟨nonneg_of_mul P ih.1, ?_⟩
        rw [prodTo_succ_left]
        have h5 : 0 ≤ M 0 0 ^ (n - 1) * (M 0 0 * prodTo (fun i => M (i + 1) (i + 1)) n - det (n + 1) M) := by
          rw [Int.mul_sub, ← Int.mul_assoc]
          omega
        have := nonneg_of_mul P h5
        omega

/-- Hadamard. -/
theorem hadamard (n : Nat) (A : Mx) : det n A * det n A ≤ prodTo (fun i => sumTo (fun j => A i j * A i j) n) n := by
  have hs : Sym n (mulM n A (trM A)) := fun i j _ _ => sumTo_congr fun k _ => Int.mul_comm _ _
  have hp : PS n (mulM n A (trM A)) := fun x => by
    have e : quad n (mulM n A (trM A)) x = sumTo (fun k => sumTo (fun i => x i * A i k) n * sumTo (fun i => x i * A i k) n) n := by
      unfold quad
      have e1 : ∀ i, i < n → sumTo (fun j => mulM n A (trM A) i j * x i * x j) n = sumTo (fun k => x i * A i k * sumTo (fun j => x j * A j k) n) n := fun i _ => by
        rw [sumTo_congr (h := fun j => sumTo (fun k => x i * A i k * (x j * A j k)) n) fun j _ => by
          unfold mulM trM
          rw [Int.mul_assoc, Int.mul_comm, ← sumTo_mul]
          exact sumTo_congr fun k _ => by grind, sumTo_swap]
        exact sumTo_congr fun k _ => sumTo_mul _ _ _
      rw [sumTo_congr e1, sumTo_swap]
      refine sumTo_congr fun k _ => ?_
      rw [← sumTo_mul]
      exact sumTo_congr fun i _ => Int.mul_comm _ _
    rw [e]
    have : ∀ (f : Nat → Int) m, (∀ i, 0 ≤ f i) → 0 ≤ sumTo f m := fun f m hf => by
      induction m with
      | zero => exact Int.le_refl _
      | succ m ih => rw [sumTo]; have := hf m; omega
    exact this _ _ fun k => sq_nonneg' _
  have := (gram_le n hs hp).2
  rwa [det_mul, det_tr] at this
end Go.Rk
