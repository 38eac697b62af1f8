/-
  Determinants: the product, the transpose, any row, the adjugate, triangles. Plain Lean, no program in sight.
-/
import Derived.Test.YtfocfgddlnjfmaaDet
namespace Go.Rk

theorem unit_pick (g : Nat → Int) {i n : Nat} (h : i < n) : sumTo (fun k => unit_ i k * g k) n = g i := by
  induction n with
  | zero => omega
  | succ n ih =>
    rw [sumTo]
    by_cases h1 : i = n
    · subst h1
      rw [sumTo_congr (h := fun _ => 0) fun k hk => by simp [unit_, show ¬ k = i from by omega], sumTo_zero]
      simp [unit_]
    · rw [ih (by omega)]
      simp [unit_, show ¬ n = i from by omega]

theorem unit_pick' (g : Nat → Int) {i n : Nat} (h : i < n) : sumTo (fun k => g k * unit_ k i) n = g i := by
  rw [← unit_pick g h]
  refine sumTo_congr fun k _ => ?_
  by_cases e : k = i
  · subst e; simp [unit_]
  · simp [unit_, e, Ne.symm e]

theorem mulM_id (n : Nat) (A : Mx) {i j : Nat} (hi : i < n) : mulM n idM A i j = A i j := unit_pick (fun k => A k j) hi
theorem mulM_id' (n : Nat) (A : Mx) {i j : Nat} (hj : j < n) : mulM n A idM i j = A i j := by
  unfold mulM idM
  exact unit_pick' (fun k => A i k) hj

theorem mulM_assoc (n m : Nat) (A B C : Mx) (i j : Nat) : mulM m (mulM n A B) C i j = mulM n A (mulM m B C) i j := by
  unfold mulM
  have h1 : ∀ k, sumTo (fun l => A i l * B l k) n * C k j = sumTo (fun l => A i l * (B l k * C k j)) n := fun k => by
    rw [Int.mul_comm, ← sumTo_mul]
    exact sumTo_congr fun l _ => by grind
  rw [sumTo_congr fun k _ => h1 k, sumTo_swap]
  exact sumTo_congr fun l _ => sumTo_mul _ _ _

theorem det_id (n : Nat) : det n idM = 1 := by
  induction n with
  | zero => rfl
  | succ n ih =>
    rw [det, sumTo_succ_left, sumTo_congr (h := fun _ => 0) fun j _ => by simp [idM, unit_], sumTo_zero]
    have : minor idM 0 0 = idM := by funext r c; simp [minor, skip_zero, idM, unit_]
    rw [this, ih]
    simp [idM, unit_, sg]

/-- CAUCHY, BINET. -/
theorem det_mul (n : Nat) (A B : Mx) : det n (mulM n A B) = det n A * det n B := by
  have q : ∀ (A : Mx) (i : Nat) (t : Nat → Int), mulM n (setRow A i t) B = setRow (mulM n A B) i (fun c => sumTo (fun k => t k * B k c) n) := by
    intro A i t
    funext a c
    simp only [mulM, setRow]
    split <;> rfl
  have h : Alt n (fun A => det n (mulM n A B)) := by
    refine ⟨fun {A C} e => det_congr fun i j hi _ => sumTo_congr fun k hk => by rw [e i k hi hk], fun A i hi r s => ?_, fun A i hi x r => ?_, fun A i hi e => ?_⟩
    · simp only [q]
      rw [← det_row_add _ _ hi]
      congr 2
      funext c
      rw [← sumTo_add]
      exact sumTo_congr fun k _ => Int.add_mul _ _ _
    · simp only [q]
      rw [← det_row_mul _ _ hi]
      congr 2
      funext c
      rw [← sumTo_mul]
      exact sumTo_congr fun k _ => Int.mul_assoc _ _ _
    · exact det_adj_eq _ i hi fun c _ => sumTo_congr fun k hk => by rw [e k hk]
  have h1 : det n (mulM n A B) = det n (mulM n idM B) * det n A := h.unique A
  rw [h1, det_congr (A := mulM n idM B) (B := B) fun i j hi _ => mulM_id n B hi, Int.mul_comm]

/-- By the first column. -/
theorem det_col {n : Nat} : ∀ (A : Mx), det (n + 1) A = sumTo (fun i => sg i * A i 0 * det n (minor A i 0)) (n + 1) := by
  induction n with
  | zero => intro A; rfl
  | succ n ih =>
    intro A
    rw [det, sumTo_succ_left, sumTo_succ_left (fun i => sg i * A i 0 * det (n + 1) (minor A i 0))]
    congr 1
    have h1 : ∀ j, j < n + 1 → sg (j + 1) * A 0 (j + 1) * det (n + 1) (minor A 0 (j + 1)) = sumTo (fun i => -(sg i * sg j) * (A 0 (j + 1) * A (i + 1) 0 * det n (minor (minor A 0 (j + 1)) i 0))) (n + 1) := by
      intro j _
      rw [ih, ← sumTo_mul]
      refine sumTo_congr fun i _ => ?_
      have : minor A 0 (j + 1) i 0 = A (i + 1) 0 := by simp [minor, skip]
      rw [this, sg_succ]
      grind
    have h2 : ∀ i, i < n + 1 → sg (i + 1) * A (i + 1) 0 * det (n + 1) (minor A (i + 1) 0) = sumTo (fun j => -(sg i * sg j) * (A 0 (j + 1) * A (i + 1) 0 * det n (minor (minor A 0 (j + 1)) i 0))) (n + 1) := by
      intro i _
      rw [det, ← sumTo_mul]
      refine sumTo_congr fun j _ => ?_
      have e1 : minor A (i + 1) 0 0 j = A 0 (j + 1) := by simp [minor, skip]
      have e2 : minor (minor A (i + 1) 0) 0 j = minor (minor A 0 (j + 1)) i 0 := by
        funext r c
        simp only [minor, skip_zero]
        congr 1
        · unfold skip; (repeat' split) <;> omega
        · unfold skip; (repeat' split) <;> omega
      rw [e1, e2, sg_succ]
      grind
    rw [sumTo_congr h1, sumTo_congr h2, sumTo_swap]

theorem det_tr {n : Nat} : ∀ (A : Mx), det n (trM A) = det n A := by
  induction n with
  | zero => intro A; rfl
  | succ n ih =>
    intro A
    rw [det_col A, det]
    refine sumTo_congr fun j _ => ?_
    have : minor (trM A) 0 j = trM (minor A j 0) := by funext r c; rfl
    rw [this, ih]
    rfl

/-- The row i set first, the others in their order. -/
def raise (A : Mx) (i : Nat) : Mx := fun r => if r = 0 then A i else if r ≤ i then A (r - 1) else A r

theorem Alt.raise_sign {n : Nat} {f : Mx → Int} (h : Alt n f) : ∀ (i : Nat) (A : Mx), i < n → f (raise A i) = sg i * f A := by
  intro i
  induction i with
  | zero =>
    intro A _
    have : raise A 0 = A := by funext r; simp only [raise]; split <;> simp_all
    rw [this]; simp [sg]
  | succ i ih =>
    intro A hi
    have h1 := h.swap_adj A i hi
    have h2 := ih (swapM A i (i + 1)) (by omega)
    have e : raise (swapM A i (i + 1)) i = raise A (i + 1) := by
      funext r c
      simp only [raise, swapM]
      by_cases h0 : r = 0
      · simp [h0, setRow]
      · by_cases h1 : r ≤ i
        · simp [h0, h1, setRow, show r ≤ i + 1 from by omega, show ¬ r - 1 = i + 1 from by omega, show ¬ r - 1 = i from by omega]
        · by_cases h2 : r = i + 1
          · subst h2; simp [setRow, show ¬ i + 1 ≤ i from by omega]
          · simp [h0, h1, h2, setRow, show ¬ r ≤ i + 1 from by omega, show ¬ r = i from by omega]
    rw [← e, h2, h1, sg_succ]
    grind

theorem minor_raise (A : Mx) (i j : Nat) : minor (raise A i) 0 j = minor A i j := by
  funext r c
  simp only [minor, raise, skip_zero]
  simp only [skip]
  by_cases h : r < i
  · simp [h, show r + 1 ≤ i from by omega]
  · simp [h, show ¬ r + 1 ≤ i from by omega]

/-- LAPLACE: by any row. -/
theorem det_row {n : Nat} (A : Mx) {i : Nat} (hi : i < n + 1) : det (n + 1) A = sumTo (fun j => sg (i + j) * A i j * det n (minor A i j)) (n + 1) := by
  have h1 := (det_alt (n + 1)).raise_sign i A hi
  have h2 : det (n + 1) A = sg i * det (n + 1) (raise A i) := by rw [h1, ← Int.mul_assoc, sg_sq, Int.one_mul]
  rw [h2, det, ← sumTo_mul]
  refine sumTo_congr fun j _ => ?_
  rw [minor_raise, sg_add]
  simp only [raise, if_true]
  grind

/-- With another row's numbers it is 0. -/
theorem det_row_other {n : Nat} (A : Mx) {i k : Nat} (hi : i < n + 1) (hk : k < n + 1) (hne : i ≠ k) : sumTo (fun j => sg (i + j) * A k j * det n (minor A i j)) (n + 1) = 0 := by
  have h1 := det_row (setRow A i (A k)) hi
  rw [(det_alt (n + 1)).eq_zero (setRow A i (A k)) hne hi hk fun c _ => by simp [setRow, Ne.symm hne]] at h1
  rw [h1]
  refine sumTo_congr fun j _ => ?_
  have : minor (setRow A i (A k)) i j = minor A i j := by
    funext r c
    simp only [minor, setRow]
    rw [if_neg (skip_ne i r)]
  rw [this]
  simp [setRow]

/-- The adjugate. -/
def adj (n : Nat) (A : Mx) : Mx := fun i j => sg (i + j) * det (n - 1) (minor A j i)

theorem mul_adj {n : Nat} (A : Mx) {i j : Nat} (hi : i < n) (hj : j < n) : mulM n A (adj n A) i j = if i = j then det n A else 0 := by
  obtain ⟨m, rfl⟩ : ∃ m, n = m + 1 := ⟨n - 1, by omega⟩
  unfold mulM adj
  simp only [Nat.add_sub_cancel]
  split
  · next e =>
    subst e
    rw [det_row A hi]
    exact sumTo_congr fun k _ => by rw [Nat.add_comm k i]; grind
  · next e =>
    rw [← det_row_other A hj hi fun e' => e e'.symm]
    exact sumTo_congr fun k _ => by rw [Nat.add_comm k j]; grind

theorem adj_tr (n : Nat) (A : Mx) (i j : Nat) : adj n (trM A) i j = adj n A j i := by
  unfold adj
  have : minor (trM A) j i = trM (minor A i j) := by funext r c; rfl
  rw [this, det_tr, Nat.add_comm]

theorem adj_mul {n : Nat} (A : Mx) {i j : Nat} (hi : i < n) (hj : j < n) : mulM n (adj n A) A i j = if i = j then det n A else 0 := by
  have h := mul_adj (trM A) hj hi
  rw [det_tr] at h
  have e : mulM n (trM A) (adj n (trM A)) j i = mulM n (adj n A) A i j := by
    unfold mulM
    exact sumTo_congr fun k _ => by rw [adj_tr, Int.mul_comm]; rfl
  rw [← e, h]
  by_cases h1 : i = j
  · simp [h1]
  · simp [h1, Ne.symm h1]

def prodTo (g : Nat → Int) : Nat → Int
  | 0 => 1
  | n + 1 => prodTo g n * g n

theorem prodTo_succ_left (g : Nat → Int) (n : Nat) : prodTo g (n + 1) = g 0 * prodTo (fun i => g (i + 1)) n := by
  induction n with
  | zero => simp [prodTo]
  | succ n ih => rw [prodTo, ih, prodTo, Int.mul_assoc]

theorem prodTo_congr {g h : Nat → Int} {n : Nat} (e : ∀ i, i < n → g i = h i) : prodTo g n = prodTo h n := by
  induction n with
  | zero => rfl
  | succ n ih => rw [prodTo, prodTo, ih fun i hi => e i (Nat.lt_succ_of_lt hi), e n (Nat.lt_succ_self n)]

/-- With noughts above the middle. -/
theorem det_lower {n : Nat} : ∀ (A : Mx), (∀ i j, i < n → j < n → i < j → A i j = 0) → det n A = prodTo (fun i => A i i) n := by
  induction n with
  | zero => intro A _; rfl
  | succ n ih =>
    intro A h
    rw [det, sumTo_succ_left, sumTo_congr (h := fun _ => 0) fun j hj => by rw [h 0 (j + 1) (by omega) (by omega) (by omega)]; simp, sumTo_zero, prodTo_succ_left,
      ih (minor A 0 0) fun i j hi hj hij => by simp only [minor, skip_zero]; exact h _ _ (by omega) (by omega) (by omega)]
    simp [sg, minor, skip_zero]

/-- With noughts below the middle. -/
theorem det_upper {n : Nat} (A : Mx) (h : ∀ i j, i < n → j < n → j < i → A i j = 0) : det n A = prodTo (fun i => A i i) n := by
  rw [← det_tr, det_lower (trM A) fun i j hi hj hij => h j i hj hi hij]
  rfl

theorem det_eqm {n : Nat} : ∀ {A B : Mx}, (∀ i j, i < n → j < n → Eqm (A i j) (B i j)) → Eqm (det n A) (det n B) := by
  induction n with
  | zero => intro A B _; exact Eqm.refl _
  | succ n ih =>
    intro A B h
    unfold det
    refine Eqm.sum fun j hj => ?_
    exact ((Eqm.refl _).mul (h 0 j (by omega) hj)).mul (ih fun r c hr hc => h _ _ (skip_lt hr) (skip_lt hc))

end Go.Rk
