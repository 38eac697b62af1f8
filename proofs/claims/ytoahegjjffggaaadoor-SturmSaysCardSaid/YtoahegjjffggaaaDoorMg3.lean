/-
  Determinants of integer matrices, by the first row; multilinear, alternating; the product; the transpose; any row, any column. Plain Lean, no program in sight.
  Determinants: the product, the transpose, any row, the adjugate, triangles. Plain Lean, no program in sight.
  Matrices by the prime: products go together, powers add up. No program in sight.
  One step of elimination modulo 9973, and what it does with a determinant. Plain Lean, no program in sight.
-/
import Derived.Test.YtoahegjjffggaaaDoorMg1
import Derived.Test.YtoahegjjffggaaaDoorMg2
namespace Go.Rk

abbrev Mx := Nat → Nat → Int

def skip (j c : Nat) : Nat := if c < j then c else c + 1
def minor (A : Mx) (i j : Nat) : Mx := fun r c => A (skip i r) (skip j c)
def sg (j : Nat) : Int := if j % 2 = 0 then 1 else -1
def det : Nat → Mx → Int
  | 0, _ => 1
  | n + 1, A => sumTo (fun j => sg j * A 0 j * det n (minor A 0 j)) (n + 1)
def setRow (A : Mx) (i : Nat) (r : Nat → Int) : Mx := fun k c => if k = i then r c else A k c
def unit_ (j : Nat) : Nat → Int := fun c => if c = j then 1 else 0
def idM : Mx := fun i => unit_ i
def mulM (n : Nat) (A B : Mx) : Mx := fun i j => sumTo (fun k => A i k * B k j) n
def trM (A : Mx) : Mx := fun i j => A j i

theorem sg_succ (j : Nat) : sg (j + 1) = -sg j := by unfold sg; split <;> split <;> omega
theorem sg_sq (j : Nat) : sg j * sg j = 1 := by unfold sg; split <;> rfl
theorem sg_add (i j : Nat) : sg (i + j) = sg i * sg j := by
  induction i with
  | zero => simp [sg]
  | succ i ih => rw [Nat.add_right_comm, sg_succ, sg_succ, ih, Int.neg_mul]
theorem skip_lt {j c n : Nat} (h : c < n) : skip j c < n + 1 := by unfold skip; split <;> omega
theorem skip_ne (j c : Nat) : skip j c ≠ j := by unfold skip; split <;> omega
theorem skip_zero (c : Nat) : skip 0 c = c + 1 := by simp [skip]
theorem skip_skip {i j c : Nat} (h : i ≤ j) : skip i (skip j c) = skip (j + 1) (skip i c) := by
  unfold skip; (repeat' split) <;> omega

theorem det_congr {n : Nat} : ∀ {A B : Mx}, (∀ i j, i < n → j < n → A i j = B i j) → det n A = det n B := by
  induction n with
  | zero => intro A B _; rfl
  | succ n ih =>
    intro A B h
    unfold det
    refine sumTo_congr fun j hj => ?_
    rw [h 0 j (by omega) hj, ih (A := minor A 0 j) (B := minor B 0 j) fun r c hr hc => h _ _ (skip_lt hr) (skip_lt hc)]

theorem minor_setRow_zero (A : Mx) (r : Nat → Int) (j : Nat) : minor (setRow A 0 r) 0 j = minor A 0 j := by
  funext a c; simp [minor, setRow, skip_zero]
theorem minor_setRow_succ (A : Mx) (i : Nat) (r : Nat → Int) (j : Nat) : minor (setRow A (i + 1) r) 0 j = setRow (minor A 0 j) i (fun c => r (skip j c)) := by
  funext a c; simp [minor, setRow, skip_zero]

theorem det_row_add {n : Nat} : ∀ (A : Mx) (i : Nat), i < n → ∀ (r s : Nat → Int), det n (setRow A i fun c => r c + s c) = det n (setRow A i r) + det n (setRow A i s) := by
  induction n with
  | zero => intro A i h; omega
  | succ n ih =>
    intro A i hi r s
    unfold det
    rw [← sumTo_add]
    refine sumTo_congr fun j _ => ?_
    cases i with
    | zero => simp only [minor_setRow_zero, setRow, if_true]; grind
    | succ i =>
      simp only [minor_setRow_succ]
      rw [ih (minor A 0 j) i (by omega) (fun c => r (skip j c)) (fun c => s (skip j c))]
      simp only [setRow]
      grind

theorem det_row_mul {n : Nat} : ∀ (A : Mx) (i : Nat), i < n → ∀ (x : Int) (r : Nat → Int), det n (setRow A i fun c => x * r c) = x * det n (setRow A i r) := by
  induction n with
  | zero => intro A i h; omega
  | succ n ih =>
    intro A i hi x r
    unfold det
    rw [← sumTo_mul]
    refine sumTo_congr fun j _ => ?_
    cases i with
    | zero => simp only [minor_setRow_zero, setRow, if_true]; grind
    | succ i =>
      simp only [minor_setRow_succ]
      rw [ih (minor A 0 j) i (by omega) x (fun c => r (skip j c))]
      simp only [setRow]
      grind

/-- A sum over all pairs of two places, in pairs of pairs. -/
theorem sum_pairs (F : Nat → Nat → Int) (n : Nat) : sumTo (fun j => sumTo (fun k => F j k) (n + 1)) (n + 2) =
    sumTo (fun k => sumTo (fun j => if j ≤ k then F j k + F (k + 1) j else 0) (n + 1)) (n + 1) := by
  have h1 : sumTo (fun j => sumTo (fun k => F j k) (n + 1)) (n + 2) = sumTo (fun j => sumTo (fun k => if j ≤ k then F j k else 0) (n + 1)) (n + 2) + sumTo (fun j => sumTo (fun k => if j ≤ k then 0 else F j k) (n + 1)) (n + 2) := by
    rw [← sumTo_add]
    refine sumTo_congr fun j _ => ?_
    rw [← sumTo_add]
    refine sumTo_congr fun k _ => ?_
    split <;> simp
  have h2 : sumTo (fun j => sumTo (fun k => if j ≤ k then F j k else 0) (n + 1)) (n + 2) = sumTo (fun j => sumTo (fun k => if j ≤ k then F j k else 0) (n + 1)) (n + 1) := by
    show sumTo _ (n + 1) + sumTo (fun k => if n + 1 ≤ k then F (n + 1) k else 0) (n + 1) = _
    rw [sumTo_congr (g := fun k => if n + 1 ≤ k then F (n + 1) k else 0) (h := fun _ => 0) fun k hk => if_neg (by omega), sumTo_zero, Int.add_zero]
  have h3 : sumTo (fun j => sumTo (fun k => if j ≤ k then 0 else F j k) (n + 1)) (n + 2) = sumTo (fun k => sumTo (fun j => if j ≤ k then F (k + 1) j else 0) (n + 1)) (n + 1) := by
    rw [sumTo_succ_left, sumTo_congr (g := fun k => if 0 ≤ k then 0 else F 0 k) (h := fun _ => 0) fun k _ => if_pos (Nat.zero_le _), sumTo_zero, Int.zero_add]
    refine sumTo_congr fun k _ => sumTo_congr fun j _ => ?_
    by_cases h : j ≤ k
    · rw [if_neg (by omega), if_pos h]
    · rw [if_pos (by omega), if_neg h]
  rw [h1, h2, h3, sumTo_swap, ← sumTo_add]
  refine sumTo_congr fun k _ => ?_
  rw [← sumTo_add]
  refine sumTo_congr fun j _ => ?_
  split <;> simp

/-- Two rows beside each other that are alike. -/
theorem det_adj_eq {n : Nat} : ∀ (A : Mx) (i : Nat), i + 1 < n → (∀ c, c < n → A i c = A (i + 1) c) → det n A = 0 := by
  induction n with
  | zero => intro A i h; omega
  | succ n ih =>
    intro A i hi he
    cases i with
    | succ i =>
      unfold det
      rw [sumTo_congr (h := fun _ => 0), sumTo_zero]
      intro j hj
      rw [ih (minor A 0 j) i (by omega) fun c hc => by simp only [minor, skip_zero]; exact he _ (skip_lt hc)]
      simp
    | zero =>
      obtain ⟨m, rfl⟩ : ∃ m, n = m + 1 := ⟨n - 1, by omega⟩
      have h1 : det (m + 2) A = sumTo (fun j => sumTo (fun k => sg j * A 0 j * (sg k * A 1 (skip j k) * det m (minor (minor A 0 j) 0 k))) (m + 1)) (m + 2) := by
        show sumTo (fun j => sg j * A 0 j * det (m + 1) (minor A 0 j)) (m + 2) = _
        refine sumTo_congr fun j _ => ?_
        rw [sumTo_mul]
        rfl
      rw [h1, sum_pairs, sumTo_congr (h := fun _ => 0), sumTo_zero]
      intro k hk
      rw [sumTo_congr (h := fun _ => 0), sumTo_zero]
      intro j hj
      split
      · next hjk =>
        have e1 : skip j k = k + 1 := by unfold skip; split <;> omega
        have e2 : skip (k + 1) j = j := by unfold skip; split <;> omega
        have e3 : minor (minor A 0 j) 0 k = minor (minor A 0 (k + 1)) 0 j := by
          funext a c
          simp only [minor]
          rw [skip_skip hjk]
        rw [e1, e2, e3, sg_succ, ← he (k + 1) (by omega), ← he j (by omega)]
        grind
      · rfl

theorem setRow_self (A : Mx) (i : Nat) : setRow A i (A i) = A := by funext k c; simp only [setRow]; split <;> simp_all
theorem setRow_comm (A : Mx) {i j : Nat} (h : i ≠ j) (r s : Nat → Int) : setRow (setRow A i r) j s = setRow (setRow A j s) i r := by
  funext k c; simp only [setRow]; (repeat' split) <;> first | rfl | omega
theorem setRow_twice (A : Mx) (i : Nat) (r s : Nat → Int) : setRow (setRow A i r) i s = setRow A i s := by
  funext k c; simp only [setRow]; split <;> rfl

/-- What a determinant does with rows, said of any function of n rows. -/
structure Alt (n : Nat) (f : Mx → Int) : Prop where
  congr : ∀ {A B : Mx}, (∀ i j, i < n → j < n → A i j = B i j) → f A = f B
  add : ∀ (A : Mx) (i : Nat), i < n → ∀ (r s : Nat → Int), f (setRow A i fun c => r c + s c) = f (setRow A i r) + f (setRow A i s)
  mul : ∀ (A : Mx) (i : Nat), i < n → ∀ (x : Int) (r : Nat → Int), f (setRow A i fun c => x * r c) = x * f (setRow A i r)
  adj : ∀ (A : Mx) (i : Nat), i + 1 < n → (∀ c, c < n → A i c = A (i + 1) c) → f A = 0

theorem det_alt (n : Nat) : Alt n (det n) := ⟨det_congr, det_row_add, det_row_mul, det_adj_eq⟩

section
variable {n : Nat} {f : Mx → Int}

/-- Two rows changed for each other. -/
def swapM (A : Mx) (i j : Nat) : Mx := setRow (setRow A i (A j)) j (A i)

theorem Alt.swap_adj (h : Alt n f) (A : Mx) (i : Nat) (hi : i + 1 < n) : f (swapM A i (i + 1)) = -f A := by
  have k : ∀ r s : Nat → Int, f (setRow (setRow A i r) (i + 1) s) + f (setRow (setRow A i s) (i + 1) r) = 0 := by
    intro r s
    have h0 := h.adj (setRow (setRow A i fun c => r c + s c) (i + 1) fun c => r c + s c) i hi fun c _ => by simp [setRow]
    have hr := h.adj (setRow (setRow A i r) (i + 1) r) i hi fun c _ => by simp [setRow]
    have hs := h.adj (setRow (setRow A i s) (i + 1) s) i hi fun c _ => by simp [setRow]
    rw [h.add _ _ hi, setRow_comm A (by omega : i ≠ i + 1), setRow_comm A (by omega : i ≠ i + 1), h.add _ _ (by omega), h.add _ _ (by omega), ← setRow_comm A (by omega : i ≠ i + 1), ← setRow_comm A (by omega : i ≠ i + 1),
      ← setRow_comm A (by omega : i ≠ i + 1), ← setRow_comm A (by omega : i ≠ i + 1), hr, hs] at h0
    omega
  have k1 := k (A (i + 1)) (A i)
  rw [setRow_self, show setRow A (i + 1) (A (i + 1)) = A from setRow_self A (i + 1)] at k1
  unfold swapM
  omega

theorem Alt.eq_rows (h : Alt n f) : ∀ (d : Nat) (A : Mx) (i : Nat), i + d + 1 < n → (∀ c, c < n → A i c = A (i + d + 1) c) → f A = 0 := by
  intro d
  induction d with
  | zero => exact fun A i hi he => h.adj A i hi he
  | succ d ih =>
    intro A i hi he
    have h1 := h.swap_adj A (i + d + 1) (by omega)
    have h2 := ih (swapM A (i + d + 1) (i + d + 1 + 1)) i (by omega) fun c hc => by
      have := he c hc
      simp only [swapM, setRow]
      rw [if_neg (by omega), if_neg (by omega), if_neg (by omega), if_pos trivial]
      exact this
    omega

theorem Alt.eq_zero (h : Alt n f) (A : Mx) {i j : Nat} (hij : i ≠ j) (hi : i < n) (hj : j < n) (he : ∀ c, c < n → A i c = A j c) : f A = 0 := by
  rcases Nat.lt_or_ge i j with h1 | h1
  · have := h.eq_rows (j - i - 1) A i (by omega)
    rw [show i + (j - i - 1) + 1 = j from by omega] at this
    exact this he
  · have := h.eq_rows (i - j - 1) A j (by omega)
    rw [show j + (i - j - 1) + 1 = i from by omega] at this
    exact this fun c hc => (he c hc).symm

theorem Alt.swap (h : Alt n f) (A : Mx) {i j : Nat} (hij : i ≠ j) (hi : i < n) (hj : j < n) : f (swapM A i j) = -f A := by
  have k : ∀ r s : Nat → Int, f (setRow (setRow A i r) j s) + f (setRow (setRow A i s) j r) = 0 := by
    intro r s
    have e : ∀ t : Nat → Int, f (setRow (setRow A i t) j t) = 0 := fun t => h.eq_zero _ hij hi hj fun c _ => by simp [setRow]
    have h0 := e fun c => r c + s c
    rw [h.add _ _ hj, setRow_comm A hij, setRow_comm A hij, h.add _ _ hi, h.add _ _ hi, ← setRow_comm A hij, ← setRow_comm A hij, ← setRow_comm A hij, ← setRow_comm A hij, e r, e s] at h0
    omega
  have k1 := k (A j) (A i)
  rw [setRow_self, show setRow A j (A j) = A from setRow_self A j] at k1
  unfold swapM
  omega

/-- So many times one row, added to another one. -/
theorem Alt.add_row (h : Alt n f) (A : Mx) {i j : Nat} (hij : i ≠ j) (hi : i < n) (hj : j < n) (x : Int) : f (setRow A i fun c => A i c + x * A j c) = f A := by
  have h1 := h.add A i hi (A i) (fun c => x * A j c)
  rw [h1, h.mul A i hi, setRow_self, h.eq_zero (setRow A i (A j)) hij hi hj fun c _ => by simp [setRow, Ne.symm hij]]
  simp

theorem Alt.zero_row (h : Alt n f) (A : Mx) {i : Nat} (hi : i < n) (he : ∀ c, c < n → A i c = 0) : f A = 0 := by
  have h1 := h.mul A i hi 0 (A i)
  rw [Int.zero_mul] at h1
  rw [← h1]
  refine h.congr fun a c _ hc => ?_
  simp only [setRow]
  split
  · next e => subst e; rw [he c hc]; simp
  · rfl

/-- A row is a sum of units. -/
theorem Alt.row_sum (h : Alt n f) (A : Mx) {i : Nat} (hi : i < n) : f A = sumTo (fun j => A i j * f (setRow A i (unit_ j))) n := by
  have k : ∀ m, f (setRow A i fun c => if c < m then A i c else 0) = sumTo (fun j => A i j * f (setRow A i (unit_ j))) m := by
    intro m
    induction m with
    | zero => exact h.zero_row _ hi fun c _ => by simp [setRow]
    | succ m ih =>
      rw [sumTo, ← ih, ← h.mul A i hi (A i m) (unit_ m), ← h.add A i hi]
      congr 2
      funext c
      simp only [unit_]
      by_cases h1 : c = m
      · subst h1; simp
      · by_cases h2 : c < m
        · simp [h1, h2, Nat.lt_succ_of_lt h2]
        · simp [h1, h2, show ¬ c < m + 1 from by omega]
  rw [← k n]
  refine h.congr fun a c _ hc => ?_
  simp only [setRow]
  split
  · next e => subst e; simp
  · rfl
end

/-- The row e_j, above the rows of B with a column of noughts put in at j. -/
def under (j : Nat) (B : Mx) : Mx := fun r c => if r = 0 then unit_ j c else if c < j then B (r - 1) c else if c = j then 0 else B (r - 1) (c - 1)

/-- The unit rows, but the j-th one first. -/
def first (j : Nat) : Mx := fun r => if r = 0 then unit_ j else if r ≤ j then unit_ (r - 1) else unit_ r

theorem first_swap (j : Nat) : swapM (first (j + 1)) 0 (j + 1) = fun r => if r = 0 then unit_ j else if r = j + 1 then unit_ (j + 1) else if r ≤ j then unit_ (r - 1) else unit_ r := by
  funext r
  simp only [swapM]
  funext c
  simp only [setRow, first]
  by_cases h0 : r = 0
  · subst h0
    simp
  · by_cases h1 : r = j + 1
    · subst h1; simp
    · by_cases h2 : r ≤ j
      · simp [h0, h1, h2, show r ≤ j + 1 from by omega]
      · simp [h0, h1, h2, show ¬ r ≤ j + 1 from by omega]

theorem Alt.first_sign {n : Nat} {f : Mx → Int} (h : Alt n f) : ∀ j, j < n → f (first j) = sg j * f idM := by
  intro j
  induction j with
  | zero =>
    intro _
    have : first 0 = idM := by
      funext r
      simp only [first, idM]
      split
      · next e => rw [e]
      · next e => rw [if_neg (by omega)]
    rw [this]; simp [sg]
  | succ j ih =>
    intro hj
    have h1 := h.swap (first (j + 1)) (i := 0) (j := j + 1) (by omega) (by omega) hj
    have h2 : swapM (first (j + 1)) 0 (j + 1) = first j := by
      rw [first_swap]
      funext r
      simp only [first]
      by_cases h0 : r = 0
      · simp [h0]
      · by_cases h1 : r = j + 1
        · subst h1; simp [show ¬ j + 1 ≤ j from by omega]
        · simp [h0, h1]
    rw [h2, ih (by omega)] at h1
    rw [sg_succ]
    grind

/-- THERE IS BUT ONE: what does with rows as a determinant does is so many times the determinant. -/
theorem Alt.unique {n : Nat} : ∀ {f : Mx → Int}, Alt n f → ∀ A, f A = f idM * det n A := by
  induction n with
  | zero =>
    intro f h A
    rw [h.congr (A := A) (B := idM) fun i j hi => absurd hi (Nat.not_lt_zero _)]
    simp [det]
  | succ n ih =>
    intro f h A
    rw [h.row_sum A (Nat.succ_pos n), det, ← sumTo_mul]
    refine sumTo_congr fun j hj => ?_
    -- with the first row a unit, the column beneath it may be struck
    have hstrike : f (setRow A 0 (unit_ j)) = f (under j (minor A 0 j)) := by
      have k : ∀ m, m ≤ n → f (fun r c => if r = 0 then unit_ j c else if r ≤ m then (if c = j then 0 else A r c) else A r c) = f (setRow A 0 (unit_ j)) := by
        intro m
        induction m with
        | zero =>
          intro _
          congr 1
          funext r c
          simp only [setRow]
          by_cases h0 : r = 0
          · simp [h0]
          · simp [h0]
        | succ m ihm =>
          intro hm
          rw [← ihm (by omega)]
          rw [← h.add_row (fun r c => if r = 0 then unit_ j c else if r ≤ m then (if c = j then 0 else A r c) else A r c) (i := m + 1) (j := 0) (by omega) (by omega) (by omega) (-A (m + 1) j)]
          congr 1
          funext r c
          simp only [setRow, if_true]
          by_cases h0 : r = 0
          · subst h0; simp
          · by_cases h1 : r = m + 1
            · subst h1
              by_cases h2 : c = j
              · subst h2; simp [unit_]; omega
              · simp [unit_, h2]
            · by_cases h2 : r ≤ m
              · simp [h0, h1, h2, show r ≤ m + 1 from by omega]
              · simp [h0, h1, h2, show ¬ r ≤ m + 1 from by omega]
      rw [← k n (Nat.le_refl _)]
      refine h.congr fun r c hr hc => ?_
      simp only [under, minor, skip_zero]
      by_cases h0 : r = 0
      · simp [h0]
      · rw [if_neg h0, if_pos (by omega), if_neg h0, show r - 1 + 1 = r from by omega]
        by_cases h1 : c < j
        · rw [if_neg (by omega), if_pos h1]; simp [skip, h1]
        · by_cases h2 : c = j
          · simp [h2]
          · rw [if_neg h2, if_neg h1, if_neg h2]
            have : skip j (c - 1) = c := by unfold skip; split <;> omega
            rw [this]
    have g : Alt n (fun B => f (under j B)) := by
      refine ⟨fun {B C} e => h.congr fun r c hr hc => ?_, fun B i hi r s => ?_, fun B i hi x r => ?_, fun B i hi e => ?_⟩
      · simp only [under]
        by_cases h0 : r = 0
        · simp [h0]
        · rw [if_neg h0, if_neg h0]
          by_cases h1 : c < j
          · rw [if_pos h1, if_pos h1]; exact e _ _ (by omega) (by omega)
          · by_cases h2 : c = j
            · simp [h2]
            · rw [if_neg h1, if_neg h1, if_neg h2, if_neg h2]; exact e _ _ (by omega) (by omega)
      · have q : ∀ t : Nat → Int, under j (setRow B i t) = setRow (under j B) (i + 1) (fun c => if c < j then t c else if c = j then 0 else t (c - 1)) := by
          intro t
          funext a c
          simp only [under, setRow]
          by_cases h0 : a = 0
          · simp [h0]
          · by_cases h1 : a = i + 1
            · subst h1; simp
            · simp [h0, h1, show ¬ a - 1 = i from by omega]
        simp only [q]
        rw [← h.add _ _ (by omega)]
        congr 2
        funext c
        (repeat' split) <;> simp
      · have q : ∀ t : Nat → Int, under j (setRow B i t) = setRow (under j B) (i + 1) (fun c => if c < j then t c else if c = j then 0 else t (c - 1)) := by
          intro t
          funext a c
          simp only [under, setRow]
          by_cases h0 : a = 0
          · simp [h0]
          · by_cases h1 : a = i + 1
            · subst h1; simp
            · simp [h0, h1, show ¬ a - 1 = i from by omega]
        simp only [q]
        rw [← h.mul _ _ (by omega)]
        congr 2
        funext c
        (repeat' split) <;> simp
      · refine h.adj _ (i + 1) (by omega) fun c hc => ?_
        have a1 : under j B (i + 1) c = if c < j then B i c else if c = j then 0 else B i (c - 1) := by simp [under]
        have a2 : under j B (i + 1 + 1) c = if c < j then B (i + 1) c else if c = j then 0 else B (i + 1) (c - 1) := by simp [under]
        rw [a1, a2]
        by_cases h1 : c < j
        · rw [if_pos h1, if_pos h1]; exact e _ (by omega)
        · by_cases h2 : c = j
          · simp [h2]
          · rw [if_neg h1, if_neg h1, if_neg h2, if_neg h2]; exact e _ (by omega)
    have hI : f (under j idM) = sg j * f idM := by
      rw [← h.first_sign j hj]
      congr 1
      funext r c
      simp only [under, first, idM]
      by_cases h0 : r = 0
      · simp [h0]
      · rw [if_neg h0, if_neg h0]
        by_cases h1 : r ≤ j
        · rw [if_pos h1]
          simp only [unit_]
          by_cases h2 : c < j
          · rw [if_pos h2]
          · by_cases h3 : c = j
            · rw [if_neg h2, if_pos h3, if_neg (by omega)]
            · rw [if_neg h2, if_neg h3, if_neg (by omega), if_neg (by omega)]
        · rw [if_neg h1]
          simp only [unit_]
          by_cases h2 : c < j
          · rw [if_pos h2, if_neg (by omega), if_neg (by omega)]
          · by_cases h3 : c = j
            · rw [if_neg h2, if_pos h3, if_neg (by omega)]
            · rw [if_neg h2, if_neg h3]
              by_cases h4 : c = r
              · rw [if_pos (by omega), if_pos h4]
              · rw [if_neg (by omega), if_neg h4]
    have hfin := ih g (minor A 0 j)
    rw [hstrike, hfin, hI]
    grind

end Go.Rk
namespace Go.Rk

theorem unit_pick (g : Nat → Int) {i n : Nat} (h : i < n) : sumTo (fun k => unit_ i k * g k) n = g i := by
  induction n with
  | zero => omega
  | succ n ih =>
    rw [sumTo]
    by_cases h1 : i = n
    · subst h1
      rw [sumTo_congr (h := fun _ => 0) fun k hk => by simp [unit_, show ¬ k = i from by omega], sumTo_zero]
      simp [unit_]
    · rw [ih (by omega)]
      simp [unit_, show ¬ n = i from by omega]

theorem unit_pick' (g : Nat → Int) {i n : Nat} (h : i < n) : sumTo (fun k => g k * unit_ k i) n = g i := by
  rw [← unit_pick g h]
  refine sumTo_congr fun k _ => ?_
  by_cases e : k = i
  · subst e; simp [unit_]
  · simp [unit_, e, Ne.symm e]

theorem mulM_id (n : Nat) (A : Mx) {i j : Nat} (hi : i < n) : mulM n idM A i j = A i j := unit_pick (fun k => A k j) hi
theorem mulM_id' (n : Nat) (A : Mx) {i j : Nat} (hj : j < n) : mulM n A idM i j = A i j := by
  unfold mulM idM
  exact unit_pick' (fun k => A i k) hj

theorem mulM_assoc (n m : Nat) (A B C : Mx) (i j : Nat) : mulM m (mulM n A B) C i j = mulM n A (mulM m B C) i j := by
  unfold mulM
  have h1 : ∀ k, sumTo (fun l => A i l * B l k) n * C k j = sumTo (fun l => A i l * (B l k * C k j)) n := fun k => by
    rw [Int.mul_comm, ← sumTo_mul]
    exact sumTo_congr fun l _ => by grind
  rw [sumTo_congr fun k _ => h1 k, sumTo_swap]
  exact sumTo_congr fun l _ => sumTo_mul _ _ _

theorem det_id (n : Nat) : det n idM = 1 := by
  induction n with
  | zero => rfl
  | succ n ih =>
    rw [det, sumTo_succ_left, sumTo_congr (h := fun _ => 0) fun j _ => by simp [idM, unit_], sumTo_zero]
    have : minor idM 0 0 = idM := by funext r c; simp [minor, skip_zero, idM, unit_]
    rw [this, ih]
    simp [idM, unit_, sg]

/-- CAUCHY, BINET. -/
theorem det_mul (n : Nat) (A B : Mx) : det n (mulM n A B) = det n A * det n B := by
  have q : ∀ (A : Mx) (i : Nat) (t : Nat → Int), mulM n (setRow A i t) B = setRow (mulM n A B) i (fun c => sumTo (fun k => t k * B k c) n) := by
    intro A i t
    funext a c
    simp only [mulM, setRow]
    split <;> rfl
  have h : Alt n (fun A => det n (mulM n A B)) := by
    refine ⟨fun {A C} e => det_congr fun i j hi _ => sumTo_congr fun k hk => by rw [e i k hi hk], fun A i hi r s => ?_, fun A i hi x r => ?_, fun A i hi e => ?_⟩
    · simp only [q]
      rw [← det_row_add _ _ hi]
      congr 2
      funext c
      rw [← sumTo_add]
      exact sumTo_congr fun k _ => Int.add_mul _ _ _
    · simp only [q]
      rw [← det_row_mul _ _ hi]
      congr 2
      funext c
      rw [← sumTo_mul]
      exact sumTo_congr fun k _ => Int.mul_assoc _ _ _
    · exact det_adj_eq _ i hi fun c _ => sumTo_congr fun k hk => by rw [e k hk]
  have h1 : det n (mulM n A B) = det n (mulM n idM B) * det n A := h.unique A
  rw [h1, det_congr (A := mulM n idM B) (B := B) fun i j hi _ => mulM_id n B hi, Int.mul_comm]

/-- By the first column. -/
theorem det_col {n : Nat} : ∀ (A : Mx), det (n + 1) A = sumTo (fun i => sg i * A i 0 * det n (minor A i 0)) (n + 1) := by
  induction n with
  | zero => intro A; rfl
  | succ n ih =>
    intro A
    rw [det, sumTo_succ_left, sumTo_succ_left (fun i => sg i * A i 0 * det (n + 1) (minor A i 0))]
    congr 1
    have h1 : ∀ j, j < n + 1 → sg (j + 1) * A 0 (j + 1) * det (n + 1) (minor A 0 (j + 1)) = sumTo (fun i => -(sg i * sg j) * (A 0 (j + 1) * A (i + 1) 0 * det n (minor (minor A 0 (j + 1)) i 0))) (n + 1) := by
      intro j _
      rw [ih, ← sumTo_mul]
      refine sumTo_congr fun i _ => ?_
      have : minor A 0 (j + 1) i 0 = A (i + 1) 0 := by simp [minor, skip]
      rw [this, sg_succ]
      grind
    have h2 : ∀ i, i < n + 1 → sg (i + 1) * A (i + 1) 0 * det (n + 1) (minor A (i + 1) 0) = sumTo (fun j => -(sg i * sg j) * (A 0 (j + 1) * A (i + 1) 0 * det n (minor (minor A 0 (j + 1)) i 0))) (n + 1) := by
      intro i _
      rw [det, ← sumTo_mul]
      refine sumTo_congr fun j _ => ?_
      have e1 : minor A (i + 1) 0 0 j = A 0 (j + 1) := by simp [minor, skip]
      have e2 : minor (minor A (i + 1) 0) 0 j = minor (minor A 0 (j + 1)) i 0 := by
        funext r c
        simp only [minor, skip_zero]
        congr 1
        · unfold skip; (repeat' split) <;> omega
        · unfold skip; (repeat' split) <;> omega
      rw [e1, e2, sg_succ]
      grind
    rw [sumTo_congr h1, sumTo_congr h2, sumTo_swap]

theorem det_tr {n : Nat} : ∀ (A : Mx), det n (trM A) = det n A := by
  induction n with
  | zero => intro A; rfl
  | succ n ih =>
    intro A
    rw [det_col A, det]
    refine sumTo_congr fun j _ => ?_
    have : minor (trM A) 0 j = trM (minor A j 0) := by funext r c; rfl
    rw [this, ih]
    rfl

/-- The row i set first, the others in their order. -/
def raise (A : Mx) (i : Nat) : Mx := fun r => if r = 0 then A i else if r ≤ i then A (r - 1) else A r

theorem Alt.raise_sign {n : Nat} {f : Mx → Int} (h : Alt n f) : ∀ (i : Nat) (A : Mx), i < n → f (raise A i) = sg i * f A := by
  intro i
  induction i with
  | zero =>
    intro A _
    have : raise A 0 = A := by funext r; simp only [raise]; split <;> simp_all
    rw [this]; simp [sg]
  | succ i ih =>
    intro A hi
    have h1 := h.swap_adj A i hi
    have h2 := ih (swapM A i (i + 1)) (by omega)
    have e : raise (swapM A i (i + 1)) i = raise A (i + 1) := by
      funext r c
      simp only [raise, swapM]
      by_cases h0 : r = 0
      · simp [h0, setRow]
      · by_cases h1 : r ≤ i
        · simp [h0, h1, setRow, show r ≤ i + 1 from by omega, show ¬ r - 1 = i + 1 from by omega, show ¬ r - 1 = i from by omega]
        · by_cases h2 : r = i + 1
          · subst h2; simp [setRow, show ¬ i + 1 ≤ i from by omega]
          · simp [h0, h1, h2, setRow, show ¬ r ≤ i + 1 from by omega, show ¬ r = i from by omega]
    rw [← e, h2, h1, sg_succ]
    grind

theorem minor_raise (A : Mx) (i j : Nat) : minor (raise A i) 0 j = minor A i j := by
  funext r c
  simp only [minor, raise, skip_zero]
  simp only [skip]
  by_cases h : r < i
  · simp [h, show r + 1 ≤ i from by omega]
  · simp [h, show ¬ r + 1 ≤ i from by omega]

/-- LAPLACE: by any row. -/
theorem det_row {n : Nat} (A : Mx) {i : Nat} (hi : i < n + 1) : det (n + 1) A = sumTo (fun j => sg (i + j) * A i j * det n (minor A i j)) (n + 1) := by
  have h1 := (det_alt (n + 1)).raise_sign i A hi
  have h2 : det (n + 1) A = sg i * det (n + 1) (raise A i) := by rw [h1, ← Int.mul_assoc, sg_sq, Int.one_mul]
  rw [h2, det, ← sumTo_mul]
  refine sumTo_congr fun j _ => ?_
  rw [minor_raise, sg_add]
  simp only [raise, if_true]
  grind

/-- With another row's numbers it is 0. -/
theorem det_row_other {n : Nat} (A : Mx) {i k : Nat} (hi : i < n + 1) (hk : k < n + 1) (hne : i ≠ k) : sumTo (fun j => sg (i + j) * A k j * det n (minor A i j)) (n + 1) = 0 := by
  have h1 := det_row (setRow A i (A k)) hi
  rw [(det_alt (n + 1)).eq_zero (setRow A i (A k)) hne hi hk fun c _ => by simp [setRow, Ne.symm hne]] at h1
  rw [h1]
  refine sumTo_congr fun j _ => ?_
  have : minor (setRow A i (A k)) i j = minor A i j := by
    funext r c
    simp only [minor, setRow]
    rw [if_neg (skip_ne i r)]
  rw [this]
  simp [setRow]

/-- The adjugate. -/
def adj (n : Nat) (A : Mx) : Mx := fun i j => sg (i + j) * det (n - 1) (minor A j i)

theorem mul_adj {n : Nat} (A : Mx) {i j : Nat} (hi : i < n) (hj : j < n) : mulM n A (adj n A) i j = if i = j then det n A else 0 := by
  obtain ⟨m, rfl⟩ : ∃ m, n = m + 1 := ⟨n - 1, by omega⟩
  unfold mulM adj
  simp only [Nat.add_sub_cancel]
  split
  · next e =>
    subst e
    rw [det_row A hi]
    exact sumTo_congr fun k _ => by rw [Nat.add_comm k i]; grind
  · next e =>
    rw [← det_row_other A hj hi fun e' => e e'.symm]
    exact sumTo_congr fun k _ => by rw [Nat.add_comm k j]; grind

theorem adj_tr (n : Nat) (A : Mx) (i j : Nat) : adj n (trM A) i j = adj n A j i := by
  unfold adj
  have : minor (trM A) j i = trM (minor A i j) := by funext r c; rfl
  rw [this, det_tr, Nat.add_comm]

theorem adj_mul {n : Nat} (A : Mx) {i j : Nat} (hi : i < n) (hj : j < n) : mulM n (adj n A) A i j = if i = j then det n A else 0 := by
  have h := mul_adj (trM A) hj hi
  rw [det_tr] at h
  have e : mulM n (trM A) (adj n (trM A)) j i = mulM n (adj n A) A i j := by
    unfold mulM
    exact sumTo_congr fun k _ => by rw [adj_tr, Int.mul_comm]; rfl
  rw [← e, h]
  by_cases h1 : i = j
  · simp [h1]
  · simp [h1, Ne.symm h1]

def prodTo (g : Nat → Int) : Nat → Int
  | 0 => 1
  | n + 1 => prodTo g n * g n

theorem prodTo_succ_left (g : Nat → Int) (n : Nat) : prodTo g (n + 1) = g 0 * prodTo (fun i => g (i + 1)) n := by
  induction n with
  | zero => simp [prodTo]
  | succ n ih => rw [prodTo, ih, prodTo, Int.mul_assoc]

theorem prodTo_congr {g h : Nat → Int} {n : Nat} (e : ∀ i, i < n → g i = h i) : prodTo g n = prodTo h n := by
  induction n with
  | zero => rfl
  | succ n ih => rw [prodTo, prodTo, ih fun i hi => e i (Nat.lt_succ_of_lt hi), e n (Nat.lt_succ_self n)]

/-- With noughts above the middle. -/
theorem det_lower {n : Nat} : ∀ (A : Mx), (∀ i j, i < n → j < n → i < j → A i j = 0) → det n A = prodTo (fun i => A i i) n := by
  induction n with
  | zero => intro A _; rfl
  | succ n ih =>
    intro A h
    rw [det, sumTo_succ_left, sumTo_congr (h := fun _ => 0) fun j hj => by rw [h 0 (j + 1) (by omega) (by omega) (by omega)]; simp, sumTo_zero, prodTo_succ_left,
      ih (minor A 0 0) fun i j hi hj hij => by simp only [minor, skip_zero]; exact h _ _ (by omega) (by omega) (by omega)]
    simp [sg, minor, skip_zero]

/-- With noughts below the middle. -/
theorem det_upper {n : Nat} (A : Mx) (h : ∀ i j, i < n → j < n → j < i → A i j = 0) : det n A = prodTo (fun i => A i i) n := by
  rw [← det_tr, det_lower (trM A) fun i j hi hj hij => h j i hj hi hij]
  rfl

theorem det_eqm {n : Nat} : ∀ {A B : Mx}, (∀ i j, i < n → j < n → Eqm (A i j) (B i j)) → Eqm (det n A) (det n B) := by
  induction n with
  | zero => intro A B _; exact Eqm.refl _
  | succ n ih =>
    intro A B h
    unfold det
    refine Eqm.sum fun j hj => ?_
    exact ((Eqm.refl _).mul (h 0 j (by omega) hj)).mul (ih fun r c hr hc => h _ _ (skip_lt hr) (skip_lt hc))

end Go.Rk
namespace Go.Rk
open Go.RowKit

/-- A matrix of so many rows and columns, written out. -/
def mkM (n c : Nat) (F : Nat → Nat → Int) : List (List Int) := (List.range n).map fun i => (List.range c).map fun j => F i j
theorem mkM_row {n c : Nat} {F : Nat → Nat → Int} {i : Nat} (hi : i < n) : rowOf (mkM n c F) i = (List.range c).map fun j => F i j := by
  rw [rowOf_lt (by simp [mkM]; exact hi)]; simp [mkM]
theorem mkM_is (n c : Nat) (F : Nat → Nat → Int) : IsR n c (mkM n c F) F := by
  refine ⟨⟨by simp [mkM], fun i hi => by rw [mkM_row hi]; simp⟩, fun i j hi hj => ?_⟩
  unfold en
  rw [mkM_row hi, ix_lt (by simp; exact hj)]
  simp
theorem IsR.eq {n c : Nat} {M : List (List Int)} {F : Nat → Nat → Int} (h : IsR n c M F) : M = mkM n c F :=
  h.1.ext (mkM_is n c F).1 fun i j hi hj => by rw [h.2 i j hi hj, (mkM_is n c F).2 i j hi hj]

/-- Two matrices that are one by the prime, in the first n rows and c columns. -/
def EqM (n c : Nat) (A B : Mx) : Prop := ∀ i j, i < n → j < c → Eqm (A i j) (B i j)
theorem EqM.refl (n c : Nat) (A : Mx) : EqM n c A A := fun _ _ _ _ => Eqm.refl _
theorem EqM.symm {n c : Nat} {A B : Mx} (h : EqM n c A B) : EqM n c B A := fun i j hi hj => (h i j hi hj).symm
theorem EqM.trans {n c : Nat} {A B C : Mx} (h : EqM n c A B) (k : EqM n c B C) : EqM n c A C := fun i j hi hj => (h i j hi hj).trans (k i j hi hj)
theorem sumTo_eqm {g h : Nat → Int} {n : Nat} (e : ∀ i, i < n → Eqm (g i) (h i)) : Eqm (sumTo g n) (sumTo h n) := by
  induction n with
  | zero => exact Eqm.refl _
  | succ n ih => exact Eqm.add (ih fun i hi => e i (by omega)) (e n (by omega))
theorem EqM.mul {n k c : Nat} {A A' B B' : Mx} (h : EqM n k A A') (g : EqM k c B B') : EqM n c (mulM k A B) (mulM k A' B') :=
  fun i j hi hj => sumTo_eqm fun t ht => Eqm.mul (h i t hi ht) (g t j ht hj)
theorem mulM_go (k c : Nat) (A B C : Mx) : mulM c (mulM k A B) C = mulM k A (mulM c B C) := by
  funext i j
  unfold mulM
  rw [sumTo_congr (h := fun t => sumTo (fun s => A i s * B s t * C t j) k) fun t _ => by rw [Int.mul_comm, ← sumTo_mul]; exact sumTo_congr fun s _ => Int.mul_comm _ _]
  rw [sumTo_swap]
  refine sumTo_congr fun s _ => ?_
  rw [← sumTo_mul]
  exact sumTo_congr fun t _ => Int.mul_assoc _ _ _
theorem mulM_add (k : Nat) (A B C : Mx) : mulM k A (fun i j => B i j + C i j) = fun i j => mulM k A B i j + mulM k A C i j := by
  funext i j
  unfold mulM
  rw [← sumTo_add]
  exact sumTo_congr fun t _ => Int.mul_add _ _ _
theorem mulM_tr (k : Nat) (A B : Mx) : trM (mulM k A B) = mulM k (trM B) (trM A) := by
  funext i j
  unfold trM mulM
  exact sumTo_congr fun t _ => Int.mul_comm _ _

/-- The one that changes nothing. -/
def oneM : Mx := fun i j => if i = j then 1 else 0
theorem sumTo_pick (g : Nat → Int) {n i : Nat} (hi : i < n) : sumTo (fun t => (if i = t then 1 else 0) * g t) n = g i := by
  induction n with
  | zero => omega
  | succ n ih =>
    rw [sumTo]
    by_cases e : i = n
    · subst e
      rw [if_pos rfl, sumTo_congr (h := fun _ => 0) fun t ht => by rw [if_neg (by omega), Int.zero_mul], sumTo_zero]
      omega
    · rw [ih (by omega), if_neg e]
      omega
theorem one_mulM {n : Nat} (A : Mx) {i : Nat} (hi : i < n) (j : Nat) : mulM n oneM A i j = A i j := sumTo_pick (fun t => A t j) hi
theorem mulM_one {n : Nat} (A : Mx) (i : Nat) {j : Nat} (hj : j < n) : mulM n A oneM i j = A i j := by
  unfold mulM oneM
  have e (t : Nat) : A i t * (if t = j then 1 else 0) = (if j = t then 1 else 0) * A i t := by
    rw [Int.mul_comm]
    by_cases h : t = j
    · rw [if_pos h, if_pos h.symm]
    · rw [if_neg h, if_neg fun h2 => h h2.symm]
  rw [sumTo_congr fun t _ => e t]
  exact sumTo_pick (fun t => A i t) hj

def powM (n : Nat) (A : Mx) : Nat → Mx
  | 0 => oneM
  | e + 1 => mulM n A (powM n A e)
theorem powM_congr {n : Nat} {A B : Mx} (h : EqM n n A B) : ∀ e, EqM n n (powM n A e) (powM n B e)
  | 0 => EqM.refl _ _ _
  | e + 1 => EqM.mul h (powM_congr h e)
theorem powM_add {n : Nat} (A : Mx) (a b : Nat) : EqM n n (mulM n (powM n A a) (powM n A b)) (powM n A (a + b)) := by
  induction a with
  | zero => rw [Nat.zero_add]; exact fun i _ hi _ => Eqm.of_eq (one_mulM _ hi _)
  | succ a ih =>
    rw [show a + 1 + b = (a + b) + 1 by omega, powM, mulM_go]
    exact EqM.mul (EqM.refl _ _ _) ih
theorem powM_one {n : Nat} (A : Mx) : EqM n n (powM n A 1) A := fun i _ _ hj => Eqm.of_eq (mulM_one A i hj)
theorem powM_mul {n : Nat} (A : Mx) (a b : Nat) : EqM n n (powM n (powM n A a) b) (powM n A (a * b)) := by
  induction b with
  | zero => exact EqM.refl _ _ _
  | succ b ih =>
    rw [powM, Nat.mul_succ, Nat.add_comm]
    exact (EqM.mul (EqM.refl _ _ _) ih).trans (powM_add A a (a * b))
theorem powM_two {n : Nat} (A : Mx) (k : Nat) : EqM n n (powM n (mulM n A A) k) (powM n A (2 * k)) := by
  refine (powM_congr ?_ k).trans (powM_mul A 2 k)
  exact EqM.mul (EqM.refl _ _ _) (powM_one A).symm
/-- A step of powers by halves. -/
theorem pow_even {n : Nat} (X A : Mx) (k : Nat) : EqM n n (mulM n X (powM n (mulM n A A) k)) (mulM n X (powM n A (2 * k))) := EqM.mul (EqM.refl _ _ _) (powM_two A k)
theorem pow_odd {n : Nat} (X A : Mx) (k : Nat) : EqM n n (mulM n (mulM n X A) (powM n (mulM n A A) k)) (mulM n X (powM n A (2 * k + 1))) := by
  rw [mulM_go]
  exact EqM.mul (EqM.refl _ _ _) (EqM.mul (EqM.refl _ _ _) (powM_two A k))
end Go.Rk
namespace Go.Rk

def pwN : Nat → Nat → Nat → Nat → Nat
  | 0, o, _, _ => o
  | f + 1, o, a, n => if n = 0 then o else pwN f (if n % 2 = 1 then o * a % 9973 else o) (a * a % 9973) (n / 2)

theorem pwN_eq (f : Nat) : ∀ (o a n : Nat), n < 2 ^ f → (pwN f o a n : Int) % 9973 = (o : Int) * (a : Int) ^ n % 9973 := by
  induction f with
  | zero =>
    intro o a n h
    obtain rfl : n = 0 := by simpa using h
    simp [pwN]
  | succ f ih =>
    intro o a n h
    rw [pwN]
    split
    · next h0 => subst h0; simp
    · next h0 =>
      rw [ih _ _ _ (by rw [Nat.pow_succ] at h; omega)]
      split
      · next h1 =>
        have := powm_odd (o := (o : Int)) (b := (a : Int)) (m := n) rfl h1
        rw [← this]
        congr 1
      · next h1 =>
        have := powm_even (o := (o : Int)) (b := (a : Int)) (m := n) rfl (by omega)
        rw [← this]
        congr 1

theorem fermat_all : (List.range 9973).all (fun a => a == 0 || pwN 14 1 a 9971 * a % 9973 == 1) = true := by decide +kernel

/-- FERMAT: what an element's reciprocal is. -/
theorem over_mul {a : Int} (h1 : 0 ≤ a) (h2 : a ≤ 9972) (h0 : a ≠ 0) : powm a 9971 * a % 9973 = 1 := by
  obtain ⟨k, rfl⟩ := Int.eq_ofNat_of_zero_le h1
  have h3 := List.all_eq_true.1 fermat_all k (List.mem_range.2 (by omega))
  simp only [Bool.or_eq_true, beq_iff_eq] at h3
  have h4 : pwN 14 1 k 9971 * k % 9973 = 1 := by
    rcases h3 with h3 | h3
    · omega
    · exact h3
  have h5 := pwN_eq 14 1 k 9971 (by decide)
  rw [Int.natCast_one, Int.one_mul] at h5
  unfold powm
  rw [← h5]
  have h6 : ((pwN 14 1 k 9971 * k : Nat) : Int) % 9973 = 1 := by omega
  rw [Int.natCast_mul] at h6
  have := (Eqm.mod (pwN 14 1 k 9971 : Int)).mul (Eqm.refl (k : Int))
  unfold Eqm at this
  omega

theorem powm_in (a : Int) (n : Nat) : 0 ≤ powm a n ∧ powm a n ≤ 9972 := by unfold powm; omega

theorem zeros_succ {f : Nat → Int} {c k : Nat} (h : ∀ r, c ≤ r → r < k → f r = 0) (h1 : f k = 0) : ∀ r, c ≤ r → r < k + 1 → f r = 0 := by
  intro r h2 h3
  rcases Nat.lt_or_ge r k with h4 | h4
  · exact h r h2 h4
  · obtain rfl : r = k := by omega
    exact h1

def mx (M : List (List Int)) : Mx := fun i j => en M i j
/-- Square, of n rows. -/
def Dim (n : Nat) (M : List (List Int)) : Prop := M.length = n ∧ ∀ i, i < n → (rowOf M i).length = n
/-- Each number between. -/
def Ent (lo hi : Int) (n : Nat) (M : List (List Int)) : Prop := ∀ i j, i < n → j < n → lo ≤ en M i j ∧ en M i j ≤ hi
/-- The matrix is F. -/
def Is (n : Nat) (M : List (List Int)) (F : Mx) : Prop := Dim n M ∧ ∀ i j, i < n → j < n → en M i j = F i j

theorem Is.set {n : Nat} {M : List (List Int)} {F : Mx} (h : Is n M F) {i j : Nat} (x : Int) : Is n (setE M i j x) (fun r c => if i = r ∧ j = c then x else F r c) := by
  refine ⟨⟨by rw [setE_len]; exact h.1.1, fun r hr => by rw [setE_row_len]; exact h.1.2 r hr⟩, fun r c hr hc => ?_⟩
  show _ = if i = r ∧ j = c then x else F r c
  rw [en_setE, h.1.1]
  by_cases e : i = r ∧ j = c
  · rw [if_pos ⟨e.1, e.2, hr, by rw [h.1.2 r hr]; exact hc⟩, if_pos e]
  · rw [if_neg fun e2 => e ⟨e2.1, e2.2.1⟩, if_neg e]; exact h.2 r c hr hc

theorem Is.congr {n : Nat} {M : List (List Int)} {F G : Mx} (h : Is n M F) (e : ∀ i j, i < n → j < n → F i j = G i j) : Is n M G :=
  ⟨h.1, fun i j hi hj => by rw [h.2 i j hi hj, e i j hi hj]⟩

theorem Is.self {n : Nat} {M : List (List Int)} (h : Dim n M) : Is n M (mx M) := ⟨h, fun _ _ _ _ => rfl⟩

/-- What elimination makes of an element: so many times row c from row i. -/
def elimE (M : List (List Int)) (c : Nat) (ov : Int) (i j : Nat) : Int := (en M i j - en M i c * ov % 9973 * en M c j) % 9973
/-- Done in the rows from c + 1 up to k, and in row k up to column j. -/
def elimP (M : List (List Int)) (c : Nat) (ov : Int) (k j : Nat) : Mx := fun r s => if (c < r ∧ r < k) ∨ (r = k ∧ s < j) then elimE M c ov r s else en M r s

theorem Is.next {n : Nat} {M M' : List (List Int)} {c k : Nat} {ov : Int} (hck : c < k) (h : Is n M' (elimP M c ov k n)) : Is n M' (elimP M c ov (k + 1) 0) := by
  refine h.congr fun r s _ hs => ?_
  simp only [elimP]
  by_cases e : (c < r ∧ r < k) ∨ (r = k ∧ s < n)
  · rw [if_pos e, if_pos (by omega)]
  · rw [if_neg e, if_neg (by omega)]

def trail (c : Nat) (M : List (List Int)) : Mx := fun i j => en M (c + i) (c + j)

/-- Between two steps of elimination. -/
structure DInv (n : Nat) (A : Mx) (c : Nat) (M : List (List Int)) (o : Int) : Prop where
  dim : Dim n M
  ent : Ent 0 9972 n M
  lo : 0 ≤ o
  hi : o ≤ 9972
  eqd : Eqm (det n A) (o * det (n - c) (trail c M))

theorem DInv.start {n : Nat} {M : List (List Int)} (h1 : Dim n M) (h2 : Ent 0 9972 n M) : DInv n (mx M) 0 M 1 :=
  ⟨h1, h2, by decide, by decide, Eqm.of_eq (by rw [Int.one_mul, Nat.sub_zero]; exact det_congr fun i j _ _ => by simp [mx, trail])⟩

theorem DInv.done {n : Nat} {A : Mx} {M : List (List Int)} {o : Int} (h : DInv n A n M o) : o = det n A % 9973 := by
  have h1 := h.eqd
  have h2 := h.lo
  have h3 := h.hi
  rw [Nat.sub_self] at h1
  simp only [det, Int.mul_one] at h1
  unfold Eqm at h1
  omega

theorem det_first_zero {n : Nat} (A : Mx) (h : ∀ i, i < n + 1 → A i 0 = 0) : det (n + 1) A = 0 := by
  rw [det_col, sumTo_congr (h := fun _ => 0) fun i hi => by rw [h i hi]; simp, sumTo_zero]

theorem DInv.zero {n : Nat} {A : Mx} {c : Nat} {M : List (List Int)} {o : Int} (h : DInv n A c M o) (hc : c < n) (hz : ∀ r, c ≤ r → r < n → en M r c = 0) : det n A % 9973 = 0 := by
  have h1 := h.eqd
  obtain ⟨m, hm⟩ : ∃ m, n - c = m + 1 := ⟨n - c - 1, by omega⟩
  rw [hm, det_first_zero (trail c M) fun i hi => hz (c + i) (by omega) (by omega), Int.mul_zero] at h1
  exact h1

theorem en_swapL {n : Nat} {M : List (List Int)} (h : Dim n M) {i k : Nat} (hi : i < n) (hk : k < n) (r s : Nat) : en (swapL M i k) r s = if r = k then en M i s else if r = i then en M k s else en M r s := by
  unfold en
  rw [rowOf_swapL (by rw [h.1]; exact hi) (by rw [h.1]; exact hk)]
  (repeat' split) <;> rfl

theorem Dim.swap {n : Nat} {M : List (List Int)} (h : Dim n M) {i k : Nat} (hi : i < n) (hk : k < n) : Dim n (swapL M i k) := by
  refine ⟨by rw [swapL_len]; exact h.1, fun r hr => ?_⟩
  rw [rowOf_swapL (by rw [h.1]; exact hi) (by rw [h.1]; exact hk)]
  (repeat' split) <;> exact h.2 _ (by assumption)

theorem Ent.swap {lo hi : Int} {n : Nat} {M : List (List Int)} (h : Dim n M) (he : Ent lo hi n M) {i k : Nat} (hi' : i < n) (hk : k < n) : Ent lo hi n (swapL M i k) := by
  intro r s hr hs
  rw [en_swapL h hi' hk]
  (repeat' split) <;> exact he _ _ (by assumption) hs

theorem trail_swap {n : Nat} {M : List (List Int)} (h : Dim n M) {c k : Nat} (hk : k < n) (hck : c < k) : det (n - c) (trail c (swapL M c k)) = -det (n - c) (trail c M) := by
  rw [← (det_alt (n - c)).swap (trail c M) (i := 0) (j := k - c) (by omega) (by omega) (by omega)]
  refine det_congr fun i j hi hj => ?_
  simp only [trail, swapM, setRow]
  rw [en_swapL h (by omega) hk]
  by_cases h1 : i = k - c
  · rw [if_pos (by omega), if_pos h1, Nat.add_zero]
  · by_cases h2 : i = 0
    · rw [if_neg (by omega), if_pos (by omega), if_neg h1, if_pos h2, show c + (k - c) = k from by omega]
    · rw [if_neg (by omega), if_neg (by omega), if_neg h1, if_neg h2]

theorem DInv.exch {n : Nat} {A : Mx} {c : Nat} {M : List (List Int)} {o : Int} (h : DInv n A c M o) {k : Nat} (hck : c ≤ k) (hk : k < n) :
    DInv n A c (if c = k then M else swapL M c k) (if c = k then o else -o % 9973) := by
  by_cases e : c = k
  · simp only [if_pos e]; exact h
  · simp only [if_neg e]
    refine ⟨h.dim.swap (by omega) hk, Ent.swap h.dim h.ent (by omega) hk, by omega, by omega, ?_⟩
    rw [trail_swap h.dim hk (by omega)]
    refine h.eqd.trans (Eqm.trans (Eqm.of_eq ?_) ((Eqm.mod (-o)).symm.mul (Eqm.refl _)))
    rw [Int.neg_mul_neg]

/-- Rows from the first one on less so many times the first one. -/
theorem det_clear {m : Nat} (A : Mx) (f : Nat → Int) : det (m + 1) (fun i j => if i = 0 then A 0 j else A i j - f i * A 0 j) = det (m + 1) A := by
  have k : ∀ q, q ≤ m → det (m + 1) (fun i j => if i = 0 then A 0 j else if i ≤ q then A i j - f i * A 0 j else A i j) = det (m + 1) A := by
    intro q
    induction q with
    | zero =>
      intro _
      refine det_congr fun i j _ _ => ?_
      by_cases h : i = 0
      · simp [h]
      · simp [h]
    | succ q ih =>
      intro hq
      rw [← ih (by omega), ← (det_alt (m + 1)).add_row (fun i j => if i = 0 then A 0 j else if i ≤ q then A i j - f i * A 0 j else A i j) (i := q + 1) (j := 0) (by omega) (by omega) (by omega) (-f (q + 1))]
      refine det_congr fun i j _ _ => ?_
      simp only [setRow, if_true]
      by_cases h0 : i = 0
      · subst h0; simp
      · by_cases h1 : i = q + 1
        · subst h1; simp; grind
        · by_cases h2 : i ≤ q
          · simp [h0, h1, h2, show i ≤ q + 1 from by omega]
          · simp [h0, h1, h2, show ¬ i ≤ q + 1 from by omega]
  rw [← k m (Nat.le_refl _)]
  refine det_congr fun i j hi _ => ?_
  by_cases h : i = 0
  · simp [h]
  · simp [h, show i ≤ m from by omega]

/-- With noughts beneath its first element. -/
theorem det_corner {m : Nat} (A : Mx) (h : ∀ i, i < m → Eqm (A (i + 1) 0) 0) : Eqm (det (m + 1) A) (A 0 0 * det m (fun i j => A (i + 1) (j + 1))) := by
  rw [det_col, sumTo_succ_left]
  have e : Eqm (sumTo (fun i => sg (i + 1) * A (i + 1) 0 * det m (minor A (i + 1) 0)) m) 0 := by
    have := Eqm.sum (g := fun i => sg (i + 1) * A (i + 1) 0 * det m (minor A (i + 1) 0)) (h := fun _ => 0) (n := m) fun i hi => by
      have := ((Eqm.refl (sg (i + 1))).mul (h i hi)).mul (Eqm.refl (det m (minor A (i + 1) 0)))
      simpa using this
    rwa [sumTo_zero] at this
  have e2 : minor A 0 0 = fun i j => A (i + 1) (j + 1) := by funext i j; simp [minor, skip_zero]
  rw [e2]
  have := (Eqm.refl (sg 0 * A 0 0 * det m (fun i j => A (i + 1) (j + 1)))).add e
  simpa [sg] using this

theorem DInv.step {n : Nat} {A : Mx} {c : Nat} {M M2 : List (List Int)} {o : Int} (h : DInv n A c M o) (hc : c < n) (hp : en M c c ≠ 0) (h2 : Is n M2 (elimP M c (powm (en M c c) 9971) n 0)) :
    DInv n A (c + 1) M2 (o * en M c c % 9973) := by
  have hpb := h.ent c c hc hc
  have hov := over_mul hpb.1 hpb.2 hp
  refine ⟨h2.1, fun i j hi hj => ?_, by omega, by omega, ?_⟩
  · rw [h2.2 i j hi hj]
    unfold elimP
    split
    · unfold elimE; omega
    · exact h.ent i j hi hj
  · obtain ⟨m, hm⟩ : ∃ m, n - c = m + 1 := ⟨n - c - 1, by omega⟩
    have hm' : n - (c + 1) = m := by omega
    rw [hm']
    have d1 := h.eqd
    rw [hm] at d1
    refine d1.trans ?_
    have d2 : Eqm (det (m + 1) (trail c M)) (det (m + 1) (trail c M2)) := by
      rw [← det_clear (trail c M) (fun i => en M (c + i) c * powm (en M c c) 9971 % 9973)]
      refine det_eqm fun i j hi hj => ?_
      simp only [trail]
      rw [h2.2 (c + i) (c + j) (by omega) (by omega)]
      unfold elimP
      by_cases h0 : i = 0
      · subst h0
        simp only [if_true, Nat.add_zero]
        rw [if_neg (by omega)]
        exact Eqm.refl _
      · rw [if_neg h0, if_pos (by omega)]
        unfold elimE
        exact (Eqm.mod _).symm
    have d3 : Eqm (det (m + 1) (trail c M2)) (trail c M2 0 0 * det m (fun i j => trail c M2 (i + 1) (j + 1))) := by
      refine det_corner _ fun i hi => ?_
      simp only [trail, Nat.add_zero]
      rw [h2.2 (c + (i + 1)) c (by omega) hc]
      unfold elimP
      rw [if_pos (by omega)]
      unfold elimE
      refine (Eqm.mod _).trans ?_
      have e1 : Eqm (en M (c + (i + 1)) c * powm (en M c c) 9971 % 9973 * en M c c) (en M (c + (i + 1)) c * 1) := by
        refine ((Eqm.mod _).mul (Eqm.refl _)).trans ?_
        rw [Int.mul_assoc]
        exact (Eqm.refl _).mul (by unfold Eqm; omega)
      have := (Eqm.refl (en M (c + (i + 1)) c)).sub e1
      simpa using this
    have e0 : trail c M2 0 0 = en M c c := by
      simp only [trail, Nat.add_zero]
      rw [h2.2 c c hc hc]
      unfold elimP
      rw [if_neg (by omega)]
    have e1 : (fun i j => trail c M2 (i + 1) (j + 1)) = trail (c + 1) M2 := by
      funext i j
      simp only [trail]
      rw [show c + (i + 1) = c + 1 + i from by omega, show c + (j + 1) = c + 1 + j from by omega]
    rw [e0, e1] at d3
    refine ((Eqm.refl o).mul (d2.trans d3)).trans ?_
    rw [← Int.mul_assoc]
    exact (Eqm.mod _).symm.mul (Eqm.refl _)
end Go.Rk
