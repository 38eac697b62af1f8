/-
  Determinants: the product, the transpose, any row, the adjugate, triangles. Plain Lean, no program in sight.
  One step of elimination modulo 9973, and what it does with a determinant. Plain Lean, no program in sight.
-/
import Derived.Test.YtkielldinghmbaaDoorMgInvBackF2
import Derived.Test.YtkielldinghmbaaDoorMgInvBackF5
import Derived.Test.YtkielldinghmbaaDoorMgInvBackF6
namespace Go.Rk

theorem unit_pick (g : Nat → Int) {i n : Nat} (h : i < n) : sumTo (fun k => unit_ i k * g k) n = g i := by
  induction n with
  | zero => omega
  | succ n ih =>
    rw [sumTo]
    by_cases h1 : i = n
    · subst h1
      rw [sumTo_congr (h := fun _ => 0) fun k hk => by simp [unit_, show ¬ k = i from by omega], sumTo_zero]
      simp [unit_]
    · rw [ih (by omega)]
      simp [unit_, show ¬ n = i from by omega]

theorem unit_pick' (g : Nat → Int) {i n : Nat} (h : i < n) : sumTo (fun k => g k * unit_ k i) n = g i := by
  rw [← unit_pick g h]
  refine sumTo_congr fun k _ => ?_
  by_cases e : k = i
  · subst e; simp [unit_]
  · simp [unit_, e, Ne.symm e]

theorem mulM_id (n : Nat) (A : Mx) {i j : Nat} (hi : i < n) : mulM n idM A i j = A i j := unit_pick (fun k => A k j) hi
theorem mulM_id' (n : Nat) (A : Mx) {i j : Nat} (hj : j < n) : mulM n A idM i j = A i j := by
  unfold mulM idM
  exact unit_pick' (fun k => A i k) hj

theorem mulM_assoc (n m : Nat) (A B C : Mx) (i j : Nat) : mulM m (mulM n A B) C i j = mulM n A (mulM m B C) i j := by
  unfold mulM
  have h1 : ∀ k, sumTo (fun l => A i l * B l k) n * C k j = sumTo (fun l => A i l * (B l k * C k j)) n := fun k => by
    rw [Int.mul_comm, ← sumTo_mul]
    exact sumTo_congr fun l _ => by grind
  rw [sumTo_congr fun k _ => h1 k, sumTo_swap]
  exact sumTo_congr fun l _ => sumTo_mul _ _ _

theorem det_id (n : Nat) : det n idM = 1 := by
  induction n with
  | zero => rfl
  | succ n ih =>
    rw [det, sumTo_succ_left, sumTo_congr (h := fun _ => 0) fun j _ => by simp [idM, unit_], sumTo_zero]
    have : minor idM 0 0 = idM := by funext r c; simp [minor, skip_zero, idM, unit_]
    rw [this, ih]
    simp [idM, unit_, sg]

/-- CAUCHY, BINET. -/
theorem det_mul (n : Nat) (A B : Mx) : det n (mulM n A B) = det n A * det n B := by
  have q : ∀ (A : Mx) (i : Nat) (t : Nat → Int), mulM n (setRow A i t) B = setRow (mulM n A B) i (fun c => sumTo (fun k => t k * B k c) n) := by
    intro A i t
    funext a c
    simp only [mulM, setRow]
    split <;> rfl
  have h : Alt n (fun A => det n (mulM n A B)) := by
    refine ⟨fun {A C} e => det_congr fun i j hi _ => sumTo_congr fun k hk => by rw [e i k hi hk], fun A i hi r s => ?_, fun A i hi x r => ?_, fun A i hi e => ?_⟩
    · simp only [q]
      rw [← det_row_add _ _ hi]
      congr 2
      funext c
      rw [← sumTo_add]
      exact sumTo_congr fun k _ => Int.add_mul _ _ _
    · simp only [q]
      rw [← det_row_mul _ _ hi]
      congr 2
      funext c
      rw [← sumTo_mul]
      exact sumTo_congr fun k _ => Int.mul_assoc _ _ _
    · exact det_adj_eq _ i hi fun c _ => sumTo_congr fun k hk => by rw [e k hk]
  have h1 : det n (mulM n A B) = det n (mulM n idM B) * det n A := h.unique A
  rw [h1, det_congr (A := mulM n idM B) (B := B) fun i j hi _ => mulM_id n B hi, Int.mul_comm]

/-- By the first column. -/
theorem det_col {n : Nat} : ∀ (A : Mx), det (n + 1) A = sumTo (fun i => sg i * A i 0 * det n (minor A i 0)) (n + 1) := by
  induction n with
  | zero => intro A; rfl
  | succ n ih =>
    intro A
    rw [det, sumTo_succ_left, sumTo_succ_left (fun i => sg i * A i 0 * det (n + 1) (minor A i 0))]
    congr 1
    have h1 : ∀ j, j < n + 1 → sg (j + 1) * A 0 (j + 1) * det (n + 1) (minor A 0 (j + 1)) = sumTo (fun i => -(sg i * sg j) * (A 0 (j + 1) * A (i + 1) 0 * det n (minor (minor A 0 (j + 1)) i 0))) (n + 1) := by
      intro j _
      rw [ih, ← sumTo_mul]
      refine sumTo_congr fun i _ => ?_
      have : minor A 0 (j + 1) i 0 = A (i + 1) 0 := by simp [minor, skip]
      rw [this, sg_succ]
      grind
    have h2 : ∀ i, i < n + 1 → sg (i + 1) * A (i + 1) 0 * det (n + 1) (minor A (i + 1) 0) = sumTo (fun j => -(sg i * sg j) * (A 0 (j + 1) * A (i + 1) 0 * det n (minor (minor A 0 (j + 1)) i 0))) (n + 1) := by
      intro i _
      rw [det, ← sumTo_mul]
      refine sumTo_congr fun j _ => ?_
      have e1 : minor A (i + 1) 0 0 j = A 0 (j + 1) := by simp [minor, skip]
      have e2 : minor (minor A (i + 1) 0) 0 j = minor (minor A 0 (j + 1)) i 0 := by
        funext r c
        simp only [minor, skip_zero]
        congr 1
        · unfold skip; (repeat' split) <;> omega
        · unfold skip; (repeat' split) <;> omega
      rw [e1, e2, sg_succ]
      grind
    rw [sumTo_congr h1, sumTo_congr h2, sumTo_swap]

theorem det_tr {n : Nat} : ∀ (A : Mx), det n (trM A) = det n A := by
  induction n with
  | zero => intro A; rfl
  | succ n ih =>
    intro A
    rw [det_col A, det]
    refine sumTo_congr fun j _ => ?_
    have : minor (trM A) 0 j = trM (minor A j 0) := by funext r c; rfl
    rw [this, ih]
    rfl

/-- The row i set first, the others in their order. -/
def raise (A : Mx) (i : Nat) : Mx := fun r => if r = 0 then A i else if r ≤ i then A (r - 1) else A r

theorem Alt.raise_sign {n : Nat} {f : Mx → Int} (h : Alt n f) : ∀ (i : Nat) (A : Mx), i < n → f (raise A i) = sg i * f A := by
  intro i
  induction i with
  | zero =>
    intro A _
    have : raise A 0 = A := by funext r; simp only [raise]; split <;> simp_all
    rw [this]; simp [sg]
  | succ i ih =>
    intro A hi
    have h1 := h.swap_adj A i hi
    have h2 := ih (swapM A i (i + 1)) (by omega)
    have e : raise (swapM A i (i + 1)) i = raise A (i + 1) := by
      funext r c
      simp only [raise, swapM]
      by_cases h0 : r = 0
      · simp [h0, setRow]
      · by_cases h1 : r ≤ i
        · simp [h0, h1, setRow, show r ≤ i + 1 from by omega, show ¬ r - 1 = i + 1 from by omega, show ¬ r - 1 = i from by omega]
        · by_cases h2 : r = i + 1
          · subst h2; simp [setRow, show ¬ i + 1 ≤ i from by omega]
          · simp [h0, h1, h2, setRow, show ¬ r ≤ i + 1 from by omega, show ¬ r = i from by omega]
    rw [← e, h2, h1, sg_succ]
    grind

theorem minor_raise (A : Mx) (i j : Nat) : minor (raise A i) 0 j = minor A i j := by
  funext r c
  simp only [minor, raise, skip_zero]
  simp only [skip]
  by_cases h : r < i
  · simp [h, show r + 1 ≤ i from by omega]
  · simp [h, show ¬ r + 1 ≤ i from by omega]

/-- LAPLACE: by any row. -/
theorem det_row {n : Nat} (A : Mx) {i : Nat} (hi : i < n + 1) : det (n + 1) A = sumTo (fun j => sg (i + j) * A i j * det n (minor A i j)) (n + 1) := by
  have h1 := (det_alt (n + 1)).raise_sign i A hi
  have h2 : det (n + 1) A = sg i * det (n + 1) (raise A i) := by rw [h1, ← Int.mul_assoc, sg_sq, Int.one_mul]
  rw [h2, det, ← sumTo_mul]
  refine sumTo_congr fun j _ => ?_
  rw [minor_raise, sg_add]
  simp only [raise, if_true]
  grind

/-- With another row's numbers it is 0. -/
theorem det_row_other {n : Nat} (A : Mx) {i k : Nat} (hi : i < n + 1) (hk : k < n + 1) (hne : i ≠ k) : sumTo (fun j => sg (i + j) * A k j * det n (minor A i j)) (n + 1) = 0 := by
  have h1 := det_row (setRow A i (A k)) hi
  rw [(det_alt (n + 1)).eq_zero (setRow A i (A k)) hne hi hk fun c _ => by simp [setRow, Ne.symm hne]] at h1
  rw [h1]
  refine sumTo_congr fun j _ => ?_
  have : minor (setRow A i (A k)) i j = minor A i j := by
    funext r c
    simp only [minor, setRow]
    rw [if_neg (skip_ne i r)]
  rw [this]
  simp [setRow]

/-- The adjugate. -/
def adj (n : Nat) (A : Mx) : Mx := fun i j => sg (i + j) * det (n - 1) (minor A j i)

theorem mul_adj {n : Nat} (A : Mx) {i j : Nat} (hi : i < n) (hj : j < n) : mulM n A (adj n A) i j = if i = j then det n A else 0 := by
  obtain ⟨m, rfl⟩ : ∃ m, n = m + 1 := ⟨n - 1, by omega⟩
  unfold mulM adj
  simp only [Nat.add_sub_cancel]
  split
  · next e =>
    subst e
    rw [det_row A hi]
    exact sumTo_congr fun k _ => by rw [Nat.add_comm k i]; grind
  · next e =>
    rw [← det_row_other A hj hi fun e' => e e'.symm]
    exact sumTo_congr fun k _ => by rw [Nat.add_comm k j]; grind

theorem adj_tr (n : Nat) (A : Mx) (i j : Nat) : adj n (trM A) i j = adj n A j i := by
  unfold adj
  have : minor (trM A) j i = trM (minor A i j) := by funext r c; rfl
  rw [this, det_tr, Nat.add_comm]

theorem adj_mul {n : Nat} (A : Mx) {i j : Nat} (hi : i < n) (hj : j < n) : mulM n (adj n A) A i j = if i = j then det n A else 0 := by
  have h := mul_adj (trM A) hj hi
  rw [det_tr] at h
  have e : mulM n (trM A) (adj n (trM A)) j i = mulM n (adj n A) A i j := by
    unfold mulM
    exact sumTo_congr fun k _ => by rw [adj_tr, Int.mul_comm]; rfl
  rw [← e, h]
  by_cases h1 : i = j
  · simp [h1]
  · simp [h1, Ne.symm h1]

def prodTo (g : Nat → Int) : Nat → Int
  | 0 => 1
  | n + 1 => prodTo g n * g n

theorem prodTo_succ_left (g : Nat → Int) (n : Nat) : prodTo g (n + 1) = g 0 * prodTo (fun i => g (i + 1)) n := by
  induction n with
  | zero => simp [prodTo]
  | succ n ih => rw [prodTo, ih, prodTo, Int.mul_assoc]

theorem prodTo_congr {g h : Nat → Int} {n : Nat} (e : ∀ i, i < n → g i = h i) : prodTo g n = prodTo h n := by
  induction n with
  | zero => rfl
  | succ n ih => rw [prodTo, prodTo, ih fun i hi => e i (Nat.lt_succ_of_lt hi), e n (Nat.lt_succ_self n)]

/-- With noughts above the middle. -/
theorem det_lower {n : Nat} : ∀ (A : Mx), (∀ i j, i < n → j < n → i < j → A i j = 0) → det n A = prodTo (fun i => A i i) n := by
  induction n with
  | zero => intro A _; rfl
  | succ n ih =>
    intro A h
    rw [det, sumTo_succ_left, sumTo_congr (h := fun _ => 0) fun j hj => by rw [h 0 (j + 1) (by omega) (by omega) (by omega)]; simp, sumTo_zero, prodTo_succ_left,
      ih (minor A 0 0) fun i j hi hj hij => by simp only [minor, skip_zero]; exact h _ _ (by omega) (by omega) (by omega)]
    simp [sg, minor, skip_zero]

/-- With noughts below the middle. -/
theorem det_upper {n : Nat} (A : Mx) (h : ∀ i j, i < n → j < n → j < i → A i j = 0) : det n A = prodTo (fun i => A i i) n := by
  rw [← det_tr, det_lower (trM A) fun i j hi hj hij => h j i hj hi hij]
  rfl

theorem det_eqm {n : Nat} : ∀ {A B : Mx}, (∀ i j, i < n → j < n → Eqm (A i j) (B i j)) → Eqm (det n A) (det n B) := by
  induction n with
  | zero => intro A B _; exact Eqm.refl _
  | succ n ih =>
    intro A B h
    unfold det
    refine Eqm.sum fun j hj => ?_
    exact ((Eqm.refl _).mul (h 0 j (by omega) hj)).mul (ih fun r c hr hc => h _ _ (skip_lt hr) (skip_lt hc))

end Go.Rk
namespace Go.Rk

def pwN : Nat → Nat → Nat → Nat → Nat
  | 0, o, _, _ => o
  | f + 1, o, a, n => if n = 0 then o else pwN f (if n % 2 = 1 then o * a % 9973 else o) (a * a % 9973) (n / 2)

theorem pwN_eq (f : Nat) : ∀ (o a n : Nat), n < 2 ^ f → (pwN f o a n : Int) % 9973 = (o : Int) * (a : Int) ^ n % 9973 := by
  induction f with
  | zero =>
    intro o a n h
    obtain rfl : n = 0 := by simpa using h
    simp [pwN]
  | succ f ih =>
    intro o a n h
    rw [pwN]
    split
    · next h0 => subst h0; simp
    · next h0 =>
      rw [ih _ _ _ (by rw [Nat.pow_succ] at h; omega)]
      split
      · next h1 =>
        have := powm_odd (o := (o : Int)) (b := (a : Int)) (m := n) rfl h1
        rw [← this]
        congr 1
      · next h1 =>
        have := powm_even (o := (o : Int)) (b := (a : Int)) (m := n) rfl (by omega)
        rw [← this]
        congr 1

theorem fermat_all : (List.range 9973).all (fun a => a == 0 || pwN 14 1 a 9971 * a % 9973 == 1) = true := by decide +kernel

/-- FERMAT: what an element's reciprocal is. -/
theorem over_mul {a : Int} (h1 : 0 ≤ a) (h2 : a ≤ 9972) (h0 : a ≠ 0) : powm a 9971 * a % 9973 = 1 := by
  obtain ⟨k, rfl⟩ := Int.eq_ofNat_of_zero_le h1
  have h3 := List.all_eq_true.1 fermat_all k (List.mem_range.2 (by omega))
  simp only [Bool.or_eq_true, beq_iff_eq] at h3
  have h4 : pwN 14 1 k 9971 * k % 9973 = 1 := by
    rcases h3 with h3 | h3
    · omega
    · exact h3
  have h5 := pwN_eq 14 1 k 9971 (by decide)
  rw [Int.natCast_one, Int.one_mul] at h5
  unfold powm
  rw [← h5]
  have h6 : ((pwN 14 1 k 9971 * k : Nat) : Int) % 9973 = 1 := by omega
  rw [Int.natCast_mul] at h6
  have := (Eqm.mod (pwN 14 1 k 9971 : Int)).mul (Eqm.refl (k : Int))
  unfold Eqm at this
  omega

theorem powm_in (a : Int) (n : Nat) : 0 ≤ powm a n ∧ powm a n ≤ 9972 := by unfold powm; omega

theorem zeros_succ {f : Nat → Int} {c k : Nat} (h : ∀ r, c ≤ r → r < k → f r = 0) (h1 : f k = 0) : ∀ r, c ≤ r → r < k + 1 → f r = 0 := by
  intro r h2 h3
  rcases Nat.lt_or_ge r k with h4 | h4
  · exact h r h2 h4
  · obtain rfl : r = k := by omega
    exact h1

def mx (M : List (List Int)) : Mx := fun i j => en M i j
/-- Square, of n rows. -/
def Dim (n : Nat) (M : List (List Int)) : Prop := M.length = n ∧ ∀ i, i < n → (rowOf M i).length = n
/-- Each number between. -/
def Ent (lo hi : Int) (n : Nat) (M : List (List Int)) : Prop := ∀ i j, i < n → j < n → lo ≤ en M i j ∧ en M i j ≤ hi
/-- The matrix is F. -/
def Is (n : Nat) (M : List (List Int)) (F : Mx) : Prop := Dim n M ∧ ∀ i j, i < n → j < n → en M i j = F i j

theorem Is.set {n : Nat} {M : List (List Int)} {F : Mx} (h : Is n M F) {i j : Nat} (x : Int) : Is n (setE M i j x) (fun r c => if i = r ∧ j = c then x else F r c) := by
  refine ⟨⟨by rw [setE_len]; exact h.1.1, fun r hr => by rw [setE_row_len]; exact h.1.2 r hr⟩, fun r c hr hc => ?_⟩
  show _ = if i = r ∧ j = c then x else F r c
  rw [en_setE, h.1.1]
  by_cases e : i = r ∧ j = c
  · rw [if_pos ⟨e.1, e.2, hr, by rw [h.1.2 r hr]; exact hc⟩, if_pos e]
  · rw [if_neg fun e2 => e ⟨e2.1, e2.2.1⟩, if_neg e]; exact h.2 r c hr hc

theorem Is.congr {n : Nat} {M : List (List Int)} {F G : Mx} (h : Is n M F) (e : ∀ i j, i < n → j < n → F i j = G i j) : Is n M G :=
  ⟨h.1, fun i j hi hj => by rw [h.2 i j hi hj, e i j hi hj]⟩

theorem Is.self {n : Nat} {M : List (List Int)} (h : Dim n M) : Is n M (mx M) := ⟨h, fun _ _ _ _ => rfl⟩

/-- What elimination makes of an element: so many times row c from row i. -/
def elimE (M : List (List Int)) (c : Nat) (ov : Int) (i j : Nat) : Int := (en M i j - en M i c * ov % 9973 * en M c j) % 9973
/-- Done in the rows from c + 1 up to k, and in row k up to column j. -/
def elimP (M : List (List Int)) (c : Nat) (ov : Int) (k j : Nat) : Mx := fun r s => if (c < r ∧ r < k) ∨ (r = k ∧ s < j) then elimE M c ov r s else en M r s

theorem Is.next {n : Nat} {M M' : List (List Int)} {c k : Nat} {ov : Int} (hck : c < k) (h : Is n M' (elimP M c ov k n)) : Is n M' (elimP M c ov (k + 1) 0) := by
  refine h.congr fun r s _ hs => ?_
  simp only [elimP]
  by_cases e : (c < r ∧ r < k) ∨ (r = k ∧ s < n)
  · rw [if_pos e, if_pos (by omega)]
  · rw [if_neg e, if_neg (by omega)]

def trail (c : Nat) (M : List (List Int)) : Mx := fun i j => en M (c + i) (c + j)

/-- Between two steps of elimination. -/
structure DInv (n : Nat) (A : Mx) (c : Nat) (M : List (List Int)) (o : Int) : Prop where
  dim : Dim n M
  ent : Ent 0 9972 n M
  lo : 0 ≤ o
  hi : o ≤ 9972
  eqd : Eqm (det n A) (o * det (n - c) (trail c M))

theorem DInv.start {n : Nat} {M : List (List Int)} (h1 : Dim n M) (h2 : Ent 0 9972 n M) : DInv n (mx M) 0 M 1 :=
  ⟨h1, h2, by decide, by decide, Eqm.of_eq (by rw [Int.one_mul, Nat.sub_zero]; exact det_congr fun i j _ _ => by simp [mx, trail])⟩

theorem DInv.done {n : Nat} {A : Mx} {M : List (List Int)} {o : Int} (h : DInv n A n M o) : o = det n A % 9973 := by
  have h1 := h.eqd
  have h2 := h.lo
  have h3 := h.hi
  rw [Nat.sub_self] at h1
  simp only [det, Int.mul_one] at h1
  unfold Eqm at h1
  omega

theorem det_first_zero {n : Nat} (A : Mx) (h : ∀ i, i < n + 1 → A i 0 = 0) : det (n + 1) A = 0 := by
  rw [det_col, sumTo_congr (h := fun _ => 0) fun i hi => by rw [h i hi]; simp, sumTo_zero]

theorem DInv.zero {n : Nat} {A : Mx} {c : Nat} {M : List (List Int)} {o : Int} (h : DInv n A c M o) (hc : c < n) (hz : ∀ r, c ≤ r → r < n → en M r c = 0) : det n A % 9973 = 0 := by
  have h1 := h.eqd
  obtain ⟨m, hm⟩ : ∃ m, n - c = m + 1 := ⟨n - c - 1, by omega⟩
  rw [hm, det_first_zero (trail c M) fun i hi => hz (c + i) (by omega) (by omega), Int.mul_zero] at h1
  exact h1

theorem en_swapL {n : Nat} {M : List (List Int)} (h : Dim n M) {i k : Nat} (hi : i < n) (hk : k < n) (r s : Nat) : en (swapL M i k) r s = if r = k then en M i s else if r = i then en M k s else en M r s := by
  unfold en
  rw [rowOf_swapL (by rw [h.1]; exact hi) (by rw [h.1]; exact hk)]
  (repeat' split) <;> rfl

theorem Dim.swap {n : Nat} {M : List (List Int)} (h : Dim n M) {i k : Nat} (hi : i < n) (hk : k < n) : Dim n (swapL M i k) := by
  refine ⟨by rw [swapL_len]; exact h.1, fun r hr => ?_⟩
  rw [rowOf_swapL (by rw [h.1]; exact hi) (by rw [h.1]; exact hk)]
  (repeat' split) <;> exact h.2 _ (by assumption)

theorem Ent.swap {lo hi : Int} {n : Nat} {M : List (List Int)} (h : Dim n M) (he : Ent lo hi n M) {i k : Nat} (hi' : i < n) (hk : k < n) : Ent lo hi n (swapL M i k) := by
  intro r s hr hs
  rw [en_swapL h hi' hk]
  (repeat' split) <;> exact he _ _ (by assumption) hs

theorem trail_swap {n : Nat} {M : List (List Int)} (h : Dim n M) {c k : Nat} (hk : k < n) (hck : c < k) : det (n - c) (trail c (swapL M c k)) = -det (n - c) (trail c M) := by
  rw [← (det_alt (n - c)).swap (trail c M) (i := 0) (j := k - c) (by omega) (by omega) (by omega)]
  refine det_congr fun i j hi hj => ?_
  simp only [trail, swapM, setRow]
  rw [en_swapL h (by omega) hk]
  by_cases h1 : i = k - c
  · rw [if_pos (by omega), if_pos h1, Nat.add_zero]
  · by_cases h2 : i = 0
    · rw [if_neg (by omega), if_pos (by omega), if_neg h1, if_pos h2, show c + (k - c) = k from by omega]
    · rw [if_neg (by omega), if_neg (by omega), if_neg h1, if_neg h2]

theorem DInv.exch {n : Nat} {A : Mx} {c : Nat} {M : List (List Int)} {o : Int} (h : DInv n A c M o) {k : Nat} (hck : c ≤ k) (hk : k < n) :
    DInv n A c (if c = k then M else swapL M c k) (if c = k then o else -o % 9973) := by
  by_cases e : c = k
  · simp only [if_pos e]; exact h
  · simp only [if_neg e]
    refine ⟨h.dim.swap (by omega) hk, Ent.swap h.dim h.ent (by omega) hk, by omega, by omega, ?_⟩
    rw [trail_swap h.dim hk (by omega)]
    refine h.eqd.trans (Eqm.trans (Eqm.of_eq ?_) ((Eqm.mod (-o)).symm.mul (Eqm.refl _)))
    rw [Int.neg_mul_neg]

/-- Rows from the first one on less so many times the first one. -/
theorem det_clear {m : Nat} (A : Mx) (f : Nat → Int) : det (m + 1) (fun i j => if i = 0 then A 0 j else A i j - f i * A 0 j) = det (m + 1) A := by
  have k : ∀ q, q ≤ m → det (m + 1) (fun i j => if i = 0 then A 0 j else if i ≤ q then A i j - f i * A 0 j else A i j) = det (m + 1) A := by
    intro q
    induction q with
    | zero =>
      intro _
      refine det_congr fun i j _ _ => ?_
      by_cases h : i = 0
      · simp [h]
      · simp [h]
    | succ q ih =>
      intro hq
      rw [← ih (by omega), ← (det_alt (m + 1)).add_row (fun i j => if i = 0 then A 0 j else if i ≤ q then A i j - f i * A 0 j else A i j) (i := q + 1) (j := 0) (by omega) (by omega) (by omega) (-f (q + 1))]
      refine det_congr fun i j _ _ => ?_
      simp only [setRow, if_true]
      by_cases h0 : i = 0
      · subst h0; simp
      · by_cases h1 : i = q + 1
        · subst h1; simp; grind
        · by_cases h2 : i ≤ q
          · simp [h0, h1, h2, show i ≤ q + 1 from by omega]
          · simp [h0, h1, h2, show ¬ i ≤ q + 1 from by omega]
  rw [← k m (Nat.le_refl _)]
  refine det_congr fun i j hi _ => ?_
  by_cases h : i = 0
  · simp [h]
  · simp [h, show i ≤ m from by omega]

/-- With noughts beneath its first element. -/
theorem det_corner {m : Nat} (A : Mx) (h : ∀ i, i < m → Eqm (A (i + 1) 0) 0) : Eqm (det (m + 1) A) (A 0 0 * det m (fun i j => A (i + 1) (j + 1))) := by
  rw [det_col, sumTo_succ_left]
  have e : Eqm (sumTo (fun i => sg (i + 1) * A (i + 1) 0 * det m (minor A (i + 1) 0)) m) 0 := by
    have := Eqm.sum (g := fun i => sg (i + 1) * A (i + 1) 0 * det m (minor A (i + 1) 0)) (h := fun _ => 0) (n := m) fun i hi => by
      have := ((Eqm.refl (sg (i + 1))).mul (h i hi)).mul (Eqm.refl (det m (minor A (i + 1) 0)))
      simpa using this
    rwa [sumTo_zero] at this
  have e2 : minor A 0 0 = fun i j => A (i + 1) (j + 1) := by funext i j; simp [minor, skip_zero]
  rw [e2]
  have := (Eqm.refl (sg 0 * A 0 0 * det m (fun i j => A (i + 1) (j + 1)))).add e
  simpa [sg] using this

theorem DInv.step {n : Nat} {A : Mx} {c : Nat} {M M2 : List (List Int)} {o : Int} (h : DInv n A c M o) (hc : c < n) (hp : en M c c ≠ 0) (h2 : Is n M2 (elimP M c (powm (en M c c) 9971) n 0)) :
    DInv n A (c + 1) M2 (o * en M c c % 9973) := by
  have hpb := h.ent c c hc hc
  have hov := over_mul hpb.1 hpb.2 hp
  refine ⟨h2.1, fun i j hi hj => ?_, by omega, by omega, ?_⟩
  · rw [h2.2 i j hi hj]
    unfold elimP
    split
    · unfold elimE; omega
    · exact h.ent i j hi hj
  · obtain ⟨m, hm⟩ : ∃ m, n - c = m + 1 := ⟨n - c - 1, by omega⟩
    have hm' : n - (c + 1) = m := by omega
    rw [hm']
    have d1 := h.eqd
    rw [hm] at d1
    refine d1.trans ?_
    have d2 : Eqm (det (m + 1) (trail c M)) (det (m + 1) (trail c M2)) := by
      rw [← det_clear (trail c M) (fun i => en M (c + i) c * powm (en M c c) 9971 % 9973)]
      refine det_eqm fun i j hi hj => ?_
      simp only [trail]
      rw [h2.2 (c + i) (c + j) (by omega) (by omega)]
      unfold elimP
      by_cases h0 : i = 0
      · subst h0
        simp only [if_true, Nat.add_zero]
        rw [if_neg (by omega)]
        exact Eqm.refl _
      · rw [if_neg h0, if_pos (by omega)]
        unfold elimE
        exact (Eqm.mod _).symm
    have d3 : Eqm (det (m + 1) (trail c M2)) (trail c M2 0 0 * det m (fun i j => trail c M2 (i + 1) (j + 1))) := by
      refine det_corner _ fun i hi => ?_
      simp only [trail, Nat.add_zero]
      rw [h2.2 (c + (i + 1)) c (by omega) hc]
      unfold elimP
      rw [if_pos (by omega)]
      unfold elimE
      refine (Eqm.mod _).trans ?_
      have e1 : Eqm (en M (c + (i + 1)) c * powm (en M c c) 9971 % 9973 * en M c c) (en M (c + (i + 1)) c * 1) := by
        refine ((Eqm.mod _).mul (Eqm.refl _)).trans ?_
        rw [Int.mul_assoc]
        exact (Eqm.refl _).mul (by unfold Eqm; omega)
      have := (Eqm.refl (en M (c + (i + 1)) c)).sub e1
      simpa using this
    have e0 : trail c M2 0 0 = en M c c := by
      simp only [trail, Nat.add_zero]
      rw [h2.2 c c hc hc]
      unfold elimP
      rw [if_neg (by omega)]
    have e1 : (fun i j => trail c M2 (i + 1) (j + 1)) = trail (c + 1) M2 := by
      funext i j
      simp only [trail]
      rw [show c + (i + 1) = c + 1 + i from by omega, show c + (j + 1) = c + 1 + j from by omega]
    rw [e0, e1] at d3
    refine ((Eqm.refl o).mul (d2.trans d3)).trans ?_
    rw [← Int.mul_assoc]
    exact (Eqm.mod _).symm.mul (Eqm.refl _)
end Go.Rk
