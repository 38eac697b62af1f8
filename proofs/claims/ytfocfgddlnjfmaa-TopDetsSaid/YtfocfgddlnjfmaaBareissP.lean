/-
  Determinants of whole numbers by divisions without a rest (Chio, Bareiss); a bound; Levy and Desplanques; Hadamard. Plain Lean, no program in sight.
-/
import Derived.Test.YtfocfgddlnjfmaaSum
import Derived.Test.YtfocfgddlnjfmaaMat
import Derived.Test.YtfocfgddlnjfmaaMatD
import Derived.Test.YtfocfgddlnjfmaaDet
import Derived.Test.YtfocfgddlnjfmaaDetMore
import Derived.Test.YtfocfgddlnjfmaaElim
namespace Go.Rk

theorem det_times (n : Nat) : ∀ (a : Int) (A : Mx), det n (fun i j => a * A i j) = a ^ n * det n A := by
  induction n with
  | zero => intro a A; simp [det]
  | succ n ih =>
    intro a A
    show sumTo (fun j => sg j * (a * A 0 j) * det n (minor (fun i j => a * A i j) 0 j)) (n + 1) = a ^ (n + 1) * sumTo (fun j => sg j * A 0 j * det n (minor A 0 j)) (n + 1)
    rw [← sumTo_mul]
    refine sumTo_congr fun j _ => ?_
    have : det n (minor (fun i j => a * A i j) 0 j) = a ^ n * det n (minor A 0 j) := ih a (minor A 0 j)
    rw [this, Int.pow_succ]
    grind
theorem det_first_col {m : Nat} (A : Mx) (h : ∀ i, i < m → A (i + 1) 0 = 0) : det (m + 1) A = A 0 0 * det m (fun i j => A (i + 1) (j + 1)) := by
  rw [det_col, sumTo_succ_left, sumTo_congr (h := fun _ => 0) fun i hi => by rw [h i hi, Int.mul_zero, Int.zero_mul], sumTo_zero, Int.add_zero]
  have e : minor A 0 0 = fun i j => A (i + 1) (j + 1) := by funext i j; unfold minor; rw [skip_zero, skip_zero]
  rw [e]
  simp [sg]

/-- Crosswise products with the first number. -/
def chio (A : Mx) : Mx := fun i j => A (i + 1) (j + 1) * A 0 0 - A (i + 1) 0 * A 0 (j + 1)
theorem det_chio (k : Nat) (A : Mx) : A 0 0 ^ k * det (k + 1) A = A 0 0 * det k (chio A) := by
  have e1 : det (k + 1) (fun i j => if i = 0 then A 0 j else A 0 0 * A i j) = A 0 0 ^ k * det (k + 1) A := by
    show sumTo (fun j => sg j * (if (0 : Nat) = 0 then A 0 j else A 0 0 * A 0 j) * det k (minor (fun i j => if i = 0 then A 0 j else A 0 0 * A i j) 0 j)) (k + 1) = A 0 0 ^ k * sumTo (fun j => sg j * A 0 j * det k (minor A 0 j)) (k + 1)
    rw [← sumTo_mul]
    refine sumTo_congr fun j _ => ?_
    have : minor (fun i j => if i = 0 then A 0 j else A 0 0 * A i j) 0 j = fun r c => A 0 0 * minor A 0 j r c := by
      funext r c
      unfold minor
      rw [skip_zero]
      exact if_neg (by omega)
    rw [this, det_times, if_pos rfl]
    grind
  have e2 := det_clear (m := k) (fun i j => if i = 0 then A 0 j else A 0 0 * A i j) (fun i => A i 0)
  have e3 := det_first_col (m := k) (fun i j => if i = 0 then (fun i j => if i = 0 then A 0 j else A 0 0 * A i j) 0 j else (fun i j => if i = 0 then A 0 j else A 0 0 * A i j) i j - A i 0 * (fun i j => if i = 0 then A 0 j else A 0 0 * A i j) 0 j) fun i _ => by
    show (if i + 1 = 0 then _ else (if i + 1 = 0 then A 0 0 else A 0 0 * A (i + 1) 0) - A (i + 1) 0 * (if (0 : Nat) = 0 then A 0 0 else A 0 0 * A 0 0)) = 0
    rw [if_neg (by omega), if_neg (by omega), if_pos rfl]
    grind
  rw [← e1, ← e2, e3]
  show (if (0 : Nat) = 0 then A 0 0 else A 0 0 * A 0 0) * _ = _
  rw [if_pos rfl]
  congr 1
  exact det_congr fun i j _ _ => by
    show (if i + 1 = 0 then _ else (if i + 1 = 0 then A 0 (j + 1) else A 0 0 * A (i + 1) (j + 1)) - A (i + 1) 0 * (if (0 : Nat) = 0 then A 0 (j + 1) else A 0 0 * A 0 (j + 1))) = chio A i j
    rw [if_neg (by omega), if_neg (by omega), if_pos rfl]
    unfold chio
    grind
theorem det_chio_pos {k : Nat} (A : Mx) (hk : 1 ≤ k) (hp : A 0 0 ≠ 0) : det k (chio A) = A 0 0 ^ (k - 1) * det (k + 1) A := by
  have h := det_chio k A
  obtain ⟨m, rfl⟩ : ∃ m, k = m + 1 := ⟨k - 1, by omega⟩
  rw [Int.pow_succ] at h
  rw [show m + 1 - 1 = m from rfl]
  exact Int.eq_of_mul_eq_mul_left hp (by rw [← h]; grind)

/-- So great a determinant can be. -/
def detB (b : Int) : Nat → Int
  | 0 => 1
  | n + 1 => (n + 1) * (b * detB b n)
theorem detB_nonneg {b : Int} (hb : 0 ≤ b) (n : Nat) : 0 ≤ detB b n := by
  induction n with
  | zero => exact Int.zero_le_ofNat 1
  | succ n ih => exact Int.mul_nonneg (by omega) (Int.mul_nonneg hb ih)
theorem abs_mul_le {x y a b : Int} (hx : -a ≤ x ∧ x ≤ a) (hy : -b ≤ y ∧ y ≤ b) : -(a * b) ≤ x * y ∧ x * y ≤ a * b := by
  have h1 : x.natAbs ≤ a.natAbs := by omega
  have h2 : y.natAbs ≤ b.natAbs := by omega
  have h3 : (x * y).natAbs ≤ (a * b).natAbs := by rw [Int.natAbs_mul, Int.natAbs_mul]; exact Nat.mul_le_mul h1 h2
  have h4 : 0 ≤ a * b := Int.mul_nonneg (by omega) (by omega)
  omega
theorem sumTo_abs {f : Nat → Int} {n : Nat} {B : Int} (h : ∀ i, i < n → -B ≤ f i ∧ f i ≤ B) : -(n * B) ≤ sumTo f n ∧ sumTo f n ≤ n * B := by
  induction n with
  | zero => simp [sumTo]
  | succ n ih =>
    have h1 := ih fun i hi => h i (by omega)
    have h2 := h n (by omega)
    have e : ((n + 1 : Nat) : Int) * B = n * B + B := by rw [Int.natCast_add, Int.add_mul]; simp
    rw [sumTo, e]
    omega
theorem det_le {n : Nat} : ∀ {A : Mx} {b : Int}, 0 ≤ b → (∀ i j, i < n → j < n → -b ≤ A i j ∧ A i j ≤ b) → -detB b n ≤ det n A ∧ det n A ≤ detB b n := by
  induction n with
  | zero => intro A b _ _; exact ⟨by simp [det, detB], by simp [det, detB]⟩
  | succ n ih =>
    intro A b hb h
    have := sumTo_abs (f := fun j => sg j * A 0 j * det n (minor A 0 j)) (n := n + 1) (B := b * detB b n) fun j hj => by
      have h1 : -b ≤ sg j * A 0 j ∧ sg j * A 0 j ≤ b := by
        have := h 0 j (by omega) hj
        unfold sg
        split <;> omega
      exact abs_mul_le h1 (ih hb fun r c hr hc => h _ _ (skip_lt hr) (skip_lt hc))
    rw [show ((n + 1 : Nat) : Int) = (n : Int) + 1 by omega] at this
    exact this

/-- The first c as they are, behind them those that are told. -/
def pre (c : Nat) (r : Nat → Nat) (i : Nat) : Nat := if i < c then i else r (i - c)

theorem pow_nz {a : Int} (h : a ≠ 0) (k : Nat) : a ^ k ≠ 0 := by
  induction k with
  | zero => simp
  | succ k ih => rw [Int.pow_succ]; exact fun e => (Int.mul_eq_zero.1 e).elim ih h
theorem pre_lt {c i : Nat} (r : Nat → Nat) (h : i < c) : pre c r i = i := if_pos h
theorem pre_ge {c i : Nat} (r : Nat → Nat) (h : c ≤ i) : pre c r i = r (i - c) := if_neg (by omega)

/-- What is known at column c. -/
structure BInv (n : Nat) (A : Mx) (c : Nat) (M : List (List Int)) (sign last : Int) : Prop where
  dim : Dim n M
  nz : last ≠ 0
  ex : ∃ A' : Mx, sign * det n A' = det n A ∧ (∀ i, i < n → ∃ i', i' < n ∧ ∀ j, A' i j = A i' j) ∧
    ∀ k, 1 ≤ k → ∀ r s : Nat → Nat, (∀ i, i < k → c ≤ r i ∧ r i < n) → (∀ i, i < k → c ≤ s i ∧ s i < n) → det k (fun i j => en M (r i) (s j)) = last ^ (k - 1) * det (c + k) (fun i j => A' (pre c r i) (pre c s j))

section
variable {n c : Nat} {A : Mx} {M : List (List Int)} {sign last : Int}
theorem BInv.start (h : Dim n M) : BInv n (mx M) 0 M 1 1 :=
  ⟨h, by decide, mx M, Int.one_mul _, fun i hi => ⟨i, hi, fun _ => rfl⟩, fun k _ r s _ _ => by
    rw [Int.one_pow, Int.one_mul, Nat.zero_add]
    exact det_congr fun i j _ _ => by unfold pre; rw [if_neg (Nat.not_lt_zero _), if_neg (Nat.not_lt_zero _)]; rfl⟩
theorem BInv.entry (h : BInv n A c M sign last) : ∃ A' : Mx, sign * det n A' = det n A ∧ (∀ i, i < n → ∃ i', i' < n ∧ ∀ j, A' i j = A i' j) ∧ ∀ i j, c ≤ i → i < n → c ≤ j → j < n → en M i j = det (c + 1) (fun a b => A' (pre c (fun _ => i) a) (pre c (fun _ => j) b)) := by
  obtain ⟨A', h1, h2, h3⟩ := h.ex
  refine ⟨A', h1, h2, fun i j hi hin hj hjn => ?_⟩
  have := h3 1 (Nat.le_refl _) (fun _ => i) (fun _ => j) (fun _ _ => ⟨hi, hin⟩) (fun _ _ => ⟨hj, hjn⟩)
  rw [Nat.sub_self, Int.pow_zero, Int.one_mul] at this
  rw [← this]
  simp [det, sg, sumTo]
/-- The numbers are not great. -/
theorem BInv.bound (h : BInv n A c M sign last) {b : Int} (hb : 0 ≤ b) (hA : ∀ i j, i < n → j < n → -b ≤ A i j ∧ A i j ≤ b) {i j : Nat} (hi : c ≤ i) (hin : i < n) (hj : c ≤ j) (hjn : j < n) : -detB b (c + 1) ≤ en M i j ∧ en M i j ≤ detB b (c + 1) := by
  obtain ⟨A', _, h2, h3⟩ := h.entry
  rw [h3 i j hi hin hj hjn]
  refine det_le hb fun p q hp hq => ?_
  have l1 : pre c (fun _ => i) p < n := by unfold pre; split <;> omega
  have l2 : pre c (fun _ => j) q < n := by unfold pre; split <;> omega
  obtain ⟨i', hi', e⟩ := h2 _ l1
  rw [e]
  exact hA _ _ hi' l2
theorem BInv.zero (h : BInv n A c M sign last) (hc : c < n) (hz : ∀ r, c ≤ r → r < n → en M r c = 0) : det n A = 0 := by
  obtain ⟨A', h1, _, h3⟩ := h.ex
  obtain ⟨k, hk⟩ : ∃ k, n = c + (k + 1) := ⟨n - c - 1, by omega⟩
  have := h3 (k + 1) (by omega) (fun i => c + i) (fun i => c + i) (fun i hi => by omega) (fun i hi => by omega)
  rw [det_first_zero _ (fun i hi => hz _ (by omega) (by omega))] at this
  rcases Int.mul_eq_zero.1 this.symm with e | e
  · exact absurd e (pow_nz h.nz _)
  · rw [← h1, hk, det_congr (B := fun i j => A' (pre c (fun i => c + i) i) (pre c (fun i => c + i) j)) fun i j hi hj => by
      have p : ∀ i, pre c (fun i => c + i) i = i := fun i => by
        rcases Nat.lt_or_ge i c with h | h
        · exact pre_lt _ h
        · rw [pre_ge _ h]; show c + (i - c) = i; omega
      rw [p, p], e, Int.mul_zero]
theorem BInv.done (h : BInv n A c M sign last) (hc : c + 1 = n) : sign * en M c c = det n A := by
  obtain ⟨A', h1, _, h3⟩ := h.entry
  rw [h3 c c (Nat.le_refl _) (by omega) (Nat.le_refl _) (by omega), ← h1, ← hc]
  congr 1
  exact det_congr fun i j hi hj => by
    have p : ∀ i, i < c + 1 → pre c (fun _ => c) i = i := fun i hi => by
      rcases Nat.lt_or_ge i c with h | h
      · exact pre_lt _ h
      · rw [pre_ge _ h]; show c = i; omega
    rw [p i hi, p j hj]
theorem BInv.swap (h : BInv n A c M sign last) {k : Nat} (h1 : c < k) (hk : k < n) : BInv n A c (swapL M c k) (-sign) last := by
  obtain ⟨A', e1, e2, e3⟩ := h.ex
  let σ : Nat → Nat := fun i => if i = k then c else if i = c then k else i
  have hσ : ∀ i, i < n → σ i < n := fun i hi => by show (if i = k then c else if i = c then k else i) < n; (repeat' split) <;> omega
  have hσc : ∀ i, c ≤ i → c ≤ σ i := fun i hi => by show c ≤ (if i = k then c else if i = c then k else i); (repeat' split) <;> omega
  refine ⟨h.dim.swap (by omega) hk, h.nz, fun i j => A' (σ i) j, ?_, fun i hi => e2 _ (hσ i hi), fun m hm r s hr hs => ?_⟩
  · have := (det_alt n).swap A' (i := c) (j := k) (by omega) (by omega) hk
    have e : det n (fun i j => A' (σ i) j) = det n (swapM A' c k) := det_congr fun i j _ _ => by
      show A' (if i = k then c else if i = c then k else i) j = (if i = k then A' c j else if i = c then A' k j else A' i j)
      split
      · rfl
      · split <;> rfl
    rw [e, this]
    rw [← e1]
    grind
  · have := e3 m hm (fun i => σ (r i)) s (fun i hi => ⟨hσc _ (hr i hi).1, hσ _ (hr i hi).2⟩) hs
    rw [det_congr (B := fun i j => en M (σ (r i)) (s j)) fun i j hi _ => ?_, this]
    · congr 1
      exact det_congr fun i j hi _ => by
        have : pre c (fun i => σ (r i)) i = σ (pre c r i) := by
          unfold pre
          split
          · show i = (if i = k then c else if i = c then k else i)
            rw [if_neg (by omega), if_neg (by omega)]
          · rfl
        show A' (pre c (fun i => σ (r i)) i) _ = A' (σ (pre c r i)) _
        rw [this]
    · show en (swapL M c k) (r i) (s j) = en M (if r i = k then c else if r i = c then k else r i) (s j)
      rw [en_swapL h.dim (by omega) hk]
      split
      · rfl
      · split <;> rfl
/-- What is divided has no rest. -/
theorem BInv.cross (h : BInv n A c M sign last) (hc : c + 1 < n) (hp : en M c c ≠ 0) : ∃ A' : Mx, ∀ i j, c < i → i < n → c < j → j < n → en M i j * en M c c - en M i c * en M c j = last * det (c + 2) (fun a b => A' (pre (c + 1) (fun _ => i) a) (pre (c + 1) (fun _ => j) b)) := by
  obtain ⟨A', _, _, h3⟩ := h.ex
  refine ⟨A', fun i j hi hin hj hjn => ?_⟩
  have e1 := h3 2 (by omega) (fun t => if t = 0 then c else i) (fun t => if t = 0 then c else j) (fun t _ => by split <;> omega) (fun t _ => by split <;> omega)
  have e2 : det 2 (fun a b => en M (if a = 0 then c else i) (if b = 0 then c else j)) = en M i j * en M c c - en M i c * en M c j := by
    have h1 := det_chio_pos (k := 1) (fun a b => en M (if a = 0 then c else i) (if b = 0 then c else j)) (Nat.le_refl _) hp
    rw [Nat.sub_self, Int.pow_zero, Int.one_mul] at h1
    rw [← h1]
    have h2 : ∀ B : Mx, det 1 B = B 0 0 := fun B => by simp [det, sg, sumTo]
    rw [h2]
    rfl
  rw [e2] at e1
  rw [e1, show last ^ (2 - 1) = last from Int.pow_one last]
  congr 1
  exact det_congr fun a b _ _ => by
    have p : ∀ (i a : Nat), pre c (fun t => if t = 0 then c else i) a = pre (c + 1) (fun _ => i) a := fun i a => by
      rcases Nat.lt_trichotomy a c with h | h | h
      · rw [pre_lt _ h, pre_lt _ (by omega)]
      · subst h
        rw [pre_ge _ (Nat.le_refl _), pre_lt _ (by omega), Nat.sub_self]
        exact if_pos rfl
      · rw [pre_ge _ (by omega), pre_ge _ (by omega)]
        exact if_neg (by omega)
    rw [p, p]
theorem BInv.step (h : BInv n A c M sign last) (hc : c + 1 < n) (hp : en M c c ≠ 0) {M2 : List (List Int)} (d2 : Dim n M2) (hq : ∀ i j, c < i → i < n → c < j → j < n → last * en M2 i j = en M i j * en M c c - en M i c * en M c j) : BInv n A (c + 1) M2 sign (en M c c) := by
  obtain ⟨A', e1, e2, e3⟩ := h.ex
  refine ⟨d2, hp, A', e1, e2, fun k hk r s hr hs => ?_⟩
  have a1 := e3 (k + 1) (by omega) (fun t => if t = 0 then c else r (t - 1)) (fun t => if t = 0 then c else s (t - 1)) (fun t ht => by
    by_cases e : t = 0
    · rw [if_pos e]; omega
    · rw [if_neg e]; have := hr (t - 1) (by omega); omega) (fun t ht => by
    by_cases e : t = 0
    · rw [if_pos e]; omega
    · rw [if_neg e]; have := hs (t - 1) (by omega); omega)
  have a2 := det_chio_pos (k := k) (fun a b => en M (if a = 0 then c else r (a - 1)) (if b = 0 then c else s (b - 1))) hk hp
  have a3 : det k (chio (fun a b => en M (if a = 0 then c else r (a - 1)) (if b = 0 then c else s (b - 1)))) = last ^ k * det k (fun i j => en M2 (r i) (s j)) := by
    rw [← det_times]
    exact det_congr fun i j hi hj => by
      have h1 := hr i hi
      have h2 := hs j hj
      show en M (if i + 1 = 0 then c else r (i + 1 - 1)) (if j + 1 = 0 then c else s (j + 1 - 1)) * en M c c - en M (if i + 1 = 0 then c else r (i + 1 - 1)) c * en M c (if j + 1 = 0 then c else s (j + 1 - 1)) = _
      rw [if_neg (by omega), if_neg (by omega), Nat.add_sub_cancel, Nat.add_sub_cancel, hq _ _ (by omega) h1.2 (by omega) h2.2]
  rw [a3, a1, Nat.add_sub_cancel] at a2
  have p : ∀ (r : Nat → Nat) (a : Nat), pre c (fun t => if t = 0 then c else r (t - 1)) a = pre (c + 1) r a := fun r a => by
    rcases Nat.lt_trichotomy a c with h | h | h
    · rw [pre_lt _ h, pre_lt _ (by omega)]
    · subst h
      rw [pre_ge _ (Nat.le_refl _), pre_lt _ (by omega), Nat.sub_self]
      exact if_pos rfl
    · rw [pre_ge _ (by omega), pre_ge _ (by omega)]
      show (if a - c = 0 then c else r (a - c - 1)) = r (a - (c + 1))
      rw [if_neg (by omega)]
      congr 1
  have a4 : det (c + (k + 1)) (fun i j => A' (pre c (fun t => if t = 0 then c else r (t - 1)) i) (pre c (fun t => if t = 0 then c else s (t - 1)) j)) = det (c + 1 + k) (fun i j => A' (pre (c + 1) r i) (pre (c + 1) s j)) := by
    rw [show c + (k + 1) = c + 1 + k by omega]
    exact det_congr fun i j _ _ => by rw [p, p]
  rw [a4] at a2
  have hl : last ^ k ≠ 0 := pow_nz h.nz k
  exact Int.eq_of_mul_eq_mul_left hl (by rw [a2]; grind)
end

/-- Levy, Desplanques. -/
theorem det_heavy {n : Nat} : ∀ (A : Mx), (∀ i, i < n → sumTo (fun j => ((A i j).natAbs : Int)) n < 2 * ((A i i).natAbs : Int)) → det n A ≠ 0 := by
  have others : ∀ {f g : Nat → Int} {n i : Nat}, i < n → (∀ j, j < n → j ≠ i → f j ≤ g j) → sumTo f n + g i ≤ sumTo g n + f i := by
    intro f g n i hi h
    have le : ∀ {m : Nat}, (∀ j, j < m → f j ≤ g j) → sumTo f m ≤ sumTo g m := by
      intro m
      induction m with
      | zero => intro _; exact Int.le_refl _
      | succ m ih => intro h; have := ih fun j hj => h j (by omega); have := h m (by omega); rw [sumTo, sumTo]; omega
    induction n with
    | zero => omega
    | succ n ih =>
      rw [sumTo, sumTo]
      by_cases e : i = n
      · subst e
        have := le (m := i) fun j hj => h j (by omega) (by omega)
        omega
      · have := ih (by omega) fun j hj hne => h j (by omega) hne
        have := h n (by omega) (fun e2 => e e2.symm)
        omega
  induction n with
  | zero => intro A _; simp [det]
  | succ n ih =>
    intro A h
    have h0 := h 0 (by omega)
    rw [sumTo_succ_left] at h0
    have nn : ∀ (f : Nat → Int) (m : Nat), 0 ≤ sumTo (fun j => ((f j).natAbs : Int)) m := fun f m => by
      induction m with
      | zero => exact Int.le_refl _
      | succ m ih => rw [sumTo]; omega
    have n0 := nn (fun j => A 0 (j + 1)) n
    have hp : A 0 0 ≠ 0 := fun e => by rw [e] at h0; simp at h0; omega
    have hd : det n (chio A) ≠ 0 := ih (chio A) fun i hi => by
      have hi' := h (i + 1) (by omega)
      rw [sumTo_succ_left] at hi'
      obtain ⟨P, hP⟩ : ∃ P : Int, P = (A 0 0).natAbs := ⟨_, rfl⟩
      obtain ⟨a0, ha0⟩ : ∃ a0 : Int, a0 = (A (i + 1) 0).natAbs := ⟨_, rfl⟩
      obtain ⟨T, hT⟩ : ∃ T : Int, T = sumTo (fun j => ((A (i + 1) (j + 1)).natAbs : Int)) n := ⟨_, rfl⟩
      obtain ⟨U, hU⟩ : ∃ U : Int, U = sumTo (fun j => ((A 0 (j + 1)).natAbs : Int)) n := ⟨_, rfl⟩
      obtain ⟨ti, hti⟩ : ∃ ti : Int, ti = (A (i + 1) (i + 1)).natAbs := ⟨_, rfl⟩
      obtain ⟨ui, hui⟩ : ∃ ui : Int, ui = (A 0 (i + 1)).natAbs := ⟨_, rfl⟩
      have hPpos : 0 < P := by omega
      have g1 : ∀ j, ((chio A i j).natAbs : Int) ≤ P * (A (i + 1) (j + 1)).natAbs + a0 * (A 0 (j + 1)).natAbs := fun j => by
        have := Int.natAbs_sub_le (A (i + 1) (j + 1) * A 0 0) (A (i + 1) 0 * A 0 (j + 1))
        rw [Int.natAbs_mul, Int.natAbs_mul] at this
        unfold chio
        rw [hP, ha0, Int.mul_comm ((A 0 0).natAbs : Int)]
        have e1 : ((A (i + 1) (j + 1)).natAbs : Int) * ((A 0 0).natAbs : Int) = (((A (i + 1) (j + 1)).natAbs * (A 0 0).natAbs : Nat) : Int) := (Int.natCast_mul _ _).symm
        have e2 : ((A (i + 1) 0).natAbs : Int) * ((A 0 (j + 1)).natAbs : Int) = (((A (i + 1) 0).natAbs * (A 0 (j + 1)).natAbs : Nat) : Int) := (Int.natCast_mul _ _).symm
        rw [e1, e2]
        omega
      have g2 : P * ti - a0 * ui ≤ ((chio A i i).natAbs : Int) := by
        have h1 : (A (i + 1) (i + 1) * A 0 0).natAbs ≤ (chio A i i).natAbs + (A (i + 1) 0 * A 0 (i + 1)).natAbs := by
          unfold chio; omega
        rw [Int.natAbs_mul, Int.natAbs_mul] at h1
        rw [hP, ha0, hti, hui, Int.mul_comm ((A 0 0).natAbs : Int)]
        have e1 : ((A (i + 1) (i + 1)).natAbs : Int) * ((A 0 0).natAbs : Int) = (((A (i + 1) (i + 1)).natAbs * (A 0 0).natAbs : Nat) : Int) := (Int.natCast_mul _ _).symm
        have e2 : ((A (i + 1) 0).natAbs : Int) * ((A 0 (i + 1)).natAbs : Int) = (((A (i + 1) 0).natAbs * (A 0 (i + 1)).natAbs : Nat) : Int) := (Int.natCast_mul _ _).symm
        rw [e1, e2]
        omega
      have g3 := others (f := fun j => ((chio A i j).natAbs : Int)) (g := fun j => P * (A (i + 1) (j + 1)).natAbs + a0 * (A 0 (j + 1)).natAbs) hi fun j _ _ => g1 j
      rw [sumTo_add, sumTo_mul, sumTo_mul, ← hT, ← hU, ← hti, ← hui] at g3
      rw [← hT, ← ha0, ← hti] at hi'
      rw [← hU, ← hP] at h0
      have m1 : P * (a0 + T) < P * (2 * ti) := Int.mul_lt_mul_of_pos_left hi' hPpos
      have m2 : a0 * U ≤ a0 * P := Int.mul_le_mul_of_nonneg_left (by omega) (by omega)
      rw [Int.mul_add] at m1
      have m3 : P * (2 * ti) = 2 * (P * ti) := by grind
      have m4 : a0 * P = P * a0 := Int.mul_comm _ _
      show sumTo (fun j => ((chio A i j).natAbs : Int)) n < _
      omega
    intro e
    have := det_chio n A
    rw [e, Int.mul_zero] at this
    rcases Int.mul_eq_zero.1 this.symm with e2 | e2
    · exact hp e2
    · exact hd e2
end Go.Rk
