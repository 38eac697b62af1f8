/-
  Determinants of whole numbers by divisions without a rest (Chio, Bareiss); a bound; Levy and Desplanques; Hadamard. Plain Lean, no program in sight.
  massey.corrected walked: factors from which elder ones are taken away.
-/
import Derived.Test.YtefmllkimdaimaaDoorRows
import Derived.RangeFuncBox
import Derived.RangeFuncNested
import Derived.Deep.QuietTactic
import Derived.BigQuiet
import Derived.StillTailTactics
import Derived.Test.YtefmllkimdaimaaDoorMgMasseySaysF0
import Derived.Test.YtefmllkimdaimaaDoorMgMasseySaysF1
import Derived.Test.YtefmllkimdaimaaDoorMgMasseySaysF2
import Derived.Test.YtefmllkimdaimaaDoorMgMasseySaysF3
import Derived.Test.YtefmllkimdaimaaDoorMgMasseySaysF4
import Derived.Test.YtefmllkimdaimaaDoorMgMasseySaysF5
namespace Go.Rk

theorem det_times (n : Nat) : ∀ (a : Int) (A : Mx), det n (fun i j => a * A i j) = a ^ n * det n A := by
  induction n with
  | zero => intro a A; simp [det]
  | succ n ih =>
    intro a A
    show sumTo (fun j => sg j * (a * A 0 j) * det n (minor (fun i j => a * A i j) 0 j)) (n + 1) = a ^ (n + 1) * sumTo (fun j => sg j * A 0 j * det n (minor A 0 j)) (n + 1)
    rw [← sumTo_mul]
    refine sumTo_congr fun j _ => ?_
    have : det n (minor (fun i j => a * A i j) 0 j) = a ^ n * det n (minor A 0 j) := ih a (minor A 0 j)
    rw [this, Int.pow_succ]
    grind
theorem det_first_col {m : Nat} (A : Mx) (h : ∀ i, i < m → A (i + 1) 0 = 0) : det (m + 1) A = A 0 0 * det m (fun i j => A (i + 1) (j + 1)) := by
  rw [det_col, sumTo_succ_left, sumTo_congr (h := fun _ => 0) fun i hi => by rw [h i hi, Int.mul_zero, Int.zero_mul], sumTo_zero, Int.add_zero]
  have e : minor A 0 0 = fun i j => A (i + 1) (j + 1) := by funext i j; unfold minor; rw [skip_zero, skip_zero]
  rw [e]
  simp [sg]

/-- Crosswise products with the first number. -/
def chio (A : Mx) : Mx := fun i j => A (i + 1) (j + 1) * A 0 0 - A (i + 1) 0 * A 0 (j + 1)
theorem det_chio (k : Nat) (A : Mx) : A 0 0 ^ k * det (k + 1) A = A 0 0 * det k (chio A) := by
  have e1 : det (k + 1) (fun i j => if i = 0 then A 0 j else A 0 0 * A i j) = A 0 0 ^ k * det (k + 1) A := by
    show sumTo (fun j => sg j * (if (0 : Nat) = 0 then A 0 j else A 0 0 * A 0 j) * det k (minor (fun i j => if i = 0 then A 0 j else A 0 0 * A i j) 0 j)) (k + 1) = A 0 0 ^ k * sumTo (fun j => sg j * A 0 j * det k (minor A 0 j)) (k + 1)
    rw [← sumTo_mul]
    refine sumTo_congr fun j _ => ?_
    have : minor (fun i j => if i = 0 then A 0 j else A 0 0 * A i j) 0 j = fun r c => A 0 0 * minor A 0 j r c := by
      funext r c
      unfold minor
      rw [skip_zero]
      exact if_neg (by omega)
    rw [this, det_times, if_pos rfl]
    grind
  have e2 := det_clear (m := k) (fun i j => if i = 0 then A 0 j else A 0 0 * A i j) (fun i => A i 0)
  have e3 := det_first_col (m := k) (fun i j => if i = 0 then (fun i j => if i = 0 then A 0 j else A 0 0 * A i j) 0 j else (fun i j => if i = 0 then A 0 j else A 0 0 * A i j) i j - A i 0 * (fun i j => if i = 0 then A 0 j else A 0 0 * A i j) 0 j) fun i _ => by
    show (if i + 1 = 0 then _ else (if i + 1 = 0 then A 0 0 else A 0 0 * A (i + 1) 0) - A (i + 1) 0 * (if (0 : Nat) = 0 then A 0 0 else A 0 0 * A 0 0)) = 0
    rw [if_neg (by omega), if_neg (by omega), if_pos rfl]
    grind
  rw [← e1, ← e2, e3]
  show (if (0 : Nat) = 0 then A 0 0 else A 0 0 * A 0 0) * _ = _
  rw [if_pos rfl]
  congr 1
  exact det_congr fun i j _ _ => by
    show (if i + 1 = 0 then _ else (if i + 1 = 0 then A 0 (j + 1) else A 0 0 * A (i + 1) (j + 1)) - A (i + 1) 0 * (if (0 : Nat) = 0 then A 0 (j + 1) else A 0 0 * A 0 (j + 1))) = chio A i j
    rw [if_neg (by omega), if_neg (by omega), if_pos rfl]
    unfold chio
    grind
theorem det_chio_pos {k : Nat} (A : Mx) (hk : 1 ≤ k) (hp : A 0 0 ≠ 0) : det k (chio A) = A 0 0 ^ (k - 1) * det (k + 1) A := by
  have h := det_chio k A
  obtain ⟨m, rfl⟩ : ∃ m, k = m + 1 := ⟨k - 1, by omega⟩
  rw [Int.pow_succ] at h
  rw [show m + 1 - 1 = m from rfl]
  exact Int.eq_of_mul_eq_mul_left hp (by rw [← h]; grind)

/-- So great a determinant can be. -/
def detB (b : Int) : Nat → Int
  | 0 => 1
  | n + 1 => (n + 1) * (b * detB b n)
theorem detB_nonneg {b : Int} (hb : 0 ≤ b) (n : Nat) : 0 ≤ detB b n := by
  induction n with
  | zero => exact Int.zero_le_ofNat 1
  | succ n ih => exact Int.mul_nonneg (by omega) (Int.mul_nonneg hb ih)
theorem abs_mul_le {x y a b : Int} (hx : -a ≤ x ∧ x ≤ a) (hy : -b ≤ y ∧ y ≤ b) : -(a * b) ≤ x * y ∧ x * y ≤ a * b := by
  have h1 : x.natAbs ≤ a.natAbs := by omega
  have h2 : y.natAbs ≤ b.natAbs := by omega
  have h3 : (x * y).natAbs ≤ (a * b).natAbs := by rw [Int.natAbs_mul, Int.natAbs_mul]; exact Nat.mul_le_mul h1 h2
  have h4 : 0 ≤ a * b := Int.mul_nonneg (by omega) (by omega)
  omega
theorem sumTo_abs {f : Nat → Int} {n : Nat} {B : Int} (h : ∀ i, i < n → -B ≤ f i ∧ f i ≤ B) : -(n * B) ≤ sumTo f n ∧ sumTo f n ≤ n * B := by
  induction n with
  | zero => simp [sumTo]
  | succ n ih =>
    have h1 := ih fun i hi => h i (by omega)
    have h2 := h n (by omega)
    have e : ((n + 1 : Nat) : Int) * B = n * B + B := by rw [Int.natCast_add, Int.add_mul]; simp
    rw [sumTo, e]
    omega
theorem det_le {n : Nat} : ∀ {A : Mx} {b : Int}, 0 ≤ b → (∀ i j, i < n → j < n → -b ≤ A i j ∧ A i j ≤ b) → -detB b n ≤ det n A ∧ det n A ≤ detB b n := by
  induction n with
  | zero => intro A b _ _; exact ⟨by simp [det, detB], by simp [det, detB]⟩
  | succ n ih =>
    intro A b hb h
    have := sumTo_abs (f := fun j => sg j * A 0 j * det n (minor A 0 j)) (n := n + 1) (B := b * detB b n) fun j hj => by
      have h1 : -b ≤ sg j * A 0 j ∧ sg j * A 0 j ≤ b := by
        have := h 0 j (by omega) hj
        unfold sg
        split <;> omega
      exact abs_mul_le h1 (ih hb fun r c hr hc => h _ _ (skip_lt hr) (skip_lt hc))
    rw [show ((n + 1 : Nat) : Int) = (n : Int) + 1 by omega] at this
    exact this

/-- The first c as they are, behind them those that are told. -/
def pre (c : Nat) (r : Nat → Nat) (i : Nat) : Nat := if i < c then i else r (i - c)

theorem pow_nz {a : Int} (h : a ≠ 0) (k : Nat) : a ^ k ≠ 0 := by
  induction k with
  | zero => simp
  | succ k ih => rw [Int.pow_succ]; exact fun e => (Int.mul_eq_zero.1 e).elim ih h
theorem pre_lt {c i : Nat} (r : Nat → Nat) (h : i < c) : pre c r i = i := if_pos h
theorem pre_ge {c i : Nat} (r : Nat → Nat) (h : c ≤ i) : pre c r i = r (i - c) := if_neg (by omega)

/-- What is known at column c. -/
structure BInv (n : Nat) (A : Mx) (c : Nat) (M : List (List Int)) (sign last : Int) : Prop where
  dim : Dim n M
  nz : last ≠ 0
  ex : ∃ A' : Mx, sign * det n A' = det n A ∧ (∀ i, i < n → ∃ i', i' < n ∧ ∀ j, A' i j = A i' j) ∧
    ∀ k, 1 ≤ k → ∀ r s : Nat → Nat, (∀ i, i < k → c ≤ r i ∧ r i < n) → (∀ i, i < k → c ≤ s i ∧ s i < n) → det k (fun i j => en M (r i) (s j)) = last ^ (k - 1) * det (c + k) (fun i j => A' (pre c r i) (pre c s j))

section
variable {n c : Nat} {A : Mx} {M : List (List Int)} {sign last : Int}
theorem BInv.start (h : Dim n M) : BInv n (mx M) 0 M 1 1 :=
  ⟨h, by decide, mx M, Int.one_mul _, fun i hi => ⟨i, hi, fun _ => rfl⟩, fun k _ r s _ _ => by
    rw [Int.one_pow, Int.one_mul, Nat.zero_add]
    exact det_congr fun i j _ _ => by unfold pre; rw [if_neg (Nat.not_lt_zero _), if_neg (Nat.not_lt_zero _)]; rfl⟩
theorem BInv.entry (h : BInv n A c M sign last) : ∃ A' : Mx, sign * det n A' = det n A ∧ (∀ i, i < n → ∃ i', i' < n ∧ ∀ j, A' i j = A i' j) ∧ ∀ i j, c ≤ i → i < n → c ≤ j → j < n → en M i j = det (c + 1) (fun a b => A' (pre c (fun _ => i) a) (pre c (fun _ => j) b)) := by
  obtain ⟨A', h1, h2, h3⟩ := h.ex
  refine ⟨A', h1, h2, fun i j hi hin hj hjn => ?_⟩
  have := h3 1 (Nat.le_refl _) (fun _ => i) (fun _ => j) (fun _ _ => ⟨hi, hin⟩) (fun _ _ => ⟨hj, hjn⟩)
  rw [Nat.sub_self, Int.pow_zero, Int.one_mul] at this
  rw [← this]
  simp [det, sg, sumTo]
/-- The numbers are not great. -/
theorem BInv.bound (h : BInv n A c M sign last) {b : Int} (hb : 0 ≤ b) (hA : ∀ i j, i < n → j < n → -b ≤ A i j ∧ A i j ≤ b) {i j : Nat} (hi : c ≤ i) (hin : i < n) (hj : c ≤ j) (hjn : j < n) : -detB b (c + 1) ≤ en M i j ∧ en M i j ≤ detB b (c + 1) := by
  obtain ⟨A', _, h2, h3⟩ := h.entry
  rw [h3 i j hi hin hj hjn]
  refine det_le hb fun p q hp hq => ?_
  have l1 : pre c (fun _ => i) p < n := by unfold pre; split <;> omega
  have l2 : pre c (fun _ => j) q < n := by unfold pre; split <;> omega
  obtain ⟨i', hi', e⟩ := h2 _ l1
  rw [e]
  exact hA _ _ hi' l2
theorem BInv.zero (h : BInv n A c M sign last) (hc : c < n) (hz : ∀ r, c ≤ r → r < n → en M r c = 0) : det n A = 0 := by
  obtain ⟨A', h1, _, h3⟩ := h.ex
  obtain ⟨k, hk⟩ : ∃ k, n = c + (k + 1) := ⟨n - c - 1, by omega⟩
  have := h3 (k + 1) (by omega) (fun i => c + i) (fun i => c + i) (fun i hi => by omega) (fun i hi => by omega)
  rw [det_first_zero _ (fun i hi => hz _ (by omega) (by omega))] at this
  rcases Int.mul_eq_zero.1 this.symm with e | e
  · exact absurd e (pow_nz h.nz _)
  · rw [← h1, hk, det_congr (B := fun i j => A' (pre c (fun i => c + i) i) (pre c (fun i => c + i) j)) fun i j hi hj => by
      have p : ∀ i, pre c (fun i => c + i) i = i := fun i => by
        rcases Nat.lt_or_ge i c with h | h
        · exact pre_lt _ h
        · rw [pre_ge _ h]; show c + (i - c) = i; omega
      rw [p, p], e, Int.mul_zero]
theorem BInv.done (h : BInv n A c M sign last) (hc : c + 1 = n) : sign * en M c c = det n A := by
  obtain ⟨A', h1, _, h3⟩ := h.entry
  rw [h3 c c (Nat.le_refl _) (by omega) (Nat.le_refl _) (by omega), ← h1, ← hc]
  congr 1
  exact det_congr fun i j hi hj => by
    have p : ∀ i, i < c + 1 → pre c (fun _ => c) i = i := fun i hi => by
      rcases Nat.lt_or_ge i c with h | h
      · exact pre_lt _ h
      · rw [pre_ge _ h]; show c = i; omega
    rw [p i hi, p j hj]
theorem BInv.swap (h : BInv n A c M sign last) {k : Nat} (h1 : c < k) (hk : k < n) : BInv n A c (swapL M c k) (-sign) last := by
  obtain ⟨A', e1, e2, e3⟩ := h.ex
  let σ : Nat → Nat := fun i => if i = k then c else if i = c then k else i
  have hσ : ∀ i, i < n → σ i < n := fun i hi => by show (if i = k then c else if i = c then k else i) < n; (repeat' split) <;> omega
  have hσc : ∀ i, c ≤ i → c ≤ σ i := fun i hi => by show c ≤ (if i = k then c else if i = c then k else i); (repeat' split) <;> omega
  refine ⟨h.dim.swap (by omega) hk, h.nz, fun i j => A' (σ i) j, ?_, fun i hi => e2 _ (hσ i hi), fun m hm r s hr hs => ?_⟩
  · have := (det_alt n).swap A' (i := c) (j := k) (by omega) (by omega) hk
    have e : det n (fun i j => A' (σ i) j) = det n (swapM A' c k) := det_congr fun i j _ _ => by
      show A' (if i = k then c else if i = c then k else i) j = (if i = k then A' c j else if i = c then A' k j else A' i j)
      split
      · rfl
      · split <;> rfl
    rw [e, this]
    rw [← e1]
    grind
  · have := e3 m hm (fun i => σ (r i)) s (fun i hi => ⟨hσc _ (hr i hi).1, hσ _ (hr i hi).2⟩) hs
    rw [det_congr (B := fun i j => en M (σ (r i)) (s j)) fun i j hi _ => ?_, this]
    · congr 1
      exact det_congr fun i j hi _ => by
        have : pre c (fun i => σ (r i)) i = σ (pre c r i) := by
          unfold pre
          split
          · show i = (if i = k then c else if i = c then k else i)
            rw [if_neg (by omega), if_neg (by omega)]
          · rfl
        show A' (pre c (fun i => σ (r i)) i) _ = A' (σ (pre c r i)) _
        rw [this]
    · show en (swapL M c k) (r i) (s j) = en M (if r i = k then c else if r i = c then k else r i) (s j)
      rw [en_swapL h.dim (by omega) hk]
      split
      · rfl
      · split <;> rfl
/-- What is divided has no rest. -/
theorem BInv.cross (h : BInv n A c M sign last) (hc : c + 1 < n) (hp : en M c c ≠ 0) : ∃ A' : Mx, ∀ i j, c < i → i < n → c < j → j < n → en M i j * en M c c - en M i c * en M c j = last * det (c + 2) (fun a b => A' (pre (c + 1) (fun _ => i) a) (pre (c + 1) (fun _ => j) b)) := by
  obtain ⟨A', _, _, h3⟩ := h.ex
  refine ⟨A', fun i j hi hin hj hjn => ?_⟩
  have e1 := h3 2 (by omega) (fun t => if t = 0 then c else i) (fun t => if t = 0 then c else j) (fun t _ => by split <;> omega) (fun t _ => by split <;> omega)
  have e2 : det 2 (fun a b => en M (if a = 0 then c else i) (if b = 0 then c else j)) = en M i j * en M c c - en M i c * en M c j := by
    have h1 := det_chio_pos (k := 1) (fun a b => en M (if a = 0 then c else i) (if b = 0 then c else j)) (Nat.le_refl _) hp
    rw [Nat.sub_self, Int.pow_zero, Int.one_mul] at h1
    rw [← h1]
    have h2 : ∀ B : Mx, det 1 B = B 0 0 := fun B => by simp [det, sg, sumTo]
    rw [h2]
    rfl
  rw [e2] at e1
  rw [e1, show last ^ (2 - 1) = last from Int.pow_one last]
  congr 1
  exact det_congr fun a b _ _ => by
    have p : ∀ (i a : Nat), pre c (fun t => if t = 0 then c else i) a = pre (c + 1) (fun _ => i) a := fun i a => by
      rcases Nat.lt_trichotomy a c with h | h | h
      · rw [pre_lt _ h, pre_lt _ (by omega)]
      · subst h
        rw [pre_ge _ (Nat.le_refl _), pre_lt _ (by omega), Nat.sub_self]
        exact if_pos rfl
      · rw [pre_ge _ (by omega), pre_ge _ (by omega)]
        exact if_neg (by omega)
    rw [p, p]
theorem BInv.step (h : BInv n A c M sign last) (hc : c + 1 < n) (hp : en M c c ≠ 0) {M2 : List (List Int)} (d2 : Dim n M2) (hq : ∀ i j, c < i → i < n → c < j → j < n → last * en M2 i j = en M i j * en M c c - en M i c * en M c j) : BInv n A (c + 1) M2 sign (en M c c) := by
  obtain ⟨A', e1, e2, e3⟩ := h.ex
  refine ⟨d2, hp, A', e1, e2, fun k hk r s hr hs => ?_⟩
  have a1 := e3 (k + 1) (by omega) (fun t => if t = 0 then c else r (t - 1)) (fun t => if t = 0 then c else s (t - 1)) (fun t ht => by
    by_cases e : t = 0
    · rw [if_pos e]; omega
    · rw [if_neg e]; have := hr (t - 1) (by omega); omega) (fun t ht => by
    by_cases e : t = 0
    · rw [if_pos e]; omega
    · rw [if_neg e]; have := hs (t - 1) (by omega); omega)
  have a2 := det_chio_pos (k := k) (fun a b => en M (if a = 0 then c else r (a - 1)) (if b = 0 then c else s (b - 1))) hk hp
  have a3 : det k (chio (fun a b => en M (if a = 0 then c else r (a - 1)) (if b = 0 then c else s (b - 1)))) = last ^ k * det k (fun i j => en M2 (r i) (s j)) := by
    rw [← det_times]
    exact det_congr fun i j hi hj => by
      have h1 := hr i hi
      have h2 := hs j hj
      show en M (if i + 1 = 0 then c else r (i + 1 - 1)) (if j + 1 = 0 then c else s (j + 1 - 1)) * en M c c - en M (if i + 1 = 0 then c else r (i + 1 - 1)) c * en M c (if j + 1 = 0 then c else s (j + 1 - 1)) = _
      rw [if_neg (by omega), if_neg (by omega), Nat.add_sub_cancel, Nat.add_sub_cancel, hq _ _ (by omega) h1.2 (by omega) h2.2]
  rw [a3, a1, Nat.add_sub_cancel] at a2
  have p : ∀ (r : Nat → Nat) (a : Nat), pre c (fun t => if t = 0 then c else r (t - 1)) a = pre (c + 1) r a := fun r a => by
    rcases Nat.lt_trichotomy a c with h | h | h
    · rw [pre_lt _ h, pre_lt _ (by omega)]
    · subst h
      rw [pre_ge _ (Nat.le_refl _), pre_lt _ (by omega), Nat.sub_self]
      exact if_pos rfl
    · rw [pre_ge _ (by omega), pre_ge _ (by omega)]
      show (if a - c = 0 then c else r (a - c - 1)) = r (a - (c + 1))
      rw [if_neg (by omega)]
      congr 1
  have a4 : det (c + (k + 1)) (fun i j => A' (pre c (fun t => if t = 0 then c else r (t - 1)) i) (pre c (fun t => if t = 0 then c else s (t - 1)) j)) = det (c + 1 + k) (fun i j => A' (pre (c + 1) r i) (pre (c + 1) s j)) := by
    rw [show c + (k + 1) = c + 1 + k by omega]
    exact det_congr fun i j _ _ => by rw [p, p]
  rw [a4] at a2
  have hl : last ^ k ≠ 0 := pow_nz h.nz k
  exact Int.eq_of_mul_eq_mul_left hl (by rw [a2]; grind)
end

/-- Levy, Desplanques. -/
theorem det_heavy {n : Nat} : ∀ (A : Mx), (∀ i, i < n → sumTo (fun j => ((A i j).natAbs : Int)) n < 2 * ((A i i).natAbs : Int)) → det n A ≠ 0 := by
  have others : ∀ {f g : Nat → Int} {n i : Nat}, i < n → (∀ j, j < n → j ≠ i → f j ≤ g j) → sumTo f n + g i ≤ sumTo g n + f i := by
    intro f g n i hi h
    have le : ∀ {m : Nat}, (∀ j, j < m → f j ≤ g j) → sumTo f m ≤ sumTo g m := by
      intro m
      induction m with
      | zero => intro _; exact Int.le_refl _
      | succ m ih => intro h; have := ih fun j hj => h j (by omega); have := h m (by omega); rw [sumTo, sumTo]; omega
    induction n with
    | zero => omega
    | succ n ih =>
      rw [sumTo, sumTo]
      by_cases e : i = n
      · subst e
        have := le (m := i) fun j hj => h j (by omega) (by omega)
        omega
      · have := ih (by omega) fun j hj hne => h j (by omega) hne
        have := h n (by omega) (fun e2 => e e2.symm)
        omega
  induction n with
  | zero => intro A _; simp [det]
  | succ n ih =>
    intro A h
    have h0 := h 0 (by omega)
    rw [sumTo_succ_left] at h0
    have nn : ∀ (f : Nat → Int) (m : Nat), 0 ≤ sumTo (fun j => ((f j).natAbs : Int)) m := fun f m => by
      induction m with
      | zero => exact Int.le_refl _
      | succ m ih => rw [sumTo]; omega
    have n0 := nn (fun j => A 0 (j + 1)) n
    have hp : A 0 0 ≠ 0 := fun e => by rw [e] at h0; simp at h0; omega
    have hd : det n (chio A) ≠ 0 := ih (chio A) fun i hi => by
      have hi' := h (i + 1) (by omega)
      rw [sumTo_succ_left] at hi'
      obtain ⟨P, hP⟩ : ∃ P : Int, P = (A 0 0).natAbs := ⟨_, rfl⟩
      obtain ⟨a0, ha0⟩ : ∃ a0 : Int, a0 = (A (i + 1) 0).natAbs := ⟨_, rfl⟩
      obtain ⟨T, hT⟩ : ∃ T : Int, T = sumTo (fun j => ((A (i + 1) (j + 1)).natAbs : Int)) n := ⟨_, rfl⟩
      obtain ⟨U, hU⟩ : ∃ U : Int, U = sumTo (fun j => ((A 0 (j + 1)).natAbs : Int)) n := ⟨_, rfl⟩
      obtain ⟨ti, hti⟩ : ∃ ti : Int, ti = (A (i + 1) (i + 1)).natAbs := ⟨_, rfl⟩
      obtain ⟨ui, hui⟩ : ∃ ui : Int, ui = (A 0 (i + 1)).natAbs := ⟨_, rfl⟩
      have hPpos : 0 < P := by omega
      have g1 : ∀ j, ((chio A i j).natAbs : Int) ≤ P * (A (i + 1) (j + 1)).natAbs + a0 * (A 0 (j + 1)).natAbs := fun j => by
        have := Int.natAbs_sub_le (A (i + 1) (j + 1) * A 0 0) (A (i + 1) 0 * A 0 (j + 1))
        rw [Int.natAbs_mul, Int.natAbs_mul] at this
        unfold chio
        rw [hP, ha0, Int.mul_comm ((A 0 0).natAbs : Int)]
        have e1 : ((A (i + 1) (j + 1)).natAbs : Int) * ((A 0 0).natAbs : Int) = (((A (i + 1) (j + 1)).natAbs * (A 0 0).natAbs : Nat) : Int) := (Int.natCast_mul _ _).symm
        have e2 : ((A (i + 1) 0).natAbs : Int) * ((A 0 (j + 1)).natAbs : Int) = (((A (i + 1) 0).natAbs * (A 0 (j + 1)).natAbs : Nat) : Int) := (Int.natCast_mul _ _).symm
        rw [e1, e2]
        omega
      have g2 : P * ti - a0 * ui ≤ ((chio A i i).natAbs : Int) := by
        have h1 : (A (i + 1) (i + 1) * A 0 0).natAbs ≤ (chio A i i).natAbs + (A (i + 1) 0 * A 0 (i + 1)).natAbs := by
          unfold chio; omega
        rw [Int.natAbs_mul, Int.natAbs_mul] at h1
        rw [hP, ha0, hti, hui, Int.mul_comm ((A 0 0).natAbs : Int)]
        have e1 : ((A (i + 1) (i + 1)).natAbs : Int) * ((A 0 0).natAbs : Int) = (((A (i + 1) (i + 1)).natAbs * (A 0 0).natAbs : Nat) : Int) := (Int.natCast_mul _ _).symm
        have e2 : ((A (i + 1) 0).natAbs : Int) * ((A 0 (i + 1)).natAbs : Int) = (((A (i + 1) 0).natAbs * (A 0 (i + 1)).natAbs : Nat) : Int) := (Int.natCast_mul _ _).symm
        rw [e1, e2]
        omega
      have g3 := others (f := fun j => ((chio A i j).natAbs : Int)) (g := fun j => P * (A (i + 1) (j + 1)).natAbs + a0 * (A 0 (j + 1)).natAbs) hi fun j _ _ => g1 j
      rw [sumTo_add, sumTo_mul, sumTo_mul, ← hT, ← hU, ← hti, ← hui] at g3
      rw [← hT, ← ha0, ← hti] at hi'
      rw [← hU, ← hP] at h0
      have m1 : P * (a0 + T) < P * (2 * ti) := Int.mul_lt_mul_of_pos_left hi' hPpos
      have m2 : a0 * U ≤ a0 * P := Int.mul_le_mul_of_nonneg_left (by omega) (by omega)
      rw [Int.mul_add] at m1
      have m3 : P * (2 * ti) = 2 * (P * ti) := by grind
      have m4 : a0 * P = P * a0 := Int.mul_comm _ _
      show sumTo (fun j => ((chio A i j).natAbs : Int)) n < _
      omega
    intro e
    have := det_chio n A
    rw [e, Int.mul_zero] at this
    rcases Int.mul_eq_zero.1 this.symm with e2 | e2
    · exact hp e2
    · exact hd e2
end Go.Rk
namespace Go.Proofs.YtefmllkimdaimaaDoor
open Go.RowKit Go.Rk

/-- A number is added at a place, behind noughts if need be. -/
def putL (l : List Int) (i : Nat) (x : Int) : List Int := (l ++ List.replicate (i + 1 - l.length) 0).set i ((ix l i + x) % 9973)
theorem putL_len (l : List Int) (i : Nat) (x : Int) : (putL l i x).length = max l.length (i + 1) := by
  simp [putL]; omega
theorem ix_zeros (l : List Int) (k j : Nat) : ix (l ++ List.replicate k 0) j = ix l j := by
  rcases Nat.lt_or_ge j l.length with h | h
  · exact ix_append_left h
  · rw [ix_append_right h, ix_ge h]
    rcases Nat.lt_or_ge (j - l.length) k with h2 | h2
    · rw [ix_lt (by simpa using h2)]; simp
    · exact ix_ge (by simpa using h2)
theorem putL_ix (l : List Int) (i : Nat) (x : Int) (j : Nat) : ix (putL l i x) j = if j = i then (ix l i + x) % 9973 else ix l j := by
  unfold putL
  rw [ix_set, ix_zeros]
  by_cases e : i = j
  · subst e
    rw [if_pos ⟨rfl, by simp; omega⟩, if_pos rfl]
  · rw [if_neg (fun h => e h.1), if_neg (fun h => e h.symm)]
theorem putL_in {l : List Int} (h : In 0 9972 l) (i : Nat) (x : Int) : In 0 9972 (putL l i x) := fun j _ => by
  rw [putL_ix]
  split
  · omega
  · rcases Nat.lt_or_ge j l.length with h2 | h2
    · exact h j h2
    · rw [ix_ge h2]; decide

theorem boxed_below {W W' : World} {B : Nat} {t : TypeId} {v : Value} (h : Boxed W B t v) (hb : Below W.heap.size W W') : Boxed W' B t v := (hb.block B h.lt).trans h

section
variable {a b : Option Addr} {n ca m cb : Nat} {l f : List Int} {w0 w : World}
set_option maxRecDepth 100000 in
theorem put_any {Bo i : Nat} {x : Int} (hB : Boxed w Bo 22 (.slice a n ca)) (ho : OwI w w0.heap.size 3 a n ca l) (hb : Below w0.heap.size w0 w) (hBo : w0.heap.size ≤ Bo) (_ : n ≤ 100) (hi : i ≤ 100) (hl : In 0 9972 l) (hx : -99440784 ≤ x ∧ x ≤ 99440784) :
    Calls Tryd.prog 135 #[.int .i64 i, .int .i64 x, .pointer (some ⟨Bo, 0, none⟩)] w fun e w' => e = .returned (.tuple #[]) ∧ ∃ a' c', Boxed w' Bo 22 (.slice a' (max n (i + 1)) c') ∧ OwI w' w0.heap.size 3 a' (max n (i + 1)) c' (putL l i x) ∧ Below w0.heap.size w0 w' := by
  have HIT := Lib.hid intTy
  have HL := Lib.hid ho.len_eq
  go_enter Tryd.func135, Tryd.ntmps135
  go_wp2
  go_loopw [] (fun wr => ∃ (q : Nat) (aq : Option Addr) (cq : Nat), n + q ≤ max n (i + 1) ∧ Boxed wr Bo 22 (.slice aq (n + q) cq) ∧ OwI wr w0.heap.size 3 aq (n + q) cq (l ++ List.replicate q 0) ∧ Below w0.heap.size w0 wr) (fun wr => i + 1 - lenOf ((wr.cell? ⟨Bo, 0, none⟩).getD undef))
  case atStart => exact ⟨0, a, ca, by omega, hB, by simpa using ho, hb⟩
  case round =>
    clear hB ho hb
    obtain ⟨q, aq, cq, hq, hB, ho, hb⟩ := hrel
    have c1 := hB.cell
    by_cases hle : n + q ≤ i
    · have i1 : ((n + q : Nat) : Int) ≤ (i : Int) := by omega
      have hsz := hb.size
      have hM : Hid (lenOf ((wr.cell? ⟨Bo, 0, none⟩).getD undef) = n + q) := by unfold Hid; rw [c1]; rfl
      go_wp2_with (first | (at_builtin; refine wpList_push_int HIT.out rfl (.tmp 9) (.tmp 10) rfl rfl rfl (ho.alloc _) (z := 0) (by simp) (by decide) (by decide) (by omega) (by simp; omega) ?_; intro a4 cap4 w4 ho4 hg4; have hB4 := (hB.alloc (.cells #[.int .i64 0] 3)).kept hg4 ((hB.alloc (.cells #[.int .i64 0] 3)).not_row (by decide) (ho.alloc (.cells #[.int .i64 0] 3)).own); have c4 := hB4.cell; have f4 := hB4.frozen))
      have hne4 := hB4.not_row (show (22 : TypeId) ≠ 3 by decide) ho4.own
      have hb4 := below_grown (hb.alloc hsz (.cells #[.int .i64 0] 3)) (ho.alloc _) (by simp; omega) hg4
      go_roundw
      case rel => exact ⟨q + 1, a4, cap4, by omega, hB4.set _, by
        have := ho4.grown (grownBy_setCell w4 ⟨Bo, 0, none⟩ (.slice a4 (n + q + 1) cap4)) (.inr fun e => hne4 e.symm)
        rw [List.append_assoc] at this
        rw [List.replicate_succ']
        exact this, hb4.setCell (p := ⟨Bo, 0, none⟩) hBo _⟩
      case measure =>
        rw [hM.out, (hB4.set (Value.slice a4 (n + q + 1) cap4)).cell]
        show i + 1 - (n + q + 1) < i + 1 - (n + q)
        omega
    · have hm : n + q = max n (i + 1) := by omega
      have hq2 : q = i + 1 - l.length := by rw [HL.out]; omega
      obtain ⟨g, rfl, hg1, hg2, hc, hf⟩ := ho.at (by omega)
      have y1 := hc i (by omega)
      have y2 := hf i
      rw [ix_zeros] at y1
      have hset := (ho.set (k := i) ((ix l i + x) % 9973)).drew
      have hne := hB.not_row (show (22 : TypeId) ≠ 3 by decide) ho.own
      have hgB : Bo ≠ g := fun e => hne (by rw [e]; rfl)
      have hB5 := boxed_below (hB.kept (grownBy_setCell wr ⟨g, i, none⟩ (.int .i64 ((ix l i + x) % 9973))) (fun e => hgB (by injection e))) (Below.refl _ _).drew
      have hb5 := (hb.setCell (p := ⟨g, i, none⟩) hg1 (.int .i64 ((ix l i + x) % 9973))).drew
      have bx : 0 ≤ ix l i ∧ ix l i ≤ 9972 := by
        rcases Nat.lt_or_ge i l.length with h2 | h2
        · exact hl i h2
        · rw [ix_ge h2]; decide
      have i1 : ¬ ((n + q : Nat) : Int) ≤ (i : Int) := by omega
      have i2 : (i : Int) < ((n + q : Nat) : Int) := by omega
      have u1 : IntKind.i64.wrap (ix l i + x) = ix l i + x := Go.IntWalk.i64_in _ (by omega)
      have HQ2 := Lib.hid hq2
      have HM2 := Lib.hid hm
      clear hne hc hf bx hb ho hq2 hm
      go_wp2
      go_still_tail 10, (by kernel_rfl)
      still_call (stillW (Field_any _ _))
      repeat still_step
      refine wpStill_nil ?_
      change wpList _ _ _ _ _ wr.drew
      go_wp2
      go_end0
      refine ⟨rfl, some ⟨g, 0, none⟩, cq, ?_⟩
      rw [← HM2.out]
      exact ⟨hB5, by unfold putL; rw [← HQ2.out]; exact hset, hb5⟩

/-- Elder factors are taken away, k of them so far. -/
def corK (f e : List Int) (gap : Nat) (x : Int) : Nat → List Int
  | 0 => putL f gap x
  | k + 1 => putL (corK f e gap x k) (gap + 1 + k) (-x * ix e k)
theorem corK_len (f e : List Int) (gap : Nat) (x : Int) : ∀ k, (corK f e gap x k).length = max f.length (gap + 1 + k)
  | 0 => putL_len _ _ _
  | k + 1 => by rw [corK, putL_len, corK_len f e gap x k]; omega
theorem corK_in {f : List Int} (h : In 0 9972 f) (e : List Int) (gap : Nat) (x : Int) : ∀ k, In 0 9972 (corK f e gap x k)
  | 0 => putL_in h _ _
  | k + 1 => putL_in (corK_in h e gap x k) _ _
theorem corK_ix (f e : List Int) (gap : Nat) (x : Int) : ∀ k j, ix (corK f e gap x k) j = if j = gap then (ix f j + x) % 9973 else if gap < j ∧ j < gap + 1 + k then (ix f j + -x * ix e (j - gap - 1)) % 9973 else ix f j
  | 0, j => by
    rw [corK, putL_ix]
    by_cases e1 : j = gap
    · subst e1; rw [if_pos rfl, if_pos rfl]
    · rw [if_neg e1, if_neg e1, if_neg (by omega)]
  | k + 1, j => by
    rw [corK, putL_ix, corK_ix f e gap x k]
    by_cases e1 : j = gap + 1 + k
    · subst e1
      rw [if_pos rfl, if_neg (by omega), if_neg (by omega), if_neg (by omega), if_pos (by omega), show gap + 1 + k - gap - 1 = k by omega]
    · rw [if_neg e1, corK_ix f e gap x k]
      by_cases e2 : j = gap
      · rw [if_pos e2, if_pos e2]
      · rw [if_neg e2, if_neg e2]
        by_cases e3 : gap < j ∧ j < gap + 1 + k
        · rw [if_pos e3, if_pos (by omega)]
        · rw [if_neg e3, if_neg (by omega)]
theorem corK_eqm (f e : List Int) (gap : Nat) (x : Int) (j : Nat) : Eqm (ix (corK f e gap x e.length) j) (corF (ix f) f.length (ix e) e.length gap x j) := by
  have h0 : (if j < f.length then ix f j else 0) = ix f j := by
    split
    · rfl
    · exact (ix_ge (by omega)).symm
  rw [corK_ix]
  unfold corF
  rw [h0]
  by_cases e1 : j = gap
  · rw [if_pos e1, if_pos e1]; exact Eqm.mod _
  · rw [if_neg e1, if_neg e1]
    by_cases e2 : gap < j ∧ j < gap + 1 + e.length
    · rw [if_pos e2, if_pos e2]; exact Eqm.mod _
    · rw [if_neg e2, if_neg e2, Int.add_zero]; exact Eqm.refl _

set_option maxRecDepth 100000 in
set_option maxHeartbeats 1000000 in
theorem corrected_any {e : List Int} {gap : Nat} {x : Int} (hf : RdI w a n ca f) (he : RdI w b m cb e) (hfi : In 0 9972 f) (hei : In 0 9972 e) (hn : n ≤ 40) (hm : m ≤ 40) (hgap : gap ≤ 40) (hx : 0 ≤ x ∧ x ≤ 9972) :
    Calls Tryd.prog 120 #[.slice a n ca, .slice b m cb, .int .i64 gap, .int .i64 x] w fun e' w' => ∃ a' c', e' = .returned (.slice a' (max n (gap + 1 + m)) c') ∧ OwI w' w.heap.size 3 a' (max n (gap + 1 + m)) c' (corK f e gap x m) ∧ Below w.heap.size w w' := by
  have HIT := Lib.hid intTy
  have HF := Lib.hid hf.len_eq
  have HE := Lib.hid he.len_eq
  have HFI := Lib.hid hfi
  have HEI := Lib.hid hei
  have hmf : ∀ (fn : Fn) (first cap : Array Value) (w : World), (Instr.makeFunc fn first cap).run Tryd.prog w = .ok (.func fn first cap) w := fun _ _ _ _ => rfl
  go_enter Tryd.func120, Tryd.ntmps120
  go_wp2_with (first | (at_builtin; refine wpList_append_ints HIT.out rfl (.const (.slice none 0 0)) (.tmp 13) rfl rfl rfl (OwI.nil w w.heap.size _) hf (by omega) (Nat.le_refl _) ?_; intro a1 c1 w1 ho1 hg1) | fail)
  have hb1 := below_of_grown hg1
  have hs1 := hb1.size
  have C := Lib.hid (put_any (w0 := w) (Bo := w1.heap.size) (i := gap) (x := x) (Boxed.new w1 22 (.slice a1 n c1)) (by simpa using ho1.alloc (.cells #[.slice a1 n c1] 22)) (hb1.alloc hs1 _) hs1 (by omega) (by omega) HFI.out (by omega))
  (with_reducible refine C.out.mono ?_)
  clear C
  rintro e2 w2 ⟨rfl, a2, c2, hB, ho, hb⟩
  clear ho1 hg1 hb1 hmf
  generalize w1.heap.size = Bo at *
  go_wp2
  go_loopw [22] (fun v wr => ∃ (k : Nat) (a2 : Option Addr) (c2 : Nat), k ≤ m ∧ v = .int .i64 k ∧ Boxed wr Bo 22 (.slice a2 (max n (gap + 1 + k)) c2) ∧ OwI wr w.heap.size 3 a2 (max n (gap + 1 + k)) c2 (corK f e gap x k) ∧ Below w.heap.size w wr) (fun v _ => m - (intOf v).toNat)
  case atStart => exact ⟨0, a2, c2, Nat.zero_le _, rfl, hB, ho, hb⟩
  case round =>
    clear hB ho hb
    obtain ⟨k, a2, c2, hk, rfl, hB, ho, hb⟩ := hrel
    by_cases hkm : k < m
    · have i1 : (k : Int) < (m : Int) := by omega
      obtain ⟨bx, ox, rfl, _, hc⟩ := (he.below hb).at hkm
      have y1 := hc k hkm
      have be := HEI.out k (by rw [HE.out]; exact hkm)
      have b2 := abs_mul_le (x := -x) (y := ix e k) (a := 9972) (b := 9972) (by omega) (by omega)
      have u1 : IntKind.i64.wrap ((gap : Int) + 1) = (gap : Int) + 1 := Go.IntWalk.i64_in _ (by omega)
      have u2 : IntKind.i64.wrap ((gap : Int) + 1 + k) = (gap : Int) + 1 + k := Go.IntWalk.i64_in _ (by omega)
      have u3 : IntKind.i64.wrap (-x) = -x := Go.IntWalk.i64_in _ (by omega)
      have u4 : IntKind.i64.wrap (-x * ix e k) = -x * ix e k := Go.IntWalk.i64_in _ (by omega)
      have C := put_any (i := gap + 1 + k) (x := -x * ix e k) hB ho hb hs1 (by omega) (by omega) (corK_in HFI.out e gap x k) (by omega)
      rw [show ((gap + 1 + k : Nat) : Int) = (gap : Int) + 1 + k by omega] at C
      have C := Lib.hid C
      have hmx : max (max n (gap + 1 + k)) (gap + 1 + k + 1) = max n (gap + 1 + (k + 1)) := by omega
      have HMX := Lib.hid hmx
      clear hc be b2 hB ho hb hmx
      go_wp2_with (first | (go_at_call 135; (with_reducible refine C.out.mono ?_); rintro e4 w4 ⟨rfl, a4, c4, hB4, ho4, hb4⟩))
      rw [HMX.out] at hB4 ho4
      go_roundw
      case rel => exact ⟨k + 1, a4, c4, by omega, by go_num, hB4, ho4, hb4⟩
      case measure => simp [intOf]; omega
    · obtain rfl : k = m := by omega
      have y1 := hB.cell
      go_wp2
      go_ret
      exact ⟨a2, c2, rfl, ho, hb⟩
end
end Go.Proofs.YtefmllkimdaimaaDoor
