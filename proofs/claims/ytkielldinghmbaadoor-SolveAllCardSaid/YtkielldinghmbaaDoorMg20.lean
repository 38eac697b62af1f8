/-
  An order's sign: by its cycles, by its pairs, and as the determinant of its matrix. Plain Lean.
  The reference's Has and Sign walked.
  The sign by cycles is the sign by pairs; two that change places turn it.
  Decomposing: what one column's work keeps. No program in sight.
  Decomposing once more: what is told is one, whoever goes by the rule. No program in sight.
-/
import Derived.Test.YtkielldinghmbaaDoorRows
import Derived.Test.YtkielldinghmbaaDoorMg0
import Derived.Test.YtkielldinghmbaaDoorMg2
import Derived.Test.YtkielldinghmbaaDoorMg3
import Derived.Test.YtkielldinghmbaaDoorMg4
import Derived.Test.YtkielldinghmbaaDoorMg13
namespace Go.Rk

/-- The matrix of an order. -/
def pm (m : Nat → Nat) : Mx := fun r => unit_ (m r)

/-- What m is when two places exchange what they hold. -/
def swapN (m : Nat → Nat) (i j : Nat) : Nat → Nat := fun r => if r = j then m i else if r = i then m j else m r

theorem det_pm_swap (m : Nat → Nat) {n i j : Nat} (hij : i ≠ j) (hi : i < n) (hj : j < n) : det n (pm (swapN m i j)) = -det n (pm m) := by
  rw [← (det_alt n).swap (pm m) hij hi hj]
  refine det_congr fun r c _ _ => ?_
  simp only [pm, swapN, swapM, setRow]
  by_cases h1 : r = j
  · simp [h1]
  · by_cases h2 : r = i
    · simp [h2, hij]
    · simp [h1, h2]

/-- An order that takes each place to a place, none twice. -/
structure Ord (n : Nat) (m : Nat → Nat) : Prop where
  lt : ∀ a, a < n → m a < n
  inj : ∀ a b, a < n → b < n → m a = m b → a = b

theorem Ord.swap {n : Nat} {m : Nat → Nat} (h : Ord n m) {i j : Nat} (hi : i < n) (hj : j < n) : Ord n (swapN m i j) := by
  have e (r : Nat) : swapN m i j r = m (if r = j then i else if r = i then j else r) := by
    unfold swapN
    (repeat' split) <;> rfl
  have hlt (r : Nat) (hr : r < n) : (if r = j then i else if r = i then j else r) < n := by (repeat' split) <;> omega
  refine ⟨fun a ha => ?_, fun a b ha hb e2 => ?_⟩
  · rw [e]; exact h.lt _ (hlt a ha)
  · rw [e, e] at e2
    have e3 := h.inj _ _ (hlt a ha) (hlt b hb) e2
    revert e3
    (repeat' split) <;> omega

/-- Each place is some place's, as soon as no two have the same. -/
theorem Ord.onto : ∀ {n : Nat} {m : Nat → Nat}, Ord n m → ∀ b, b < n → ∃ a, a < n ∧ m a = b := by
  intro n
  induction n with
  | zero => intro m _ b hb; omega
  | succ n ih =>
    intro m h b hb
    -- the place that goes to the last one is put last
    by_cases hx : ∃ a, a < n + 1 ∧ m a = n
    · obtain ⟨a, ha, ea⟩ := hx
      by_cases hbn : b = n
      · exact ⟨a, ha, by omega⟩
      have h' : Ord n (swapN m a n) := by
        have hs := h.swap ha (Nat.lt_succ_self n)
        refine ⟨fun x hx => ?_, fun x y hx hy e => hs.inj x y (by omega) (by omega) e⟩
        have h1 := hs.lt x (by omega)
        have h2 : swapN m a n x ≠ n := fun e => by
          have : swapN m a n n = n := by simp [swapN, ea]
          have := hs.inj x n (by omega) (by omega) (by omega)
          omega
        omega
      obtain ⟨c, hc, ec⟩ := ih h' b (by omega)
      unfold swapN at ec
      by_cases h1 : c = n
      · omega
      · rw [if_neg h1] at ec
        by_cases h2 : c = a
        · rw [if_pos h2] at ec; exact ⟨n, Nat.lt_succ_self n, ec⟩
        · rw [if_neg h2] at ec; exact ⟨c, by omega, ec⟩
    · exfalso
      have h' : Ord n m := ⟨fun x hx2 => by
        have h1 := h.lt x (by omega)
        have h2 : m x ≠ n := fun e => hx ⟨x, by omega, e⟩
        omega, fun x y hx hy e => h.inj x y (by omega) (by omega) e⟩
      have h1 := h.lt n (Nat.lt_succ_self n)
      have h2 : m n ≠ n := fun e => hx ⟨n, Nat.lt_succ_self n, e⟩
      obtain ⟨a, ha, ea⟩ := ih h' (m n) (by omega)
      have := h.inj a n (by omega) (by omega) ea
      omega

/-- What is not yet done of an order, in a cycle that began at i and stands at k. -/
structure Mid (n : Nat) (l : List Int) (d : List Bool) (i k : Nat) (m : Nat → Nat) : Prop where
  ord : Ord n m
  len : d.length = n
  isdone : ∀ j, j < n → bx d j = true → j ≠ i → m j = j
  left : ∀ j, j < n → bx d j = false → m j = (ix l j).toNat
  di : bx d i = true
  at_ : m i = k

theorem Mid.step {n : Nat} {l : List Int} {d : List Bool} {i k : Nat} {m : Nat → Nat} (h : Mid n l d i k m) (hi : i < n) (hd : bx d k = false) :
    Mid n l (d.set k true) i (ix l k).toNat (swapN m i k) ∧ det n (pm (swapN m i k)) = -det n (pm m) := by
  have hk : k < n := h.at_ ▸ h.ord.lt i hi
  have hik : i ≠ k := fun e => by subst e; rw [h.di] at hd; cases hd
  refine ⟨⟨h.ord.swap hi hk, by rw [List.length_set]; exact h.len, fun j hj hb hji => ?_, fun j hj hb => ?_, ?_, ?_⟩, det_pm_swap m hik hi hk⟩
  · unfold swapN
    by_cases e : j = k
    · rw [if_pos e, h.at_, e]
    · rw [if_neg e, if_neg hji]
      rw [bx_set, if_neg (by rintro ⟨e2, _⟩; exact e e2.symm)] at hb
      exact h.isdone j hj hb hji
  · rw [bx_set] at hb
    by_cases e : k = j
    · rw [if_pos ⟨e, by rw [h.len]; exact hj⟩] at hb; cases hb
    · rw [if_neg fun e2 => e e2.1] at hb
      unfold swapN
      rw [if_neg fun e2 => e e2.symm, if_neg (by rintro rfl; rw [h.di] at hb; cases hb)]
      exact h.left j hj hb
  · rw [bx_set]
    split
    · rfl
    · exact h.di
  · unfold swapN
    rw [if_neg hik, if_pos rfl]
    exact h.left k hk hd

/-- Once the cycle is back, it is at its beginning. -/
theorem Mid.back {n : Nat} {l : List Int} {d : List Bool} {i k : Nat} {m : Nat → Nat} (h : Mid n l d i k m) (hi : i < n) (hd : bx d k = true) : k = i := by
  have hk : k < n := h.at_ ▸ h.ord.lt i hi
  by_cases e : k = i
  · exact e
  · have h1 := h.isdone k hk hd e
    exact (h.ord.inj i k hi hk (by rw [h.at_, h1])).symm

theorem cyc_mid {n : Nat} {l : List Int} {i : Nat} (hi : i < n) : ∀ (f : Nat) (d : List Bool) (k g : Nat) (m : Nat → Nat), Mid n l d i k m → cntF d < f →
    ∃ m', Mid n l (cycF l f d k g).1 i i m' ∧ g ≤ (cycF l f d k g).2 ∧ det n (pm m) = sg ((cycF l f d k g).2 - g) * det n (pm m') := by
  intro f
  induction f with
  | zero => intro d k g m _ hf; omega
  | succ f ih =>
    intro d k g m h hf
    rw [cycF]
    rcases hd : bx d k
    · obtain ⟨h2, e2⟩ := h.step hi hd
      have hk : k < n := h.at_ ▸ h.ord.lt i hi
      have hc := cntF_set (d := d) (k := k) (by rw [h.len]; exact hk) hd
      obtain ⟨m', h3, h4, e3⟩ := ih (d.set k true) (ix l k).toNat (g + 1) _ h2 (by omega)
      simp only [Bool.false_eq_true, if_false]
      refine ⟨m', h3, by omega, ?_⟩
      have e4 : (cycF l f (d.set k true) (ix l k).toNat (g + 1)).2 - g = (cycF l f (d.set k true) (ix l k).toNat (g + 1)).2 - (g + 1) + 1 := by omega
      rw [e4, sg_succ, Int.neg_mul, ← e3, e2]
      omega
    · simp only [if_true]
      have := h.back hi hd
      subst this
      exact ⟨m, h, Nat.le_refl _, by simp [sg]⟩

/-- What is left of an order when the cycles through the first i places are done. -/
structure Gone (n : Nat) (l : List Int) (d : List Bool) (i : Nat) (m : Nat → Nat) : Prop where
  ord : Ord n m
  len : d.length = n
  isdone : ∀ j, j < n → bx d j = true → m j = j
  left : ∀ j, j < n → bx d j = false → m j = (ix l j).toNat
  upto : ∀ j, j < i → bx d j = true

theorem cycF_keeps (l : List Int) : ∀ (f : Nat) (d : List Bool) (k g j : Nat), j < d.length → bx d j = true → bx (cycF l f d k g).1 j = true := by
  intro f
  induction f with
  | zero => intro d k g j _ h; exact h
  | succ f ih =>
    intro d k g j hj h
    rw [cycF]
    split
    · exact h
    · refine ih _ _ _ _ (by rw [List.length_set]; exact hj) ?_
      rw [bx_set]
      split
      · rfl
      · exact h

theorem Gone.step {n : Nat} {l : List Int} {i : Nat} {m : Nat → Nat} (hi : i < n) (h : Gone n l (cycN l n i).1 i m) :
    ∃ m', Gone n l (cycN l n (i + 1)).1 (i + 1) m' ∧ (cycN l n (i + 1)).2 * det n (pm m') = (cycN l n i).2 * det n (pm m) := by
  rw [cycN]
  generalize (cycN l n i).2 = s at *
  generalize (cycN l n i).1 = d at *
  dsimp only
  rcases hd : bx d i
  · have hM : Mid n l (d.set i true) i (ix l i).toNat m := by
      refine ⟨h.ord, by rw [List.length_set]; exact h.len, fun j hj hb hji => ?_, fun j hj hb => ?_, ?_, h.left i hi hd⟩
      · rw [bx_set, if_neg (by rintro ⟨e2, _⟩; exact hji e2.symm)] at hb
        exact h.isdone j hj hb
      · rw [bx_set] at hb
        by_cases e : i = j
        · rw [if_pos ⟨e, by rw [h.len]; exact hj⟩] at hb; cases hb
        · rw [if_neg fun e2 => e e2.1] at hb
          exact h.left j hj hb
      · rw [bx_set, if_pos ⟨rfl, by rw [h.len]; exact hi⟩]
    have hc := cntF_set (d := d) (k := i) (by rw [h.len]; exact hi) hd
    have hc2 := cntF_le d
    rw [h.len] at hc2
    obtain ⟨m', h3, h4, e3⟩ := cyc_mid hi n (d.set i true) (ix l i).toNat 1 m hM (by omega)
    have e5 : cycF l (n + 1) d i 0 = cycF l n (d.set i true) (ix l i).toNat 1 := by
      rw [cycF, hd]
      simp
    rw [e5]
    have hk := fun j (hj : j < (d.set i true).length) (hb : bx (d.set i true) j = true) => cycF_keeps l n (d.set i true) (ix l i).toNat 1 j hj hb
    generalize cycF l n (d.set i true) (ix l i).toNat 1 = r at *
    refine ⟨m', ⟨h3.ord, h3.len, fun j hj hb => ?_, h3.left, fun j hj => ?_⟩, ?_⟩
    · by_cases e : j = i
      · subst e; exact h3.at_
      · exact h3.isdone j hj hb e
    · refine hk j (by rw [List.length_set, h.len]; omega) ?_
      rw [bx_set]
      by_cases e : i = j
      · rw [if_pos ⟨e, by rw [h.len]; omega⟩]
      · rw [if_neg fun e2 => e e2.1]; exact h.upto j (by omega)
    · rw [e3]
      unfold sg
      by_cases h6 : r.2 % 2 = 0
      · rw [if_pos ⟨by omega, h6⟩, if_neg (by omega)]; grind
      · rw [if_neg fun e => h6 e.2, if_pos (by omega)]; grind
  · have e5 : cycF l (n + 1) d i 0 = (d, 0) := by
      rw [cycF, hd]
      simp
    rw [e5]
    refine ⟨m, ⟨h.ord, h.len, h.isdone, h.left, fun j hj => ?_⟩, by simp⟩
    by_cases e : j = i
    · subst e; exact hd
    · exact h.upto j (by omega)

/-- The sign by the cycles is the determinant of the order's matrix. -/
theorem cycN_det {n : Nat} {l : List Int} (h : Ord n fun j => (ix l j).toNat) : (cycN l n n).2 = det n (pm fun j => (ix l j).toNat) := by
  have key : ∀ i, i ≤ n → ∃ m, Gone n l (cycN l n i).1 i m ∧ (cycN l n i).2 * det n (pm m) = det n (pm fun j => (ix l j).toNat) := by
    intro i
    induction i with
    | zero =>
      intro _
      refine ⟨_, ⟨h, by simp [cycN], fun j hj hb => ?_, fun j _ _ => rfl, fun j hj => by omega⟩, by simp [cycN]⟩
      simp [cycN, bx, List.getD, hj] at hb
    | succ i ih =>
      intro hi
      obtain ⟨m, h1, e1⟩ := ih (by omega)
      obtain ⟨m', h2, e2⟩ := h1.step (by omega)
      exact ⟨m', h2, e2.trans e1⟩
  obtain ⟨m, h1, e1⟩ := key n (Nat.le_refl _)
  rw [← e1, det_congr (B := idM) fun r c hr _ => by
    show unit_ (m r) c = unit_ r c
    rw [h1.isdone r hr (h1.upto r hr)], det_id]
  omega

theorem prodTo_skip (g : Nat → Int) {a : Nat} : ∀ {n}, a ≤ n → prodTo g (n + 1) = prodTo (fun k => g (skip a k)) n * g a := by
  intro n
  induction n with
  | zero =>
    intro h
    obtain rfl : a = 0 := by omega
    simp [prodTo]
  | succ n ih =>
    intro h
    rcases Nat.lt_or_ge n a with h1 | h1
    · obtain rfl : a = n + 1 := by omega
      rw [prodTo, prodTo_congr (h := fun k => g (skip (n + 1) k)) fun i hi => by simp [skip, hi]]
    · rw [prodTo, ih h1]
      conv => rhs; rw [prodTo]
      have : skip a n = n + 1 := by unfold skip; rw [if_neg (by omega)]
      rw [this]
      grind

/-- The product over all the pairs. -/
def pairs (F : Nat → Nat → Int) (n : Nat) : Int := prodTo (fun i => prodTo (fun k => F k i) i) n

theorem pairs_skip (F : Nat → Nat → Int) {a : Nat} : ∀ {n}, a ≤ n → pairs F (n + 1) = pairs (fun k i => F (skip a k) (skip a i)) n * (prodTo (fun k => F k a) a * prodTo (fun i => F a (a + 1 + i)) (n - a)) := by
  intro n
  induction n with
  | zero =>
    intro h
    obtain rfl : a = 0 := by omega
    simp [pairs, prodTo]
  | succ n ih =>
    intro h
    rcases Nat.lt_or_ge n a with h1 | h1
    · obtain rfl : a = n + 1 := by omega
      have e1 : pairs F (n + 1 + 1) = pairs F (n + 1) * prodTo (fun k => F k (n + 1)) (n + 1) := rfl
      have e2 : pairs (fun k i => F (skip (n + 1) k) (skip (n + 1) i)) (n + 1) = pairs F (n + 1) := by
        unfold pairs
        refine prodTo_congr fun i hi => prodTo_congr fun k hk => ?_
        simp only [skip]
        rw [if_pos (by omega), if_pos hi]
      have e3 : prodTo (fun i => F (n + 1) (n + 1 + 1 + i)) (n + 1 - (n + 1)) = 1 := by rw [Nat.sub_self]; rfl
      rw [e1, e2, e3, Int.mul_one]
    · have e1 : pairs F (n + 1 + 1) = pairs F (n + 1) * prodTo (fun k => F k (n + 1)) (n + 1) := rfl
      have e2 : pairs (fun k i => F (skip a k) (skip a i)) (n + 1) = pairs (fun k i => F (skip a k) (skip a i)) n * prodTo (fun k => F (skip a k) (skip a n)) n := rfl
      have e3 : n + 1 - a = n - a + 1 := by omega
      have e4 : skip a n = n + 1 := by unfold skip; rw [if_neg (by omega)]
      have e5 : a + 1 + (n - a) = n + 1 := by omega
      rw [e1, ih h1, e2, e3, prodTo_skip (fun k => F k (n + 1)) h1, e4]
      conv => rhs; rw [prodTo, e5]
      grind

theorem prodTo_one {g : Nat → Int} {n : Nat} (h : ∀ i, i < n → g i = 1) : prodTo g n = 1 := by
  induction n with
  | zero => rfl
  | succ n ih => rw [prodTo, ih fun i hi => h i (by omega), h n (by omega)]; rfl
theorem prodTo_neg {g : Nat → Int} {n : Nat} (h : ∀ i, i < n → g i = -1) : prodTo g n = sg n := by
  induction n with
  | zero => rfl
  | succ n ih => rw [prodTo, ih fun i hi => h i (by omega), h n (by omega), sg_succ]; omega

/-- What a pair does to an order's sign. -/
def turnF (m : Nat → Nat) (k i : Nat) : Int := if m i < m k then -1 else 1

/-- The sign by the pairs is the determinant of the order's matrix. -/
theorem det_pairs : ∀ {n : Nat} {m : Nat → Nat}, Ord n m → det n (pm m) = pairs (turnF m) n := by
  intro n
  induction n with
  | zero => intro m _; rfl
  | succ n ih =>
    intro m h
    obtain ⟨a, ha, ea⟩ := h.onto n (Nat.lt_succ_self n)
    have hne : ∀ r, r < n + 1 → r ≠ a → m r < n := fun r hr h1 => by
      have h2 := h.lt r hr
      have h3 : m r ≠ n := fun e => h1 (h.inj r a hr ha (by omega))
      omega
    have h' : Ord n (fun r => m (skip a r)) := by
      refine ⟨fun r hr => hne _ (skip_lt hr) (skip_ne a r), fun x y hx hy e => ?_⟩
      have := h.inj _ _ (skip_lt hx) (skip_lt hy) e
      revert this
      unfold skip
      split <;> split <;> omega
    have e1 : det (n + 1) (pm m) = sg (a + n) * det n (pm fun r => m (skip a r)) := by
      rw [det_row (pm m) ha, sumTo_congr (g := fun j => sg (a + j) * pm m a j * det n (minor (pm m) a j)) (h := fun k => unit_ n k * (sg (a + k) * det n (minor (pm m) a k))) fun j _ => by
        show sg (a + j) * unit_ (m a) j * _ = _
        rw [ea]
        grind]
      rw [unit_pick (fun k => sg (a + k) * det n (minor (pm m) a k)) (Nat.lt_succ_self n)]
      congr 1
      refine det_congr fun r c hr hc => ?_
      show unit_ (m (skip a r)) (skip n c) = unit_ (m (skip a r)) c
      rw [show skip n c = c by unfold skip; rw [if_pos hc]]
    rw [e1, ih h', pairs_skip _ (by omega : a ≤ n)]
    have e2 : prodTo (fun k => turnF m k a) a = 1 := prodTo_one fun k hk => by
      have := h.lt k (by omega)
      unfold turnF
      rw [if_neg (by omega)]
    have e3 : prodTo (fun i => turnF m a (a + 1 + i)) (n - a) = sg (n - a) := prodTo_neg fun i hi => by
      have := hne (a + 1 + i) (by omega) (by omega)
      unfold turnF
      rw [if_pos (by omega)]
    have e4 : sg (n - a) = sg (a + n) := by
      unfold sg
      by_cases h1 : (n - a) % 2 = 0
      · rw [if_pos h1, if_pos (by omega)]
      · rw [if_neg h1, if_neg (by omega)]
    rw [e2, e3, e4]
    have e5 : pairs (turnF fun r => m (skip a r)) n = pairs (fun k i => turnF m (skip a k) (skip a i)) n := rfl
    rw [e5]
    grind

theorem bx_metN {l : List Int} {n : Nat} : ∀ {k}, ∀ v, v < n → (bx (metN l n k) v = true ↔ ∃ j, j < k ∧ (ix l j).toNat = v) := by
  intro k
  induction k with
  | zero =>
    intro v hv
    simp [metN, bx, List.getD, hv]
  | succ k ih =>
    intro v hv
    rw [metN, bx_set, metN_len]
    by_cases h1 : (ix l k).toNat = v
    · rw [if_pos ⟨h1, hv⟩]
      exact ⟨fun _ => ⟨k, by omega, h1⟩, fun _ => rfl⟩
    · rw [if_neg fun e => h1 e.1, ih v hv]
      constructor
      · rintro ⟨j, hj, e⟩; exact ⟨j, by omega, e⟩
      · rintro ⟨j, hj, e⟩
        by_cases h2 : j = k
        · subst h2; exact absurd e h1
        · exact ⟨j, by omega, e⟩

theorem okN_inj {l : List Int} {n : Nat} : ∀ {k}, okN l n k = true → ∀ a b, a < b → b < k → (ix l a).toNat ≠ (ix l b).toNat := by
  intro k
  induction k with
  | zero => intro _ a b _ hb; omega
  | succ k ih =>
    intro h a b hab hb e
    have hle := okN_le h
    rw [okN, Bool.and_eq_true, Bool.and_eq_true] at h
    rcases Nat.lt_or_ge b k with h1 | h1
    · exact ih h.1.1 a b hab h1 e
    · obtain rfl : b = k := by omega
      have h2 := hle b (by omega)
      have := (bx_metN (l := l) (n := n) (k := b) (ix l b).toNat (by omega)).2 ⟨a, hab, e⟩
      rw [this] at h
      exact absurd h.2 (by simp)

theorem okN_ord {l : List Int} {n : Nat} (h : okN l n n = true) : Ord n (fun j => (ix l j).toNat) ∧ ∀ j, j < n → 0 ≤ ix l j := by
  have hle := okN_le h
  refine ⟨⟨fun a ha => by have := hle a ha; show (ix l a).toNat < n; omega, fun a b ha hb e => ?_⟩, fun j hj => (hle j hj).1⟩
  rcases Nat.lt_trichotomy a b with h1 | h1 | h1
  · exact absurd e (okN_inj h a b h1 hb)
  · exact h1
  · exact absurd e.symm (okN_inj h b a h1 ha)

theorem ord_okN {l : List Int} {n : Nat} (h : Ord n (fun j => (ix l j).toNat)) (h0 : ∀ j, j < n → 0 ≤ ix l j) : ∀ k, k ≤ n → okN l n k = true := by
  intro k
  induction k with
  | zero => intro _; rfl
  | succ k ih =>
    intro hk
    have h1 := h.lt k (by omega)
    have h2 := h0 k (by omega)
    change (ix l k).toNat < n at h1
    have h3 : bx (metN l n k) (ix l k).toNat = false := by
      rcases hb : bx (metN l n k) (ix l k).toNat
      · rfl
      · obtain ⟨j, hj, e⟩ := (bx_metN _ h1).1 hb
        have := h.inj j k (by omega) (by omega) e
        omega
    rw [okN, ih (by omega), h3]
    simp
    omega

/-- If each number has its place, it is an order. -/
theorem has_ord {l : List Int} {n : Nat} (h : ∀ i : Nat, i < n → ∃ p, p < n ∧ ix l p = i) : Ord n (fun j => (ix l j).toNat) ∧ ∀ j, j < n → 0 ≤ ix l j := by
  let f : Nat → Nat := fun i => if hi : i < n then (h i hi).choose else 0
  have hf : ∀ i, i < n → f i < n ∧ ix l (f i) = i := fun i hi => by
    have := (h i hi).choose_spec
    simp only [f, dif_pos hi]
    exact this
  have hF : Ord n f := ⟨fun a ha => (hf a ha).1, fun a b ha hb e => by
    have h1 := (hf a ha).2
    have h2 := (hf b hb).2
    rw [e] at h1
    omega⟩
  refine ⟨⟨fun p hp => ?_, fun p q hp hq e => ?_⟩, fun p hp => ?_⟩
  · obtain ⟨i, hi, rfl⟩ := hF.onto p hp
    have := (hf i hi).2
    show (ix l (f i)).toNat < n
    omega
  · obtain ⟨i, hi, rfl⟩ := hF.onto p hp
    obtain ⟨j, hj, rfl⟩ := hF.onto q hq
    have h1 := (hf i hi).2
    have h2 := (hf j hj).2
    change (ix l (f i)).toNat = (ix l (f j)).toNat at e
    have : i = j := by omega
    rw [this]
  · obtain ⟨i, hi, rfl⟩ := hF.onto p hp
    have := (hf i hi).2
    omega
end Go.Rk
namespace Go.Proofs.YtkielldinghmbaaDoor
open Go.RowKit Go.Rk

def hasB (n : Int) (l : List Int) : Bool := l.any (· == n)
theorem hasB_iff {n : Int} {l : List Int} : hasB n l = true ↔ ∃ p, p < l.length ∧ ix l p = n := by
  unfold hasB
  rw [List.any_eq_true]
  constructor
  · rintro ⟨x, hx, e⟩
    obtain ⟨p, hp, rfl⟩ := List.getElem_of_mem hx
    exact ⟨p, hp, by rw [ix_lt hp]; exact beq_iff_eq.1 e⟩
  · rintro ⟨p, hp, e⟩
    exact ⟨_, ix_mem hp, beq_iff_eq.2 e⟩

theorem R_Has_any {a : Option Addr} {len cap : Nat} {l : List Int} (n : Int) {w : World} (h : RdI w a len cap l) :
    Calls Tryd.prog 76 #[.slice a len cap, .int .i64 n] w fun e w' => e = .returned (.bool (hasB n l)) ∧ w = w' := by
  have hm := h.len_max
  go_enter Tryd.func76, Tryd.ntmps76
  go_wp2
  go_loop [5] (fun i => ∃ k : Nat, k ≤ len ∧ i = .int .i64 k ∧ Hid (∀ p, p < k → ix l p ≠ n)) (fun i => len - (intOf i).toNat)
  case atStart => exact ⟨0, Nat.zero_le _, rfl, fun p hp => absurd hp (Nat.not_lt_zero _)⟩
  case round =>
    obtain ⟨k, hk, rfl, hno⟩ := hrel
    by_cases hlt : k < len
    · obtain ⟨b, off, rfl, _, hc⟩ := h.at hlt
      have hc := hc k hlt
      by_cases ho : ix l k = n
      · have z : (ix l k == n) = true := beq_iff_eq.2 ho
        have Ho := Lib.hid ho
        clear ho
        go_wp2
        go_ret
        exact ⟨congrArg (fun b => Ending.returned (.bool b)) (hasB_iff.2 ⟨k, by rw [h.len_eq]; exact hlt, Ho.out⟩).symm, rfl⟩
      · have z : (ix l k == n) = false := beq_eq_false_iff_ne.2 ho
        have Ho := Lib.hid ho
        clear ho
        go_wp2
        go_round
        case rel => exact ⟨k + 1, by omega, by go_num, fun p hp => by
          rcases Nat.lt_or_ge p k with h1 | h1
          · exact hno.out p h1
          · obtain rfl : p = k := by omega
            exact Ho.out⟩
        case measure => simp [intOf]; omega
    · go_wp2
      go_ret
      refine ⟨congrArg (fun b => Ending.returned (.bool b)) (Bool.eq_false_iff.2 fun e => ?_).symm, rfl⟩
      obtain ⟨p, hp, e⟩ := hasB_iff.1 e
      exact hno.out p (by rw [h.len_eq] at hp; omega) e

/-- The sign by the pairs, as the reference counts it. -/
def turnI (l : List Int) (k i : Nat) : Int := if ix l i < ix l k then -1 else 1

theorem prodTo_pm {g : Nat → Int} {n : Nat} (h : ∀ i, i < n → g i = 1 ∨ g i = -1) : prodTo g n = 1 ∨ prodTo g n = -1 := by
  induction n with
  | zero => exact .inl rfl
  | succ n ih =>
    rw [prodTo]
    rcases ih fun i hi => h i (by omega) with e | e <;> rcases h n (by omega) with e2 | e2 <;> rw [e, e2] <;> simp
theorem turnI_pm (l : List Int) (k i : Nat) : turnI l k i = 1 ∨ turnI l k i = -1 := by unfold turnI; split <;> simp
theorem pairs_pm (l : List Int) (n : Nat) : pairs (turnI l) n = 1 ∨ pairs (turnI l) n = -1 := prodTo_pm fun i _ => prodTo_pm fun k _ => turnI_pm l k i

set_option maxHeartbeats 2000000 in
theorem R_Sign_any {a : Option Addr} {len cap : Nat} {l : List Int} {w : World} (h : RdI w a len cap l) :
    Calls Tryd.prog 41 #[.slice a len cap] w fun e w' => e = .returned (.int .i64 (if (∀ i : Nat, i < len → hasB i l = true) then pairs (turnI l) len else 0)) ∧ ∃ m, w' = w.drewN m := by
  have hm := h.len_max
  obtain ⟨R, hR⟩ : ∃ R, (if (∀ i : Nat, i < len → hasB i l = true) then pairs (turnI l) len else 0) = R := ⟨_, rfl⟩
  rw [hR]
  have HR := Lib.hid hR
  clear hR
  go_enter Tryd.func41, Tryd.ntmps41
  go_wp2
  go_loopw [3, 4] (fun o i wr => ∃ (k q : Nat) (S : Int), k ≤ len ∧ i = .int .i64 k ∧ o = .int .i64 S ∧ Hid (pairs (turnI l) k = S) ∧ Hid (∀ j : Nat, j < k → hasB j l = true) ∧ Hid (wr = w.drewN q)) (fun _ i _ => len - (intOf i).toNat)
  case atStart => exact ⟨0, 0, 1, Nat.zero_le _, rfl, rfl, rfl, fun p hp => absurd hp (Nat.not_lt_zero _), (World.drewN_zero _).symm⟩
  case round =>
    obtain ⟨k, q, S, hk, rfl, rfl, HS, hno, HQ⟩ := hrel
    have h' : RdI wr a len cap l := by rw [HQ.out]; exact h.drewN q
    by_cases hlt : k < len
    · rcases hb : hasB k l
      · have HB := Lib.hid hb
        clear hb
        go_wp2_with (go_at_call 76; refine (R_Has_any _ h').mono ?_; rintro e w' ⟨rfl, rfl⟩; rw [HB.out])
        go_ret
        refine ⟨?_, q, HQ.out⟩
        rw [← HR.out, if_neg fun e => by have := e k hlt; rw [HB.out] at this; cases this]
        rfl
      · have HB := Lib.hid hb
        clear hb
        have hS1 : S = 1 ∨ S = -1 := HS.out ▸ pairs_pm l k
        go_wp2_with (go_at_call 76; refine (R_Has_any _ h').mono ?_; rintro e w' ⟨rfl, rfl⟩; rw [HB.out])
        clear h'
        go_loopw [3, 5] (fun o q wt => ∃ (j q2 : Nat) (T : Int), j ≤ k ∧ q = .int .i64 j ∧ o = .int .i64 T ∧ Hid (S * prodTo (fun t => turnI l t k) j = T) ∧ Hid (wt = w.drewN q2)) (fun _ q _ => k - (intOf q).toNat)
        case atStart => exact ⟨0, q, S, Nat.zero_le _, rfl, rfl, by unfold Hid; rw [prodTo, Int.mul_one], HQ⟩
        case round =>
          obtain ⟨j, q2, T, hj, rfl, rfl, HT, HQ2⟩ := hrel
          have hT1 : S * prodTo (fun t => turnI l t k) j = 1 ∨ S * prodTo (fun t => turnI l t k) j = -1 := by
            rcases prodTo_pm (g := fun t => turnI l t k) (n := j) fun t _ => turnI_pm l t k with e | e <;> rcases hS1 with e2 | e2 <;> rw [e, e2] <;> simp
          rw [HT.out] at hT1
          have h' : RdI wr a len cap l := by rw [HQ2.out]; exact h.drewN q2
          by_cases hjk : j < k
          · obtain ⟨b, off, rfl, _, hc⟩ := h'.at hlt
            have c1 := hc j (by omega)
            have c2 := hc k hlt
            have u1 : (j : Int) < (len : Int) := by omega
            have u2 : (k : Int) < (len : Int) := by omega
            by_cases ho : ix l k < ix l j
            · have Ho := Lib.hid ho
              go_wp2
              go_quiet (fail)
              go_wp2
              go_roundw
              case rel => exact ⟨j + 1, _, _, by omega, by go_num, rfl, by unfold Hid; rw [prodTo, ← Int.mul_assoc, HT.out, turnI, if_pos Ho.out]; rw [Int.mul_neg_one], by unfold Hid; rw [HQ2.out, World.drewN_drewN]⟩
              case measure => simp [intOf]; omega
            · have Ho := Lib.hid ho
              go_wp2
              go_quiet (fail)
              go_wp2
              go_roundw
              case rel => exact ⟨j + 1, _, _, by omega, by go_num, rfl, by unfold Hid; rw [prodTo, ← Int.mul_assoc, HT.out, turnI, if_neg (Int.not_lt.2 Ho.out)]; rw [Int.mul_one], by unfold Hid; rw [HQ2.out, World.drewN_drewN]⟩
              case measure => simp [intOf]; omega
          · obtain rfl : j = k := by omega
            go_wp2
            go_roundw
            case rel => exact ⟨j + 1, q2, _, by omega, by go_num, rfl, by
              unfold Hid
              rw [← HT.out, ← HS.out]
              rfl, fun p hp => by
              rcases Nat.lt_or_ge p j with h1 | h1
              · exact hno.out p h1
              · obtain rfl : p = j := by omega
                exact HB.out, HQ2⟩
            case measure => simp [intOf]; omega
    · obtain rfl : k = len := by omega
      have hp := hno.out
      clear hno
      have HP := Lib.hid hp
      clear hp
      go_wp2
      go_ret
      refine ⟨?_, q, HQ.out⟩
      rw [← HR.out, if_pos HP.out, HS.out]
      rfl
end Go.Proofs.YtkielldinghmbaaDoor
namespace Go.Proofs.YtkielldinghmbaaDoor
open Go.RowKit Go.Rk

def natsOf (l : List Int) : Nat → Nat := fun j => (ix l j).toNat

theorem pairs_congr {F G : Nat → Nat → Int} {n : Nat} (h : ∀ k i, k < i → i < n → F k i = G k i) : pairs F n = pairs G n :=
  prodTo_congr fun i hi => prodTo_congr fun k hk => h k i hk hi

theorem signC_ord {l : List Int} {n : Nat} (e : l.length = n) (h : okN l n n = true) : signC l = det n (pm (natsOf l)) := by
  unfold signC
  rw [e, if_pos h]
  exact cycN_det (okN_ord h).1

theorem pairs_turn {l : List Int} {n : Nat} (h : okN l n n = true) : pairs (turnI l) n = det n (pm (natsOf l)) := by
  have h1 := okN_ord h
  rw [show natsOf l = fun j => (ix l j).toNat from rfl, det_pairs h1.1]
  refine pairs_congr fun k i hk hi => ?_
  have a := h1.2 k (by omega)
  have b := h1.2 i hi
  unfold turnI turnF
  dsimp only
  by_cases c : ix l i < ix l k
  · rw [if_pos c, if_pos (by omega)]
  · rw [if_neg c, if_neg (by omega)]

theorem okN_has {l : List Int} {n : Nat} (e : l.length = n) : okN l n n = true ↔ ∀ i : Nat, i < n → hasB i l = true := by
  constructor
  · intro h i hi
    have h1 := okN_ord h
    obtain ⟨p, hp, hpi⟩ := Ord.onto h1.1 i hi
    have := h1.2 p hp
    exact hasB_iff.2 ⟨p, by omega, by omega⟩
  · intro h
    have h1 := has_ord (l := l) (n := n) fun i hi => by
      obtain ⟨p, hp, e2⟩ := hasB_iff.1 (h i hi)
      exact ⟨p, by omega, e2⟩
    exact ord_okN h1.1 h1.2 n (Nat.le_refl _)

theorem sign_is {l : List Int} {n : Nat} (e : l.length = n) : (if (∀ i : Nat, i < n → hasB i l = true) then pairs (turnI l) n else 0) = signC l := by
  by_cases h : okN l n n = true
  · rw [if_pos ((okN_has e).1 h), pairs_turn h, signC_ord e h]
  · rw [if_neg fun h2 => h ((okN_has e).2 h2)]
    unfold signC
    rw [e, if_neg h]

theorem signC_pm (l : List Int) : signC l = 0 ∨ signC l = 1 ∨ signC l = -1 := by
  unfold signC
  split
  · exact .inr (cycN_len l _ _).2
  · exact .inl rfl
theorem signC_ok {l : List Int} {n : Nat} (e : l.length = n) (h : signC l ≠ 0) : okN l n n = true := by
  unfold signC at h
  rw [e] at h
  by_cases h2 : okN l n n = true
  · exact h2
  · rw [if_neg h2] at h; exact absurd rfl h

theorem natsOf_swap {l : List Int} {i j : Nat} (hi : i < l.length) (hj : j < l.length) : natsOf ((l.set i (ix l j)).set j (ix l i)) = swapN (natsOf l) i j := by
  funext r
  unfold natsOf swapN
  rw [ix_set, ix_set, List.length_set]
  by_cases h1 : r = j
  · subst h1
    rw [if_pos ⟨rfl, hj⟩, if_pos rfl]
  · rw [if_neg fun h => h1 h.1.symm, if_neg h1]
    by_cases h2 : r = i
    · subst h2
      rw [if_pos ⟨rfl, hi⟩, if_pos rfl]
    · rw [if_neg fun h => h2 h.1.symm, if_neg h2]

/-- Two that change places turn the sign. -/
theorem signC_swap {l : List Int} {i j : Nat} (h0 : signC l ≠ 0) (hi : i < l.length) (hj : j < l.length) (hij : i ≠ j) : signC ((l.set i (ix l j)).set j (ix l i)) = -signC l := by
  have h := signC_ok rfl h0
  have h1 := okN_ord h
  have e : ((l.set i (ix l j)).set j (ix l i)).length = l.length := by simp
  have hO : Ord l.length (natsOf ((l.set i (ix l j)).set j (ix l i))) := by
    rw [natsOf_swap hi hj]
    exact Ord.swap h1.1 hi hj
  have h2 : okN ((l.set i (ix l j)).set j (ix l i)) l.length l.length = true := by
    refine ord_okN hO (fun r hr => ?_) _ (Nat.le_refl _)
    rw [ix_set, ix_set]
    split
    · exact h1.2 i hi
    · split
      · exact h1.2 j hj
      · exact h1.2 r hr
  rw [signC_ord e h2, signC_ord rfl h, natsOf_swap hi hj, det_pm_swap _ hij hi hj]

/-- The matrix of an order. -/
def matO (l : List Int) (n : Nat) : List (List Int) := (List.range n).map fun r => (List.replicate n 0).set (natsOf l r) 1
end Go.Proofs.YtkielldinghmbaaDoor
namespace Go.Rk
open Go.RowKit Go.Proofs.YtkielldinghmbaaDoor

/-- What holds when the first c columns are done. -/
structure LInv (n : Nat) (A : List (List Int)) (c : Nat) (U L : List (List Int)) (o : List Int) : Prop where
  dU : Dm n n U
  eU : EntR 0 9972 n n U
  dL : Dm n n L
  eL : EntR 0 9972 n n L
  ol : o.length = n
  oo : Ord n (natsOf o)
  op : ∀ i, i < n → 0 ≤ ix o i
  zL : ∀ i t, i < n → t < n → (c ≤ t ∨ i ≤ t) → en L i t = 0
  zU : ∀ i t, i < n → t < i → t < c → en U i t = 0
  rel : ∀ i j, i < n → j < n → Eqm (en A (natsOf o i) j) (en U i j + sumTo (fun t => en L i t * en U t j) n)

section
variable {n c : Nat} {A U L : List (List Int)} {o : List Int}
theorem LInv.start (hd : Dm n n A) (he : EntR 0 9972 n n A) (ho : o.length = n) (hi : ∀ i, i < n → ix o i = i) : LInv n A 0 A (List.replicate n (List.replicate n 0)) o := by
  have h0 : ∀ i j, i < n → j < n → en (List.replicate n (List.replicate n (0 : Int))) i j = 0 := fun i j h1 h2 => by
    unfold en
    rw [rowOf_lt (by simp; exact h1), ix_lt (by simp; exact h2)]
    simp
  have hN : ∀ i, i < n → natsOf o i = i := fun i h1 => by unfold natsOf; rw [hi i h1]; rfl
  refine ⟨hd, he, Dm.replicate n n 0, fun i j h1 h2 => by rw [h0 i j h1 h2]; omega, ho, ⟨fun i h1 => by rw [hN i h1]; exact h1, fun i j h1 h2 e => by rwa [hN i h1, hN j h2] at e⟩, fun i h1 => by rw [hi i h1]; omega, fun i t h1 h2 _ => h0 i t h1 h2, fun i t _ _ h3 => absurd h3 (Nat.not_lt_zero _), fun i j h1 h2 => ?_⟩
  rw [hN i h1, sumTo_congr (h := fun _ => 0) fun t ht => by rw [h0 i t h1 ht, Int.zero_mul], sumTo_zero, Int.add_zero]
  exact Eqm.refl _

theorem LInv.pass (h : LInv n A c U L o) (hz : ∀ i, c ≤ i → i < n → en U i c = 0) : LInv n A (c + 1) U L o :=
  ⟨h.dU, h.eU, h.dL, h.eL, h.ol, h.oo, h.op, fun i t h1 h2 h3 => h.zL i t h1 h2 (by omega), fun i t h1 h2 h3 => by
    rcases Nat.lt_or_ge t c with h4 | h4
    · exact h.zU i t h1 h2 h4
    · obtain rfl : t = c := by omega
      exact hz i (by omega) h1, h.rel⟩

theorem LInv.swap (h : LInv n A c U L o) {k : Nat} (hc : c < n) (hck : c ≤ k) (hk : k < n) : LInv n A c (swapL U c k) (swapL L c k) ((o.set c (ix o k)).set k (ix o c)) := by
  have eu : ∀ i j, en (swapL U c k) i j = en U (if i = k then c else if i = c then k else i) j := fun i j => en_swap h.dU hc hk j
  have el : ∀ i j, en (swapL L c k) i j = en L (if i = k then c else if i = c then k else i) j := fun i j => en_swap h.dL hc hk j
  have lo : ∀ i, i < c → (if i = k then c else if i = c then k else i) = i := fun i hi => by rw [if_neg (by omega), if_neg (by omega)]
  have hi' : ∀ i, c ≤ i → c ≤ (if i = k then c else if i = c then k else i) := fun i hi => by (repeat' split) <;> omega
  have lt : ∀ i, i < n → (if i = k then c else if i = c then k else i) < n := fun i hi => swap_lt hc hk hi
  have hno : natsOf ((o.set c (ix o k)).set k (ix o c)) = swapN (natsOf o) c k := natsOf_swap (by rw [h.ol]; exact hc) (by rw [h.ol]; exact hk)
  have hno2 : ∀ i, natsOf ((o.set c (ix o k)).set k (ix o c)) i = natsOf o (if i = k then c else if i = c then k else i) := fun i => by
    rw [hno]
    unfold swapN
    (repeat' split) <;> rfl
  refine ⟨h.dU.swap hc hk, fun i j h1 h2 => by rw [eu]; exact h.eU _ j (lt i h1) h2, h.dL.swap hc hk, fun i j h1 h2 => by rw [el]; exact h.eL _ j (lt i h1) h2, by simp [h.ol], by rw [hno]; exact h.oo.swap hc hk, fun i h1 => ?_, fun i t h1 h2 h3 => ?_, fun i t h1 h2 h3 => ?_, fun i j h1 h2 => ?_⟩
  · rw [ix_set, ix_set]
    split
    · exact h.op c hc
    · split
      · exact h.op k hk
      · exact h.op i h1
  · rw [el]
    rcases Nat.lt_or_ge t c with h4 | h4
    · rw [lo i (by omega)]; exact h.zL i t h1 h2 h3
    · exact h.zL _ t (lt i h1) h2 (.inl h4)
  · rw [eu]
    rcases Nat.lt_or_ge i c with h4 | h4
    · rw [lo i h4]; exact h.zU i t h1 h2 h3
    · exact h.zU _ t (lt i h1) (by have := hi' i h4; omega) h3
  · rw [hno2, eu, sumTo_congr (h := fun t => en L (if i = k then c else if i = c then k else i) t * en U t j) fun t ht => ?_]
    · exact h.rel _ j (lt i h1) h2
    · rw [el, eu]
      rcases Nat.lt_or_ge t c with h4 | h4
      · rw [lo t h4]
      · rw [h.zL _ t (lt i h1) ht (.inl h4), Int.zero_mul, Int.zero_mul]

/-- How often the pivot's row is taken from row i. -/
def byE (U : List (List Int)) (c : Nat) (i : Nat) : Int := en U i c * powm (en U c c) 9971 % 9973

theorem LInv.elim (h : LInv n A c U L o) (hc : c < n) (hp : en U c c ≠ 0) {U2 L2 : List (List Int)}
    (hL : IsR n n L2 (fun i t => if c < i ∧ t = c then byE U c i else en L i t)) (hU : IsR n n U2 (fun i j => if c < i then (en U i j - byE U c i * en U c j) % 9973 else en U i j)) : LInv n A (c + 1) U2 L2 o := by
  have b := h.eU c c hc hc
  have ho := over_mul b.1 b.2 hp
  have o1 : ∀ i, Eqm (byE U c i * en U c c) (en U i c) := fun i => by
    unfold byE
    refine (Eqm.mul (Eqm.mod _) (Eqm.refl _)).trans ?_
    rw [Int.mul_assoc]
    have : Eqm (powm (en U c c) 9971 * en U c c) 1 := by unfold Eqm; rw [ho]; rfl
    have := Eqm.mul (Eqm.refl (en U i c)) this
    rwa [Int.mul_one] at this
  have bb : ∀ i, 0 ≤ byE U c i ∧ byE U c i ≤ 9972 := fun i => by unfold byE; omega
  refine ⟨hU.1, fun i j h1 h2 => ?_, hL.1, fun i j h1 h2 => ?_, h.ol, h.oo, h.op, fun i t h1 h2 h3 => ?_, fun i t h1 h2 h3 => ?_, fun i j h1 h2 => ?_⟩
  · rw [hU.2 i j h1 h2]
    dsimp only
    split
    · omega
    · exact h.eU i j h1 h2
  · rw [hL.2 i j h1 h2]
    dsimp only
    split
    · exact bb i
    · exact h.eL i j h1 h2
  · rw [hL.2 i t h1 h2]
    dsimp only
    rw [if_neg (by omega)]
    exact h.zL i t h1 h2 (by omega)
  · rw [hU.2 i t h1 (by omega)]
    dsimp only
    split
    · rcases Nat.lt_or_ge t c with h4 | h4
      · rw [h.zU i t h1 h2 h4, h.zU c t hc h4 h4, Int.mul_zero]; rfl
      · obtain rfl : t = c := by omega
        have := Eqm.sub (Eqm.refl (en U i t)) (o1 i)
        rw [Int.sub_self] at this
        exact this
    · exact h.zU i t h1 h2 (by omega)
  · refine (h.rel i j h1 h2).trans ?_
    rw [hU.2 i j h1 h2]
    dsimp only
    have e : ∀ t, t < n → en L2 i t * en U2 t j = en L i t * en U t j + (if c = t then 1 else 0) * (if c < i then byE U c i * en U t j else 0) := fun t ht => by
      rw [hL.2 i t h1 ht, hU.2 t j ht h2]
      dsimp only
      by_cases e1 : t = c
      · subst e1
        rw [if_neg (Nat.lt_irrefl _), if_pos rfl, h.zL i t h1 ht (.inl (Nat.le_refl _))]
        by_cases e2 : t < i
        · rw [if_pos ⟨e2, rfl⟩, if_pos e2]; omega
        · rw [if_neg fun x => e2 x.1, if_neg e2]; omega
      · rw [if_neg (fun x : c < i ∧ t = c => e1 x.2), if_neg (fun x : c = t => e1 x.symm), Int.zero_mul, Int.add_zero]
        by_cases e2 : c < t
        · rw [h.zL i t h1 ht (.inl (by omega)), Int.zero_mul, Int.zero_mul]
        · rw [if_neg e2]
    rw [sumTo_congr e, sumTo_add, sumTo_pick (fun t => if c < i then byE U c i * en U t j else 0) hc]
    by_cases e2 : c < i
    · rw [if_pos e2, if_pos e2]
      have := Eqm.add (Eqm.mod (en U i j - byE U c i * en U c j)) (Eqm.refl (sumTo (fun t => en L i t * en U t j) n + byE U c i * en U c j))
      exact (Eqm.of_eq (by omega)).trans this.symm
    · rw [if_neg e2, if_neg e2, Int.add_zero]
      exact Eqm.refl _

/-- What is told in the end. -/
structure LFin (n : Nat) (A U L : List (List Int)) (o : List Int) : Prop where
  dU : Dm n n U
  eU : EntR 0 9972 n n U
  dL : Dm n n L
  eL : EntR 0 9972 n n L
  ol : o.length = n
  oo : Ord n (natsOf o)
  op : ∀ i, i < n → 0 ≤ ix o i
  one : ∀ i, i < n → en L i i = 1
  zL : ∀ i t, i < n → t < n → i < t → en L i t = 0
  zU : ∀ i t, i < n → t < i → en U i t = 0
  rel : ∀ i j, i < n → j < n → Eqm (en A (natsOf o i) j) (mulM n (mx L) (mx U) i j)

theorem LInv.fin (h : LInv n A n U L o) {L2 : List (List Int)} (hL : IsR n n L2 (fun i t => if i = t then 1 else en L i t)) : LFin n A U L2 o := by
  refine ⟨h.dU, h.eU, hL.1, fun i j h1 h2 => ?_, h.ol, h.oo, h.op, fun i h1 => ?_, fun i t h1 h2 h3 => ?_, fun i t h1 h2 => h.zU i t h1 h2 (by omega), fun i j h1 h2 => ?_⟩
  · rw [hL.2 i j h1 h2]
    dsimp only
    split
    · omega
    · exact h.eL i j h1 h2
  · rw [hL.2 i i h1 h1]; dsimp only; rw [if_pos rfl]
  · rw [hL.2 i t h1 h2]; dsimp only; rw [if_neg (by omega)]; exact h.zL i t h1 h2 (.inr (by omega))
  · refine (h.rel i j h1 h2).trans (Eqm.of_eq ?_)
    have e : ∀ t, t < n → mx L2 i t * mx U t j = en L i t * en U t j + (if i = t then 1 else 0) * en U t j := fun t ht => by
      show en L2 i t * en U t j = _
      rw [hL.2 i t h1 ht]
      dsimp only
      by_cases e : i = t
      · subst e; rw [if_pos rfl, if_pos rfl, h.zL i i h1 h1 (.inr (Nat.le_refl _))]; omega
      · rw [if_neg e, if_neg e]; omega
    unfold mulM
    rw [sumTo_congr e, sumTo_add, sumTo_pick (fun t => en U t j) h1]
    omega

/-- The determinant is the product of the middle, with the order's sign. -/
theorem LFin.det (h : LFin n A U L o) : Eqm (signC o * prodTo (fun i => en U i i) n) (Go.Rk.det n (mx A)) := by
  have hs : okN o n n = true := ord_okN h.oo h.op n (Nat.le_refl _)
  have e1 := signC_ord h.ol hs
  have e2 : Eqm (Go.Rk.det n (mulM n (pm (natsOf o)) (mx A))) (Go.Rk.det n (mulM n (mx L) (mx U))) := det_eqm fun i j h1 h2 => by
    refine Eqm.trans (Eqm.of_eq ?_) (h.rel i j h1 h2)
    have : ∀ t, t < n → pm (natsOf o) i t * mx A t j = (if natsOf o i = t then 1 else 0) * mx A t j := fun t _ => by
      unfold pm unit_
      by_cases e : t = natsOf o i
      · rw [if_pos e, if_pos e.symm]
      · rw [if_neg e, if_neg fun x => e x.symm]
    unfold mulM
    rw [sumTo_congr this]
    exact sumTo_pick (fun t => mx A t j) (h.oo.lt i h1)
  rw [det_mul, det_mul, det_lower (mx L) (fun i j h1 h2 h3 => h.zL i j h1 h2 h3), det_upper (mx U) (fun i j h1 _ h3 => h.zU i j h1 h3), prodTo_one (g := fun i => mx L i i) (fun i hi => h.one i hi), Int.one_mul, ← e1] at e2
  have hpm : signC o = 1 ∨ signC o = -1 := by
    rcases signC_pm o with e | e | e
    · exfalso
      unfold signC at e
      rw [h.ol, if_pos hs] at e
      have := (cycN_len o n n).2
      omega
    · exact .inl e
    · exact .inr e
  have e3 := Eqm.mul (Eqm.refl (signC o)) e2
  rw [← Int.mul_assoc, show signC o * signC o = 1 by rcases hpm with e | e <;> rw [e] <;> rfl, Int.one_mul] at e3
  exact e3.symm
end
end Go.Rk
namespace Go.Rk
open Go.RowKit Go.Proofs.YtkielldinghmbaaDoor

/-- What stands when the first c columns are done by the rule. -/
inductive LuSt (n : Nat) (A : List (List Int)) : Nat → List (List Int) → List (List Int) → List Int → Prop where
  | start {o : List Int} (ho : o.length = n) (hi : ∀ i, i < n → ix o i = i) : LuSt n A 0 A (List.replicate n (List.replicate n 0)) o
  | pass {c : Nat} {U L : List (List Int)} {o : List Int} (h : LuSt n A c U L o) (hz : ∀ i, c ≤ i → i < n → en U i c = 0) : LuSt n A (c + 1) U L o
  | step {c k : Nat} {U L U2 L2 : List (List Int)} {o : List Int} (h : LuSt n A c U L o) (h1 : c ≤ k) (h2 : k < n) (hz : ∀ r, c ≤ r → r < k → en U r c = 0) (hp : en U k c ≠ 0)
      (hL : IsR n n L2 (fun i t => if c < i ∧ t = c then byE (swapL U c k) c i else en (swapL L c k) i t)) (hU : IsR n n U2 (fun i j => if c < i then (en (swapL U c k) i j - byE (swapL U c k) c i * en (swapL U c k) c j) % 9973 else en (swapL U c k) i j)) :
      LuSt n A (c + 1) U2 L2 ((o.set c (ix o k)).set k (ix o c))

section
variable {n c : Nat} {A U L U' L' : List (List Int)} {o o' : List Int}
theorem LuSt.one (h : LuSt n A c U L o) : ∀ {U' L' : List (List Int)} {o' : List Int}, LuSt n A c U' L' o' → U = U' ∧ L = L' ∧ o = o' := by
  induction h with
  | start ho hi =>
    intro U' L' o' g
    cases g with
    | start ho' hi' => exact ⟨rfl, rfl, ix_ext (by rw [ho, ho']) fun k hk => by rw [hi k (by omega), hi' k (by omega)]⟩
  | pass h hz ih =>
    intro U' L' o' g
    cases g with
    | pass g hz' => exact ih g
    | step g h1 h2 hz' hp hL hU =>
      obtain ⟨rfl, rfl, rfl⟩ := ih g
      exact absurd (hz _ h1 h2) hp
  | step h h1 h2 hz hp hL hU ih =>
    intro U' L' o' g
    cases g with
    | pass g hz' =>
      obtain ⟨rfl, rfl, rfl⟩ := ih g
      exact absurd (hz' _ h1 h2) hp
    | step g h1' h2' hz' hp' hL' hU' =>
      rename_i c k _ _ _ _ _ k' _ _ _
      obtain ⟨rfl, rfl, rfl⟩ := ih g
      have e : k = k' := by
        rcases Nat.lt_trichotomy k k' with e | e | e
        · exact absurd (hz' _ h1 e) hp
        · exact e
        · exact absurd (hz _ h1' e) hp'
      subst e
      exact ⟨hU.1.ext hU'.1 fun i j hi hj => by rw [hU.2 i j hi hj, hU'.2 i j hi hj], hL.1.ext hL'.1 fun i j hi hj => by rw [hL.2 i j hi hj, hL'.2 i j hi hj], rfl⟩

structure LI2 (n : Nat) (A : List (List Int)) (c : Nat) (U L : List (List Int)) (o : List Int) : Prop extends LInv n A c U L o where
  lu : LuSt n A c U L o
structure LS2 (n : Nat) (A : List (List Int)) (c : Nat) (U4 L4 : List (List Int)) (o4 : List Int) : Prop extends LInv n A c U4 L4 o4 where
  pre : ∃ U L o k, LuSt n A c U L o ∧ c ≤ k ∧ k < n ∧ (∀ r, c ≤ r → r < k → en U r c = 0) ∧ en U k c ≠ 0 ∧ U4 = swapL U c k ∧ L4 = swapL L c k ∧ o4 = (o.set c (ix o k)).set k (ix o c)
theorem LI2.start (hd : Dm n n A) (he : EntR 0 9972 n n A) (ho : o.length = n) (hi : ∀ i, i < n → ix o i = i) : LI2 n A 0 A (List.replicate n (List.replicate n 0)) o :=
  ⟨LInv.start hd he ho hi, .start ho hi⟩
theorem LI2.pass2 (h : LI2 n A c U L o) (hz : ∀ i, c ≤ i → i < n → en U i c = 0) : LI2 n A (c + 1) U L o := ⟨h.toLInv.pass hz, h.lu.pass hz⟩
theorem LI2.swap2 (h : LI2 n A c U L o) {k : Nat} (hc : c < n) (hck : c ≤ k) (hk : k < n) (hz : ∀ r, c ≤ r → r < k → en U r c = 0) (hp : en U k c ≠ 0) : LS2 n A c (swapL U c k) (swapL L c k) ((o.set c (ix o k)).set k (ix o c)) :=
  ⟨h.toLInv.swap hc hck hk, U, L, o, k, h.lu, hck, hk, hz, hp, rfl, rfl, rfl⟩
theorem LS2.elim2 (h : LS2 n A c U L o) (hc : c < n) (hp : en U c c ≠ 0) {U2 L2 : List (List Int)}
    (hL : IsR n n L2 (fun i t => if c < i ∧ t = c then byE U c i else en L i t)) (hU : IsR n n U2 (fun i j => if c < i then (en U i j - byE U c i * en U c j) % 9973 else en U i j)) : LI2 n A (c + 1) U2 L2 o := by
  refine ⟨h.toLInv.elim hc hp hL hU, ?_⟩
  obtain ⟨U0, L0, o0, k, g, h1, h2, hz, hp0, rfl, rfl, rfl⟩ := h.pre
  exact .step g h1 h2 hz hp0 hL hU

/-- What is told in the end, and by the rule. -/
structure LFin2 (n : Nat) (A U L : List (List Int)) (o : List Int) : Prop extends LFin n A U L o where
  lu : ∃ L0, LuSt n A n U L0 o ∧ IsR n n L (fun r t => if r = t then 1 else en L0 r t)
theorem LI2.fin2 (h : LI2 n A n U L o) {L5 : List (List Int)} (hL : IsR n n L5 (fun r t => if r = t then 1 else en L r t)) : LFin2 n A U L5 o := ⟨h.toLInv.fin hL, L, h.lu, hL⟩
theorem LFin2.same2 (h : LFin2 n A U L o) (g : LFin2 n A U' L' o') : U = U' ∧ L = L' ∧ o = o' := by
  obtain ⟨L0, h1, h2⟩ := h.lu
  obtain ⟨L1, g1, g2⟩ := g.lu
  obtain ⟨rfl, rfl, rfl⟩ := h1.one g1
  exact ⟨rfl, h2.1.ext g2.1 fun i j hi hj => by rw [h2.2 i j hi hj, g2.2 i j hi hj], rfl⟩
end
end Go.Rk
