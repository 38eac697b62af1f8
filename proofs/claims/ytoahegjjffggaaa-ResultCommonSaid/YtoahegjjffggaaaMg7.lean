/-
  An order's sign: by its cycles, by its pairs, and as the determinant of its matrix. Plain Lean.
  Resultants of products: the powers' rests by a polynomial, and the determinant of what a polynomial does to them. No program in sight.
-/
import Derived.Test.YtoahegjjffggaaaMg3
import Derived.Test.YtoahegjjffggaaaMg4
import Derived.Test.YtoahegjjffggaaaMg5
import Derived.Test.YtoahegjjffggaaaMg6
namespace Go.Rk

/-- The matrix of an order. -/
def pm (m : Nat → Nat) : Mx := fun r => unit_ (m r)

/-- What m is when two places exchange what they hold. -/
def swapN (m : Nat → Nat) (i j : Nat) : Nat → Nat := fun r => if r = j then m i else if r = i then m j else m r

theorem det_pm_swap (m : Nat → Nat) {n i j : Nat} (hij : i ≠ j) (hi : i < n) (hj : j < n) : det n (pm (swapN m i j)) = -det n (pm m) := by
  rw [← (det_alt n).swap (pm m) hij hi hj]
  refine det_congr fun r c _ _ => ?_
  simp only [pm, swapN, swapM, setRow]
  by_cases h1 : r = j
  · simp [h1]
  · by_cases h2 : r = i
    · simp [h2, hij]
    · simp [h1, h2]

/-- An order that takes each place to a place, none twice. -/
structure Ord (n : Nat) (m : Nat → Nat) : Prop where
  lt : ∀ a, a < n → m a < n
  inj : ∀ a b, a < n → b < n → m a = m b → a = b

theorem Ord.swap {n : Nat} {m : Nat → Nat} (h : Ord n m) {i j : Nat} (hi : i < n) (hj : j < n) : Ord n (swapN m i j) := by
  have e (r : Nat) : swapN m i j r = m (if r = j then i else if r = i then j else r) := by
    unfold swapN
    (repeat' split) <;> rfl
  have hlt (r : Nat) (hr : r < n) : (if r = j then i else if r = i then j else r) < n := by (repeat' split) <;> omega
  refine ⟨fun a ha => ?_, fun a b ha hb e2 => ?_⟩
  · rw [e]; exact h.lt _ (hlt a ha)
  · rw [e, e] at e2
    have e3 := h.inj _ _ (hlt a ha) (hlt b hb) e2
    revert e3
    (repeat' split) <;> omega

/-- Each place is some place's, as soon as no two have the same. -/
theorem Ord.onto : ∀ {n : Nat} {m : Nat → Nat}, Ord n m → ∀ b, b < n → ∃ a, a < n ∧ m a = b := by
  intro n
  induction n with
  | zero => intro m _ b hb; omega
  | succ n ih =>
    intro m h b hb
    -- the place that goes to the last one is put last
    by_cases hx : ∃ a, a < n + 1 ∧ m a = n
    · obtain ⟨a, ha, ea⟩ := hx
      by_cases hbn : b = n
      · exact ⟨a, ha, by omega⟩
      have h' : Ord n (swapN m a n) := by
        have hs := h.swap ha (Nat.lt_succ_self n)
        refine ⟨fun x hx => ?_, fun x y hx hy e => hs.inj x y (by omega) (by omega) e⟩
        have h1 := hs.lt x (by omega)
        have h2 : swapN m a n x ≠ n := fun e => by
          have : swapN m a n n = n := by simp [swapN, ea]
          have := hs.inj x n (by omega) (by omega) (by omega)
          omega
        omega
      obtain ⟨c, hc, ec⟩ := ih h' b (by omega)
      unfold swapN at ec
      by_cases h1 : c = n
      · omega
      · rw [if_neg h1] at ec
        by_cases h2 : c = a
        · rw [if_pos h2] at ec; exact ⟨n, Nat.lt_succ_self n, ec⟩
        · rw [if_neg h2] at ec; exact ⟨c, by omega, ec⟩
    · exfalso
      have h' : Ord n m := ⟨fun x hx2 => by
        have h1 := h.lt x (by omega)
        have h2 : m x ≠ n := fun e => hx ⟨x, by omega, e⟩
        omega, fun x y hx hy e => h.inj x y (by omega) (by omega) e⟩
      have h1 := h.lt n (Nat.lt_succ_self n)
      have h2 : m n ≠ n := fun e => hx ⟨n, Nat.lt_succ_self n, e⟩
      obtain ⟨a, ha, ea⟩ := ih h' (m n) (by omega)
      have := h.inj a n (by omega) (by omega) ea
      omega

/-- What is not yet done of an order, in a cycle that began at i and stands at k. -/
structure Mid (n : Nat) (l : List Int) (d : List Bool) (i k : Nat) (m : Nat → Nat) : Prop where
  ord : Ord n m
  len : d.length = n
  isdone : ∀ j, j < n → bx d j = true → j ≠ i → m j = j
  left : ∀ j, j < n → bx d j = false → m j = (ix l j).toNat
  di : bx d i = true
  at_ : m i = k

theorem Mid.step {n : Nat} {l : List Int} {d : List Bool} {i k : Nat} {m : Nat → Nat} (h : Mid n l d i k m) (hi : i < n) (hd : bx d k = false) :
    Mid n l (d.set k true) i (ix l k).toNat (swapN m i k) ∧ det n (pm (swapN m i k)) = -det n (pm m) := by
  have hk : k < n := h.at_ ▸ h.ord.lt i hi
  have hik : i ≠ k := fun e => by subst e; rw [h.di] at hd; cases hd
  refine ⟨⟨h.ord.swap hi hk, by rw [List.length_set]; exact h.len, fun j hj hb hji => ?_, fun j hj hb => ?_, ?_, ?_⟩, det_pm_swap m hik hi hk⟩
  · unfold swapN
    by_cases e : j = k
    · rw [if_pos e, h.at_, e]
    · rw [if_neg e, if_neg hji]
      rw [bx_set, if_neg (by rintro ⟨e2, _⟩; exact e e2.symm)] at hb
      exact h.isdone j hj hb hji
  · rw [bx_set] at hb
    by_cases e : k = j
    · rw [if_pos ⟨e, by rw [h.len]; exact hj⟩] at hb; cases hb
    · rw [if_neg fun e2 => e e2.1] at hb
      unfold swapN
      rw [if_neg fun e2 => e e2.symm, if_neg (by rintro rfl; rw [h.di] at hb; cases hb)]
      exact h.left j hj hb
  · rw [bx_set]
    split
    · rfl
    · exact h.di
  · unfold swapN
    rw [if_neg hik, if_pos rfl]
    exact h.left k hk hd

/-- Once the cycle is back, it is at its beginning. -/
theorem Mid.back {n : Nat} {l : List Int} {d : List Bool} {i k : Nat} {m : Nat → Nat} (h : Mid n l d i k m) (hi : i < n) (hd : bx d k = true) : k = i := by
  have hk : k < n := h.at_ ▸ h.ord.lt i hi
  by_cases e : k = i
  · exact e
  · have h1 := h.isdone k hk hd e
    exact (h.ord.inj i k hi hk (by rw [h.at_, h1])).symm

theorem cyc_mid {n : Nat} {l : List Int} {i : Nat} (hi : i < n) : ∀ (f : Nat) (d : List Bool) (k g : Nat) (m : Nat → Nat), Mid n l d i k m → cntF d < f →
    ∃ m', Mid n l (cycF l f d k g).1 i i m' ∧ g ≤ (cycF l f d k g).2 ∧ det n (pm m) = sg ((cycF l f d k g).2 - g) * det n (pm m') := by
  intro f
  induction f with
  | zero => intro d k g m _ hf; omega
  | succ f ih =>
    intro d k g m h hf
    rw [cycF]
    rcases hd : bx d k
    · obtain ⟨h2, e2⟩ := h.step hi hd
      have hk : k < n := h.at_ ▸ h.ord.lt i hi
      have hc := cntF_set (d := d) (k := k) (by rw [h.len]; exact hk) hd
      obtain ⟨m', h3, h4, e3⟩ := ih (d.set k true) (ix l k).toNat (g + 1) _ h2 (by omega)
      simp only [Bool.false_eq_true, if_false]
      refine ⟨m', h3, by omega, ?_⟩
      have e4 : (cycF l f (d.set k true) (ix l k).toNat (g + 1)).2 - g = (cycF l f (d.set k true) (ix l k).toNat (g + 1)).2 - (g + 1) + 1 := by omega
      rw [e4, sg_succ, Int.neg_mul, ← e3, e2]
      omega
    · simp only [if_true]
      have := h.back hi hd
      subst this
      exact ⟨m, h, Nat.le_refl _, by simp [sg]⟩

/-- What is left of an order when the cycles through the first i places are done. -/
structure Gone (n : Nat) (l : List Int) (d : List Bool) (i : Nat) (m : Nat → Nat) : Prop where
  ord : Ord n m
  len : d.length = n
  isdone : ∀ j, j < n → bx d j = true → m j = j
  left : ∀ j, j < n → bx d j = false → m j = (ix l j).toNat
  upto : ∀ j, j < i → bx d j = true

theorem cycF_keeps (l : List Int) : ∀ (f : Nat) (d : List Bool) (k g j : Nat), j < d.length → bx d j = true → bx (cycF l f d k g).1 j = true := by
  intro f
  induction f with
  | zero => intro d k g j _ h; exact h
  | succ f ih =>
    intro d k g j hj h
    rw [cycF]
    split
    · exact h
    · refine ih _ _ _ _ (by rw [List.length_set]; exact hj) ?_
      rw [bx_set]
      split
      · rfl
      · exact h

theorem Gone.step {n : Nat} {l : List Int} {i : Nat} {m : Nat → Nat} (hi : i < n) (h : Gone n l (cycN l n i).1 i m) :
    ∃ m', Gone n l (cycN l n (i + 1)).1 (i + 1) m' ∧ (cycN l n (i + 1)).2 * det n (pm m') = (cycN l n i).2 * det n (pm m) := by
  rw [cycN]
  generalize (cycN l n i).2 = s at *
  generalize (cycN l n i).1 = d at *
  dsimp only
  rcases hd : bx d i
  · have hM : Mid n l (d.set i true) i (ix l i).toNat m := by
      refine ⟨h.ord, by rw [List.length_set]; exact h.len, fun j hj hb hji => ?_, fun j hj hb => ?_, ?_, h.left i hi hd⟩
      · rw [bx_set, if_neg (by rintro ⟨e2, _⟩; exact hji e2.symm)] at hb
        exact h.isdone j hj hb
      · rw [bx_set] at hb
        by_cases e : i = j
        · rw [if_pos ⟨e, by rw [h.len]; exact hj⟩] at hb; cases hb
        · rw [if_neg fun e2 => e e2.1] at hb
          exact h.left j hj hb
      · rw [bx_set, if_pos ⟨rfl, by rw [h.len]; exact hi⟩]
    have hc := cntF_set (d := d) (k := i) (by rw [h.len]; exact hi) hd
    have hc2 := cntF_le d
    rw [h.len] at hc2
    obtain ⟨m', h3, h4, e3⟩ := cyc_mid hi n (d.set i true) (ix l i).toNat 1 m hM (by omega)
    have e5 : cycF l (n + 1) d i 0 = cycF l n (d.set i true) (ix l i).toNat 1 := by
      rw [cycF, hd]
      simp
    rw [e5]
    have hk := fun j (hj : j < (d.set i true).length) (hb : bx (d.set i true) j = true) => cycF_keeps l n (d.set i true) (ix l i).toNat 1 j hj hb
    generalize cycF l n (d.set i true) (ix l i).toNat 1 = r at *
    refine ⟨m', ⟨h3.ord, h3.len, fun j hj hb => ?_, h3.left, fun j hj => ?_⟩, ?_⟩
    · by_cases e : j = i
      · subst e; exact h3.at_
      · exact h3.isdone j hj hb e
    · refine hk j (by rw [List.length_set, h.len]; omega) ?_
      rw [bx_set]
      by_cases e : i = j
      · rw [if_pos ⟨e, by rw [h.len]; omega⟩]
      · rw [if_neg fun e2 => e e2.1]; exact h.upto j (by omega)
    · rw [e3]
      unfold sg
      by_cases h6 : r.2 % 2 = 0
      · rw [if_pos ⟨by omega, h6⟩, if_neg (by omega)]; grind
      · rw [if_neg fun e => h6 e.2, if_pos (by omega)]; grind
  · have e5 : cycF l (n + 1) d i 0 = (d, 0) := by
      rw [cycF, hd]
      simp
    rw [e5]
    refine ⟨m, ⟨h.ord, h.len, h.isdone, h.left, fun j hj => ?_⟩, by simp⟩
    by_cases e : j = i
    · subst e; exact hd
    · exact h.upto j (by omega)

/-- The sign by the cycles is the determinant of the order's matrix. -/
theorem cycN_det {n : Nat} {l : List Int} (h : Ord n fun j => (ix l j).toNat) : (cycN l n n).2 = det n (pm fun j => (ix l j).toNat) := by
  have key : ∀ i, i ≤ n → ∃ m, Gone n l (cycN l n i).1 i m ∧ (cycN l n i).2 * det n (pm m) = det n (pm fun j => (ix l j).toNat) := by
    intro i
    induction i with
    | zero =>
      intro _
      refine ⟨_, ⟨h, by simp [cycN], fun j hj hb => ?_, fun j _ _ => rfl, fun j hj => by omega⟩, by simp [cycN]⟩
      simp [cycN, bx, List.getD, hj] at hb
    | succ i ih =>
      intro hi
      obtain ⟨m, h1, e1⟩ := ih (by omega)
      obtain ⟨m', h2, e2⟩ := h1.step (by omega)
      exact ⟨m', h2, e2.trans e1⟩
  obtain ⟨m, h1, e1⟩ := key n (Nat.le_refl _)
  rw [← e1, det_congr (B := idM) fun r c hr _ => by
    show unit_ (m r) c = unit_ r c
    rw [h1.isdone r hr (h1.upto r hr)], det_id]
  omega

theorem prodTo_skip (g : Nat → Int) {a : Nat} : ∀ {n}, a ≤ n → prodTo g (n + 1) = prodTo (fun k => g (skip a k)) n * g a := by
  intro n
  induction n with
  | zero =>
    intro h
    obtain rfl : a = 0 := by omega
    simp [prodTo]
  | succ n ih =>
    intro h
    rcases Nat.lt_or_ge n a with h1 | h1
    · obtain rfl : a = n + 1 := by omega
      rw [prodTo, prodTo_congr (h := fun k => g (skip (n + 1) k)) fun i hi => by simp [skip, hi]]
    · rw [prodTo, ih h1]
      conv => rhs; rw [prodTo]
      have : skip a n = n + 1 := by unfold skip; rw [if_neg (by omega)]
      rw [this]
      grind

/-- The product over all the pairs. -/
def pairs (F : Nat → Nat → Int) (n : Nat) : Int := prodTo (fun i => prodTo (fun k => F k i) i) n

theorem pairs_skip (F : Nat → Nat → Int) {a : Nat} : ∀ {n}, a ≤ n → pairs F (n + 1) = pairs (fun k i => F (skip a k) (skip a i)) n * (prodTo (fun k => F k a) a * prodTo (fun i => F a (a + 1 + i)) (n - a)) := by
  intro n
  induction n with
  | zero =>
    intro h
    obtain rfl : a = 0 := by omega
    simp [pairs, prodTo]
  | succ n ih =>
    intro h
    rcases Nat.lt_or_ge n a with h1 | h1
    · obtain rfl : a = n + 1 := by omega
      have e1 : pairs F (n + 1 + 1) = pairs F (n + 1) * prodTo (fun k => F k (n + 1)) (n + 1) := rfl
      have e2 : pairs (fun k i => F (skip (n + 1) k) (skip (n + 1) i)) (n + 1) = pairs F (n + 1) := by
        unfold pairs
        refine prodTo_congr fun i hi => prodTo_congr fun k hk => ?_
        simp only [skip]
        rw [if_pos (by omega), if_pos hi]
      have e3 : prodTo (fun i => F (n + 1) (n + 1 + 1 + i)) (n + 1 - (n + 1)) = 1 := by rw [Nat.sub_self]; rfl
      rw [e1, e2, e3, Int.mul_one]
    · have e1 : pairs F (n + 1 + 1) = pairs F (n + 1) * prodTo (fun k => F k (n + 1)) (n + 1) := rfl
      have e2 : pairs (fun k i => F (skip a k) (skip a i)) (n + 1) = pairs (fun k i => F (skip a k) (skip a i)) n * prodTo (fun k => F (skip a k) (skip a n)) n := rfl
      have e3 : n + 1 - a = n - a + 1 := by omega
      have e4 : skip a n = n + 1 := by unfold skip; rw [if_neg (by omega)]
      have e5 : a + 1 + (n - a) = n + 1 := by omega
      rw [e1, ih h1, e2, e3, prodTo_skip (fun k => F k (n + 1)) h1, e4]
      conv => rhs; rw [prodTo, e5]
      grind

theorem prodTo_one {g : Nat → Int} {n : Nat} (h : ∀ i, i < n → g i = 1) : prodTo g n = 1 := by
  induction n with
  | zero => rfl
  | succ n ih => rw [prodTo, ih fun i hi => h i (by omega), h n (by omega)]; rfl
theorem prodTo_neg {g : Nat → Int} {n : Nat} (h : ∀ i, i < n → g i = -1) : prodTo g n = sg n := by
  induction n with
  | zero => rfl
  | succ n ih => rw [prodTo, ih fun i hi => h i (by omega), h n (by omega), sg_succ]; omega

/-- What a pair does to an order's sign. -/
def turnF (m : Nat → Nat) (k i : Nat) : Int := if m i < m k then -1 else 1

/-- The sign by the pairs is the determinant of the order's matrix. -/
theorem det_pairs : ∀ {n : Nat} {m : Nat → Nat}, Ord n m → det n (pm m) = pairs (turnF m) n := by
  intro n
  induction n with
  | zero => intro m _; rfl
  | succ n ih =>
    intro m h
    obtain ⟨a, ha, ea⟩ := h.onto n (Nat.lt_succ_self n)
    have hne : ∀ r, r < n + 1 → r ≠ a → m r < n := fun r hr h1 => by
      have h2 := h.lt r hr
      have h3 : m r ≠ n := fun e => h1 (h.inj r a hr ha (by omega))
      omega
    have h' : Ord n (fun r => m (skip a r)) := by
      refine ⟨fun r hr => hne _ (skip_lt hr) (skip_ne a r), fun x y hx hy e => ?_⟩
      have := h.inj _ _ (skip_lt hx) (skip_lt hy) e
      revert this
      unfold skip
      split <;> split <;> omega
    have e1 : det (n + 1) (pm m) = sg (a + n) * det n (pm fun r => m (skip a r)) := by
      rw [det_row (pm m) ha, sumTo_congr (g := fun j => sg (a + j) * pm m a j * det n (minor (pm m) a j)) (h := fun k => unit_ n k * (sg (a + k) * det n (minor (pm m) a k))) fun j _ => by
        show sg (a + j) * unit_ (m a) j * _ = _
        rw [ea]
        grind]
      rw [unit_pick (fun k => sg (a + k) * det n (minor (pm m) a k)) (Nat.lt_succ_self n)]
      congr 1
      refine det_congr fun r c hr hc => ?_
      show unit_ (m (skip a r)) (skip n c) = unit_ (m (skip a r)) c
      rw [show skip n c = c by unfold skip; rw [if_pos hc]]
    rw [e1, ih h', pairs_skip _ (by omega : a ≤ n)]
    have e2 : prodTo (fun k => turnF m k a) a = 1 := prodTo_one fun k hk => by
      have := h.lt k (by omega)
      unfold turnF
      rw [if_neg (by omega)]
    have e3 : prodTo (fun i => turnF m a (a + 1 + i)) (n - a) = sg (n - a) := prodTo_neg fun i hi => by
      have := hne (a + 1 + i) (by omega) (by omega)
      unfold turnF
      rw [if_pos (by omega)]
    have e4 : sg (n - a) = sg (a + n) := by
      unfold sg
      by_cases h1 : (n - a) % 2 = 0
      · rw [if_pos h1, if_pos (by omega)]
      · rw [if_neg h1, if_neg (by omega)]
    rw [e2, e3, e4]
    have e5 : pairs (turnF fun r => m (skip a r)) n = pairs (fun k i => turnF m (skip a k) (skip a i)) n := rfl
    rw [e5]
    grind

theorem bx_metN {l : List Int} {n : Nat} : ∀ {k}, ∀ v, v < n → (bx (metN l n k) v = true ↔ ∃ j, j < k ∧ (ix l j).toNat = v) := by
  intro k
  induction k with
  | zero =>
    intro v hv
    simp [metN, bx, List.getD, hv]
  | succ k ih =>
    intro v hv
    rw [metN, bx_set, metN_len]
    by_cases h1 : (ix l k).toNat = v
    · rw [if_pos ⟨h1, hv⟩]
      exact ⟨fun _ => ⟨k, by omega, h1⟩, fun _ => rfl⟩
    · rw [if_neg fun e => h1 e.1, ih v hv]
      constructor
      · rintro ⟨j, hj, e⟩; exact ⟨j, by omega, e⟩
      · rintro ⟨j, hj, e⟩
        by_cases h2 : j = k
        · subst h2; exact absurd e h1
        · exact ⟨j, by omega, e⟩

theorem okN_inj {l : List Int} {n : Nat} : ∀ {k}, okN l n k = true → ∀ a b, a < b → b < k → (ix l a).toNat ≠ (ix l b).toNat := by
  intro k
  induction k with
  | zero => intro _ a b _ hb; omega
  | succ k ih =>
    intro h a b hab hb e
    have hle := okN_le h
    rw [okN, Bool.and_eq_true, Bool.and_eq_true] at h
    rcases Nat.lt_or_ge b k with h1 | h1
    · exact ih h.1.1 a b hab h1 e
    · obtain rfl : b = k := by omega
      have h2 := hle b (by omega)
      have := (bx_metN (l := l) (n := n) (k := b) (ix l b).toNat (by omega)).2 ⟨a, hab, e⟩
      rw [this] at h
      exact absurd h.2 (by simp)

theorem okN_ord {l : List Int} {n : Nat} (h : okN l n n = true) : Ord n (fun j => (ix l j).toNat) ∧ ∀ j, j < n → 0 ≤ ix l j := by
  have hle := okN_le h
  refine ⟨⟨fun a ha => by have := hle a ha; show (ix l a).toNat < n; omega, fun a b ha hb e => ?_⟩, fun j hj => (hle j hj).1⟩
  rcases Nat.lt_trichotomy a b with h1 | h1 | h1
  · exact absurd e (okN_inj h a b h1 hb)
  · exact h1
  · exact absurd e.symm (okN_inj h b a h1 ha)

theorem ord_okN {l : List Int} {n : Nat} (h : Ord n (fun j => (ix l j).toNat)) (h0 : ∀ j, j < n → 0 ≤ ix l j) : ∀ k, k ≤ n → okN l n k = true := by
  intro k
  induction k with
  | zero => intro _; rfl
  | succ k ih =>
    intro hk
    have h1 := h.lt k (by omega)
    have h2 := h0 k (by omega)
    change (ix l k).toNat < n at h1
    have h3 : bx (metN l n k) (ix l k).toNat = false := by
      rcases hb : bx (metN l n k) (ix l k).toNat
      · rfl
      · obtain ⟨j, hj, e⟩ := (bx_metN _ h1).1 hb
        have := h.inj j k (by omega) (by omega) e
        omega
    rw [okN, ih (by omega), h3]
    simp
    omega

/-- If each number has its place, it is an order. -/
theorem has_ord {l : List Int} {n : Nat} (h : ∀ i : Nat, i < n → ∃ p, p < n ∧ ix l p = i) : Ord n (fun j => (ix l j).toNat) ∧ ∀ j, j < n → 0 ≤ ix l j := by
  let f : Nat → Nat := fun i => if hi : i < n then (h i hi).choose else 0
  have hf : ∀ i, i < n → f i < n ∧ ix l (f i) = i := fun i hi => by
    have := (h i hi).choose_spec
    simp only [f, dif_pos hi]
    exact this
  have hF : Ord n f := ⟨fun a ha => (hf a ha).1, fun a b ha hb e => by
    have h1 := (hf a ha).2
    have h2 := (hf b hb).2
    rw [e] at h1
    omega⟩
  refine ⟨⟨fun p hp => ?_, fun p q hp hq e => ?_⟩, fun p hp => ?_⟩
  · obtain ⟨i, hi, rfl⟩ := hF.onto p hp
    have := (hf i hi).2
    show (ix l (f i)).toNat < n
    omega
  · obtain ⟨i, hi, rfl⟩ := hF.onto p hp
    obtain ⟨j, hj, rfl⟩ := hF.onto q hq
    have h1 := (hf i hi).2
    have h2 := (hf j hj).2
    change (ix l (f i)).toNat = (ix l (f j)).toNat at e
    have : i = j := by omega
    rw [this]
  · obtain ⟨i, hi, rfl⟩ := hF.onto p hp
    have := (hf i hi).2
    omega
end Go.Rk
namespace Go.Rk
open Go.RowKit Go.Proofs.Ytoahegjjffggaaa

/-- The rests of the powers, hb: what the top power is less of each lower one. -/
def remP (m : Nat) (hb : Nat → Int) : Nat → Nat → Int
  | 0, s => if s = 0 then 1 else 0
  | e + 1, s => (if s = 0 then 0 else remP m hb e (s - 1)) - remP m hb e (m - 1) * hb s
def actP (m : Nat) (hb : Nat → Int) (f : Nat → Int) (L i s : Nat) : Int := sumTo (fun k => f k * remP m hb (i + k) s) L

theorem sumTo_subc (f g : Nat → Int) (c : Int) (n : Nat) : sumTo (fun k => f k - g k * c) n = sumTo f n - sumTo g n * c := by
  induction n with
  | zero => simp [sumTo]
  | succ n ih => simp only [sumTo]; rw [ih]; grind
theorem sumTo_rev (g : Nat → Int) (n : Nat) : sumTo g n = sumTo (fun i => g (n - 1 - i)) n := by
  induction n with
  | zero => rfl
  | succ n ih =>
    rw [sumTo_succ_left (fun i => g (n + 1 - 1 - i)), sumTo, ih, Int.add_comm]
    congr 1
    exact sumTo_congr fun i hi => by rw [show n + 1 - 1 - (i + 1) = n - 1 - i by omega]
theorem sumTo_window (φ : Nat → Int) {k L N : Nat} (h : k + L ≤ N) : sumTo (fun q => if k ≤ q ∧ q < k + L then φ q else 0) N = sumTo (fun l => φ (k + l)) L := by
  obtain ⟨r, rfl⟩ := Nat.le.dest h
  rw [sumTo_split, sumTo_split, sumTo_congr (n := k) (h := fun _ => 0) fun q hq => by rw [if_neg (by omega)], sumTo_zero,
    sumTo_congr (n := r) (h := fun _ => 0) fun q hq => by rw [if_neg (by omega)], sumTo_zero, Int.zero_add, Int.add_zero]
  exact sumTo_congr fun q hq => by rw [if_pos (by omega)]
theorem sumTo_pick' (g : Nat → Int) {n i : Nat} (hi : i < n) : sumTo (fun t => (if t = i then 1 else 0) * g t) n = g i := by
  rw [← sumTo_pick g hi]
  exact sumTo_congr fun t _ => by
    by_cases e : t = i
    · rw [if_pos e, if_pos e.symm]
    · rw [if_neg e, if_neg fun x => e x.symm]

section
variable {m : Nat} {hb h : Nat → Int} {o : Int}
theorem remP_low : ∀ e, e < m → ∀ s, s < m → remP m hb e s = if s = e then 1 else 0 := by
  intro e
  induction e with
  | zero => intro _ s _; rfl
  | succ e ih =>
    intro he s hs
    rw [remP, ih (by omega) (m - 1) (by omega), if_neg (show ¬ m - 1 = e by omega), Int.zero_mul, Int.sub_zero]
    by_cases h0 : s = 0
    · rw [if_pos h0, if_neg (by omega)]
    · rw [if_neg h0, ih (by omega) (s - 1) (by omega)]
      by_cases h1 : s = e + 1
      · rw [if_pos h1, if_pos (by omega)]
      · rw [if_neg h1, if_neg (by omega)]

theorem remP_rel (ho : Eqm (h m * o) 1) (hh : ∀ s, hb s = h s * o) : ∀ i s, s < m → Eqm (sumTo (fun k => h k * remP m hb (i + k) s) (m + 1)) 0 := by
  intro i
  induction i with
  | zero =>
    intro s hs
    obtain ⟨m', rfl⟩ : ∃ m', m = m' + 1 := ⟨m - 1, by omega⟩
    rw [sumTo, sumTo_congr (h := fun k => (if k = s then 1 else 0) * h k) fun k hk => by
      rw [Nat.zero_add, remP_low k hk s hs, Int.mul_comm]
      by_cases e : s = k
      · rw [if_pos e, if_pos e.symm]
      · rw [if_neg e, if_neg fun x => e x.symm], sumTo_pick' h hs, Nat.zero_add, remP, Nat.add_sub_cancel, remP_low m' (by omega) m' (by omega), if_pos rfl, Int.one_mul, hh]
    have e1 : (if s = 0 then 0 else remP (m' + 1) hb m' (s - 1)) = 0 := by
      by_cases e : s = 0
      · rw [if_pos e]
      · rw [if_neg e, remP_low m' (by omega) (s - 1) (by omega), if_neg (by omega)]
    rw [e1]
    have e2 := (Eqm.refl (h s)).mul ho
    have e3 := (Eqm.refl (h s)).sub e2
    rw [Int.mul_one, Int.sub_self] at e3
    exact (Eqm.of_eq (by grind)).trans e3
  | succ i ih =>
    intro s hs
    have e : sumTo (fun k => h k * remP m hb (i + 1 + k) s) (m + 1) = sumTo (fun k => h k * (if s = 0 then 0 else remP m hb (i + k) (s - 1))) (m + 1) - sumTo (fun k => h k * remP m hb (i + k) (m - 1)) (m + 1) * hb s := by
      rw [← sumTo_subc]
      exact sumTo_congr fun k _ => by rw [show i + 1 + k = (i + k) + 1 by omega, remP]; grind
    rw [e]
    have e1 : Eqm (sumTo (fun k => h k * (if s = 0 then 0 else remP m hb (i + k) (s - 1))) (m + 1)) 0 := by
      by_cases e : s = 0
      · rw [sumTo_congr (h := fun _ => 0) fun k _ => by rw [if_pos e, Int.mul_zero], sumTo_zero]; exact Eqm.refl _
      · rw [sumTo_congr (h := fun k => h k * remP m hb (i + k) (s - 1)) fun k _ => by rw [if_neg e]]
        exact ih (s - 1) (by omega)
    have := e1.sub ((ih (m - 1) (by omega)).mul (Eqm.refl (hb s)))
    rwa [Int.zero_mul, Int.sub_zero] at this

theorem remP_add (ho : Eqm (h m * o) 1) (hh : ∀ s, hb s = h s * o) : ∀ e l s, s < m → Eqm (remP m hb (e + l) s) (sumTo (fun t => remP m hb e t * remP m hb (t + l) s) m) := by
  intro e
  induction e with
  | zero =>
    intro l s hs
    have e1 : sumTo (fun t => remP m hb 0 t * remP m hb (t + l) s) m = remP m hb (0 + l) s := sumTo_pick' (fun t => remP m hb (t + l) s) (show 0 < m by omega)
    rw [e1]
    exact Eqm.refl _
  | succ e ih =>
    intro l s hs
    obtain ⟨m', rfl⟩ : ∃ m', m = m' + 1 := ⟨m - 1, by omega⟩
    rw [show e + 1 + l = e + (l + 1) by omega]
    refine (ih (l + 1) s hs).trans ?_
    have e1 : sumTo (fun t => remP (m' + 1) hb (e + 1) t * remP (m' + 1) hb (t + l) s) (m' + 1) = sumTo (fun t => remP (m' + 1) hb e t * remP (m' + 1) hb (t + (l + 1)) s) m' - remP (m' + 1) hb e m' * sumTo (fun t => hb t * remP (m' + 1) hb (t + l) s) (m' + 1) := by
      rw [sumTo_congr (h := fun t => (if t = 0 then 0 else remP (m' + 1) hb e (t - 1)) * remP (m' + 1) hb (t + l) s - (hb t * remP (m' + 1) hb (t + l) s) * remP (m' + 1) hb e m') fun t _ => by rw [remP, Nat.add_sub_cancel]; grind, sumTo_subc, sumTo_succ_left (fun t => (if t = 0 then 0 else remP (m' + 1) hb e (t - 1)) * remP (m' + 1) hb (t + l) s), if_pos rfl, Int.zero_mul, Int.zero_add,
        sumTo_congr (n := m') (h := fun t => remP (m' + 1) hb e t * remP (m' + 1) hb (t + (l + 1)) s) fun t _ => by rw [if_neg (by omega), Nat.add_sub_cancel, show t + 1 + l = t + (l + 1) by omega], Int.mul_comm (sumTo (fun t => hb t * remP (m' + 1) hb (t + l) s) (m' + 1))]
    rw [e1, sumTo]
    have r := remP_rel ho hh l s hs
    rw [sumTo] at r
    have r2 := (Eqm.refl o).mul r
    rw [Int.mul_zero] at r2
    have r3 : Eqm (sumTo (fun t => hb t * remP (m' + 1) hb (t + l) s) (m' + 1) + remP (m' + 1) hb (m' + (l + 1)) s) 0 := by
      refine Eqm.trans ?_ r2
      rw [Int.mul_add, ← sumTo_mul, sumTo_congr (h := fun t => o * (h t * remP (m' + 1) hb (l + t) s)) fun t _ => by rw [hh, Nat.add_comm l t]; grind, show m' + (l + 1) = l + (m' + 1) by omega]
      refine Eqm.add (Eqm.refl _) ?_
      have := ho.symm.mul (Eqm.refl (remP (m' + 1) hb (l + (m' + 1)) s))
      rw [Int.one_mul] at this
      exact this.trans (Eqm.of_eq (by grind))
    have r4 := (Eqm.refl (remP (m' + 1) hb e m')).mul r3
    rw [Int.mul_zero, Int.mul_add] at r4
    have r5 := (Eqm.refl (sumTo (fun t => remP (m' + 1) hb e t * remP (m' + 1) hb (t + (l + 1)) s) m' - remP (m' + 1) hb e m' * sumTo (fun t => hb t * remP (m' + 1) hb (t + l) s) (m' + 1))).add r4
    rw [Int.add_zero] at r5
    exact (Eqm.of_eq (by omega)).trans r5

/-- Products of factors: what the one does after the other. -/
def convF (f g : Nat → Int) (La Lb q : Nat) : Int := sumTo (fun k => if k ≤ q ∧ q < k + Lb then f k * g (q - k) else 0) La
theorem act_mul (ho : Eqm (h m * o) 1) (hh : ∀ s, hb s = h s * o) {p f g : Nat → Int} {Lp La Lb : Nat} (hL : La + Lb ≤ Lp + 1) (hp : ∀ q, q < Lp → Eqm (p q) (convF f g La Lb q)) {i s : Nat} (hs : s < m) :
    Eqm (actP m hb p Lp i s) (sumTo (fun t => actP m hb f La i t * actP m hb g Lb t s) m) := by
  have e1 : Eqm (actP m hb p Lp i s) (sumTo (fun k => f k * sumTo (fun l => g l * remP m hb (i + k + l) s) Lb) La) := by
    unfold actP
    refine (sumTo_eqm fun q hq => Eqm.mul (hp q hq) (Eqm.refl _)).trans (Eqm.of_eq ?_)
    rw [sumTo_congr (h := fun q => sumTo (fun k => if k ≤ q ∧ q < k + Lb then f k * g (q - k) * remP m hb (i + q) s else 0) La) fun q _ => by
      unfold convF
      rw [Int.mul_comm, ← sumTo_mul]
      exact sumTo_congr fun k _ => by split <;> grind, sumTo_swap]
    refine sumTo_congr fun k hk => ?_
    rw [sumTo_window (fun q => f k * g (q - k) * remP m hb (i + q) s) (k := k) (L := Lb) (N := Lp) (by omega), ← sumTo_mul]
    exact sumTo_congr fun l _ => by rw [Nat.add_sub_cancel_left, Nat.add_assoc, Int.mul_assoc]
  refine e1.trans ?_
  have e2 := congrFun (congrFun (mulM_go La m (fun _ k => f k) (fun k t => remP m hb (i + k) t) (fun t _ => actP m hb g Lb t s)) 0) 0
  unfold mulM at e2
  refine Eqm.trans ?_ (Eqm.of_eq e2.symm)
  refine sumTo_eqm fun k _ => Eqm.mul (Eqm.refl _) ?_
  unfold actP
  have e3 : sumTo (fun t => remP m hb (i + k) t * sumTo (fun l => g l * remP m hb (t + l) s) Lb) m = sumTo (fun l => g l * sumTo (fun t => remP m hb (i + k) t * remP m hb (t + l) s) m) Lb := by
    rw [sumTo_congr (h := fun t => sumTo (fun l => g l * (remP m hb (i + k) t * remP m hb (t + l) s)) Lb) fun t _ => by rw [← sumTo_mul]; exact sumTo_congr fun l _ => by grind, sumTo_swap]
    exact sumTo_congr fun l _ => sumTo_mul _ _ _
  rw [e3]
  exact sumTo_eqm fun l _ => Eqm.mul (Eqm.refl _) (remP_add ho hh (i + k) l s hs)
end

theorem det_shift (m : Nat) (F : Mx) : ∀ a, det (a + m) (fun i k => if i < a ∨ k < a then (if i = k then 1 else 0) else F (i - a) (k - a)) = det m F := by
  intro a
  induction a with
  | zero => rw [Nat.zero_add]; exact det_congr fun i k _ _ => by rw [if_neg (by omega)]; rfl
  | succ a ih =>
    rw [show a + 1 + m = (a + m) + 1 by omega, det, sumTo_congr (h := fun j => (if j = 0 then 1 else 0) * (sg j * det (a + m) (minor (fun i k => if i < a + 1 ∨ k < a + 1 then (if i = k then 1 else 0) else F (i - (a + 1)) (k - (a + 1))) 0 j))) fun j _ => by
      rw [if_pos (.inl (by omega))]
      by_cases e : j = 0
      · rw [if_pos e, if_pos e.symm]; grind
      · rw [if_neg e, if_neg fun x => e x.symm]; grind, sumTo_pick' _ (by omega)]
    have : sg 0 = 1 := rfl
    rw [this, Int.one_mul, ← ih]
    refine det_congr fun i k _ _ => ?_
    unfold minor skip
    rw [if_neg (Nat.not_lt_zero i), if_neg (Nat.not_lt_zero k)]
    show (if i + 1 < a + 1 ∨ k + 1 < a + 1 then (if i + 1 = k + 1 then (1 : Int) else 0) else F (i + 1 - (a + 1)) (k + 1 - (a + 1))) = _
    by_cases e : i < a ∨ k < a
    · rw [if_pos e, if_pos (by omega)]
      by_cases e2 : i = k
      · rw [if_pos e2, if_pos (by omega)]
      · rw [if_neg e2, if_neg (by omega)]
    · rw [if_neg e, if_neg (by omega), Nat.add_sub_add_right, Nat.add_sub_add_right]
theorem prodTo_first (c : Int) (m : Nat) : ∀ a, prodTo (fun i => if i < a then c else 1) (a + m) = c ^ a := by
  intro a
  have h1 : ∀ k, prodTo (fun i => if i < a then c else 1) (a + k) = prodTo (fun i => if i < a then c else 1) a := by
    intro k
    induction k with
    | zero => rfl
    | succ k ih => rw [← Nat.add_assoc, prodTo, ih, if_neg (by omega), Int.mul_one]
  rw [h1]
  have h2 : ∀ k, k ≤ a → prodTo (fun i => if i < a then c else 1) k = c ^ k := by
    intro k
    induction k with
    | zero => intro _; rw [Int.pow_zero]; rfl
    | succ k ih => intro hk; rw [prodTo, ih (by omega), if_pos (by omega), Int.pow_succ]
  exact h2 a (Nat.le_refl _)

/-- What f does to the rests by h, the highest first. -/
def actM (m : Nat) (hb : Nat → Int) (f : List Int) : Mx := fun i k => actP m hb (ix f) f.length (m - 1 - i) (m - 1 - k)

theorem syl_act {h f : List Int} {m a : Nat} {o : Int} (hh : h.length = m + 1) (hf : f.length = a + 1) (ho : Eqm (ix h m * o) 1) :
    Eqm (det (a + m) (sylM h f)) (ix h m ^ a * det m (actM m (fun s => ix h s * o) f)) := by
  obtain ⟨hb, hhb⟩ : ∃ hb : Nat → Int, hb = fun s => ix h s * o := ⟨_, rfl⟩
  rw [← hhb]
  have hbs : ∀ s, hb s = ix h s * o := fun s => by rw [hhb]
  let V : Mx := fun j k => if k < a then (if j = k then 1 else 0) else remP m hb (a + m - 1 - j) (m - 1 - (k - a))
  have hV : det (a + m) V = 1 := by
    rw [det_upper V fun j k hj hk hjk => ?_]
    · refine prodTo_one fun i hi => ?_
      show (if i < a then (if i = i then (1 : Int) else 0) else _) = 1
      by_cases e : i < a
      · rw [if_pos e, if_pos rfl]
      · rw [if_neg e, remP_low _ (by omega) _ (by omega), if_pos (by omega)]
    · show (if k < a then (if j = k then (1 : Int) else 0) else _) = 0
      by_cases e : k < a
      · rw [if_pos e, if_neg (by omega)]
      · rw [if_neg e, remP_low _ (by omega) _ (by omega), if_neg (by omega)]
  -- a row of factors, times V
  have row : ∀ (l : List Int) (t k : Nat), 0 < l.length → t + l.length ≤ a + m → a ≤ k → sumTo (fun j => sylR l t j * V j k) (a + m) = actP m hb (ix l) l.length (a + m - t - l.length) (m - 1 - (k - a)) := by
    intro l t k hl ht hk
    rw [sumTo_congr (h := fun j => if t ≤ j ∧ j < t + l.length then ix l (l.length - 1 - (j - t)) * V j k else 0) fun j _ => by unfold sylR; split <;> grind, sumTo_window (fun j => ix l (l.length - 1 - (j - t)) * V j k) ht, sumTo_rev]
    unfold actP
    refine sumTo_congr fun v hv => ?_
    rw [Nat.add_sub_cancel_left, show l.length - 1 - (l.length - 1 - v) = v by omega]
    show _ * (if k < a then _ else _) = _
    rw [if_neg (by omega), show a + m - 1 - (t + (l.length - 1 - v)) = a + m - t - l.length + v by omega]
  have rowL : ∀ (l : List Int) (t k : Nat), k < a → sumTo (fun j => sylR l t j * V j k) (a + m) = sylR l t k := by
    intro l t k hk
    rw [sumTo_congr (h := fun j => (if j = k then 1 else 0) * sylR l t j) fun j _ => by show _ * (if k < a then _ else _) = _; rw [if_pos hk, Int.mul_comm], sumTo_pick' _ (by omega)]
  let D1 : Mx := fun i k => if i < a ∧ k < a then sylR h i k else (if i = k then 1 else 0)
  let D2 : Mx := fun i k => if a ≤ i ∧ k < a then sylR f (i - a) k else (if i = k then 1 else 0)
  let D3 : Mx := fun i k => if i < a ∨ k < a then (if i = k then 1 else 0) else actM m hb f (i - a) (k - a)
  let E : Mx := fun i k => if i < a then (if i = k then 1 else 0) else if k < a then sylR f (i - a) k else actM m hb f (i - a) (k - a)
  have hE : EqM (a + m) (a + m) (mulM (a + m) D2 D3) E := by
    intro i k hi hk
    refine Eqm.of_eq ?_
    show sumTo (fun t => D2 i t * D3 t k) (a + m) = E i k
    by_cases e : i < a
    · rw [sumTo_congr (h := fun t => (if t = i then 1 else 0) * D3 t k) fun t _ => by
        show (if a ≤ i ∧ t < a then _ else (if i = t then (1 : Int) else 0)) * _ = _
        rw [if_neg (by omega)]
        by_cases e2 : i = t
        · rw [if_pos e2, if_pos e2.symm]
        · rw [if_neg e2, if_neg fun x => e2 x.symm], sumTo_pick' (fun t => D3 t k) hi]
      show (if i < a ∨ k < a then _ else _) = (if i < a then _ else _)
      rw [if_pos (.inl e), if_pos e]
    · rw [sumTo_congr (h := fun t => (if t = i then 1 else 0) * D3 t k + (if t < a then sylR f (i - a) t * (if t = k then 1 else 0) else 0)) fun t _ => by
        have h3 : t < a → D3 t k = (if t = k then 1 else 0) := fun h => if_pos (.inl h)
        show (if a ≤ i ∧ t < a then sylR f (i - a) t else (if i = t then (1 : Int) else 0)) * D3 t k = _
        by_cases e2 : t < a
        · rw [if_pos (show a ≤ i ∧ t < a by omega), if_neg (show ¬ t = i by omega), if_pos e2, Int.zero_mul, Int.zero_add, h3 e2]
        · rw [if_neg (show ¬ (a ≤ i ∧ t < a) by omega), if_neg e2, Int.add_zero]
          by_cases e3 : i = t
          · rw [if_pos e3, if_pos e3.symm]
          · rw [if_neg e3, if_neg fun x => e3 x.symm], sumTo_add, sumTo_pick' (fun t => D3 t k) hi]
      show (if i < a ∨ k < a then _ else _) + _ = (if i < a then _ else if k < a then _ else _)
      rw [if_neg e]
      by_cases e2 : k < a
      · rw [if_pos (.inr e2), if_neg (by omega), if_pos e2, Int.zero_add, sumTo_congr (h := fun t => (if t = k then 1 else 0) * sylR f (i - a) t) fun t _ => by
          by_cases e3 : t = k
          · rw [if_pos e3, if_pos (by omega)]; grind
          · rw [if_neg e3]; split <;> grind, sumTo_pick' _ hk]
      · rw [if_neg (by omega), if_neg e2, sumTo_congr (h := fun _ => 0) fun t _ => by
          by_cases e3 : t < a
          · rw [if_pos e3, if_neg (by omega), Int.mul_zero]
          · rw [if_neg e3], sumTo_zero, Int.add_zero]
  have hW : EqM (a + m) (a + m) (mulM (a + m) (sylM h f) V) (mulM (a + m) D1 E) := by
    intro i k hi hk
    have hDE : mulM (a + m) D1 E i k = if i < a then (if k < a then sylR h i k else 0) else E i k := by
      show sumTo (fun t => D1 i t * E t k) (a + m) = _
      by_cases e : i < a
      · rw [if_pos e, sumTo_congr (h := fun t => (if t = k then 1 else 0) * (if t < a then sylR h i t else 0)) fun t _ => by
          show (if i < a ∧ t < a then _ else (if i = t then (1 : Int) else 0)) * (if t < a then _ else _) = _
          by_cases e2 : t < a
          · rw [if_pos ⟨e, e2⟩, if_pos e2, if_pos e2]; grind
          · rw [if_neg (by omega), if_neg (by omega), if_neg e2]; grind, sumTo_pick' _ hk]
      · rw [if_neg e, sumTo_congr (h := fun t => (if t = i then 1 else 0) * E t k) fun t _ => by
          show (if i < a ∧ t < a then _ else (if i = t then (1 : Int) else 0)) * _ = _
          rw [if_neg (by omega)]
          by_cases e2 : i = t
          · rw [if_pos e2, if_pos e2.symm]
          · rw [if_neg e2, if_neg fun x => e2 x.symm], sumTo_pick' (fun t => E t k) hi]
    rw [hDE]
    show Eqm (sumTo (fun j => sylM h f i j * V j k) (a + m)) _
    by_cases e : i < a
    · rw [if_pos e, sumTo_congr (h := fun j => sylR h i j * V j k) fun j _ => by unfold sylM; rw [if_pos (by omega)]]
      by_cases e2 : k < a
      · rw [if_pos e2, rowL h i k e2]; exact Eqm.refl _
      · rw [if_neg e2, row h i k (by omega) (by omega) (by omega), hh]
        exact remP_rel ho hbs _ _ (by omega)
    · rw [if_neg e, sumTo_congr (h := fun j => sylR f (i - a) j * V j k) fun j _ => by unfold sylM; rw [if_neg (by omega), hf]; rfl]
      show Eqm _ (if i < a then _ else if k < a then _ else _)
      rw [if_neg e]
      by_cases e2 : k < a
      · rw [if_pos e2, rowL f _ k e2]; exact Eqm.refl _
      · rw [if_neg e2, row f _ k (by omega) (by omega) (by omega)]
        unfold actM
        rw [show a + m - (i - a) - f.length = m - 1 - (i - a) by omega]
        exact Eqm.refl _
  have d1 : det (a + m) D1 = ix h m ^ a := by
    rw [det_upper D1 fun i k hi hk hik => ?_, prodTo_congr (h := fun i => if i < a then ix h m else 1) fun i _ => ?_]
    · exact prodTo_first _ _ _
    · show (if i < a ∧ i < a then _ else (if i = i then (1 : Int) else 0)) = _
      by_cases e : i < a
      · rw [if_pos ⟨e, e⟩, if_pos e]
        unfold sylR
        rw [if_pos (by omega), hh, Nat.sub_self]; rfl
      · rw [if_neg (by omega), if_pos rfl, if_neg e]
    · show (if i < a ∧ k < a then _ else (if i = k then (1 : Int) else 0)) = 0
      by_cases e : i < a ∧ k < a
      · rw [if_pos e]; unfold sylR; rw [if_neg (by omega)]
      · rw [if_neg e, if_neg (by omega)]
  have d2 : det (a + m) D2 = 1 := by
    rw [det_lower D2 fun i k hi hk hik => ?_]
    · refine prodTo_one fun i hi => ?_
      show (if a ≤ i ∧ i < a then _ else (if i = i then (1 : Int) else 0)) = 1
      rw [if_neg (by omega), if_pos rfl]
    · show (if a ≤ i ∧ k < a then _ else (if i = k then (1 : Int) else 0)) = 0
      rw [if_neg (by omega), if_neg (by omega)]
  have d3 : det (a + m) D3 = det m (actM m hb f) := det_shift m (actM m hb f) a
  have q : Eqm (det (a + m) (mulM (a + m) (sylM h f) V)) (det (a + m) (mulM (a + m) D1 E)) := det_eqm hW
  rw [det_mul, hV, Int.mul_one, det_mul, d1] at q
  have q2 : Eqm (det (a + m) (mulM (a + m) D2 D3)) (det (a + m) E) := det_eqm hE
  rw [det_mul, d2, d3, Int.one_mul] at q2
  exact q.trans (Eqm.mul (Eqm.refl _) q2.symm)

/-- With a product it is the product. -/
theorem syl_mul {h f g p : List Int} {m a b : Nat} {o : Int} (hh : h.length = m + 1) (hf : f.length = a + 1) (hg : g.length = b + 1) (hp : p.length = a + b + 1) (ho : Eqm (ix h m * o) 1)
    (hc : ∀ q, q < a + b + 1 → Eqm (ix p q) (convF (ix f) (ix g) (a + 1) (b + 1) q)) : Eqm (det (a + b + m) (sylM h p)) (det (a + m) (sylM h f) * det (b + m) (sylM h g)) := by
  have e1 := syl_act hh hp ho
  have e2 := syl_act hh hf ho
  have e3 := syl_act hh hg ho
  refine e1.trans (Eqm.trans ?_ (e2.mul e3).symm)
  have e4 : Eqm (det m (actM m (fun s => ix h s * o) p)) (det m (mulM m (actM m (fun s => ix h s * o) f) (actM m (fun s => ix h s * o) g))) := det_eqm fun i k hi hk => by
    have := act_mul (hb := fun s => ix h s * o) (h := ix h) ho (fun _ => rfl) (p := ix p) (f := ix f) (g := ix g) (Lp := a + b + 1) (La := a + 1) (Lb := b + 1) (by omega) hc (i := m - 1 - i) (s := m - 1 - k) (by omega)
    show Eqm (actP m _ (ix p) p.length _ _) (sumTo (fun t => actP m _ (ix f) f.length (m - 1 - i) (m - 1 - t) * actP m _ (ix g) g.length (m - 1 - t) (m - 1 - k)) m)
    rw [hp, hf, hg]
    rw [sumTo_rev] at this
    exact this
  rw [det_mul] at e4
  have := (Eqm.refl (ix h m ^ (a + b))).mul e4
  refine this.trans (Eqm.of_eq ?_)
  rw [Int.pow_add]
  grind
end Go.Rk
