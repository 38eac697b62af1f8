/-
  Whole factors without what divides all, and what is left of one by another one. No program in sight.
  What is left of whole factors by others, and the chain of one and its slope. No program in sight.
  The chain of one of up to four whole factors, outright. No program in sight.
  How often signs turn in a chain, at a number and far off: told by signs alone. No program in sight.
-/
import Derived.Test.YtoahegjjffggaaaDoorMg0
import Derived.Test.YtoahegjjffggaaaDoorMg1
import Derived.Test.YtoahegjjffggaaaDoorMg7
import Derived.Test.YtoahegjjffggaaaDoorMg9
namespace Go.Rk
open Go.RowKit Go.Proofs.YtoahegjjffggaaaDoor

/-- What divides all. -/
def contL (f : List Int) : Nat := f.foldl (fun g x => Int.gcd (g : Int) x) 0
theorem contL_take {f : List Int} {k : Nat} (h : k < f.length) : contL (f.take (k + 1)) = Int.gcd (contL (f.take k) : Int) (ix f k) := by
  rw [take_succ_ix h]; simp [contL, List.foldl_append]
theorem contL_dvd_take (f : List Int) : ∀ n, n ≤ f.length → ∀ k, k < n → (contL (f.take n) : Int) ∣ ix f k
  | 0, _, k, h => absurd h (Nat.not_lt_zero k)
  | n + 1, hn, k, h => by
    rw [contL_take (by omega)]
    rcases Nat.lt_or_ge k n with h1 | h1
    · exact Int.dvd_trans (Int.gcd_dvd_left _ _) (contL_dvd_take f n (by omega) k h1)
    · obtain rfl : k = n := by omega
      exact Int.gcd_dvd_right _ _
theorem contL_dvd (f : List Int) (k : Nat) : (contL f : Int) ∣ ix f k := by
  rcases Nat.lt_or_ge k f.length with h | h
  · have e := contL_dvd_take f f.length (Nat.le_refl _) k h
    rwa [List.take_length] at e
  · rw [ix_ge h]; exact Int.dvd_zero _
theorem contL_of_take {f : List Int} {m : Int} (h : ∀ k, m ∣ ix f k) : ∀ n, n ≤ f.length → m ∣ (contL (f.take n) : Int)
  | 0, _ => Int.dvd_zero _
  | n + 1, hn => by
    rw [contL_take (by omega)]
    exact Int.dvd_coe_gcd (contL_of_take h n (by omega)) (h n)
theorem contL_of {f : List Int} {m : Int} (h : ∀ k, m ∣ ix f k) : m ∣ (contL f : Int) := by
  have e := contL_of_take h f.length (Nat.le_refl _)
  rwa [List.take_length] at e
theorem contL_pos {f : List Int} {k : Nat} (h : ix f k ≠ 0) : 0 < contL f := by
  rcases Nat.eq_zero_or_pos (contL f) with e | e
  · have d := contL_dvd f k
    rw [e] at d
    exact absurd (Int.zero_dvd.1 d) h
  · exact e
theorem contL_le {f : List Int} {A : Nat} (h : In (-(A : Int)) A f) : contL f ≤ A := by
  by_cases hz : ∃ k, ix f k ≠ 0
  · obtain ⟨k, hk⟩ := hz
    rcases Nat.lt_or_ge k f.length with h1 | h1
    · have h2 := h k h1
      have d := Int.natAbs_dvd_natAbs.2 (contL_dvd f k)
      have := Nat.le_of_dvd (by omega) d
      omega
    · exact absurd (ix_ge h1) hk
  · have e : (0 : Int) ∣ (contL f : Int) := contL_of fun k => by
      have : ix f k = 0 := Classical.byContradiction fun q => hz ⟨k, q⟩
      rw [this]; exact Int.dvd_refl _
    have := Int.zero_dvd.1 e
    omega

/-- Without noughts at the end, and without what divides all. -/
def plainL (f : List Int) : List Int := (trimL f).map fun x => x / (contL (trimL f) : Int)
theorem plainL_len (f : List Int) : (plainL f).length = trimN f f.length := by rw [plainL, List.length_map, trimL_len]
theorem plainL_len_le (f : List Int) : (plainL f).length ≤ f.length := by rw [plainL_len]; exact trimN_le _ _
theorem ix_map {f : List Int} {g : Int → Int} (h : g 0 = 0) (k : Nat) : ix (f.map g) k = g (ix f k) := by
  rcases Nat.lt_or_ge k f.length with e | e
  · rw [ix_lt (by simpa using e), ix_lt e, List.getElem_map]
  · rw [ix_ge (by simpa using e), ix_ge e, h]
theorem plainL_ix (f : List Int) (k : Nat) : ix (plainL f) k = ix f k / (contL (trimL f) : Int) := by
  rw [plainL, ix_map (g := fun x => x / (contL (trimL f) : Int)) (Int.zero_ediv _), trimL_ix]
/-- What is plain. -/
structure Pl (l : List Int) : Prop where
  top : 0 < l.length → ix l (l.length - 1) ≠ 0
  one : 0 < l.length → ∀ m : Int, (∀ k, m ∣ ix l k) → m ∣ 1
/-- The same but for numbers above 0. -/
def Ray (f g : List Int) : Prop := ∃ a b : Int, 0 < a ∧ 0 < b ∧ ∀ k, a * ix f k = b * ix g k
theorem Ray.refl (f : List Int) : Ray f f := ⟨1, 1, by decide, by decide, fun _ => rfl⟩
theorem Ray.symm {f g : List Int} (h : Ray f g) : Ray g f := let ⟨a, b, ha, hb, h⟩ := h; ⟨b, a, hb, ha, fun k => (h k).symm⟩
theorem Ray.trans {f g h : List Int} (h1 : Ray f g) (h2 : Ray g h) : Ray f h := by
  obtain ⟨a, b, ha, hb, e⟩ := h1
  obtain ⟨c, d, hc, hd, e'⟩ := h2
  refine ⟨c * a, b * d, Int.mul_pos hc ha, Int.mul_pos hb hd, fun k => ?_⟩
  have := e k; have := e' k
  rw [Int.mul_assoc, e k, Int.mul_left_comm, e' k, ← Int.mul_assoc]
theorem Ray.of {f g : List Int} {a : Int} (ha : 0 < a) (h : ∀ k, ix f k = a * ix g k) : Ray f g := ⟨1, a, by decide, ha, fun k => by rw [Int.one_mul, h k]⟩
theorem Ray.zero {f g : List Int} (h : Ray f g) {k : Nat} (e : ix f k = 0) : ix g k = 0 := by
  obtain ⟨a, b, ha, hb, h⟩ := h
  have := h k
  rw [e, Int.mul_zero] at this
  rcases Int.mul_eq_zero.1 this.symm with h | h
  · omega
  · exact h
theorem Ray.trimN {f g : List Int} (h : Ray f g) (n : Nat) : trimN f n = trimN g n := by
  induction n with
  | zero => rfl
  | succ n ih =>
    rw [Go.Rk.trimN, Go.Rk.trimN, ih]
    by_cases e : ix f n = 0
    · rw [if_pos e, if_pos (h.zero e)]
    · rw [if_neg e, if_neg fun q => e (h.symm.zero q)]
theorem trimN_long {f : List Int} {n : Nat} (h : f.length ≤ n) : trimN f n = trimN f f.length := by
  induction n with
  | zero => rw [Nat.le_zero.1 h]
  | succ n ih =>
    rcases Nat.lt_or_ge n f.length with h1 | h1
    · rw [show f.length = n + 1 by omega]
    · rw [trimN, if_pos (ix_ge h1), ih h1]
/-- How long it is without noughts at its end. -/
theorem Ray.len {f g : List Int} (h : Ray f g) : (plainL f).length = (plainL g).length := by
  rw [plainL_len, plainL_len, ← trimN_long (n := max f.length g.length) (by omega), ← trimN_long (f := g) (n := max f.length g.length) (by omega), h.trimN]
theorem plainL_ray (f : List Int) : Ray f (plainL f) := by
  rcases Nat.eq_zero_or_pos (trimL f).length with h | h
  · refine Ray.of (a := 1) (by decide) fun k => ?_
    rw [← trimL_ix, ix_ge (by omega), plainL, ix_ge (by rw [List.length_map]; omega)]; rfl
  · have ht := trimL_top h
    refine Ray.of (a := (contL (trimL f) : Int)) (by have := contL_pos ht; omega) fun k => ?_
    rw [plainL_ix, Int.mul_ediv_cancel' (by rw [← trimL_ix]; exact contL_dvd _ _)]
theorem plainL_pl (f : List Int) : Pl (plainL f) := by
  have hl : (plainL f).length = (trimL f).length := by rw [plainL, List.length_map]
  refine ⟨fun h => ?_, fun h m hm => ?_⟩
  · have ht := trimL_top (l := f) (by omega)
    intro e
    rw [hl] at e
    exact ht (by rw [trimL_ix]; exact (plainL_ray f).symm.zero e)
  · have ht := trimL_top (l := f) (by omega)
    have hp := contL_pos ht
    have e : m * (contL (trimL f) : Int) ∣ (contL (trimL f) : Int) := contL_of fun k => by
      have h1 := hm k
      rw [plainL_ix, ← trimL_ix] at h1
      have h2 := Int.mul_dvd_mul_right (contL (trimL f) : Int) h1
      rwa [Int.ediv_mul_cancel (contL_dvd _ _)] at h2
    obtain ⟨q, hq⟩ := e
    refine ⟨q, ?_⟩
    have hne : (contL (trimL f) : Int) ≠ 0 := by omega
    generalize (contL (trimL f) : Int) = C at hq hne
    refine Int.eq_of_mul_eq_mul_left hne ?_
    rw [Int.mul_one, ← Int.mul_assoc, Int.mul_comm C m]
    exact hq
theorem Pl.trimN {l : List Int} (h : Pl l) : trimN l l.length = l.length := trimN_is (Nat.le_refl _) (fun j h1 h2 => by omega) h.top
theorem Pl.trimL {l : List Int} (h : Pl l) : trimL l = l := by rw [Go.Rk.trimL, h.trimN, List.take_length]
theorem dvd_one_pos {a : Int} (h : 0 < a) (d : a ∣ 1) : a = 1 := Int.eq_one_of_dvd_one (by omega) d
theorem Pl.cont {l : List Int} (h : Pl l) (h0 : 0 < l.length) : contL l = 1 := by
  have e := h.one h0 (contL l : Int) (contL_dvd l)
  have := contL_pos (h.top h0)
  have := dvd_one_pos (a := (contL l : Int)) (by omega) e
  omega
theorem Pl.plain {l : List Int} (h : Pl l) : plainL l = l := by
  rcases Nat.eq_zero_or_pos l.length with h0 | h0
  · rw [List.eq_nil_of_length_eq_zero h0]; rfl
  · rw [plainL, h.trimL, h.cont h0]
    simp
/-- What is plain is told by its ray. -/
theorem Pl.same {l m : List Int} (h : Pl l) (g : Pl m) (r : Ray l m) : l = m := by
  have hlen : l.length = m.length := by
    have e := r.len
    rwa [h.plain, g.plain] at e
  rcases Nat.eq_zero_or_pos l.length with h0 | h0
  · rw [List.eq_nil_of_length_eq_zero h0, List.eq_nil_of_length_eq_zero (by omega : m.length = 0)]
  obtain ⟨a, b, ha, hb, e⟩ := r
  -- both numbers divide each other
  have d1 : a ∣ b := by
    have hg : ∀ k, a ∣ b * ix m k := fun k => ⟨ix l k, (e k).symm⟩
    have h2 : a ∣ (Int.gcd a b : Int) := by
      have : ∀ k, a ∣ (Int.gcd a b : Int) * ix m k := fun k => by
        have h3 : a ∣ (Int.gcd (a * ix m k) (b * ix m k) : Int) := Int.dvd_coe_gcd (Int.dvd_mul_right _ _) (hg k)
        rw [Int.gcd_mul_right] at h3
        rw [Int.natCast_mul] at h3
        rcases Int.natAbs_eq (ix m k) with h4 | h4
        · rw [h4]; exact h3
        · rw [h4, Int.mul_neg]; exact Int.dvd_neg.2 h3
      have h5 : ∀ k, (a / (Int.gcd a b : Int)) ∣ ix m k := fun k => by
        obtain ⟨q, hq⟩ := this k
        have hd := Int.gcd_dvd_left (a := a) (b := b)
        have hgp : (Int.gcd a b : Int) ≠ 0 := fun q => by
          rw [q] at hd
          have := Int.zero_dvd.1 hd
          omega
        refine ⟨q, Int.eq_of_mul_eq_mul_left hgp ?_⟩
        rw [hq, ← Int.mul_assoc, Int.mul_ediv_cancel' hd]
      have h6 := g.one (by omega) _ h5
      have hd := Int.gcd_dvd_left (a := a) (b := b)
      obtain ⟨q, hq⟩ := h6
      refine ⟨q, ?_⟩
      have h7 : (Int.gcd a b : Int) * 1 = (Int.gcd a b : Int) * (a / (Int.gcd a b : Int) * q) := by rw [← hq]
      rw [Int.mul_one, ← Int.mul_assoc, Int.mul_ediv_cancel' hd] at h7
      exact h7
    exact Int.dvd_trans h2 (Int.gcd_dvd_right _ _)
  obtain ⟨q, hq⟩ := d1
  have e2 : ∀ k, ix l k = q * ix m k := fun k => by
    refine Int.eq_of_mul_eq_mul_left (show a ≠ 0 by omega) ?_
    rw [e k, hq, Int.mul_assoc]
  have hq0 : 0 < q := by
    rcases Int.lt_or_le 0 q with h1 | h1
    · exact h1
    · have : a * q ≤ 0 := Int.mul_nonpos_of_nonneg_of_nonpos (by omega) h1
      omega
  have h8 : q ∣ 1 := h.one h0 q fun k => by rw [e2 k]; exact Int.dvd_mul_right _ _
  have h9 := dvd_one_pos hq0 h8
  refine ix_ext hlen fun k _ => ?_
  rw [e2 k, h9, Int.one_mul]
theorem Ray.plain {f g : List Int} (h : Ray f g) : plainL f = plainL g := (plainL_pl f).same (plainL_pl g) ((plainL_ray f).symm.trans (h.trans (plainL_ray g)))
theorem plainL_plainL (f : List Int) : plainL (plainL f) = plainL f := (plainL_pl f).plain
theorem plainL_in {f : List Int} {A : Nat} (h : In (-(A : Int)) A f) : In (-(A : Int)) A (plainL f) := fun k hk => by
  have h1 : k < f.length := Nat.lt_of_lt_of_le hk (plainL_len_le f)
  have h2 := h k h1
  rw [plainL_ix]
  rcases Nat.eq_zero_or_pos (contL (trimL f)) with e | e
  · rw [e]; simp only [Int.natCast_zero, Int.ediv_zero]; omega
  · have d : (contL (trimL f) : Int) ∣ ix f k := by rw [← trimL_ix]; exact contL_dvd _ _
    obtain ⟨q, hq⟩ := d
    rw [hq, Int.mul_ediv_cancel_left _ (by omega)]
    rw [hq] at h2
    have e1 : (1 : Int) ≤ (contL (trimL f) : Int) := by omega
    rcases Int.lt_or_le q 0 with hs | hs
    · have := Int.mul_le_mul_of_nonpos_right e1 (show q ≤ 0 by omega); omega
    · have := Int.mul_le_mul_of_nonneg_right e1 hs; omega
/-- Alone it is 1, or -1. -/
theorem Pl.unit {l : List Int} (h : Pl l) (h1 : l.length = 1) : ix l 0 = 1 ∨ ix l 0 = -1 := by
  have d := h.one (by omega) (ix l 0) fun k => by
    rcases Nat.eq_zero_or_pos k with e | e
    · rw [e]; exact Int.dvd_refl _
    · have h2 : ix l k = 0 := ix_ge (by omega)
      rw [h2]; exact Int.dvd_zero _
  have := Int.natAbs_dvd_natAbs.2 d
  have := Nat.dvd_one.1 this
  omega
end Go.Rk
namespace Go.Rk
open Go.RowKit Go.Proofs.YtoahegjjffggaaaDoor

def sgT (t : Int) : Int := if t < 0 then -1 else 1
theorem sgT_abs (t : Int) : sgT t * t = (t.natAbs : Int) := by unfold sgT; split <;> omega
theorem sgT_sq (t : Int) : sgT t * sgT t = 1 := by unfold sgT; split <;> rfl
theorem sgT_pos {a t : Int} (ha : 0 < a) : sgT (a * t) = sgT t := by
  unfold sgT
  rcases Int.lt_or_le t 0 with h | h
  · rw [if_pos h, if_pos (Int.mul_neg_of_pos_of_neg ha h)]
  · rw [if_neg (show ¬ t < 0 by omega), if_neg (by have := Int.mul_nonneg (show 0 ≤ a by omega) h; omega)]
/-- What leads. -/
def topL (f : List Int) : Int := ix f (f.length - 1)
/-- One taken from the other so that what leads is struck. -/
def stepE (f g : List Int) (k : Nat) : Int := ((topL g).natAbs : Int) * ix f k - (if f.length - g.length ≤ k then sgT (topL g) * topL f * ix g (k - (f.length - g.length)) else 0)
def stepL (f g : List Int) : List Int := rowF (stepE f g) f.length
def restF (g : List Int) : Nat → List Int → List Int
  | 0, f => plainL f
  | k + 1, f => if g.length ≤ (plainL f).length then restF g k (stepL (plainL f) g) else plainL f
/-- What is left of f by g, times a number above 0. -/
def restL (f g : List Int) : List Int := restF g f.length f

theorem ix_rowF (h : Nat → Int) (c k : Nat) : ix (rowF h c) k = if k < c then h k else 0 := by
  split
  · rename_i e; exact rowF_ix e
  · rename_i e; exact ix_ge (by rw [rowF_len]; omega)
theorem step_top {f g : List Int} (h0 : 0 < g.length) (h : g.length ≤ f.length) : stepE f g (f.length - 1) = 0 := by
  unfold stepE
  rw [if_pos (by omega), show f.length - 1 - (f.length - g.length) = g.length - 1 by omega, ← sgT_abs]
  show sgT (topL g) * topL g * topL f - sgT (topL g) * topL f * topL g = 0
  grind
theorem stepE_f {f f' g : List Int} {a b : Int} (hl : f.length = f'.length) (h : ∀ k, a * ix f k = b * ix f' k) (k : Nat) : a * stepE f g k = b * stepE f' g k := by
  unfold stepE topL
  rw [← hl]
  have h1 := h k
  have h2 := h (f.length - 1)
  split
  · grind
  · grind
theorem stepE_g {f g g' : List Int} {a b : Int} (ha : 0 < a) (hb : 0 < b) (hl : g.length = g'.length) (h : ∀ k, a * ix g k = b * ix g' k) (k : Nat) : a * stepE f g k = b * stepE f g' k := by
  have h1 : a * topL g = b * topL g' := by unfold topL; rw [← hl]; exact h _
  have hs : sgT (topL g) = sgT (topL g') := by rw [← sgT_pos ha, h1, sgT_pos hb]
  unfold stepE
  rw [← sgT_abs, ← sgT_abs, hs, ← hl]
  have h2 := h (k - (f.length - g.length))
  split
  · grind
  · grind
theorem step_ray_f {f f' g : List Int} (hl : f.length = f'.length) (h : Ray f f') : Ray (stepL f g) (stepL f' g) := by
  obtain ⟨a, b, ha, hb, h⟩ := h
  refine ⟨a, b, ha, hb, fun k => ?_⟩
  unfold stepL
  rw [ix_rowF, ix_rowF, ← hl]
  split
  · exact stepE_f hl h k
  · rw [Int.mul_zero, Int.mul_zero]
theorem step_ray_g {f g g' : List Int} (hl : g.length = g'.length) (h : Ray g g') : Ray (stepL f g) (stepL f g') := by
  obtain ⟨a, b, ha, hb, h⟩ := h
  refine ⟨a, b, ha, hb, fun k => ?_⟩
  unfold stepL
  rw [ix_rowF, ix_rowF]
  split
  · exact stepE_g ha hb hl h k
  · rw [Int.mul_zero, Int.mul_zero]
theorem restF_ray {f f' g : List Int} (h : Ray f f') (k : Nat) : restF g k f = restF g k f' := by
  cases k with
  | zero => exact h.plain
  | succ k => rw [restF, restF, h.plain]
theorem restF_g {g g' : List Int} (hl : g.length = g'.length) (h : Ray g g') : ∀ (k : Nat) (f : List Int), restF g k f = restF g' k f
  | 0, _ => rfl
  | k + 1, f => by
    rw [restF, restF, hl]
    split
    · rw [restF_g hl h k, restF_ray (step_ray_g hl h)]
    · rfl
/-- A step makes it shorter. -/
theorem step_len {f g : List Int} (h0 : 0 < g.length) (h : g.length ≤ f.length) : (plainL (stepL f g)).length < f.length := by
  have e : Ray (stepL f g) (rowF (stepE f g) (f.length - 1)) := by
    refine ⟨1, 1, by decide, by decide, fun k => ?_⟩
    unfold stepL
    rw [ix_rowF, ix_rowF, Int.one_mul, Int.one_mul]
    by_cases e1 : k < f.length - 1
    · rw [if_pos e1, if_pos (by omega)]
    · rw [if_neg e1]
      split
      · obtain rfl : k = f.length - 1 := by omega
        exact step_top h0 h
      · rfl
  rw [e.len]
  have := plainL_len_le (rowF (stepE f g) (f.length - 1))
  rw [rowF_len] at this
  omega
theorem restF_more {g : List Int} (h0 : 0 < g.length) : ∀ (k : Nat) (f : List Int), (plainL f).length < g.length + k → restF g (k + 1) f = restF g k f
  | 0, f, h => by
    show (if g.length ≤ (plainL f).length then restF g 0 (stepL (plainL f) g) else plainL f) = plainL f
    rw [if_neg (by omega)]
  | k + 1, f, h => by
    rw [restF]
    conv => rhs; rw [restF]
    split
    · rename_i e
      exact restF_more h0 k _ (by have := step_len h0 e; omega)
    · rfl
theorem restF_len {g : List Int} (h0 : 0 < g.length) : ∀ (k : Nat) (f : List Int), (plainL f).length < g.length + k → (restF g k f).length < g.length
  | 0, f, h => by rw [restF]; omega
  | k + 1, f, h => by
    rw [restF]
    split
    · rename_i e
      exact restF_len h0 k _ (by have := step_len h0 e; omega)
    · omega
theorem restF_pl {g : List Int} : ∀ (k : Nat) (f : List Int), Pl (restF g k f)
  | 0, f => plainL_pl f
  | k + 1, f => by
    rw [restF]
    split
    · exact restF_pl k _
    · exact plainL_pl f
theorem restL_pl (f g : List Int) : Pl (restL f g) := restF_pl _ _
theorem restL_len {f g : List Int} (h0 : 0 < g.length) : (restL f g).length < g.length := restF_len h0 _ _ (by have := plainL_len_le f; omega)
theorem restL_small {f g : List Int} (h : f.length < g.length) : restL f g = plainL f := by
  unfold restL
  cases e : f.length with
  | zero => rfl
  | succ k => rw [restF, if_neg (by have := plainL_len_le f; omega)]
theorem restL_g {f g g' : List Int} (hl : g.length = g'.length) (h : Ray g g') : restL f g = restL f g' := restF_g hl h _ _
theorem restF_enough {g : List Int} (h0 : 0 < g.length) {k : Nat} {f : List Int} (h : (plainL f).length < g.length + k) : ∀ j, restF g (k + j) f = restF g k f
  | 0 => rfl
  | j + 1 => by rw [← Nat.add_assoc, restF_more h0 _ _ (by omega), restF_enough h0 h j]
theorem restL_eq {g : List Int} (h0 : 0 < g.length) {k : Nat} {f : List Int} (h : (plainL f).length < g.length + k) : restF g k f = restL f g := by
  unfold restL
  have hf := plainL_len_le f
  rcases Nat.le_total k f.length with e | e
  · obtain ⟨j, hj⟩ := Nat.exists_eq_add_of_le e
    rw [hj, restF_enough h0 h]
  · obtain ⟨j, hj⟩ := Nat.exists_eq_add_of_le e
    rw [hj, restF_enough h0 (by omega)]
theorem restL_f {f f' g : List Int} (h0 : 0 < g.length) (h : Ray f f') : restL f g = restL f' g := by
  have e := h.len
  have h1 := plainL_len_le f
  have h2 := plainL_len_le f'
  rw [← restL_eq h0 (k := f.length + f'.length) (by omega), ← restL_eq h0 (f := f') (k := f.length + f'.length) (by omega), restF_ray h]
/-- One step, of anything long enough: what leads is struck. -/
theorem restL_step {f g : List Int} (h0 : topL g ≠ 0) (h : g.length ≤ f.length) (h1 : 0 < g.length) : restL f g = restL (rowF (stepE f g) (f.length - 1)) g := by
  have e : Ray (stepL f g) (rowF (stepE f g) (f.length - 1)) := by
    refine ⟨1, 1, by decide, by decide, fun k => ?_⟩
    unfold stepL
    rw [ix_rowF, ix_rowF, Int.one_mul, Int.one_mul]
    by_cases e1 : k < f.length - 1
    · rw [if_pos e1, if_pos (by omega)]
    · rw [if_neg e1]
      split
      · obtain rfl : k = f.length - 1 := by omega
        exact step_top h1 h
      · rfl
  rw [← restL_f h1 e]
  by_cases ht : topL f = 0
  · refine restL_f h1 (Ray.symm (Ray.of (a := ((topL g).natAbs : Int)) (by omega) fun k => ?_))
    unfold stepL
    rw [ix_rowF]
    split
    · unfold stepE
      rw [ht]
      split <;> simp
    · rw [ix_ge (by omega), Int.mul_zero]
  · have hl : (plainL f).length = f.length := by
      rw [plainL_len]
      exact trimN_is (Nat.le_refl _) (fun j h1 h2 => by omega) fun _ => ht
    obtain ⟨m, hm⟩ : ∃ m, f.length = m + 1 := ⟨f.length - 1, by omega⟩
    have s1 := step_len h1 (f := plainL f) (g := g) (by omega)
    rw [← restL_eq h1 (f := f) (k := m + 1) (by omega), restF, if_pos (by omega)]
    rw [restL_eq h1 (by omega)]
    exact restL_f h1 (step_ray_f hl (plainL_ray f).symm)
theorem restL_43 {d c b a p q r : Int} (hr : r ≠ 0) : restL [d, c, b, a] [p, q, r] = plainL [r * r * d - (r * b - a * q) * p, r * r * c - r * a * p - (r * b - a * q) * q] := by
  have hr' : topL [p, q, r] ≠ 0 := hr
  have e1 : rowF (stepE [d, c, b, a] [p, q, r]) 3 = [sgT r * (r * d), sgT r * (r * c - a * p), sgT r * (r * b - a * q)] := by
    have g1 := sgT_abs r
    have g2 := sgT_sq r
    show [((r.natAbs : Int)) * d - 0, (r.natAbs : Int) * c - sgT r * a * p, (r.natAbs : Int) * b - sgT r * a * q] = _
    rw [← g1]
    refine congr (congrArg _ ?_) (congr (congrArg _ ?_) (congr (congrArg _ ?_) rfl)) <;> grind
  have e2 : rowF (stepE [sgT r * (r * d), sgT r * (r * c - a * p), sgT r * (r * b - a * q)] [p, q, r]) 2 = [r * r * d - (r * b - a * q) * p, r * r * c - r * a * p - (r * b - a * q) * q] := by
    have g1 := sgT_abs r
    have g2 := sgT_sq r
    show [(r.natAbs : Int) * (sgT r * (r * d)) - sgT r * (sgT r * (r * b - a * q)) * p, (r.natAbs : Int) * (sgT r * (r * c - a * p)) - sgT r * (sgT r * (r * b - a * q)) * q] = _
    rw [← g1]
    refine congr (congrArg _ ?_) (congr (congrArg _ ?_) rfl) <;> grind
  rw [restL_step hr' (by simp) (by simp)]
  show restL (rowF (stepE [d, c, b, a] [p, q, r]) 3) _ = _
  rw [e1, restL_step hr' (by simp) (by simp)]
  show restL (rowF (stepE [sgT r * (r * d), sgT r * (r * c - a * p), sgT r * (r * b - a * q)] [p, q, r]) 2) _ = _
  rw [e2, restL_small (by simp)]
theorem restL_32 {c b a p q : Int} (hq : q ≠ 0) : restL [c, b, a] [p, q] = plainL [q * q * c - (q * b - a * p) * p] := by
  have hr' : topL [p, q] ≠ 0 := hq
  have e1 : rowF (stepE [c, b, a] [p, q]) 2 = [sgT q * (q * c), sgT q * (q * b - a * p)] := by
    have g1 := sgT_abs q
    have g2 := sgT_sq q
    show [((q.natAbs : Int)) * c - 0, (q.natAbs : Int) * b - sgT q * a * p] = _
    rw [← g1]
    refine congr (congrArg _ ?_) (congr (congrArg _ ?_) rfl) <;> grind
  have e2 : rowF (stepE [sgT q * (q * c), sgT q * (q * b - a * p)] [p, q]) 1 = [q * q * c - (q * b - a * p) * p] := by
    have g1 := sgT_abs q
    have g2 := sgT_sq q
    show [(q.natAbs : Int) * (sgT q * (q * c)) - sgT q * (sgT q * (q * b - a * p)) * p] = _
    rw [← g1]
    refine congr (congrArg _ ?_) rfl
    grind
  rw [restL_step hr' (by simp) (by simp)]
  show restL (rowF (stepE [c, b, a] [p, q]) 2) _ = _
  rw [e1, restL_step hr' (by simp) (by simp)]
  show restL (rowF (stepE [sgT q * (q * c), sgT q * (q * b - a * p)] [p, q]) 1) _ = _
  rw [e2, restL_small (by simp)]
theorem restL_1 {f g : List Int} (h : g.length = 1) : restL f g = [] := List.eq_nil_of_length_eq_zero (by have := restL_len (f := f) (g := g) (by omega); omega)

/-- All turned about. -/
def negL (l : List Int) : List Int := l.map fun x => -x
theorem negL_len (l : List Int) : (negL l).length = l.length := List.length_map ..
theorem negL_ix (l : List Int) (k : Nat) : ix (negL l) k = -ix l k := ix_map (g := fun x => -x) Int.neg_zero k
theorem Pl.neg {l : List Int} (h : Pl l) : Pl (negL l) := by
  refine ⟨fun h0 => ?_, fun h0 m hm => ?_⟩
  · rw [negL_len] at h0 ⊢
    rw [negL_ix]
    have := h.top h0
    omega
  · rw [negL_len] at h0
    refine h.one h0 m fun k => ?_
    have := hm k
    rw [negL_ix] at this
    exact Int.dvd_neg.1 this
theorem negL_plain (l : List Int) : negL (plainL l) = plainL (negL l) := by
  refine (plainL_pl l).neg.same (plainL_pl _) ?_
  refine Ray.trans ?_ (plainL_ray _)
  obtain ⟨a, b, ha, hb, h⟩ := (plainL_ray l).symm
  refine ⟨a, b, ha, hb, fun k => ?_⟩
  rw [negL_ix, negL_ix, Int.mul_neg, Int.mul_neg, h k]

def slopeL (f : List Int) : List Int := plainL (rowF (fun i => ((i : Int) + 1) * ix f (i + 1)) (f.length - 1))
def chF : Nat → List Int → List Int → List (List Int)
  | 0, _, _ => []
  | k + 1, a, b => if b.length = 0 then [] else b :: chF k b (negL (restL a b))
/-- One, its slope, and each time what is left, turned about. -/
def chainL (f : List Int) : List (List Int) := plainL f :: chF f.length (plainL f) (slopeL f)
theorem chF_nil (k : Nat) (a : List Int) : chF k a [] = [] := by cases k <;> rfl
theorem slopeL_len (f : List Int) : (slopeL f).length ≤ f.length - 1 := by
  have := plainL_len_le (rowF (fun i => ((i : Int) + 1) * ix f (i + 1)) (f.length - 1))
  rwa [rowF_len] at this

theorem plain_len_top {f : List Int} (h : topL f ≠ 0) : (plainL f).length = f.length := by
  rw [plainL_len]
  exact trimN_is (Nat.le_refl _) (fun j h1 h2 => by omega) fun _ => h
theorem restL_plain {f g : List Int} (h : topL g ≠ 0) (h0 : 0 < g.length) : restL (plainL f) (plainL g) = restL f g := by
  have e := plain_len_top h
  rw [restL_g e (plainL_ray g).symm, restL_f h0 (plainL_ray f).symm]

/-- Of three: what b*b - 4ac is of two. -/
def dD (a b c d : Int) : Int := b * b * c * c - 4 * a * c * c * c - 4 * b * b * b * d - 27 * a * a * d * d + 18 * a * b * c * d
def dPs (a b c : Int) : Int := b * b - 3 * a * c
def dQ (a b c d : Int) : Int := b * c - 9 * a * d
theorem slope4 (d c b a : Int) : slopeL [d, c, b, a] = plainL [c, 2 * b, 3 * a] := by
  show plainL [((0 : Nat) + 1 : Int) * c, ((1 : Nat) + 1 : Int) * b, ((2 : Nat) + 1 : Int) * a] = _
  simp
theorem slope3 (c b a : Int) : slopeL [c, b, a] = plainL [b, 2 * a] := by
  show plainL [((0 : Nat) + 1 : Int) * b, ((1 : Nat) + 1 : Int) * a] = _
  simp
end Go.Rk
namespace Go.Rk
open Go.RowKit Go.Proofs.YtoahegjjffggaaaDoor

theorem chF_step {k : Nat} {a b : List Int} (h : b.length ≠ 0) : chF (k + 1) a b = b :: chF k b (negL (restL a b)) := by rw [chF, if_neg h]
theorem plain_nil {l : List Int} (h : ∀ k, ix l k = 0) : plainL l = [] := by
  refine List.eq_nil_of_length_eq_zero ?_
  rw [plainL_len]
  exact trimN_is (Nat.zero_le _) (fun j _ _ => h j) fun e => absurd e (Nat.lt_irrefl 0)
theorem plain_ray {l m : List Int} {a : Int} (ha : 0 < a) (h : ∀ k, ix l k = a * ix m k) : plainL l = plainL m := (Ray.of ha h).plain
theorem ix_two (x y : Int) (k : Nat) : ix [x, y] k = if k = 0 then x else if k = 1 then y else 0 := by
  match k with
  | 0 => rfl
  | 1 => rfl
  | k + 2 => rw [if_neg (by omega), if_neg (by omega)]; exact ix_ge (by simp)
theorem ix_one (x : Int) (k : Nat) : ix [x] k = if k = 0 then x else 0 := by
  match k with
  | 0 => rfl
  | k + 1 => rw [if_neg (by omega)]; exact ix_ge (by simp)
theorem ix_three (x y z : Int) (k : Nat) : ix [x, y, z] k = if k = 0 then x else if k = 1 then y else if k = 2 then z else 0 := by
  match k with
  | 0 => rfl
  | 1 => rfl
  | 2 => rfl
  | k + 3 => rw [if_neg (by omega), if_neg (by omega), if_neg (by omega)]; exact ix_ge (by simp)
theorem ix_four (x y z u : Int) (k : Nat) : ix [x, y, z, u] k = if k = 0 then x else if k = 1 then y else if k = 2 then z else if k = 3 then u else 0 := by
  match k with
  | 0 => rfl
  | 1 => rfl
  | 2 => rfl
  | 3 => rfl
  | k + 4 => rw [if_neg (by omega), if_neg (by omega), if_neg (by omega), if_neg (by omega)]; exact ix_ge (by simp)
theorem plain_1 {x : Int} (h : x ≠ 0) : (plainL [x]).length = 1 := plain_len_top (f := [x]) h
theorem plain_2 {x y : Int} (h : y ≠ 0) : (plainL [x, y]).length = 2 := plain_len_top (f := [x, y]) h
theorem plain_3 {x y z : Int} (h : z ≠ 0) : (plainL [x, y, z]).length = 3 := plain_len_top (f := [x, y, z]) h
theorem plain_4 {x y z u : Int} (h : u ≠ 0) : (plainL [x, y, z, u]).length = 4 := plain_len_top (f := [x, y, z, u]) h
theorem plain_20 {x : Int} : plainL [x, 0] = plainL [x] := plain_ray (a := 1) (by decide) fun k => by
  rw [ix_two, ix_one, Int.one_mul]
  by_cases h : k = 0
  · rw [if_pos h, if_pos h]
  · rw [if_neg h, if_neg h, ite_self]

theorem sqz_pos {x : Int} (h : x ≠ 0) : 0 < x * x := by
  rcases Int.lt_or_le x 0 with e | e
  · exact Int.mul_pos_of_neg_of_neg e e
  · exact Int.mul_pos (by omega) (by omega)
theorem plain_00 : plainL [0, 0] = [] := by rfl
theorem plain_0 : plainL [0] = [] := by rfl
section
variable {a b c d : Int}
/-- What is left of one by its slope, turned about. -/
theorem rest4 (ha : a ≠ 0) : negL (restL (plainL [d, c, b, a]) (plainL [c, 2 * b, 3 * a])) = plainL [a * dQ a b c d, a * (2 * dPs a b c)] := by
  have h3 : 3 * a ≠ 0 := by omega
  rw [restL_plain (show topL [c, 2 * b, 3 * a] ≠ 0 from h3) (by simp), restL_43 h3, negL_plain]
  refine plain_ray (a := 1) (by decide) fun k => ?_
  rw [negL_ix, ix_two, ix_two]
  unfold dQ dPs
  split
  · grind
  · split
    · grind
    · rfl
theorem rest4' (hP : dPs a b c ≠ 0) (ha : a ≠ 0) : negL (restL (plainL [c, 2 * b, 3 * a]) (plainL [a * dQ a b c d, a * (2 * dPs a b c)])) = plainL [a * dD a b c d] := by
  have h3 : a * (2 * dPs a b c) ≠ 0 := fun e => by
    rcases Int.mul_eq_zero.1 e with h | h
    · exact ha h
    · omega
  rw [restL_plain (show topL [a * dQ a b c d, a * (2 * dPs a b c)] ≠ 0 from h3) (by simp), restL_32 h3, negL_plain]
  refine plain_ray (a := 9 * (a * a)) (by have := sqz_pos ha; omega) fun k => ?_
  rw [negL_ix, ix_one, ix_one]
  unfold dQ dPs dD
  split
  · grind
  · simp
theorem chain4 (ha : a ≠ 0) : chainL [d, c, b, a] = plainL [d, c, b, a] :: plainL [c, 2 * b, 3 * a] :: chF 3 (plainL [c, 2 * b, 3 * a]) (plainL [a * dQ a b c d, a * (2 * dPs a b c)]) := by
  have h3 : 3 * a ≠ 0 := by omega
  have e : chainL [d, c, b, a] = plainL [d, c, b, a] :: chF 4 (plainL [d, c, b, a]) (slopeL [d, c, b, a]) := rfl
  rw [e, slope4, chF_step (by rw [plain_3 h3]; decide), rest4 ha]
theorem aP_nz (ha : a ≠ 0) (hP : dPs a b c ≠ 0) : a * (2 * dPs a b c) ≠ 0 := fun e => by
  rcases Int.mul_eq_zero.1 e with h | h
  · exact ha h
  · omega
theorem mul_nz {x y : Int} (hx : x ≠ 0) (hy : y ≠ 0) : x * y ≠ 0 := fun e => by
  rcases Int.mul_eq_zero.1 e with h | h
  · exact hx h
  · exact hy h
/-- Apart in all places. -/
theorem chain4_all (ha : a ≠ 0) (hP : dPs a b c ≠ 0) (hD : dD a b c d ≠ 0) : chainL [d, c, b, a] = [plainL [d, c, b, a], plainL [c, 2 * b, 3 * a], plainL [a * dQ a b c d, a * (2 * dPs a b c)], plainL [a * dD a b c d]] := by
  have h1 : (plainL [a * dD a b c d]).length = 1 := plain_1 (mul_nz ha hD)
  rw [chain4 ha, chF_step (by rw [plain_2 (aP_nz ha hP)]; decide), rest4' hP ha, chF_step (by omega), restL_1 h1]
  rfl
/-- Twice at one place. -/
theorem chain4_two (ha : a ≠ 0) (hP : dPs a b c ≠ 0) (hD : dD a b c d = 0) : chainL [d, c, b, a] = [plainL [d, c, b, a], plainL [c, 2 * b, 3 * a], plainL [a * dQ a b c d, a * (2 * dPs a b c)]] := by
  rw [chain4 ha, chF_step (by rw [plain_2 (aP_nz ha hP)]; decide), rest4' hP ha, hD, Int.mul_zero, plain_0, chF_nil]
theorem chain4_flat (ha : a ≠ 0) (hP : dPs a b c = 0) (hQ : dQ a b c d ≠ 0) : chainL [d, c, b, a] = [plainL [d, c, b, a], plainL [c, 2 * b, 3 * a], plainL [a * dQ a b c d]] := by
  have h1 : (plainL [a * dQ a b c d]).length = 1 := plain_1 (mul_nz ha hQ)
  rw [chain4 ha, hP, show a * (2 * 0) = 0 by rw [Int.mul_zero, Int.mul_zero], plain_20, chF_step (by omega), restL_1 h1]
  rfl
/-- Three times at one place. -/
theorem chain4_three (ha : a ≠ 0) (hP : dPs a b c = 0) (hQ : dQ a b c d = 0) : chainL [d, c, b, a] = [plainL [d, c, b, a], plainL [c, 2 * b, 3 * a]] := by
  rw [chain4 ha, hP, hQ, show a * (2 * 0) = 0 by rw [Int.mul_zero, Int.mul_zero], Int.mul_zero, plain_00, chF_nil]

theorem chain3 (ha : a ≠ 0) : chainL [c, b, a] = plainL [c, b, a] :: plainL [b, 2 * a] :: chF 2 (plainL [b, 2 * a]) (plainL [a * (b * b - 4 * a * c)]) := by
  have h3 : 2 * a ≠ 0 := by omega
  have e : chainL [c, b, a] = plainL [c, b, a] :: chF 3 (plainL [c, b, a]) (slopeL [c, b, a]) := rfl
  rw [e, slope3, chF_step (by rw [plain_2 h3]; decide), restL_plain (show topL [b, 2 * a] ≠ 0 from h3) (by simp), restL_32 h3, negL_plain]
  refine congrArg (fun z => plainL [c, b, a] :: plainL [b, 2 * a] :: chF 2 (plainL [b, 2 * a]) z) ?_
  refine plain_ray (a := 1) (by decide) fun k => ?_
  rw [negL_ix, ix_one, ix_one]
  split
  · grind
  · rfl
theorem chain3_all (ha : a ≠ 0) (hD : b * b - 4 * a * c ≠ 0) : chainL [c, b, a] = [plainL [c, b, a], plainL [b, 2 * a], plainL [a * (b * b - 4 * a * c)]] := by
  have h1 : (plainL [a * (b * b - 4 * a * c)]).length = 1 := plain_1 (mul_nz ha hD)
  rw [chain3 ha, chF_step (by omega), restL_1 h1]
  rfl
theorem chain3_two (ha : a ≠ 0) (hD : b * b - 4 * a * c = 0) : chainL [c, b, a] = [plainL [c, b, a], plainL [b, 2 * a]] := by
  rw [chain3 ha, hD, Int.mul_zero, plain_0, chF_nil]
theorem chain2 (ha : a ≠ 0) : chainL [b, a] = [plainL [b, a], plainL [a]] := by
  have e : chainL [b, a] = plainL [b, a] :: chF 2 (plainL [b, a]) (slopeL [b, a]) := rfl
  have e2 : slopeL [b, a] = plainL [a] := by
    show plainL [((0 : Nat) + 1 : Int) * a] = _
    simp
  have h1 := plain_1 ha
  rw [e, e2, chF_step (by omega), restL_1 h1]
  rfl
theorem chain1 : chainL [a] = [plainL [a]] := rfl
end
end Go.Rk
namespace Go.Rk
open Go.RowKit Go.Proofs.YtoahegjjffggaaaDoor

/-- How often signs turn, noughts left out, after what was last. -/
def chg : Int → List Int → Nat
  | _, [] => 0
  | s, n :: l => if n = 0 then chg s l else (if s ≠ 0 ∧ ¬ (0 < n ↔ 0 < s) then 1 else 0) + chg n l
def changesL (l : List Int) : Nat := chg 0 l
/-- Of one sign. -/
def SS (x y : Int) : Prop := (0 < x ↔ 0 < y) ∧ (x = 0 ↔ y = 0)
theorem SS.refl (x : Int) : SS x x := ⟨Iff.rfl, Iff.rfl⟩
theorem SS.symm {x y : Int} (h : SS x y) : SS y x := ⟨h.1.symm, h.2.symm⟩
theorem SS.trans {x y z : Int} (h : SS x y) (g : SS y z) : SS x z := ⟨h.1.trans g.1, h.2.trans g.2⟩
theorem SS.neg {x y : Int} (h : SS x y) : SS (-x) (-y) := by unfold SS at *; omega
theorem SS.mul {a : Int} (ha : 0 < a) (x : Int) : SS x (a * x) := by
  refine ⟨⟨fun h => Int.mul_pos ha h, fun h => ?_⟩, ⟨fun h => by rw [h, Int.mul_zero], fun h => ?_⟩⟩
  · rcases Int.lt_or_le 0 x with e | e
    · exact e
    · have := Int.mul_nonpos_of_nonneg_of_nonpos (show 0 ≤ a by omega) e
      omega
  · rcases Int.mul_eq_zero.1 h with e | e
    · omega
    · exact e
theorem SS.of {a x y : Int} (ha : 0 < a) (h : a * x = y) : SS x y := h ▸ SS.mul ha x
theorem SS.of2 {a b x y : Int} (ha : 0 < a) (hb : 0 < b) (h : a * x = b * y) : SS x y := (SS.mul ha x).trans (h ▸ (SS.mul hb y).symm)
def SSL : List Int → List Int → Prop
  | [], [] => True
  | x :: l, y :: m => SS x y ∧ SSL l m
  | _, _ => False
theorem chg_ss : ∀ {l m : List Int} {s t : Int}, SS s t → SSL l m → chg s l = chg t m
  | [], [], _, _, _, _ => rfl
  | [], _ :: _, _, _, _, h => h.elim
  | _ :: _, [], _, _, _, h => h.elim
  | x :: l, y :: m, s, t, hs, h => by
    rw [chg, chg, chg_ss hs h.2, chg_ss h.1 h.2]
    have h1 := h.1
    unfold SS at hs h1
    split
    · rw [if_pos (by omega)]
    · rw [if_neg (show ¬ y = 0 by omega)]
      congr 1
      split
      · rw [if_pos (by omega)]
      · rw [if_neg (by omega)]
theorem changes_ss {l m : List Int} (h : SSL l m) : changesL l = changesL m := chg_ss (SS.refl 0) h
theorem chg_neg : ∀ (l : List Int) (s : Int), chg (-s) (l.map fun x => -x) = chg s l
  | [], _ => rfl
  | x :: l, s => by
    rw [List.map_cons, chg, chg, chg_neg l s, chg_neg l x]
    split
    · rw [if_pos (by omega)]
    · rw [if_neg (show ¬ x = 0 by omega)]
      congr 1
      split
      · rw [if_pos (by omega)]
      · rw [if_neg (by omega)]
theorem changes_neg (l : List Int) : changesL (l.map fun x => -x) = changesL l := chg_neg l 0

/-- What it comes to at a number. -/
def evL : List Int → Int → Int
  | [], _ => 0
  | c :: l, x => evL l x * x + c
theorem evL_drop {f : List Int} {i : Nat} (h : i < f.length) (x : Int) : evL (f.drop i) x = evL (f.drop (i + 1)) x * x + ix f i := by
  rw [List.drop_eq_getElem_cons h, evL, ix_lt h]
theorem evL_mul {a b : Int} (x : Int) : ∀ {f g : List Int}, (∀ k, a * ix f k = b * ix g k) → a * evL f x = b * evL g x
  | [], [], _ => by rw [evL, Int.mul_zero, Int.mul_zero]
  | c :: l, [], h => by
    have e := evL_mul x (f := l) (g := []) fun k => (h (k + 1)).trans rfl
    have e0 : a * c = b * 0 := h 0
    rw [evL] at e ⊢
    rw [evL]
    rw [Int.mul_add, ← Int.mul_assoc, e, e0]
    simp
  | [], c :: l, h => by
    have e := evL_mul x (f := []) (g := l) fun k => Eq.trans rfl (h (k + 1))
    have e0 : a * 0 = b * c := h 0
    rw [evL] at e ⊢
    rw [evL]
    rw [Int.mul_add, ← Int.mul_assoc, ← e, ← e0]
    simp
  | c :: l, d :: m, h => by
    have e := evL_mul x (f := l) (g := m) fun k => h (k + 1)
    have e0 : a * c = b * d := h 0
    rw [evL, evL, Int.mul_add, Int.mul_add, ← Int.mul_assoc, ← Int.mul_assoc, e, e0]
theorem Ray.ev {f g : List Int} (h : Ray f g) (x : Int) : SS (evL f x) (evL g x) := by
  obtain ⟨a, b, ha, hb, h⟩ := h
  exact SS.of2 ha hb (evL_mul x h)
theorem ev_plain (l : List Int) (x : Int) : SS (evL (plainL l) x) (evL l x) := (plainL_ray l).symm.ev x

/-- What leads, far above and far below. -/
def lowT (f : List Int) : Int := if f.length % 2 = 0 then -topL f else topL f
def VL (L : List (List Int)) (x : Int) : Nat := changesL (L.map fun p => evL p x)
def hiL (L : List (List Int)) : Nat := changesL (L.map topL)
def loL (L : List (List Int)) : Nat := changesL (L.map lowT)
theorem top_plain {l : List Int} (h : topL l ≠ 0) : SS (topL (plainL l)) (topL l) := by
  obtain ⟨a, b, ha, hb, e⟩ := plainL_ray l
  have h1 := e (l.length - 1)
  unfold topL
  rw [plain_len_top h]
  exact SS.of2 hb ha h1.symm
theorem low_plain {l : List Int} (h : topL l ≠ 0) : SS (lowT (plainL l)) (lowT l) := by
  unfold lowT
  rw [plain_len_top h]
  split
  · exact (top_plain h).neg
  · exact top_plain h
end Go.Rk
