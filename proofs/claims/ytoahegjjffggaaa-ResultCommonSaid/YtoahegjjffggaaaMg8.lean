/-
  Polynomials as functions of an integer: their factors, and the determinant of a matrix whose numbers are of the first power. Plain Lean, no program in sight.
  Factors without noughts at their end, and their products, by the prime. No program in sight.
  Package poly walked: Check, trim, Mul and At of factors that pass.
  ResultProduct walked: with a product it is the product.
-/
import Derived.Test.YtoahegjjffggaaaRows
import Derived.Test.YtoahegjjffggaaaMg0
import Derived.Test.YtoahegjjffggaaaMg1
import Derived.Test.YtoahegjjffggaaaMg2
import Derived.Test.YtoahegjjffggaaaMg3
import Derived.Test.YtoahegjjffggaaaMg4
import Derived.Test.YtoahegjjffggaaaMg5
import Derived.Test.YtoahegjjffggaaaMg6
import Derived.Test.YtoahegjjffggaaaMg7
namespace Go.Rk

/-- What factors come to. -/
def pv (c : Nat → Int) (d : Nat) (x : Int) : Int := sumTo (fun k => c k * x ^ k) d

theorem pv_succ_left (c : Nat → Int) (d : Nat) (x : Int) : pv c (d + 1) x = c 0 + x * pv (fun k => c (k + 1)) d x := by
  unfold pv
  rw [sumTo_succ_left, Int.pow_zero, Int.mul_one, ← sumTo_mul]
  congr 1
  exact sumTo_congr fun k _ => by rw [Int.pow_succ]; grind
theorem pv_congr {c e : Nat → Int} {d : Nat} (h : ∀ k, k < d → c k = e k) (x : Int) : pv c d x = pv e d x := sumTo_congr fun k hk => by rw [h k hk]
theorem pv_add (c e : Nat → Int) (d : Nat) (x : Int) : pv (fun k => c k + e k) d x = pv c d x + pv e d x := by
  unfold pv
  rw [← sumTo_add]
  exact sumTo_congr fun k _ => Int.add_mul _ _ _
theorem pv_mul (a : Int) (c : Nat → Int) (d : Nat) (x : Int) : pv (fun k => a * c k) d x = a * pv c d x := by
  unfold pv
  rw [← sumTo_mul]
  exact sumTo_congr fun k _ => Int.mul_assoc _ _ _
theorem pv_zero_at (c : Nat → Int) (d : Nat) : pv c (d + 1) 0 = c 0 := by rw [pv_succ_left, Int.zero_mul, Int.add_zero]
/-- A factor of 0 more. -/
theorem pv_more (c : Nat → Int) {d e : Nat} (h : d ≤ e) (x : Int) : pv (fun k => if k < d then c k else 0) e x = pv c d x := by
  obtain ⟨t, rfl⟩ : ∃ t, e = d + t := ⟨e - d, by omega⟩
  induction t with
  | zero => exact pv_congr (fun k hk => if_pos (by omega)) x
  | succ t ih =>
    have := ih (by omega)
    unfold pv at this ⊢
    rw [← Nat.add_assoc, sumTo, this]
    show _ + (if d + t < d then c (d + t) else 0) * _ = _
    rw [if_neg (by omega), Int.zero_mul, Int.add_zero]

/-- Factors that come to 0 from some number on are 0. -/
theorem pv_null {c : Nat → Int} {d : Nat} (N : Int) (h : ∀ x, N ≤ x → pv c d x = 0) : ∀ k, k < d → c k = 0 := by
  induction d generalizing c N with
  | zero => intro k hk; exact absurd hk (Nat.not_lt_zero _)
  | succ d ih =>
    have h0 : c 0 = 0 := by
      have := h (max N (c 0).natAbs + 1) (by omega)
      rw [pv_succ_left] at this
      generalize hx : max N (c 0).natAbs + 1 = x at this
      have hd : x ∣ c 0 := ⟨-pv (fun k => c (k + 1)) d x, by rw [Int.mul_neg]; omega⟩
      exact Int.eq_zero_of_dvd_of_natAbs_lt_natAbs hd (by omega)
    intro k hk
    rcases k with _ | k
    · exact h0
    · refine ih (c := fun k => c (k + 1)) (max N 1) (fun x hx => ?_) k (by omega)
      have := h x (by omega)
      rw [pv_succ_left, h0, Int.zero_add] at this
      rcases Int.mul_eq_zero.1 this with e | e
      · omega
      · exact e
theorem pv_same {c e : Nat → Int} {d : Nat} (N : Int) (h : ∀ x, N ≤ x → pv c d x = pv e d x) : ∀ k, k < d → c k = e k := by
  intro k hk
  have := pv_null (c := fun k => c k + -1 * e k) N (fun x hx => by rw [pv_add, pv_mul, h x hx]; omega) k hk
  omega

/-- A polynomial of that power or less, whose factor there is l. -/
def DL (d : Nat) (l : Int) (f : Int → Int) : Prop := ∃ c : Nat → Int, c d = l ∧ ∀ x, f x = pv c (d + 1) x
def DF (d : Nat) (f : Int → Int) : Prop := ∃ c : Nat → Int, ∀ x, f x = pv c (d + 1) x

theorem DL.df {d : Nat} {l : Int} {f : Int → Int} (h : DL d l f) : DF d f := let ⟨c, _, e⟩ := h; ⟨c, e⟩
theorem DF.dl {d : Nat} {f : Int → Int} (h : DF d f) : ∃ l, DL d l f := let ⟨c, e⟩ := h; ⟨c d, c, rfl, e⟩
theorem DL.congr {d : Nat} {l : Int} {f g : Int → Int} (h : DL d l f) (e : ∀ x, f x = g x) : DL d l g := let ⟨c, e1, e2⟩ := h; ⟨c, e1, fun x => (e x).symm.trans (e2 x)⟩
theorem DF.congr {d : Nat} {f g : Int → Int} (h : DF d f) (e : ∀ x, f x = g x) : DF d g := let ⟨c, e2⟩ := h; ⟨c, fun x => (e x).symm.trans (e2 x)⟩
theorem DL.const (a : Int) : DL 0 a fun _ => a := ⟨fun _ => a, rfl, fun x => by rw [pv_succ_left]; simp [pv, sumTo]⟩
theorem DL.lin (a b : Int) : DL 1 a fun x => x * a + b := ⟨fun k => if k = 0 then b else a, rfl, fun x => by
  rw [pv_succ_left, pv_succ_left]; simp [pv, sumTo]; omega⟩
theorem DL.add {d : Nat} {l m : Int} {f g : Int → Int} (h : DL d l f) (k : DL d m g) : DL d (l + m) fun x => f x + g x := by
  obtain ⟨c, e1, e2⟩ := h
  obtain ⟨b, e3, e4⟩ := k
  exact ⟨fun k => c k + b k, by rw [← e1, ← e3], fun x => by rw [pv_add, ← e2, ← e4]⟩
theorem DL.smul {d : Nat} {l : Int} {f : Int → Int} (a : Int) (h : DL d l f) : DL d (a * l) fun x => a * f x := by
  obtain ⟨c, e1, e2⟩ := h
  exact ⟨fun k => a * c k, by rw [← e1], fun x => by rw [pv_mul, ← e2]⟩
theorem DL.times {d : Nat} {l : Int} {f : Int → Int} (h : DL d l f) : DL (d + 1) l fun x => x * f x := by
  obtain ⟨c, e1, e2⟩ := h
  refine ⟨fun k => if k = 0 then 0 else c (k - 1), by show (if d + 1 = 0 then 0 else c (d + 1 - 1)) = l; rw [if_neg (by omega)]; exact e1, fun x => ?_⟩
  rw [pv_succ_left, if_pos rfl, Int.zero_add]
  show x * f x = _
  rw [e2]
  congr 1
theorem DL.up {d : Nat} {l : Int} {f : Int → Int} (h : DL d l f) : DL (d + 1) 0 f := by
  obtain ⟨c, e1, e2⟩ := h
  exact ⟨fun k => if k < d + 1 then c k else 0, if_neg (by omega), fun x => by rw [pv_more c (by omega), e2]⟩
theorem DL.zero (d : Nat) : DL d 0 fun _ => 0 := ⟨fun _ => 0, rfl, fun x => by
  unfold pv
  rw [sumTo_congr (h := fun _ => 0) fun k _ => Int.zero_mul _, sumTo_zero]⟩
theorem DL.mul {a b : Nat} {l m : Int} {f g : Int → Int} (h : DL a l f) (k : DL b m g) : DL (a + b) (l * m) fun x => f x * g x := by
  induction a generalizing l f with
  | zero =>
    obtain ⟨c, e1, e2⟩ := h
    rw [Nat.zero_add]
    refine (k.smul l).congr fun x => ?_
    rw [e2, pv_succ_left, e1]
    simp [pv, sumTo]
  | succ a ih =>
    obtain ⟨c, e1, e2⟩ := h
    have h1 : DL a l fun x => pv (fun k => c (k + 1)) (a + 1) x := ⟨fun k => c (k + 1), e1, fun x => rfl⟩
    have h2 := (ih h1).times
    have h3 : DL (a + 1 + b) 0 fun x => c 0 * g x := by
      have : DL b (c 0 * m) fun x => c 0 * g x := k.smul (c 0)
      have up : ∀ t, ∃ l', DL (b + t) l' fun x => c 0 * g x := by
        intro t
        induction t with
        | zero => exact ⟨_, this⟩
        | succ t ih => obtain ⟨l', hl⟩ := ih; exact ⟨0, hl.up⟩
      obtain ⟨l', hl⟩ := up a
      have := hl.up
      rwa [show b + a + 1 = a + 1 + b by omega] at this
    rw [show a + b + 1 = a + 1 + b by omega] at h2
    have h4 := h3.add h2
    rw [Int.zero_add] at h4
    refine h4.congr fun x => ?_
    rw [e2, pv_succ_left c (a + 1) x]
    grind
theorem DL.sum {d : Nat} {l : Nat → Int} {f : Nat → Int → Int} {n : Nat} (h : ∀ i, i < n → DL d (l i) (f i)) : DL d (sumTo l n) fun x => sumTo (fun i => f i x) n := by
  induction n with
  | zero => exact DL.zero d
  | succ n ih => exact (ih fun i hi => h i (by omega)).add (h n (by omega))

theorem DF.ups {d e : Nat} {f : Int → Int} (h : DF d f) (k : d ≤ e) : DF e f := by
  obtain ⟨c, hc⟩ := h
  exact ⟨fun k => if k < d + 1 then c k else 0, fun x => by rw [pv_more c (by omega), hc]⟩
theorem DF.add {d : Nat} {f g : Int → Int} (h : DF d f) (k : DF d g) : DF d fun x => f x + g x := let ⟨_, h⟩ := h.dl; let ⟨_, k⟩ := k.dl; (h.add k).df
theorem DF.smul {d : Nat} {f : Int → Int} (a : Int) (h : DF d f) : DF d fun x => a * f x := let ⟨_, h⟩ := h.dl; (h.smul a).df
theorem DF.mul {a b : Nat} {f g : Int → Int} (h : DF a f) (k : DF b g) : DF (a + b) fun x => f x * g x := let ⟨_, h⟩ := h.dl; let ⟨_, k⟩ := k.dl; (h.mul k).df
theorem DF.const (a : Int) : DF 0 fun _ => a := (DL.const a).df
theorem DF.lin (a b : Int) : DF 1 fun x => x * a + b := (DL.lin a b).df
theorem DF.sum {d : Nat} {f : Nat → Int → Int} {n : Nat} (h : ∀ i, i < n → DF d (f i)) : DF d fun x => sumTo (fun i => f i x) n := by
  induction n with
  | zero => exact (DL.zero d).df
  | succ n ih => exact (ih fun i hi => h i (by omega)).add (h n (by omega))

/-- One that is 0 from some number on is 0. -/
theorem DF.null {d : Nat} {f : Int → Int} (h : DF d f) (N : Int) (z : ∀ x, N ≤ x → f x = 0) (x : Int) : f x = 0 := by
  obtain ⟨c, hc⟩ := h
  have := pv_null (c := c) N (fun y hy => by rw [← hc]; exact z y hy)
  rw [hc, pv_congr (e := fun _ => 0) fun k hk => this k hk]
  unfold pv
  rw [sumTo_congr (h := fun _ => 0) fun k _ => Int.zero_mul _, sumTo_zero]
/-- Two that are the same from some number on. -/
theorem DF.same {d e : Nat} {f g : Int → Int} (h : DF d f) (k : DF e g) (N : Int) (z : ∀ x, N ≤ x → f x = g x) (x : Int) : f x = g x := by
  have h1 := (h.ups (Nat.le_max_left d e)).add ((k.ups (Nat.le_max_right d e)).smul (-1))
  have := h1.null N (fun y hy => by rw [z y hy]; omega) x
  omega
/-- One whose highest factor is not 0 is not 0 from some number on. -/
theorem DL.past {d : Nat} {l : Int} {f : Int → Int} (h : DL d l f) (hl : l ≠ 0) : ∃ N : Int, ∀ x, N ≤ x → f x ≠ 0 := by
  induction d generalizing f with
  | zero =>
    obtain ⟨c, e1, e2⟩ := h
    refine ⟨0, fun x _ => ?_⟩
    rw [e2, pv_succ_left, e1]
    simpa [pv, sumTo] using hl
  | succ d ih =>
    obtain ⟨c, e1, e2⟩ := h
    obtain ⟨N, hN⟩ := ih (f := fun x => pv (fun k => c (k + 1)) (d + 1) x) ⟨fun k => c (k + 1), e1, fun x => rfl⟩
    refine ⟨max N ((c 0).natAbs + 1), fun x hx e => ?_⟩
    rw [e2, pv_succ_left c (d + 1) x] at e
    have h1 := hN x (by omega)
    generalize pv (fun k => c (k + 1)) (d + 1) x = y at e h1
    have hd : x ∣ c 0 := ⟨-y, by rw [Int.mul_neg]; omega⟩
    have h0 := Int.eq_zero_of_dvd_of_natAbs_lt_natAbs hd (by omega)
    rw [h0, Int.zero_add] at e
    rcases Int.mul_eq_zero.1 e with e | e
    · omega
    · exact h1 e
/-- Times one whose highest factor is not 0. -/
theorem DF.cancel {a d e : Nat} {l : Int} {p f g : Int → Int} (hp : DL a l p) (hl : l ≠ 0) (h : DF d f) (k : DF e g) (z : ∀ x, p x * f x = p x * g x) (x : Int) : f x = g x := by
  obtain ⟨N, hN⟩ := hp.past hl
  exact h.same k N (fun y hy => Int.eq_of_mul_eq_mul_left (hN y hy) (z y)) x

/-- A matrix whose numbers are of the first power. -/
def linM (P Q : Mx) (x : Int) : Mx := fun i j => x * P i j + Q i j
theorem det_lin (n : Nat) : ∀ (P Q : Mx), DL n (det n P) fun x => det n (linM P Q x) := by
  induction n with
  | zero => exact fun _ _ => DL.const 1
  | succ n ih =>
    intro P Q
    refine DL.sum (f := fun j x => sg j * linM P Q x 0 j * det n (minor (linM P Q x) 0 j)) fun j _ => ?_
    have h1 := ((DL.lin (P 0 j) (Q 0 j)).smul (sg j)).mul (ih (minor P 0 j) (minor Q 0 j))
    rw [Nat.add_comm 1 n] at h1
    exact h1.congr fun x => rfl
end Go.Rk
namespace Go.Rk
open Go.RowKit Go.Proofs.Ytoahegjjffggaaa

/-- How many of the first n are left when noughts at the end are struck. -/
def trimN (l : List Int) : Nat → Nat
  | 0 => 0
  | n + 1 => if ix l n = 0 then trimN l n else n + 1
def trimL (l : List Int) : List Int := l.take (trimN l l.length)
theorem trimN_le (l : List Int) (n : Nat) : trimN l n ≤ n := by
  induction n with
  | zero => exact Nat.le_refl _
  | succ n ih => rw [trimN]; split <;> omega
theorem trimN_top {l : List Int} {n : Nat} (h : 0 < trimN l n) : ix l (trimN l n - 1) ≠ 0 := by
  induction n with
  | zero => exact absurd h (Nat.lt_irrefl 0)
  | succ n ih =>
    rw [trimN] at h ⊢
    by_cases e : ix l n = 0
    · rw [if_pos e] at h ⊢; exact ih h
    · rw [if_neg e, Nat.add_sub_cancel]; exact e
theorem trimN_past {l : List Int} {n k : Nat} (h1 : trimN l n ≤ k) (h2 : k < n) : ix l k = 0 := by
  induction n with
  | zero => exact absurd h2 (Nat.not_lt_zero k)
  | succ n ih =>
    rw [trimN] at h1
    by_cases e : ix l n = 0
    · rw [if_pos e] at h1
      rcases Nat.lt_or_ge k n with h3 | h3
      · exact ih h1 h3
      · obtain rfl : k = n := by omega
        exact e
    · rw [if_neg e] at h1; omega
/-- The place at which the striking stands still. -/
theorem trimN_is {l : List Int} {n k : Nat} (hk : k ≤ n) (h1 : ∀ j, k ≤ j → j < n → ix l j = 0) (h2 : 0 < k → ix l (k - 1) ≠ 0) : trimN l n = k := by
  induction n with
  | zero => rw [trimN]; omega
  | succ n ih =>
    rw [trimN]
    rcases Nat.lt_or_ge k (n + 1) with h3 | h3
    · rw [if_pos (h1 n (by omega) (by omega))]
      exact ih (by omega) fun j h4 h5 => h1 j h4 (by omega)
    · obtain rfl : k = n + 1 := by omega
      rw [if_neg (show ¬ ix l n = 0 from h2 (by omega))]
theorem trimL_len (l : List Int) : (trimL l).length = trimN l l.length := by
  unfold trimL; rw [List.length_take]; have := trimN_le l l.length; omega
theorem trimL_ix (l : List Int) (k : Nat) : ix (trimL l) k = ix l k := by
  rcases Nat.lt_or_ge k (trimN l l.length) with h | h
  · exact ix_take h
  · rw [ix_ge (by rw [trimL_len]; exact h)]
    rcases Nat.lt_or_ge k l.length with h2 | h2
    · exact (trimN_past h h2).symm
    · exact (ix_ge h2).symm
theorem trimL_top {l : List Int} (h : 0 < (trimL l).length) : ix (trimL l) ((trimL l).length - 1) ≠ 0 := by
  rw [trimL_ix, trimL_len] at *
  exact trimN_top h
theorem trimL_in {l : List Int} {lo hi : Int} (h : In lo hi l) : In lo hi (trimL l) := fun k hk => by
  rw [trimL_ix]
  rw [trimL_len] at hk
  exact h k (by have := trimN_le l l.length; omega)

theorem eqm_cancel {a b : Int} (ha : a % 9973 ≠ 0) (h : Eqm (a * b) 0) : Eqm b 0 := by
  have ho := over_mul (a := a % 9973) (by omega) (by omega) ha
  obtain ⟨o, hoo⟩ : ∃ o, o = powm (a % 9973) 9971 := ⟨_, rfl⟩
  rw [← hoo] at ho
  have e1 : Eqm (o * (a % 9973)) 1 := by unfold Eqm; rw [ho]; rfl
  have e2 := (Eqm.refl o).mul h
  rw [Int.mul_zero, ← Int.mul_assoc] at e2
  have e3 := ((Eqm.refl o).mul (Eqm.mod a)).symm.trans e1
  have e4 := e3.mul (Eqm.refl b)
  rw [Int.one_mul] at e4
  exact e4.symm.trans e2

/-- The product. -/
def convL (f g : List Int) : List Int := rowF (fun q => convF (ix f) (ix g) f.length g.length q % 9973) (f.length + g.length)
def mulL (f g : List Int) : List Int := trimL (convL f g)
theorem convL_len (f g : List Int) : (convL f g).length = f.length + g.length := rowF_len _ _
theorem convL_in (f g : List Int) : In 0 9972 (convL f g) := fun k hk => by
  rw [convL_len] at hk
  unfold convL
  rw [rowF_ix hk]; omega
theorem mulL_in (f g : List Int) : In 0 9972 (mulL f g) := trimL_in (convL_in f g)
theorem mulL_ix {f g : List Int} {q : Nat} (hq : q < f.length + g.length) : Eqm (ix (mulL f g) q) (convF (ix f) (ix g) f.length g.length q) := by
  unfold mulL
  rw [trimL_ix]
  unfold convL
  rw [rowF_ix hq]
  exact Eqm.mod _
/-- The place of the product's top. -/
theorem conv_top {f g : List Int} {a b : Nat} (hf : f.length = a + 1) (hg : g.length = b + 1) : convF (ix f) (ix g) f.length g.length (a + b) = ix f a * ix g b ∧ convF (ix f) (ix g) f.length g.length (a + b + 1) = 0 := by
  unfold convF
  rw [hf, hg]
  constructor
  · rw [sumTo_congr (h := fun k => (if k = a then 1 else 0) * (ix f k * ix g (a + b - k))) fun k hk => by
      by_cases e : k = a
      · rw [if_pos (by omega), if_pos e, Int.one_mul]
      · rw [if_neg (by omega), if_neg e, Int.zero_mul], sumTo_pick' (fun k => ix f k * ix g (a + b - k)) (by omega), Nat.add_sub_cancel_left]
  · rw [sumTo_congr (h := fun _ => 0) fun k hk => by rw [if_neg (by omega)], sumTo_zero]
theorem mulL_len {f g : List Int} {a b : Nat} (hf : f.length = a + 1) (hg : g.length = b + 1) (h1 : ix f a % 9973 ≠ 0) (h2 : ix g b % 9973 ≠ 0) : (mulL f g).length = a + b + 1 ∧ ix (mulL f g) (a + b) = ix f a * ix g b % 9973 ∧ ix (mulL f g) (a + b) ≠ 0 := by
  have ht := conv_top hf hg
  have e1 : ix (convL f g) (a + b) = ix f a * ix g b % 9973 := by unfold convL; rw [rowF_ix (by omega), ht.1]
  have e2 : ix (convL f g) (a + b) ≠ 0 := fun e => by
    rw [e1] at e
    have := eqm_cancel h1 (show Eqm (ix f a * ix g b) 0 from e)
    exact h2 this
  have e3 : ix (convL f g) (a + b + 1) = 0 := by unfold convL; rw [rowF_ix (by omega), ht.2]; rfl
  refine ⟨?_, by unfold mulL; rw [trimL_ix]; exact e1, by unfold mulL; rw [trimL_ix]; exact e2⟩
  unfold mulL
  rw [trimL_len, convL_len, hf, hg]
  refine trimN_is (by omega) (fun j h3 h4 => ?_) fun _ => e2
  obtain rfl : j = a + b + 1 := by omega
  exact e3

/-- A linear factor: what the other one comes to there. -/
theorem act_root {g : List Int} {c r : Int} (hr : Eqm (-c) r) : Eqm (det 1 (actM 1 (fun s => ix [c, 1] s * 1) g)) (pv (ix g) g.length r) := by
  have h1 : ∀ e, Eqm (remP 1 (fun s => ix [c, 1] s * 1) e 0) (r ^ e) := by
    intro e
    induction e with
    | zero => rw [Int.pow_zero]; exact Eqm.refl _
    | succ e ih =>
      rw [remP, if_pos rfl, Int.zero_sub, Int.pow_succ]
      have := ih.mul hr
      refine Eqm.trans (Eqm.of_eq ?_) this
      show -(remP 1 _ e 0 * (c * 1)) = _
      rw [Int.mul_one, Int.mul_neg]
  have h2 : det 1 (actM 1 (fun s => ix [c, 1] s * 1) g) = actP 1 (fun s => ix [c, 1] s * 1) (ix g) g.length 0 0 := by
    show sumTo (fun j => sg j * actM 1 _ g 0 j * 1) 1 = _
    rw [sumTo, sumTo, Int.zero_add]
    show 1 * actP 1 _ (ix g) g.length 0 0 * 1 = _
    rw [Int.one_mul, Int.mul_one]
  rw [h2]
  unfold actP pv
  exact sumTo_eqm fun k _ => (Eqm.refl _).mul (by rw [Nat.zero_add]; exact h1 k)
theorem syl_root {g : List Int} {c r : Int} {m : Nat} (hg : g.length = m + 1) (hr : Eqm (-c) r) : Eqm (det (m + 1) (sylM [c, 1] g)) (pv (ix g) g.length r) := by
  have := syl_act (h := [c, 1]) (f := g) (m := 1) (a := m) (o := 1) rfl hg (by show Eqm (1 * 1) 1; exact Eqm.refl _)
  rw [show ix [c, 1] 1 = 1 from rfl, Int.one_pow, Int.one_mul] at this
  exact this.trans (act_root hr)

theorem sign_mul {xp xf xg yp yf yg sp sf sg_ : Int} (hp : yp = sp * xp) (hf : yf = sf * xf) (hg : yg = sg_ * xg) (hs : sp = sf * sg_) (h1 : sp * sp = 1) (h : Eqm yp (yf * yg)) : Eqm xp (xf * xg) := by
  have := (Eqm.refl sp).mul h
  rw [hp, hf, hg] at this
  have e1 : sp * (sp * xp) = xp := by rw [← Int.mul_assoc, h1, Int.one_mul]
  have e2 : sp * (sf * xf * (sg_ * xg)) = xf * xg := by
    have : sp * (sf * xf * (sg_ * xg)) = sp * (sf * sg_) * (xf * xg) := by grind
    rw [this, ← hs, h1, Int.one_mul]
  rwa [e1, e2] at this

/-- The resultant by the prime with a product is the product. -/
theorem res_mul {f g h p : List Int} {a b m : Nat} (hf : f.length = a + 1) (hg : g.length = b + 1) (hh : h.length = m + 1) (hp : p.length = a + b + 1) (hm : ix h m % 9973 ≠ 0) (h1 : 1 ≤ a + m) (h2 : 1 ≤ b + m)
    (hc : ∀ q, q < a + b + 1 → Eqm (ix p q) (convF (ix f) (ix g) (a + 1) (b + 1) q)) : Eqm (det (a + b + m) (sylM p h)) (det (a + m) (sylM f h) * det (b + m) (sylM g h)) := by
  obtain ⟨o, ho⟩ : ∃ o, Eqm (ix h m * o) 1 := by
    refine ⟨powm (ix h m % 9973) 9971, ?_⟩
    have := over_mul (a := ix h m % 9973) (by omega) (by omega) hm
    have e : Eqm (powm (ix h m % 9973) 9971 * (ix h m % 9973)) 1 := by unfold Eqm; rw [this]; rfl
    rw [Int.mul_comm]
    exact ((Eqm.refl _).mul (Eqm.mod _)).symm.trans e
  have key := syl_mul hh hf hg hp ho hc
  have tf := syl_turn (f := f) (g := h) (by omega) (by omega) (by omega)
  have tg := syl_turn (f := g) (g := h) (by omega) (by omega) (by omega)
  have tp := syl_turn (f := p) (g := h) (by omega) (by omega) (by omega)
  rw [show h.length + f.length - 2 = a + m by omega, show f.length + h.length - 2 = a + m by omega, show f.length - 1 = a by omega, show h.length - 1 = m by omega] at tf
  rw [show h.length + g.length - 2 = b + m by omega, show g.length + h.length - 2 = b + m by omega, show g.length - 1 = b by omega, show h.length - 1 = m by omega] at tg
  rw [show h.length + p.length - 2 = a + b + m by omega, show p.length + h.length - 2 = a + b + m by omega, show p.length - 1 = a + b by omega, show h.length - 1 = m by omega] at tp
  refine sign_mul tp tf tg ?_ ?_ key
  · by_cases e1 : m % 2 = 1
    · rcases Nat.mod_two_eq_zero_or_one a with e2 | e2 <;> rcases Nat.mod_two_eq_zero_or_one b with e3 | e3
      · rw [if_neg (by omega), if_neg (by omega), if_neg (by omega)]; rfl
      · rw [if_pos (by omega), if_neg (by omega), if_pos (by omega)]; rfl
      · rw [if_pos (by omega), if_pos (by omega), if_neg (by omega)]; rfl
      · rw [if_neg (by omega), if_pos (by omega), if_pos (by omega)]; rfl
    · rw [if_neg (by omega), if_neg (by omega), if_neg (by omega)]; rfl
  · split <;> rfl
end Go.Rk
namespace Go.Proofs.Ytoahegjjffggaaa
open Go.RowKit Go.Rk

section
variable {a b : Option Addr} {n m ca cb : Nat} {f g : List Int} {w : World}
theorem poly_Check_ok (hf : RdI w a n ca f) (hi : In 0 9972 f) (hn : n ≤ 12) :
    Calls Try.prog 49 #[.slice a n ca] w fun e w' => e = .returned .nilIface ∧ w = w' := by
  have C := any_any a n ca f 0 9972 w hf
  rw [any_of_in hi] at C
  have C := Lib.hid C
  have i1 : (n : Int) ≤ 12 := by omega
  clear hi
  go_enter Try.func49, Try.ntmps49
  go_wp2_with (first | (go_at_call 68; (with_reducible refine C.out.mono ?_); rintro e w' ⟨rfl, rfl⟩))
  go_ret
  exact ⟨rfl, rfl⟩
theorem poly_both_ok (hf : RdI w a n ca f) (hi : In 0 9972 f) (hn : n ≤ 12) (hg : RdI w b m cb g) (hj : In 0 9972 g) (hm : m ≤ 12) :
    Calls Try.prog 46 #[.slice a n ca, .slice b m cb] w fun e w' => e = .returned .nilIface ∧ Below w.heap.size w w' := by
  have C1 := Lib.hid (poly_Check_ok hf hi hn)
  have C2 := Lib.hid (poly_Check_ok hg hj hm)
  have kB := (Below.refl w.heap.size w).alloc (Nat.le_refl _) (.cells #[.nilIface, .nilIface] 25)
  clear hi hj
  go_enter Try.func46, Try.ntmps46
  go_wp2_with (first | (go_at_call 49; first | ((with_reducible refine C1.out.mono ?_); clear C1; rintro e w' ⟨rfl, rfl⟩) | ((with_reducible refine C2.out.mono ?_); rintro e w' ⟨rfl, rfl⟩)) | (go_at_call 82; refine (First_any (x := none) (y := none) (by simp [errV]) (by simp [errV])).mono ?_; rintro e w' ⟨rfl, rfl⟩; simp only [firstO, errV]))
  go_ret
  exact ⟨rfl, kB⟩

set_option maxHeartbeats 1000000 in
theorem poly_trim_any (hf : RdI w a n ca f) (hn : n ≤ 1000) :
    Calls Try.prog 47 #[.slice a n ca] w fun e w' => ∃ a' c', e = .returned (.slice a' (trimL f).length c') ∧ OwI w' w.heap.size 3 a' (trimL f).length c' (trimL f) ∧ Below w.heap.size w w' := by
  have HM := Lib.hid intTy
  have hle := hf.le
  have hmx := hf.max
  have HL := Lib.hid hf.len_eq
  go_enter Try.func47, Try.ntmps47
  go_wp2
  go_loop [3] (fun x => ∃ k : Nat, k ≤ n ∧ x = .int .i64 k ∧ Hid (trimN f n = trimN f k)) (fun x => (intOf x).toNat)
  case atStart => exact ⟨n, Nat.le_refl _, rfl, rfl⟩
  case round =>
    obtain ⟨k, hk, rfl, hT⟩ := hrel
    have fin : ∀ _ : trimN f k = k, Hid (trimL f = f.take k ∧ (trimL f).length = k) := fun e => by
      have e1 : trimN f f.length = k := by rw [HL.out, hT.out, e]
      exact ⟨by unfold trimL; rw [e1], by rw [trimL_len, e1]⟩
    by_cases h0 : 0 < k
    · obtain ⟨q, rfl⟩ : ∃ q, k = q + 1 := ⟨k - 1, by omega⟩
      obtain ⟨bf, of_, rfl, _, hc⟩ := hf.at (k := q) (by omega)
      have y1 := hc q (by omega)
      have t1 : ((q + 1 : Nat) : Int) - 1 = (q : Int) := by omega
      have t2 : (((q : Nat) : Int) + 1) - 1 = (q : Int) := by omega
      have i1 : (q : Int) < (n : Int) := by omega
      have i2 : (0 : Int) < ((q + 1 : Nat) : Int) := by omega
      clear hc
      by_cases hz : ix f q = 0
      · have z : (ix f q == 0) = true := beq_iff_eq.2 hz
        have HN : Hid (trimN f n = trimN f q) := by unfold Hid; rw [hT.out, trimN, if_pos hz]
        clear hz fin
        go_wp2
        go_round
        case rel => exact ⟨q, by omega, by go_num, HN.out⟩
        case measure => simp [intOf]
      · have z : (ix f q == 0) = false := beq_eq_false_iff_ne.2 hz
        have HF := fin (by rw [trimN, if_neg hz])
        have hrt := hf.take (n := q + 1) hk
        have i3 : ((q + 1 : Nat) : Int) ≤ (n : Int) := by omega
        have i4 : ((q + 1 : Nat) : Int) ≤ (ca : Int) := by omega
        clear hz fin
        go_wp2_with (first | (at_builtin; refine wpList_append_ints HM.out rfl (.const (.slice none 0 0)) (.tmp 20) rfl rfl rfl (OwI.nil w w.heap.size _) hrt (by omega) (Nat.le_refl _) ?_; intro a3 cap3 w3 ho3 hg3; have hb3 := below_of_grown hg3))
        go_ret
        rw [Nat.zero_add, List.nil_append] at ho3
        exact ⟨a3, cap3, by rw [HF.out.2]; rfl, by rw [HF.out.2, HF.out.1]; exact ho3, hb3⟩
    · obtain rfl : k = 0 := by omega
      have HF := fin rfl
      have hrt := hf.take (n := 0) hk
      have i4 : (0 : Int) ≤ (ca : Int) := by omega
      clear fin
      go_wp2_with (first | (at_builtin; refine wpList_append_ints HM.out rfl (.const (.slice none 0 0)) (.tmp 20) rfl rfl rfl (OwI.nil w w.heap.size _) hrt (by omega) (Nat.le_refl _) ?_; intro a3 cap3 w3 ho3 hg3; have hb3 := below_of_grown hg3))
      go_ret
      rw [Nat.zero_add, List.nil_append] at ho3
      exact ⟨a3, cap3, by rw [HF.out.2]; rfl, by rw [HF.out.2, HF.out.1]; exact ho3, hb3⟩

/-- The product's numbers while it is made: the first i rows, and of the next one the first k places. -/
def mulPart (f g : List Int) (i k q : Nat) : Int := (convF (ix f) (ix g) i g.length q + (if i ≤ q ∧ q < i + k then ix f i * ix g (q - i) else 0)) % 9973

set_option maxHeartbeats 4000000 in
set_option maxRecDepth 100000 in
theorem poly_Mul_ok (hf : RdI w a n ca f) (hi : In 0 9972 f) (hn : n ≤ 12) (hg : RdI w b m cb g) (hj : In 0 9972 g) (hm : m ≤ 12) (hnm : 1 ≤ n + m) :
    Calls Try.prog 15 #[.slice a n ca, .slice b m cb] w fun e w' => ∃ a' c', e = .returned (.tuple #[.slice a' (mulL f g).length c', .nilIface]) ∧ OwI w' w.heap.size 3 a' (mulL f g).length c' (mulL f g) ∧ Below w.heap.size w w' := by
  have HM := Lib.hid intTy
  have HLF := Lib.hid hf.len_eq
  have HLG := Lib.hid hg.len_eq
  have HIF := Lib.hid hi
  have HIG := Lib.hid hj
  have C0 := Lib.hid (poly_both_ok hf hi hn hg hj hm)
  obtain ⟨N, hN⟩ : ∃ N, N = n + m := ⟨_, rfl⟩
  have eN : (n : Int) + (m : Int) = (N : Int) := by omega
  have HN := Lib.hid hN
  have hN24 : N ≤ 24 := by omega
  have hN1 : 1 ≤ N := by omega
  clear hi hj hN
  go_enter Try.func15, Try.ntmps15
  go_wp2_with (first | (go_at_call 46; (with_reducible refine C0.out.mono ?_); clear C0; rintro e w1 ⟨rfl, k1⟩) | (refine wpList_make_ints HM.out rfl (.tmp 22) (.tmp 22) (n := N) rfl rfl rfl (by omega) ?_; intro w2 ho2 hb2))
  clear eN
  have S0 : Hid (∀ q, q < N → ix (List.replicate N (0 : Int)) q = mulPart f g 0 0 q) := fun q hq => by
    unfold mulPart convF
    rw [sumTo, if_neg (by omega), ix_lt (by simpa using hq)]
    simp
  have k2 := below_tr k1 hb2
  obtain ⟨gO, hz, hgO, _, _, _⟩ := ho2.at (by omega)
  cases hz
  have hs1 := k1.size
  clear hb2
  go_wp2_with fail
  go_loopw [26] (fun x wt => ∃ (i : Nat) (P : List Int), i ≤ n ∧ x = .int .i64 i ∧ OwI wt w1.heap.size 3 (some ⟨w1.heap.size, 0, none⟩) N N P ∧ Hid (∀ q, q < N → ix P q = mulPart f g i 0 q) ∧ Below w.heap.size w wt) (fun x _ => n - (intOf x).toNat)
  case atStart => exact ⟨0, _, Nat.zero_le _, rfl, ho2, S0, k2⟩
  case round =>
    clear ho2 S0 k2
    obtain ⟨i, P, hin, rfl, hO, hP, hb⟩ := hrel
    by_cases hlt : i < n
    · have i1 : (i : Int) < (n : Int) := by omega
      obtain ⟨bf, of_, rfl, hbf, hcf⟩ := hf.at hlt
      have y1 := hb.keep hbf (hcf i hlt)
      have bX := HIF.out i (by rw [HLF.out]; exact hlt)
      obtain ⟨X, hX⟩ : ∃ X, ix f i = X := ⟨_, rfl⟩
      rw [hX] at y1 bX
      have HX := Lib.hid hX
      clear hX hcf
      go_wp2_with fail
      go_loopw [33] (fun x wt => ∃ (k : Nat) (P : List Int), k ≤ m ∧ x = .int .i64 k ∧ OwI wt w1.heap.size 3 (some ⟨w1.heap.size, 0, none⟩) N N P ∧ Hid (∀ q, q < N → ix P q = mulPart f g i k q) ∧ Below w.heap.size w wt) (fun x _ => m - (intOf x).toNat)
      case atStart => exact ⟨0, P, Nat.zero_le _, rfl, hO, hP, hb⟩
      case round =>
        clear hO hP hb y1
        obtain ⟨k, P, hkm, rfl, hO, hP, hb⟩ := hrel
        by_cases hlk : k < m
        · have i2 : (k : Int) < (m : Int) := by omega
          obtain ⟨bg, og, rfl, hbg, hcg⟩ := hg.at hlk
          have y2 := hb.keep hbg (hcg k hlk)
          have bY := HIG.out k (by rw [HLG.out]; exact hlk)
          obtain ⟨Y, hY⟩ : ∃ Y, ix g k = Y := ⟨_, rfl⟩
          rw [hY] at y2 bY
          obtain ⟨gz, hz, hgz, _, hcO, hfO⟩ := hO.at (by omega)
          cases hz
          have x1 := hcO (i + k) (by have := HN.out; omega)
          have f1 := hfO (i + k)
          obtain ⟨S, hS⟩ : ∃ S, ix P (i + k) = S := ⟨_, rfl⟩
          have bS : 0 ≤ S ∧ S ≤ 9972 := by rw [← hS, hP.out _ (by have := HN.out; omega)]; unfold mulPart; omega
          rw [hS] at x1
          have bm := mul_bd bX bY
          have u1 : IntKind.i64.wrap (X * Y) = X * Y := Go.IntWalk.i64_in _ (by omega)
          have u2 : IntKind.i64.wrap (S + X * Y) = S + X * Y := Go.IntWalk.i64_in _ (by omega)
          have u3 : (S + X * Y).tmod 9973 = (S + X * Y) % 9973 := Int.tmod_eq_emod_of_nonneg (by omega)
          have t1 : ((i : Int) + (k : Int)).toNat = i + k := by omega
          have i3 : (0 : Int) ≤ (i : Int) + (k : Int) := by omega
          have i4 : (i : Int) + (k : Int) < (N : Int) := by have := HN.out; omega
          have HV : Hid ((S + X * Y) % 9973 = (convF (ix f) (ix g) i m (i + k) + ix f i * ix g k) % 9973) := by
            unfold Hid
            rw [← hS, hP.out _ (by have := HN.out; omega)]
            unfold mulPart
            rw [if_neg (by omega), Int.add_zero, HLG.out, HX.out, hY, Int.emod_add_emod]
          have hO2 := hO.set (k := i + k) ((S + X * Y) % 9973)
          have hb2 := hb.setCell (p := ⟨w1.heap.size, i + k, none⟩) hs1 (.int .i64 ((S + X * Y) % 9973))
          clear hS hY hcO hfO hcg
          go_wp2
          go_roundw
          case rel => exact ⟨k + 1, _, by omega, by go_num, hO2, fun q hq => by
            rw [ix_set, hO.len_eq]
            by_cases e : i + k = q
            · subst e
              rw [if_pos ⟨rfl, hq⟩, HV.out]
              unfold mulPart
              rw [if_pos (by omega), HLG.out, Nat.add_sub_cancel_left]
            · rw [if_neg fun h => e h.1, hP.out q hq]
              unfold mulPart
              by_cases e2 : i ≤ q ∧ q < i + k
              · rw [if_pos e2, if_pos (by omega)]
              · rw [if_neg e2, if_neg (by omega)], hb2⟩
          case measure => simp [intOf]; omega
        · obtain rfl : m = k := by omega
          go_wp2
          go_roundw
          case rel => exact ⟨i + 1, P, by omega, by go_num, hO, fun q hq => by
            rw [hP.out q hq]
            unfold mulPart convF
            rw [sumTo, HLG.out]
            by_cases e2 : i ≤ q ∧ q < i + m
            · rw [if_pos e2, if_neg (by omega), Int.add_zero]
            · rw [if_neg e2, if_neg (by omega), Int.add_zero, Int.add_zero], hb⟩
          case measure => simp [intOf]; omega
    · obtain rfl : n = i := by omega
      have hE : Hid (P = convL f g) := by
        refine ix_ext (by rw [hO.len_eq, convL_len, HLF.out, HLG.out, HN.out]) fun q hq => ?_
        rw [hO.len_eq] at hq
        rw [hP.out q hq]
        unfold mulPart convL
        rw [rowF_ix (by rw [HLF.out, HLG.out, ← HN.out]; exact hq), if_neg (by omega), Int.add_zero, HLF.out]
      have hTr := hO.rd
      rw [hE.out] at hTr
      clear hO hP
      go_wp2_with (go_at_call 47; fail)
      refine (poly_trim_any hTr (by omega)).mono ?_
      rintro e w5 ⟨a5, c5, rfl, ho5, b5⟩
      have hsz := hb.size
      go_wp2
      go_ret2
      exact ⟨a5, c5, rfl, ho5.mono hsz, below_tr hb b5⟩

/-- Horner's numbers. -/
def hornV (g : List Int) (x : Int) (n k : Nat) : Int := pv (fun j => ix g (k + j)) (n - k) x % 9973
theorem hornV_step {g : List Int} {x : Int} {n k : Nat} (hk : k + 1 ≤ n) : (hornV g x n (k + 1) * x + ix g k) % 9973 = hornV g x n k := by
  unfold hornV
  rw [show n - k = (n - (k + 1)) + 1 by omega, pv_succ_left, Nat.add_zero]
  have e : pv (fun j => ix g (k + (j + 1))) (n - (k + 1)) x = pv (fun j => ix g (k + 1 + j)) (n - (k + 1)) x := pv_congr (fun j _ => by rw [show k + (j + 1) = k + 1 + j by omega]) x
  rw [e, Int.add_comm]
  refine Eqm.add (Eqm.refl _) ?_
  rw [Int.mul_comm]
  exact (Eqm.refl x).mul (Eqm.mod _)
set_option maxHeartbeats 2000000 in
theorem poly_At_ok {x : Int} (hg : RdI w b m cb g) (hj : In 0 9972 g) (hm : m ≤ 12) (hx : 0 ≤ x ∧ x ≤ 9972) :
    Calls Try.prog 19 #[.slice b m cb, .int .i64 x] w fun e w' => e = .returned (.tuple #[.int .i64 (pv (ix g) m x % 9973), .nilIface]) ∧ w = w' := by
  have HLG := Lib.hid hg.len_eq
  have HIG := Lib.hid hj
  have C0 := Lib.hid (poly_Check_ok hg hj hm)
  have HO : Hid (outB x 0 9972 = false) := by unfold Hid outB; simp; omega
  clear hj
  go_enter Try.func19, Try.ntmps19
  go_wp2_with (first | (go_at_call 49; (with_reducible refine C0.out.mono ?_); clear C0; rintro e w1 ⟨rfl, rfl⟩) | (go_at_call 50; refine (out_any _ _ _ _).mono ?_; rintro e w' ⟨rfl, rfl⟩; rw [HO.out]))
  go_loop [7, 8] (fun v y => ∃ (z : Int) (k : Nat) (o : Int), y = .int .i64 z ∧ z + 1 = k ∧ k ≤ m ∧ v = .int .i64 o ∧ Hid (o = hornV g x m k)) (fun _ y => (intOf y + 1).toNat)
  case atStart => exact ⟨(m : Int) - 1, m, 0, rfl, by omega, Nat.le_refl _, rfl, by unfold Hid hornV; rw [Nat.sub_self]; rfl⟩
  case round =>
    obtain ⟨z, k, o, rfl, hz, hk, rfl, hH⟩ := hrel
    have bo : 0 ≤ o ∧ o ≤ 9972 := by rw [hH.out]; unfold hornV; omega
    by_cases h0 : 0 < k
    · obtain ⟨q, rfl⟩ : ∃ q, k = q + 1 := ⟨k - 1, by omega⟩
      obtain rfl : z = (q : Int) := by omega
      obtain ⟨bg, og, rfl, _, hc⟩ := hg.at (k := q) (by omega)
      have y1 := hc q (by omega)
      have bY := HIG.out q (by rw [HLG.out]; omega)
      have HS := Lib.hid (hornV_step (g := g) (x := x) (n := m) (k := q) hk)
      obtain ⟨Y, hY⟩ : ∃ Y, ix g q = Y := ⟨_, rfl⟩
      rw [hY] at y1 bY HS
      rw [← hH.out] at HS
      have bm := mul_bd bo hx
      have u1 : IntKind.i64.wrap (o * x) = o * x := Go.IntWalk.i64_in _ (by omega)
      have u2 : IntKind.i64.wrap (o * x + Y) = o * x + Y := Go.IntWalk.i64_in _ (by omega)
      have u3 : (o * x + Y).tmod 9973 = (o * x + Y) % 9973 := Int.tmod_eq_emod_of_nonneg (by omega)
      have i1 : (q : Int) < (m : Int) := by omega
      clear hc hY hz
      go_wp2
      go_round
      case rel => exact ⟨(q : Int) - 1, q, (o * x + Y) % 9973, by go_num, by omega, by omega, rfl, HS.out⟩
      case measure => simp [intOf]
    · obtain rfl : k = 0 := by omega
      obtain rfl : z = -1 := by omega
      have HS : Hid (o = pv (ix g) m x % 9973) := by
        unfold Hid
        rw [hH.out]
        unfold hornV
        rw [Nat.sub_zero]
        congr 2
        funext j
        rw [Nat.zero_add]
      go_wp2
      go_ret2
      exact ⟨by rw [← HS.out]; rfl, rfl⟩
end
end Go.Proofs.Ytoahegjjffggaaa
namespace Go.Proofs.Ytoahegjjffggaaa
open Go.RowKit Go.Rk

theorem low_nz {l : List Int} {k : Nat} (h : In 0 9972 l) (hk : k < l.length) (h0 : ix l k ≠ 0) : ix l k % 9973 ≠ 0 := by
  have := h k hk
  omega

section
variable {f g h : List Int}
/-- The product, and what is wrong with it beside h. -/
theorem prod_two (tf : twoR f h = none) (tg : twoR g h = none) : (mulL f g).length + 1 = f.length + g.length ∧ (twoR (mulL f g) h = none ↔ (mulL f g).length + h.length ≤ 7) ∧ resV (mulL f g) h = resV f h * resV g h % 9973 := by
  obtain ⟨f1, f2, f3, f4, f5, f6, f7, f8⟩ := twoR_none tf
  obtain ⟨g1, _, g3, _, g5, _, g7, g8⟩ := twoR_none tg
  obtain ⟨a, ha⟩ : ∃ a, f.length = a + 1 := ⟨f.length - 1, by omega⟩
  obtain ⟨b, hb⟩ : ∃ b, g.length = b + 1 := ⟨g.length - 1, by omega⟩
  obtain ⟨m, hm⟩ : ∃ m, h.length = m + 1 := ⟨h.length - 1, by omega⟩
  rw [show f.length - 1 = a by omega] at f5
  rw [show g.length - 1 = b by omega] at g5
  rw [show h.length - 1 = m by omega] at f6
  have L := mulL_len ha hb (low_nz f3 (by omega) f5) (low_nz g3 (by omega) g5)
  have R := res_mul ha hb hm L.1 (low_nz f4 (by omega) f6) (by omega) (by omega) fun q hq => by
    have := mulL_ix (f := f) (g := g) (q := q) (by omega)
    rw [ha, hb] at this
    exact this
  refine ⟨by rw [L.1]; omega, ⟨fun t => ?_, fun t => ?_⟩, ?_⟩
  · obtain ⟨_, _, _, _, _, _, _, t8⟩ := twoR_none t
    exact t8
  · exact twoR_of (by omega) f2 (mulL_in f g) f4 (by rw [show (mulL f g).length - 1 = a + b by omega]; exact L.2.2) (by rw [show h.length - 1 = m by omega]; exact f6) (by omega) t
  · unfold resV
    rw [show (mulL f g).length + h.length - 2 = a + b + m by omega, show f.length + h.length - 2 = a + m by omega, show g.length + h.length - 2 = b + m by omega]
    exact R.trans ((Eqm.mod _).mul (Eqm.mod _)).symm
end

section
variable {a b d : Option Addr} {p q r ca cb cd : Nat} {f g h : List Int} {w : World}
set_option maxHeartbeats 4000000 in
set_option maxRecDepth 100000 in
theorem resultProduct_ok (hf : RdI w a p ca f) (hg : RdI w b q cb g) (hh : RdI w d r cd h) (tf : twoR f h = none) (tg : twoR g h = none) :
    Calls Try.prog 3 #[.slice a p ca, .slice b q cb, .slice d r cd] w fun e w' => e = .returned (.bool true) ∧ Below w.heap.size w w' := by
  obtain ⟨f1, f2, f3, f4, f5, f6, f7, f8⟩ := twoR_none tf
  obtain ⟨g1, _, g3, _, g5, _, g7, g8⟩ := twoR_none tg
  obtain ⟨P1, P2, P3⟩ := prod_two tf tg
  have e1 := hf.len_eq
  have e2 := hg.len_eq
  have e3 := hh.len_eq
  have CF := fun (w' : World) (k : Below w.heap.size w w') => result_Of_ok (hf.below k) (hh.below k) tf
  have CG := fun (w' : World) (k : Below w.heap.size w w') => result_Of_ok (hg.below k) (hh.below k) tg
  have IF := Lib.hid f3
  have IG := Lib.hid g3
  have ba := resV_in f h
  have bb := resV_in g h
  obtain ⟨A, hA⟩ : ∃ A, A = resV f h := ⟨_, rfl⟩
  obtain ⟨B, hB⟩ : ∃ B, B = resV g h := ⟨_, rfl⟩
  rw [← hA] at CF ba P3
  rw [← hB] at CG bb P3
  have CF := Lib.hid CF
  have CG := Lib.hid CG
  have HP3 := Lib.hid P3
  have HP2 := Lib.hid P2
  obtain ⟨s, hs⟩ : ∃ s, s = (mulL f g).length := ⟨_, rfl⟩
  have HS := Lib.hid hs
  have bm := mul_bd ba bb
  have CI := fun (x : Int) (hx : 0 ≤ x ∧ x ≤ 9972) (w' : World) => L3_in_any x 0 9972 w'
  have iA : Hid (inB A 0 9972 = true) := by unfold Hid inB; simp; omega
  have iB : Hid (inB B 0 9972 = true) := by unfold Hid inB; simp; omega
  have s1 : s + 1 = p + q := by omega
  have p6 : p ≤ 6 ∧ 1 ≤ p := by omega
  have q6 : q ≤ 6 ∧ 1 ≤ q := by omega
  have r6 : r ≤ 6 ∧ 1 ≤ r := by omega
  have E3 := Lib.hid e3
  clear hA hB hs P1 P2 P3 e1 e2 e3 f1 f2 f3 f4 f5 f6 f7 f8 g1 g3 g5 g7 g8 CI
  have S1 : s ≤ 11 ∧ 1 ≤ s := by omega
  clear s1
  go_enter Try.func3, Try.ntmps3
  go_wp2_with (first | (go_at_call 13; refine (resultFact_any _).mono ?_; rintro e w1 ⟨rfl, kk⟩) | (go_at_call 14; fail))
  (with_reducible refine (CF.out _ kk).mono ?_)
  rintro e w2 ⟨rfl, b2⟩
  replace kk := below_tr kk b2
  clear b2
  go_wp2_with (go_at_call 14; fail)
  (with_reducible refine (CG.out _ kk).mono ?_)
  rintro e w3 ⟨rfl, b3⟩
  replace kk := below_tr kk b3
  clear b3 CF CG
  go_wp2_with (go_at_call 15; fail)
  refine (poly_Mul_ok (hf.below kk) IF.out (by omega) (hg.below kk) IG.out (by omega) (by omega)).mono ?_
  rintro e w4 ⟨aP, cP, rfl, hP, b4⟩
  rw [← HS.out] at hP ⊢
  replace kk := below_tr kk b4
  have hP1 := hP.rd
  clear b4 hP
  go_wp2_with (go_at_call 14; fail)
  by_cases h7 : s + r ≤ 7
  · have C := result_Of_ok hP1 (hh.below kk) (HP2.out.2 (by rw [← HS.out, E3.out]; exact h7))
    rw [HP3.out] at C
    have C := Lib.hid C
    (with_reducible refine C.out.mono ?_)
    rintro e w5 ⟨rfl, b5⟩
    replace kk := below_tr kk b5
    clear C b5
    have z : (A * B % 9973 == A * B % 9973) = true := beq_iff_eq.2 rfl
    have u1 : IntKind.i64.wrap (A * B) = A * B := Go.IntWalk.i64_in _ (by omega)
    go_wp2_with (first
      | (go_at_call 16; refine (L3_in_any _ _ _ _).mono ?_; rintro e w' ⟨rfl, rfl⟩; first | rw [iA.out] | rw [iB.out])
      | (go_at_call 17; refine (R_Mod_any _ _ (by omega) (by omega)).mono ?_; rintro e w' ⟨rfl, rfl⟩))
    go_ret
    exact ⟨rfl, kk⟩
  · rcases ht : twoR (mulL f g) h with _ | c
    · exact absurd (HP2.out.1 ht) (by rw [← HS.out, E3.out]; exact h7)
    · refine (result_Of_err hP1 (hh.below kk) ht).mono ?_
      rintro e w5 ⟨rfl, rfl⟩
      clear ht
      have i5 : (5 : Int) < (s : Int) + (r : Int) - 2 := by omega
      have i6 : (7 : Int) < (s : Int) + (r : Int) := by omega
      go_wp2
      go_ret
      exact ⟨rfl, kk⟩
set_option maxHeartbeats 4000000 in
theorem resultProduct_walk (hf : RdI w a p ca f) (_ : Fit f) (hg : RdI w b q cb g) (_ : Fit g) (hh : RdI w d r cd h) (_ : Fit h) :
    Calls Try.prog 3 #[.slice a p ca, .slice b q cb, .slice d r cd] w fun e w' => e = .returned (.bool true) ∧ Below w.heap.size w w' := by
  rcases tf : twoR f h with _ | x
  · rcases tg : twoR g h with _ | y
    · exact resultProduct_ok hf hg hh tf tg
    · have CF := Lib.hid fun (w' : World) (k : Below w.heap.size w w') => result_Of_ok (hf.below k) (hh.below k) tf
      have CG := Lib.hid fun (w' : World) (k : Below w.heap.size w w') => result_Of_err (hg.below k) (hh.below k) tg
      clear tf tg
      go_enter Try.func3, Try.ntmps3
      go_wp2_with (first | (go_at_call 13; refine (resultFact_any _).mono ?_; rintro e w1 ⟨rfl, kk⟩) | (go_at_call 14; fail))
      (with_reducible refine (CF.out _ kk).mono ?_)
      rintro e w2 ⟨rfl, b2⟩
      replace kk := below_tr kk b2
      clear b2
      go_wp2_with (go_at_call 14; fail)
      (with_reducible refine (CG.out _ kk).mono ?_)
      rintro e w3 ⟨rfl, rfl⟩
      go_wp2
      go_ret
      exact ⟨rfl, kk⟩
  · have CF := Lib.hid fun (w' : World) (k : Below w.heap.size w w') => result_Of_err (hf.below k) (hh.below k) tf
    clear tf
    go_enter Try.func3, Try.ntmps3
    go_wp2_with (first | (go_at_call 13; refine (resultFact_any _).mono ?_; rintro e w1 ⟨rfl, kk⟩) | (go_at_call 14; fail))
    (with_reducible refine (CF.out _ kk).mono ?_)
    rintro e w2 ⟨rfl, rfl⟩
    go_wp2_with (go_at_call 14; fail)
    rcases tg : twoR g h with _ | y
    · refine (result_Of_ok (hg.below kk) (hh.below kk) tg).mono ?_
      rintro e w3 ⟨rfl, b3⟩
      replace kk := below_tr kk b3
      clear b3 tg
      go_wp2
      go_ret
      exact ⟨rfl, kk⟩
    · refine (result_Of_err (hg.below kk) (hh.below kk) tg).mono ?_
      rintro e w3 ⟨rfl, rfl⟩
      clear tg
      go_wp2
      go_ret
      exact ⟨rfl, kk⟩
end
end Go.Proofs.Ytoahegjjffggaaa
