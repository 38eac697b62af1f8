/-
  Polynomials as functions of an integer: their factors, and the determinant of a matrix whose numbers are of the first power. Plain Lean, no program in sight.
-/
import Derived.Test.YtfocfgddlnjfmaaSum
import Derived.Test.YtfocfgddlnjfmaaDet
import Derived.Test.YtfocfgddlnjfmaaDetMore
namespace Go.Rk

/-- What factors come to. -/
def pv (c : Nat → Int) (d : Nat) (x : Int) : Int := sumTo (fun k => c k * x ^ k) d

theorem pv_succ_left (c : Nat → Int) (d : Nat) (x : Int) : pv c (d + 1) x = c 0 + x * pv (fun k => c (k + 1)) d x := by
  unfold pv
  rw [sumTo_succ_left, Int.pow_zero, Int.mul_one, ← sumTo_mul]
  congr 1
  exact sumTo_congr fun k _ => by rw [Int.pow_succ]; grind
theorem pv_congr {c e : Nat → Int} {d : Nat} (h : ∀ k, k < d → c k = e k) (x : Int) : pv c d x = pv e d x := sumTo_congr fun k hk => by rw [h k hk]
theorem pv_add (c e : Nat → Int) (d : Nat) (x : Int) : pv (fun k => c k + e k) d x = pv c d x + pv e d x := by
  unfold pv
  rw [← sumTo_add]
  exact sumTo_congr fun k _ => Int.add_mul _ _ _
theorem pv_mul (a : Int) (c : Nat → Int) (d : Nat) (x : Int) : pv (fun k => a * c k) d x = a * pv c d x := by
  unfold pv
  rw [← sumTo_mul]
  exact sumTo_congr fun k _ => Int.mul_assoc _ _ _
theorem pv_zero_at (c : Nat → Int) (d : Nat) : pv c (d + 1) 0 = c 0 := by rw [pv_succ_left, Int.zero_mul, Int.add_zero]
/-- A factor of 0 more. -/
theorem pv_more (c : Nat → Int) {d e : Nat} (h : d ≤ e) (x : Int) : pv (fun k => if k < d then c k else 0) e x = pv c d x := by
  obtain ⟨t, rfl⟩ : ∃ t, e = d + t := ⟨e - d, by omega⟩
  induction t with
  | zero => exact pv_congr (fun k hk => if_pos (by omega)) x
  | succ t ih =>
    have := ih (by omega)
    unfold pv at this ⊢
    rw [← Nat.add_assoc, sumTo, this]
    show _ + (if d + t < d then c (d + t) else 0) * _ = _
    rw [if_neg (by omega), Int.zero_mul, Int.add_zero]

/-- Factors that come to 0 from some number on are 0. -/
theorem pv_null {c : Nat → Int} {d : Nat} (N : Int) (h : ∀ x, N ≤ x → pv c d x = 0) : ∀ k, k < d → c k = 0 := by
  induction d generalizing c N with
  | zero => intro k hk; exact absurd hk (Nat.not_lt_zero _)
  | succ d ih =>
    have h0 : c 0 = 0 := by
      have := h (max N (c 0).natAbs + 1) (by omega)
      rw [pv_succ_left] at this
      generalize hx : max N (c 0).natAbs + 1 = x at this
      have hd : x ∣ c 0 := ⟨-pv (fun k => c (k + 1)) d x, by rw [Int.mul_neg]; omega⟩
      exact Int.eq_zero_of_dvd_of_natAbs_lt_natAbs hd (by omega)
    intro k hk
    rcases k with _ | k
    · exact h0
    · refine ih (c := fun k => c (k + 1)) (max N 1) (fun x hx => ?_) k (by omega)
      have := h x (by omega)
      rw [pv_succ_left, h0, Int.zero_add] at this
      rcases Int.mul_eq_zero.1 this with e | e
      · omega
      · exact e
theorem pv_same {c e : Nat → Int} {d : Nat} (N : Int) (h : ∀ x, N ≤ x → pv c d x = pv e d x) : ∀ k, k < d → c k = e k := by
  intro k hk
  have := pv_null (c := fun k => c k + -1 * e k) N (fun x hx => by rw [pv_add, pv_mul, h x hx]; omega) k hk
  omega

/-- A polynomial of that power or less, whose factor there is l. -/
def DL (d : Nat) (l : Int) (f : Int → Int) : Prop := ∃ c : Nat → Int, c d = l ∧ ∀ x, f x = pv c (d + 1) x
def DF (d : Nat) (f : Int → Int) : Prop := ∃ c : Nat → Int, ∀ x, f x = pv c (d + 1) x

theorem DL.df {d : Nat} {l : Int} {f : Int → Int} (h : DL d l f) : DF d f := let ⟨c, _, e⟩ := h; ⟨c, e⟩
theorem DF.dl {d : Nat} {f : Int → Int} (h : DF d f) : ∃ l, DL d l f := let ⟨c, e⟩ := h; ⟨c d, c, rfl, e⟩
theorem DL.congr {d : Nat} {l : Int} {f g : Int → Int} (h : DL d l f) (e : ∀ x, f x = g x) : DL d l g := let ⟨c, e1, e2⟩ := h; ⟨c, e1, fun x => (e x).symm.trans (e2 x)⟩
theorem DF.congr {d : Nat} {f g : Int → Int} (h : DF d f) (e : ∀ x, f x = g x) : DF d g := let ⟨c, e2⟩ := h; ⟨c, fun x => (e x).symm.trans (e2 x)⟩
theorem DL.const (a : Int) : DL 0 a fun _ => a := ⟨fun _ => a, rfl, fun x => by rw [pv_succ_left]; simp [pv, sumTo]⟩
theorem DL.lin (a b : Int) : DL 1 a fun x => x * a + b := ⟨fun k => if k = 0 then b else a, rfl, fun x => by
  rw [pv_succ_left, pv_succ_left]; simp [pv, sumTo]; omega⟩
theorem DL.add {d : Nat} {l m : Int} {f g : Int → Int} (h : DL d l f) (k : DL d m g) : DL d (l + m) fun x => f x + g x := by
  obtain ⟨c, e1, e2⟩ := h
  obtain ⟨b, e3, e4⟩ := k
  exact ⟨fun k => c k + b k, by rw [← e1, ← e3], fun x => by rw [pv_add, ← e2, ← e4]⟩
theorem DL.smul {d : Nat} {l : Int} {f : Int → Int} (a : Int) (h : DL d l f) : DL d (a * l) fun x => a * f x := by
  obtain ⟨c, e1, e2⟩ := h
  exact ⟨fun k => a * c k, by rw [← e1], fun x => by rw [pv_mul, ← e2]⟩
theorem DL.times {d : Nat} {l : Int} {f : Int → Int} (h : DL d l f) : DL (d + 1) l fun x => x * f x := by
  obtain ⟨c, e1, e2⟩ := h
  refine ⟨fun k => if k = 0 then 0 else c (k - 1), by show (if d + 1 = 0 then 0 else c (d + 1 - 1)) = l; rw [if_neg (by omega)]; exact e1, fun x => ?_⟩
  rw [pv_succ_left, if_pos rfl, Int.zero_add]
  show x * f x = _
  rw [e2]
  congr 1
theorem DL.up {d : Nat} {l : Int} {f : Int → Int} (h : DL d l f) : DL (d + 1) 0 f := by
  obtain ⟨c, e1, e2⟩ := h
  exact ⟨fun k => if k < d + 1 then c k else 0, if_neg (by omega), fun x => by rw [pv_more c (by omega), e2]⟩
theorem DL.zero (d : Nat) : DL d 0 fun _ => 0 := ⟨fun _ => 0, rfl, fun x => by
  unfold pv
  rw [sumTo_congr (h := fun _ => 0) fun k _ => Int.zero_mul _, sumTo_zero]⟩
theorem DL.mul {a b : Nat} {l m : Int} {f g : Int → Int} (h : DL a l f) (k : DL b m g) : DL (a + b) (l * m) fun x => f x * g x := by
  induction a generalizing l f with
  | zero =>
    obtain ⟨c, e1, e2⟩ := h
    rw [Nat.zero_add]
    refine (k.smul l).congr fun x => ?_
    rw [e2, pv_succ_left, e1]
    simp [pv, sumTo]
  | succ a ih =>
    obtain ⟨c, e1, e2⟩ := h
    have h1 : DL a l fun x => pv (fun k => c (k + 1)) (a + 1) x := ⟨fun k => c (k + 1), e1, fun x => rfl⟩
    have h2 := (ih h1).times
    have h3 : DL (a + 1 + b) 0 fun x => c 0 * g x := by
      have : DL b (c 0 * m) fun x => c 0 * g x := k.smul (c 0)
      have up : ∀ t, ∃ l', DL (b + t) l' fun x => c 0 * g x := by
        intro t
        induction t with
        | zero => exact ⟨_, this⟩
        | succ t ih => obtain ⟨l', hl⟩ := ih; exact ⟨0, hl.up⟩
      obtain ⟨l', hl⟩ := up a
      have := hl.up
      rwa [show b + a + 1 = a + 1 + b by omega] at this
    rw [show a + b + 1 = a + 1 + b by omega] at h2
    have h4 := h3.add h2
    rw [Int.zero_add] at h4
    refine h4.congr fun x => ?_
    rw [e2, pv_succ_left c (a + 1) x]
    grind
theorem DL.sum {d : Nat} {l : Nat → Int} {f : Nat → Int → Int} {n : Nat} (h : ∀ i, i < n → DL d (l i) (f i)) : DL d (sumTo l n) fun x => sumTo (fun i => f i x) n := by
  induction n with
  | zero => exact DL.zero d
  | succ n ih => exact (ih fun i hi => h i (by omega)).add (h n (by omega))

theorem DF.ups {d e : Nat} {f : Int → Int} (h : DF d f) (k : d ≤ e) : DF e f := by
  obtain ⟨c, hc⟩ := h
  exact ⟨fun k => if k < d + 1 then c k else 0, fun x => by rw [pv_more c (by omega), hc]⟩
theorem DF.add {d : Nat} {f g : Int → Int} (h : DF d f) (k : DF d g) : DF d fun x => f x + g x := let ⟨_, h⟩ := h.dl; let ⟨_, k⟩ := k.dl; (h.add k).df
theorem DF.smul {d : Nat} {f : Int → Int} (a : Int) (h : DF d f) : DF d fun x => a * f x := let ⟨_, h⟩ := h.dl; (h.smul a).df
theorem DF.mul {a b : Nat} {f g : Int → Int} (h : DF a f) (k : DF b g) : DF (a + b) fun x => f x * g x := let ⟨_, h⟩ := h.dl; let ⟨_, k⟩ := k.dl; (h.mul k).df
theorem DF.const (a : Int) : DF 0 fun _ => a := (DL.const a).df
theorem DF.lin (a b : Int) : DF 1 fun x => x * a + b := (DL.lin a b).df
theorem DF.sum {d : Nat} {f : Nat → Int → Int} {n : Nat} (h : ∀ i, i < n → DF d (f i)) : DF d fun x => sumTo (fun i => f i x) n := by
  induction n with
  | zero => exact (DL.zero d).df
  | succ n ih => exact (ih fun i hi => h i (by omega)).add (h n (by omega))

/-- One that is 0 from some number on is 0. -/
theorem DF.null {d : Nat} {f : Int → Int} (h : DF d f) (N : Int) (z : ∀ x, N ≤ x → f x = 0) (x : Int) : f x = 0 := by
  obtain ⟨c, hc⟩ := h
  have := pv_null (c := c) N (fun y hy => by rw [← hc]; exact z y hy)
  rw [hc, pv_congr (e := fun _ => 0) fun k hk => this k hk]
  unfold pv
  rw [sumTo_congr (h := fun _ => 0) fun k _ => Int.zero_mul _, sumTo_zero]
/-- Two that are the same from some number on. -/
theorem DF.same {d e : Nat} {f g : Int → Int} (h : DF d f) (k : DF e g) (N : Int) (z : ∀ x, N ≤ x → f x = g x) (x : Int) : f x = g x := by
  have h1 := (h.ups (Nat.le_max_left d e)).add ((k.ups (Nat.le_max_right d e)).smul (-1))
  have := h1.null N (fun y hy => by rw [z y hy]; omega) x
  omega
/-- One whose highest factor is not 0 is not 0 from some number on. -/
theorem DL.past {d : Nat} {l : Int} {f : Int → Int} (h : DL d l f) (hl : l ≠ 0) : ∃ N : Int, ∀ x, N ≤ x → f x ≠ 0 := by
  induction d generalizing f with
  | zero =>
    obtain ⟨c, e1, e2⟩ := h
    refine ⟨0, fun x _ => ?_⟩
    rw [e2, pv_succ_left, e1]
    simpa [pv, sumTo] using hl
  | succ d ih =>
    obtain ⟨c, e1, e2⟩ := h
    obtain ⟨N, hN⟩ := ih (f := fun x => pv (fun k => c (k + 1)) (d + 1) x) ⟨fun k => c (k + 1), e1, fun x => rfl⟩
    refine ⟨max N ((c 0).natAbs + 1), fun x hx e => ?_⟩
    rw [e2, pv_succ_left c (d + 1) x] at e
    have h1 := hN x (by omega)
    generalize pv (fun k => c (k + 1)) (d + 1) x = y at e h1
    have hd : x ∣ c 0 := ⟨-y, by rw [Int.mul_neg]; omega⟩
    have h0 := Int.eq_zero_of_dvd_of_natAbs_lt_natAbs hd (by omega)
    rw [h0, Int.zero_add] at e
    rcases Int.mul_eq_zero.1 e with e | e
    · omega
    · exact h1 e
/-- Times one whose highest factor is not 0. -/
theorem DF.cancel {a d e : Nat} {l : Int} {p f g : Int → Int} (hp : DL a l p) (hl : l ≠ 0) (h : DF d f) (k : DF e g) (z : ∀ x, p x * f x = p x * g x) (x : Int) : f x = g x := by
  obtain ⟨N, hN⟩ := hp.past hl
  exact h.same k N (fun y hy => Int.eq_of_mul_eq_mul_left (hN y hy) (z y)) x

/-- A matrix whose numbers are of the first power. -/
def linM (P Q : Mx) (x : Int) : Mx := fun i j => x * P i j + Q i j
theorem det_lin (n : Nat) : ∀ (P Q : Mx), DL n (det n P) fun x => det n (linM P Q x) := by
  induction n with
  | zero => exact fun _ _ => DL.const 1
  | succ n ih =>
    intro P Q
    refine DL.sum (f := fun j x => sg j * linM P Q x 0 j * det n (minor (linM P Q x) 0 j)) fun j _ => ?_
    have h1 := ((DL.lin (P 0 j) (Q 0 j)).smul (sg j)).mul (ih (minor P 0 j) (minor Q 0 j))
    rw [Nat.add_comm 1 n] at h1
    exact h1.congr fun x => rfl
end Go.Rk
