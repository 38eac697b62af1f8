/-
  Steps of a matrix by the prime: how many there are, and that they are one form. No program in sight.
  gauss.clear walked.
  Elimination to steps: what one column's work keeps. No program in sight.
-/
import Derived.Test.YtkielldinghmbaaDoorRows
import Derived.Deep.QuietTactic
import Derived.BigQuiet
import Derived.StillTailTactics
import Derived.Test.YtkielldinghmbaaDoorMg0
import Derived.Test.YtkielldinghmbaaDoorMg1
import Derived.Test.YtkielldinghmbaaDoorMg2
import Derived.Test.YtkielldinghmbaaDoorMg3
import Derived.Test.YtkielldinghmbaaDoorMg4
import Derived.Test.YtkielldinghmbaaDoorMg6
namespace Go.Rk
open Go.RowKit

/-- The rows of B are made of those of A. -/
def Made (n c : Nat) (A B : Mx) : Prop := ∃ K, EqM n c B (mulM n K A)
theorem Made.refl (n c : Nat) (A : Mx) : Made n c A A := ⟨oneM, fun _ _ hi _ => Eqm.of_eq (one_mulM A hi _).symm⟩
theorem Made.trans {n c : Nat} {A B C : Mx} (h : Made n c A B) (g : Made n c B C) : Made n c A C := by
  obtain ⟨K, hK⟩ := h
  obtain ⟨L, hL⟩ := g
  refine ⟨mulM n L K, hL.trans ?_⟩
  rw [mulM_go]
  exact EqM.mul (EqM.refl _ _ _) hK
theorem Made.cols {n c b : Nat} {A B : Mx} (h : Made n c A B) (hb : b ≤ c) : Made n b A B := by
  obtain ⟨K, hK⟩ := h
  exact ⟨K, fun i j hi hj => hK i j hi (by omega)⟩
theorem Made.eqm {n c : Nat} {A B : Mx} (h : EqM n c A B) : Made n c A B := ⟨oneM, h.symm.trans fun _ _ hi _ => Eqm.of_eq (one_mulM A hi _).symm⟩

/-- The product of one with s columns and one with s rows. -/
def Fac (n c s : Nat) (A : Mx) : Prop := ∃ X Y, EqM n c A (mulM s X Y)

theorem sumTo_split (g : Nat → Int) (s t : Nat) : sumTo g (s + t) = sumTo g s + sumTo (fun u => g (s + u)) t := by
  induction t with
  | zero => rw [Nat.add_zero, sumTo]; omega
  | succ t ih => rw [← Nat.add_assoc, sumTo, sumTo, ih]; omega
theorem sumTo_cut {g : Nat → Int} {r n : Nat} (h : r ≤ n) (e : ∀ t, r ≤ t → t < n → Eqm (g t) 0) : Eqm (sumTo g n) (sumTo g r) := by
  obtain ⟨d, rfl⟩ := Nat.le.dest h
  rw [sumTo_split]
  have : Eqm (sumTo (fun u => g (r + u)) d) (sumTo (fun _ => 0) d) := sumTo_eqm fun u hu => e (r + u) (by omega) (by omega)
  rw [sumTo_zero] at this
  have := Eqm.add (Eqm.refl (sumTo g r)) this
  rwa [Int.add_zero] at this

section
variable {n c s t k : Nat} {A B : Mx}
theorem Fac.congr (h : Fac n c s A) (e : EqM n c A B) : Fac n c s B := let ⟨X, Y, hx⟩ := h; ⟨X, Y, e.symm.trans hx⟩
theorem Fac.add (h : Fac n c s A) (g : Fac n c t B) : Fac n c (s + t) (fun i j => A i j + B i j) := by
  obtain ⟨X, Y, hx⟩ := h
  obtain ⟨Z, U, hz⟩ := g
  refine ⟨fun i u => if u < s then X i u else Z i (u - s), fun u j => if u < s then Y u j else U (u - s) j, fun i j hi hj => ?_⟩
  unfold mulM
  rw [sumTo_split]
  refine Eqm.add ((hx i j hi hj).trans (Eqm.of_eq (sumTo_congr fun u hu => by dsimp only; rw [if_pos hu, if_pos hu]))) ((hz i j hi hj).trans (Eqm.of_eq (sumTo_congr fun u _ => by dsimp only; rw [if_neg (by omega), if_neg (by omega), Nat.add_sub_cancel_left])))
theorem Fac.neg (h : Fac n c s A) : Fac n c s (fun i j => -A i j) := by
  obtain ⟨X, Y, hx⟩ := h
  refine ⟨fun i u => -X i u, Y, fun i j hi hj => (Eqm.neg (hx i j hi hj)).trans (Eqm.of_eq ?_)⟩
  unfold mulM
  rw [show -sumTo (fun k => X i k * Y k j) s = (-1) * sumTo (fun k => X i k * Y k j) s by omega, ← sumTo_mul]
  exact sumTo_congr fun u _ => by rw [Int.neg_mul, Int.neg_mul, Int.one_mul]
theorem Fac.mulL (h : Fac n k s A) (B : Mx) : Fac n c s (mulM k A B) := by
  obtain ⟨X, Y, hx⟩ := h
  refine ⟨X, mulM k Y B, (EqM.mul hx (EqM.refl k c B)).trans ?_⟩
  rw [mulM_go]
  exact EqM.refl _ _ _
theorem Fac.mulR (A : Mx) (h : Fac k c s B) : Fac n c s (mulM k A B) := by
  obtain ⟨X, Y, hx⟩ := h
  refine ⟨mulM k A X, Y, (EqM.mul (EqM.refl n k A) hx).trans ?_⟩
  rw [mulM_go]
  exact EqM.refl _ _ _
theorem Fac.tr (h : Fac n c s A) : Fac c n s (trM A) := by
  obtain ⟨X, Y, hx⟩ := h
  refine ⟨trM Y, trM X, fun i j hi hj => (hx j i hj hi).trans (Eqm.of_eq ?_)⟩
  exact congrFun (congrFun (mulM_tr s X Y) i) j
end

/-- Steps: r rows that begin with 1 further and further to the right, each alone in its column; then noughts. -/
structure Stairs (n c r : Nat) (R : Mx) (p : Nat → Nat) : Prop where
  le : r ≤ n
  lt : ∀ i, i < r → p i < c
  inc : ∀ i j, i < j → j < r → p i < p j
  one : ∀ i j, i < n → j < r → Eqm (R i (p j)) (if i = j then 1 else 0)
  low : ∀ i s, r ≤ i → i < n → s < c → Eqm (R i s) 0
  lead : ∀ i s, i < r → s < p i → Eqm (R i s) 0

section
variable {n c r r' s : Nat} {A B R R' : Mx} {p p' : Nat → Nat}
theorem Stairs.fac (h : Stairs n c r R p) (m : Made n c R A) : Fac n c r A := by
  obtain ⟨K, hK⟩ := m
  refine ⟨K, R, fun i j hi hj => (hK i j hi hj).trans ?_⟩
  refine sumTo_cut h.le fun t h1 h2 => ?_
  have := Eqm.mul (Eqm.refl (K i t)) (h.low t j h1 h2 hj)
  rwa [Int.mul_zero] at this

theorem det_narrow {r s : Nat} (hs : s < r) (P Q : Mx) : det r (mulM s P Q) = 0 := by
  have e : det r (mulM s P Q) = det r (mulM r (fun i t => if t < s then P i t else 0) Q) := by
    refine det_congr fun i j _ _ => ?_
    unfold mulM
    obtain ⟨d, rfl⟩ := Nat.le.dest (Nat.le_of_lt hs)
    rw [sumTo_split, sumTo_congr (g := fun u => (if s + u < s then P i (s + u) else 0) * Q (s + u) j) (h := fun _ => 0) fun u _ => by rw [if_neg (by omega), Int.zero_mul], sumTo_zero, Int.add_zero]
    exact sumTo_congr fun u hu => by dsimp only; rw [if_pos hu]
  rw [e, det_mul, ← det_tr, (det_alt r).zero_row _ hs fun c _ => by show (if s < s then _ else (0 : Int)) = 0; rw [if_neg (by omega)]]
  omega

theorem Stairs.no_less (h : Stairs n c r R p) (m : Made n c A R) (f : Fac n c s A) : r ≤ s := by
  rcases Nat.lt_or_ge s r with hs | hs
  · exfalso
    obtain ⟨K, hK⟩ := m
    obtain ⟨X, Y, hx⟩ := f
    have e : EqM n c R (mulM s (mulM n K X) Y) := by
      rw [mulM_go]
      exact hK.trans (EqM.mul (EqM.refl _ _ _) hx)
    have d : Eqm (det r (mulM s (mulM n K X) fun t j => Y t (p j))) (det r idM) := det_eqm fun i j hi hj => by
      have h1 := h.one i j (by have := h.le; omega) hj
      refine (e i (p j) (by have := h.le; omega) (h.lt j hj)).symm.trans (h1.trans (Eqm.of_eq ?_))
      unfold idM unit_
      by_cases e : i = j
      · rw [if_pos e, if_pos e.symm]
      · rw [if_neg e, if_neg fun x => e x.symm]
    rw [det_narrow hs, det_id] at d
    exact absurd d (by unfold Eqm; decide)
  · exact hs

/-- As many steps as the least such product has. -/
theorem Stairs.same_rank (h : Stairs n c r R p) (g : Stairs n c r' R' p') (m : Made n c R R') (m' : Made n c R' R) : r = r' :=
  Nat.le_antisymm (h.no_less m' (g.fac (Made.refl _ _ _))) (g.no_less m (h.fac (Made.refl _ _ _)))

theorem Stairs.cut (h : Stairs n c r R p) {b : Nat} (hb : b ≤ c) : ∃ m, m ≤ r ∧ (∀ i, i < m → p i < b) ∧ (∀ i, m ≤ i → i < r → b ≤ p i) ∧ Stairs n b m R p := by
  have key : ∀ q, q ≤ r → ∃ m, m ≤ q ∧ (∀ i, i < m → p i < b) ∧ (∀ i, m ≤ i → i < q → b ≤ p i) := by
    intro q
    induction q with
    | zero => intro _; exact ⟨0, Nat.le_refl _, fun i hi => absurd hi (Nat.not_lt_zero _), fun i _ hi => absurd hi (Nat.not_lt_zero _)⟩
    | succ q ih =>
      intro hq
      obtain ⟨m, m1, m2, m3⟩ := ih (by omega)
      by_cases e : p q < b
      · refine ⟨q + 1, Nat.le_refl _, fun i hi => ?_, fun i h1 h2 => absurd h1 (by omega)⟩
        rcases Nat.lt_or_ge i q with h1 | h1
        · have := h.inc i q h1 (by omega); omega
        · obtain rfl : i = q := by omega
          exact e
      · refine ⟨m, by omega, m2, fun i h1 h2 => ?_⟩
        rcases Nat.lt_or_ge i q with h3 | h3
        · exact m3 i h1 h3
        · obtain rfl : i = q := by omega
          omega
  obtain ⟨m, m1, m2, m3⟩ := key r (Nat.le_refl _)
  refine ⟨m, m1, m2, m3, Nat.le_trans m1 h.le, m2, fun i j hi hj => h.inc i j hi (by omega), fun i j hi hj => h.one i j hi (by omega), fun i s h1 h2 h3 => ?_, fun i s h1 h2 => h.lead i s (by omega) h2⟩
  rcases Nat.lt_or_ge i r with h4 | h4
  · exact h.lead i s h4 (by have := m3 i h1 h4; omega)
  · exact h.low i s h4 h2 (by omega)

/-- Steps are one form. -/
theorem Stairs.unique (h : Stairs n c r R p) (g : Stairs n c r' R' p') (m : Made n c R R') (m' : Made n c R' R) : r = r' ∧ (∀ i, i < r → p i = p' i) ∧ EqM n c R R' := by
  have er := h.same_rank g m m'
  subst er
  have le : ∀ {R R' : Mx} {p p' : Nat → Nat}, Stairs n c r R p → Stairs n c r R' p' → Made n c R R' → Made n c R' R → ∀ i, i < r → p' i ≤ p i := by
    intro R R' p p' h g m m' i hi
    have hb : p i + 1 ≤ c := h.lt i hi
    obtain ⟨q, q1, q2, q3, q4⟩ := h.cut hb
    obtain ⟨q', q1', q2', q3', q4'⟩ := g.cut hb
    have e := q4.same_rank q4' (m.cols hb) (m'.cols hb)
    subst e
    rcases Nat.lt_or_ge i q with h1 | h1
    · have := q2' i h1; omega
    · have := q3 i h1 hi; omega
  have ep : ∀ i, i < r → p i = p' i := fun i hi => Nat.le_antisymm (le g h m' m i hi) (le h g m m' i hi)
  refine ⟨rfl, ep, fun i j hi hj => ?_⟩
  rcases Nat.lt_or_ge i r with h1 | h1
  · obtain ⟨K, hK⟩ := m
    have kd : ∀ t, t < r → Eqm (K i t) (if i = t then 1 else 0) := fun t ht => by
      have a1 := g.one i t hi ht
      rw [← ep t ht] at a1
      have a2 := hK i (p t) hi (h.lt t ht)
      have a3 : Eqm (mulM n K R i (p t)) (K i t) := by
        refine (sumTo_eqm (h := fun u => (if t = u then 1 else 0) * K i u) fun u hu => ?_).trans (Eqm.of_eq (sumTo_pick (fun u => K i u) (by have := h.le; omega)))
        refine (Eqm.mul (Eqm.refl _) (h.one u t hu ht)).trans (Eqm.of_eq ?_)
        by_cases e : u = t
        · subst e; rw [if_pos rfl]; omega
        · rw [if_neg e, if_neg fun x => e x.symm]; omega
      exact a3.symm.trans (a2.symm.trans a1)
    refine Eqm.symm ((hK i j hi hj).trans ?_)
    refine (sumTo_cut h.le fun t h2 h3 => ?_).trans ?_
    · have := Eqm.mul (Eqm.refl (K i t)) (h.low t j h2 h3 hj)
      rwa [Int.mul_zero] at this
    · refine (sumTo_eqm (h := fun u => (if i = u then 1 else 0) * R u j) fun u hu => Eqm.mul (kd u hu) (Eqm.refl _)).trans (Eqm.of_eq (sumTo_pick (fun u => R u j) h1))
  · exact (h.low i j h1 hi hj).trans (g.low i j h1 hi hj).symm
end

/-- A sum over all, by those that are picked and those that are not. -/
theorem split_sum : ∀ (k r : Nat) (p : Nat → Nat), (∀ i j, i < j → j < r → p i < p j) → (∀ i, i < r → p i < k) → r ≤ k ∧ ∃ q : Nat → Nat, ∀ g : Nat → Int, sumTo g k = sumTo (fun t => g (p t)) r + sumTo (fun u => g (q u)) (k - r) := by
  intro k
  induction k with
  | zero =>
    intro r p _ lt
    rcases r with _ | r
    · exact ⟨Nat.le_refl _, id, fun g => rfl⟩
    · exact absurd (lt 0 (by omega)) (by omega)
  | succ k ih =>
    intro r p inc lt
    by_cases e : ∃ r', r = r' + 1 ∧ p r' = k
    · obtain ⟨r', rfl, e⟩ := e
      obtain ⟨h1, q, hq⟩ := ih r' p (fun i j hi hj => inc i j hi (by omega)) (fun i hi => by have := inc i r' hi (by omega); omega)
      refine ⟨by omega, q, fun g => ?_⟩
      rw [sumTo, hq g, sumTo, e, show k + 1 - (r' + 1) = k - r' by omega]
      omega
    · have lt' : ∀ i, i < r → p i < k := fun i hi => by
        have h1 := lt i hi
        have h2 : p i ≠ k := fun e2 => by
          rcases Nat.lt_or_ge (i + 1) r with h3 | h3
          · have := inc i (i + 1) (by omega) h3
            have := lt (i + 1) h3
            omega
          · exact e ⟨i, by omega, e2⟩
        omega
      obtain ⟨h1, q, hq⟩ := ih r p inc lt'
      refine ⟨by omega, fun u => if u < k - r then q u else k, fun g => ?_⟩
      dsimp only
      rw [sumTo, hq g, show k + 1 - r = (k - r) + 1 by omega, sumTo, if_neg (by omega), sumTo_congr (g := fun u => g (if u < k - r then q u else k)) (h := fun u => g (q u)) fun u hu => by rw [if_pos hu]]
      omega

/-- Sylvester's bound. -/
theorem Stairs.sylvester {n k c r s : Nat} {A B R : Mx} {p : Nat → Nat} (h : Stairs n k r R p) (m : Made n k A R) (f : Fac n c s (mulM k A B)) : r ≤ k ∧ Fac k c (s + (k - r)) B := by
  obtain ⟨hrk, q, hq⟩ := split_sum k r p h.inc h.lt
  refine ⟨hrk, ?_⟩
  obtain ⟨K, hK⟩ := m
  obtain ⟨X, Y, hx⟩ := f
  let S : Mx := fun i t => if i = p t then 1 else 0
  let N : Mx := fun i j => (if i = j then 1 else 0) - mulM r S R i j
  have hN : ∀ i t, i < k → t < r → Eqm (N i (p t)) 0 := fun i t _ ht => by
    have e : Eqm (mulM r S R i (p t)) (if i = p t then 1 else 0) := by
      refine (sumTo_eqm (h := fun u => (if t = u then 1 else 0) * S i u) fun u hu => ?_).trans (Eqm.of_eq (sumTo_pick (fun u => S i u) ht))
      refine (Eqm.mul (Eqm.refl _) (h.one u t (by have := h.le; omega) ht)).trans (Eqm.of_eq ?_)
      by_cases e : u = t
      · subst e; rw [if_pos rfl]; omega
      · rw [if_neg e, if_neg fun x => e x.symm]; omega
    have := Eqm.sub (Eqm.refl (if i = p t then (1 : Int) else 0)) e
    rwa [Int.sub_self] at this
  have f1 : Fac k c s (mulM r S (mulM k R B)) := by
    refine ⟨mulM r S (mulM n K X), Y, ?_⟩
    rw [mulM_go]
    refine EqM.mul (EqM.refl _ _ _) fun i j hi hj => ?_
    have hi' : i < n := by have := h.le; omega
    refine (EqM.mul hK (EqM.refl k c B) i j hi' hj).trans ?_
    rw [mulM_go, mulM_go]
    exact EqM.mul (EqM.refl n n K) hx i j hi' hj
  have f2 : Fac k c (k - r) (mulM k N B) := by
    refine ⟨fun i u => N i (q u), fun u j => B (q u) j, fun i j hi _ => ?_⟩
    unfold mulM
    rw [hq fun t => N i t * B t j]
    have : Eqm (sumTo (fun t => N i (p t) * B (p t) j) r) (sumTo (fun _ => 0) r) := sumTo_eqm fun t ht => by
      have := Eqm.mul (hN i t hi ht) (Eqm.refl (B (p t) j))
      rwa [Int.zero_mul] at this
    rw [sumTo_zero] at this
    have := Eqm.add this (Eqm.refl (sumTo (fun u => N i (q u) * B (q u) j) (k - r)))
    rwa [Int.zero_add] at this
  refine (f1.add f2).congr fun i j hi _ => Eqm.of_eq ?_
  rw [← mulM_go]
  show sumTo (fun t => mulM r S R i t * B t j) k + sumTo (fun t => N i t * B t j) k = B i j
  rw [← sumTo_add, sumTo_congr (h := fun t => (if i = t then 1 else 0) * B t j) fun t _ => ?_]
  · exact sumTo_pick (fun t => B t j) hi
  · show mulM r S R i t * B t j + ((if i = t then 1 else 0) - mulM r S R i t) * B t j = _
    rw [← Int.add_mul]
    congr 1
    omega

/-- A square matrix has as many steps as rows just if its determinant is not 0 by the prime. -/
theorem Stairs.full {n r : Nat} {A R : Mx} {p : Nat → Nat} (h : Stairs n n r R p) (m : Made n n A R) (m' : Made n n R A) : r = n ↔ ¬ Eqm (det n A) 0 := by
  constructor
  · rintro rfl hd
    obtain ⟨K, hK⟩ := m
    have hp : ∀ d i, i + d = r → i < r → p i + d ≤ r := by
      intro d
      induction d with
      | zero => intro i h1 h2; omega
      | succ d ih =>
        intro i h1 h2
        rcases Nat.lt_or_ge (i + 1) r with h3 | h3
        · have := ih (i + 1) (by omega) h3
          have := h.inc i (i + 1) (by omega) h3
          omega
        · have := h.lt i h2; omega
    have hp2 : ∀ i, i < r → i ≤ p i := by
      intro i
      induction i with
      | zero => intro _; omega
      | succ i ih =>
        intro hi
        have := ih (by omega)
        have := h.inc i (i + 1) (by omega) hi
        omega
    have hpi : ∀ i, i < r → p i = i := fun i hi => by
      have := hp (r - i) i (by omega) hi
      have := hp2 i hi
      omega
    have d1 : Eqm (det r R) (det r idM) := det_eqm fun i j hi hj => by
      have := h.one i j hi hj
      rw [hpi j hj] at this
      refine this.trans (Eqm.of_eq ?_)
      unfold idM unit_
      by_cases e : i = j
      · rw [if_pos e, if_pos e.symm]
      · rw [if_neg e, if_neg fun x => e x.symm]
    have d2 : Eqm (det r R) (det r K * det r A) := by rw [← det_mul]; exact det_eqm hK
    have d3 := Eqm.mul (Eqm.refl (det r K)) hd
    rw [Int.mul_zero] at d3
    have := d1.symm.trans (d2.trans d3)
    rw [det_id] at this
    exact absurd this (by unfold Eqm; decide)
  · intro hd
    rcases Nat.lt_or_ge r n with h1 | h1
    · exfalso
      obtain ⟨X, Y, hx⟩ := h.fac m'
      refine hd ((det_eqm hx).trans ?_)
      rw [det_narrow h1]
      exact Eqm.refl _
    · have := h.le; omega

/-- What can be undone: the rows come back. -/
theorem Made.undo {n c : Nat} {K A : Mx} (hd : ¬ Eqm (det n K) 0) : Made n c (mulM n K A) A := by
  have h0 : det n K % 9973 ≠ 0 := fun e => hd (by unfold Eqm; rw [e]; rfl)
  have ho := over_mul (a := det n K % 9973) (by omega) (by omega) h0
  refine ⟨fun i j => powm (det n K % 9973) 9971 * adj n K i j, fun i j hi hj => ?_⟩
  have e : mulM n (fun i j => powm (det n K % 9973) 9971 * adj n K i j) (mulM n K A) i j = powm (det n K % 9973) 9971 * (det n K * A i j) := by
    rw [← mulM_go]
    have : ∀ t, t < n → mulM n (fun i j => powm (det n K % 9973) 9971 * adj n K i j) K i t * A t j = (if i = t then 1 else 0) * (powm (det n K % 9973) 9971 * det n K * A t j) := fun t ht => by
      have h1 : mulM n (fun i j => powm (det n K % 9973) 9971 * adj n K i j) K i t = powm (det n K % 9973) 9971 * mulM n (adj n K) K i t := by
        unfold mulM
        rw [← sumTo_mul]
        exact sumTo_congr fun s _ => Int.mul_assoc _ _ _
      rw [h1, adj_mul K hi ht]
      by_cases e : i = t
      · rw [if_pos e, if_pos e, Int.one_mul]
      · rw [if_neg e, if_neg e]; simp
    show sumTo (fun t => _ * A t j) n = _
    rw [sumTo_congr this, sumTo_pick (fun t => powm (det n K % 9973) 9971 * det n K * A t j) hi, Int.mul_assoc]
  rw [e, ← Int.mul_assoc]
  have e2 : Eqm (powm (det n K % 9973) 9971 * det n K) 1 := by
    refine (Eqm.mul (Eqm.refl _) (Eqm.mod (det n K)).symm).trans ?_
    unfold Eqm
    rw [ho]; rfl
  have := Eqm.mul e2 (Eqm.refl (A i j))
  rw [Int.one_mul] at this
  exact this.symm
end Go.Rk
namespace Go.Proofs.YtkielldinghmbaaDoor
open Go.RowKit Go.Rk

/-- What clearing a column makes of an element. -/
def clearE (M : List (List Int)) (at_ col : Nat) (i j : Nat) : Int :=
  if i = at_ then en M at_ j * powm (en M at_ col) 9971 % 9973 else (en M i j - en M i col * (en M at_ j * powm (en M at_ col) 9971 % 9973)) % 9973

/-- The pivot's row is scaled. -/
def scaleE (M : List (List Int)) (at_ : Nat) (ov : Int) (i j : Nat) : Int := if i = at_ then en M at_ j * ov % 9973 else en M i j
def clearO (M : List (List Int)) (at_ col : Nat) (ov : Int) (i j : Nat) : Int :=
  if i = at_ then en M at_ j * ov % 9973 else (en M i j - en M i col * (en M at_ j * ov % 9973)) % 9973
theorem clearO_in {M : List (List Int)} {at_ col : Nat} {ov : Int} (i j : Nat) : 0 ≤ clearO M at_ col ov i j ∧ clearO M at_ col ov i j ≤ 9972 := by
  unfold clearO; split <;> omega
theorem clearO_same {M : List (List Int)} {n c at_ col : Nat} {ov : Int} (he : EntR 0 9972 n c M) {i j : Nat} (hi : i < n) (hj : j < c) (h : i = at_ ∨ en M i col = 0) : clearO M at_ col ov i j = scaleE M at_ ov i j := by
  unfold clearO scaleE
  by_cases e : i = at_
  · rw [if_pos e, if_pos e]
  · rw [if_neg e, if_neg e]
    rcases h with h | h
    · exact absurd h e
    · rw [h, Int.zero_mul, Int.sub_zero]
      have := he i j hi hj
      omega
/-- The rows ahead of q, and in row q the places ahead of s, are done. -/
def clearP (M : List (List Int)) (at_ col : Nat) (ov : Int) (q s : Nat) (i j : Nat) : Int := if i < q ∨ (i = q ∧ j < s) then clearO M at_ col ov i j else scaleE M at_ ov i j

set_option maxHeartbeats 4000000 in
set_option maxRecDepth 100000 in
theorem clear_any {B g at_ col n c cap : Nat} {D C : Nat → Nat} {M : List (List Int)} {w : World} (h : OwMD w B 32 3 g D C n cap M) (dM : Dm n c M) (eM : EntR 0 9972 n c M) (hat : at_ < n) (hcol : col < c) (hn : n ≤ 100) (hc : c ≤ 100) :
    Calls Tryd.prog 87 #[.slice (some ⟨g, 0, none⟩) n cap, .int .i64 at_, .int .i64 col] w fun e w' => e = .returned (.tuple #[]) ∧ ∃ P, OwMD w' B 32 3 g D C n cap P ∧ IsR n c P (clearE M at_ col) ∧ KeptBut n D w w' ∧ Below B w w' := by
  have a1 := h.cellO hat
  rw [dM.2 at_ hat] at a1
  have a2 := h.cellI hat (j := col) (by rw [dM.2 at_ hat]; exact hcol)
  have b1 : (at_ : Int) < (n : Int) := by omega
  have b2 : (col : Int) < (c : Int) := by omega
  have m0 := eM at_ col hat hcol
  have HD := Lib.hid dM
  have HE := Lib.hid eM
  clear dM eM
  go_enter Tryd.func87, Tryd.ntmps87
  go_wp2_with (go_at_call 74; refine (Over_any _ _ m0.1 m0.2).mono ?_; rintro e w' ⟨rfl, rfl⟩)
  have hov := powm_in (en M at_ col) 9971
  obtain ⟨ov, hO⟩ : ∃ ov, ov = powm (en M at_ col) 9971 := ⟨_, rfl⟩
  rw [← hO] at hov ⊢
  have HO := Lib.hid hO
  clear hO
  go_loopw [24] (fun v wr => ∃ (k : Nat) (P : List (List Int)), k ≤ c ∧ v = .int .i64 k ∧ OwMD wr B 32 3 g D C n cap P ∧ Hid (IsR n c P (fun i j => if i = at_ ∧ j < k then en M at_ j * ov % 9973 else en M i j)) ∧ KeptBut n D w wr ∧ Below B w wr) (fun v _ => c - (intOf v).toNat)
  case atStart => exact ⟨0, M, Nat.zero_le _, rfl, h, ⟨HD.out, fun i j _ _ => by simp⟩, KeptBut.refl _ _ _, Below.refl _ _⟩
  case round =>
    obtain ⟨k, P, hk, rfl, hd, hi, kb, hb⟩ := hrel
    by_cases hlt : k < c
    · have x1 := hd.cellO hat
      rw [hi.out.1.2 at_ hat] at x1
      have x2 := hd.cellI hat (j := k) (by rw [hi.out.1.2 at_ hat]; exact hlt)
      have x3 := hd.frozenI hat (by rw [hi.out.1.2 at_ hat]; omega) k
      have x4 : en P at_ k = en M at_ k := by rw [hi.out.2 at_ k hat hlt]; simp
      rw [x4] at x2
      have m1 := HE.out at_ k hat hlt
      have p1 := mul_bd m1 hov
      obtain ⟨T, hT⟩ : ∃ T, T = en M at_ k * ov := ⟨_, rfl⟩
      rw [← hT] at p1
      have u1 : IntKind.i64.wrap (en M at_ k * ov) = T := by rw [hT]; exact Go.IntWalk.i64_in _ (by omega)
      have u2 : T.tmod 9973 = T % 9973 := Int.tmod_eq_emod_of_nonneg (by omega)
      have u3 : IntKind.i64.wrap (T % 9973) = T % 9973 := Go.IntWalk.i64_in _ (by omega)
      have b3 : (k : Int) < (c : Int) := by omega
      have HT := Lib.hid hT
      clear hT x4
      go_wp2
      go_still_tail 16, (by kernel_rfl)
      change wpList _ _ _ _ _ wr.drew
      clear u1 u2 u3
      go_wp2
      go_roundw
      case rel => exact ⟨k + 1, _, by omega, by go_num, (hd.set matTy.ne hat _).drew, ⟨hi.out.1.setE _ _ _, fun i j h3 h4 => by
        rw [hi.out.1.en_set _ h3 h4]
        by_cases e : at_ = i ∧ k = j
        · rw [if_pos e, HT.out]; dsimp only; rw [if_pos ⟨e.1.symm, by omega⟩, e.2]
        · rw [if_neg e, hi.out.2 i j h3 h4]; dsimp only
          by_cases e2 : i = at_ ∧ j < k
          · rw [if_pos e2, if_pos ⟨e2.1, by omega⟩]
          · rw [if_neg e2, if_neg fun e3 => by omega]⟩, (kb.set hat _).drew, (hb.setCell (p := ⟨D at_, k, none⟩) (hd.lowI hat).1 _).drew⟩
      case measure => simp [intOf]; omega
    · obtain rfl : k = c := by omega
      clear a1 a2
      have hi2 : Hid (IsR n k P (clearP M at_ col ov 0 0)) := hi.out.congr fun i j _ h4 => by
        have e0 : clearP M at_ col ov 0 0 i j = scaleE M at_ ov i j := by unfold clearP; rw [if_neg (by omega)]
        rw [e0]
        unfold scaleE
        by_cases e : i = at_
        · rw [if_pos ⟨e, h4⟩, if_pos e]
        · rw [if_neg fun e2 => e e2.1, if_neg e]
      clear hi m0
      go_wp2
      go_loopw [46] (fun v wr => ∃ (q : Nat) (P : List (List Int)), q ≤ n ∧ v = .int .i64 q ∧ OwMD wr B 32 3 g D C n cap P ∧ Hid (IsR n k P (clearP M at_ col ov q 0)) ∧ KeptBut n D w wr ∧ Below B w wr) (fun v _ => n - (intOf v).toNat)
      case atStart => exact ⟨0, P, Nat.zero_le _, rfl, hd, hi2, kb, hb⟩
      case round =>
        clear hd hi2 kb hb
        obtain ⟨q, P, hq, rfl, hd, hi, kb, hb⟩ := hrel
        by_cases hqn : q < n
        · have x1 := hd.cellO hqn
          rw [hi.out.1.2 q hqn] at x1
          have x2 := hd.cellI hqn (j := col) (by rw [hi.out.1.2 q hqn]; exact hcol)
          have b3 : (q : Int) < (n : Int) := by omega
          have nx : ∀ {P : List (List Int)}, IsR n k P (clearP M at_ col ov q k) → IsR n k P (clearP M at_ col ov (q + 1) 0) := fun h => h.congr fun i j _ h4 => by
            unfold clearP
            by_cases e : i < q ∨ (i = q ∧ j < k)
            · rw [if_pos e, if_pos (by omega)]
            · rw [if_neg e, if_neg (by omega)]
          by_cases hqa : q = at_
          · have z1 : ((q : Int) != (at_ : Int)) = false := bne_eq_false_iff_eq.2 (by omega)
            have HQ := Lib.hid hqa
            clear hqa
            go_wp2
            go_roundw
            case rel => exact ⟨q + 1, P, by omega, by go_num, hd, nx (hi.out.congr fun i j h3 h4 => by
              unfold clearP
              by_cases e : i < q
              · rw [if_pos (by omega), if_pos (by omega)]
              · by_cases e2 : i = q
                · rw [if_neg (by omega), if_pos (by omega)]
                  exact (clearO_same HE.out h3 h4 (.inl (by rw [e2, HQ.out]))).symm
                · rw [if_neg (by omega), if_neg (by omega)]), kb, hb⟩
            case measure => simp [intOf]; omega
          · have z1 : ((q : Int) != (at_ : Int)) = true := bne_iff_ne.2 (by omega)
            have e1 : en P q col = en M q col := by
              rw [hi.out.2 q col hqn hcol]
              unfold clearP scaleE
              rw [if_neg (by omega), if_neg hqa]
            rw [e1] at x2
            have HQ := Lib.hid hqa
            clear hqa e1
            have m1 := HE.out q col hqn hcol
            by_cases hby : en M q col = 0
            · have z2 : (en M q col != 0) = false := bne_eq_false_iff_eq.2 hby
              have HB := Lib.hid hby
              clear hby
              go_wp2
              go_roundw
              case rel => exact ⟨q + 1, P, by omega, by go_num, hd, nx (hi.out.congr fun i j h3 h4 => by
                unfold clearP
                by_cases e : i < q
                · rw [if_pos (by omega), if_pos (by omega)]
                · by_cases e2 : i = q
                  · rw [if_neg (by omega), if_pos (by omega)]
                    exact (clearO_same HE.out h3 h4 (.inr (by rw [e2, HB.out]))).symm
                  · rw [if_neg (by omega), if_neg (by omega)]), kb, hb⟩
              case measure => simp [intOf]; omega
            · have z2 : (en M q col != 0) = true := bne_iff_ne.2 hby
              clear hby
              go_wp2
              obtain ⟨by_, hBy⟩ : ∃ by_, by_ = en M q col := ⟨_, rfl⟩
              rw [← hBy] at m1 ⊢
              have HBY := Lib.hid hBy
              clear hBy x1 x2 z2
              go_loopw [68] (fun v wt => ∃ (s : Nat) (P : List (List Int)), s ≤ k ∧ v = .int .i64 s ∧ OwMD wt B 32 3 g D C n cap P ∧ Hid (IsR n k P (clearP M at_ col ov q s)) ∧ KeptBut n D w wt ∧ Below B w wt) (fun v _ => k - (intOf v).toNat)
              case atStart => exact ⟨0, P, Nat.zero_le _, rfl, hd, hi, kb, hb⟩
              case round =>
                clear hd hi kb hb
                obtain ⟨s, P, hs, rfl, hd, hi, kb, hb⟩ := hrel
                by_cases hsk : s < k
                · have x1 := hd.cellO hqn
                  have x4 := hd.cellO hat
                  rw [hi.out.1.2 q hqn] at x1
                  rw [hi.out.1.2 at_ hat] at x4
                  have x2 := hd.cellI hqn (j := s) (by rw [hi.out.1.2 q hqn]; exact hsk)
                  have x5 := hd.cellI hat (j := s) (by rw [hi.out.1.2 at_ hat]; exact hsk)
                  have x3 := hd.frozenI hqn (by rw [hi.out.1.2 q hqn]; omega) s
                  have e1 : en P q s = en M q s := by
                    rw [hi.out.2 q s hqn hsk]
                    unfold clearP scaleE
                    rw [if_neg (by omega), if_neg HQ.out]
                  have e2 : en P at_ s = en M at_ s * ov % 9973 := by
                    rw [hi.out.2 at_ s hat hsk]
                    unfold clearP clearO scaleE
                    rw [if_pos rfl, if_pos rfl]
                    split <;> rfl
                  rw [e1] at x2
                  rw [e2] at x5
                  obtain ⟨V, hV⟩ : ∃ V, V = en M at_ s * ov % 9973 := ⟨_, rfl⟩
                  rw [← hV] at x5
                  have hv : 0 ≤ V ∧ V ≤ 9972 := by omega
                  have m2 := HE.out q s hqn hsk
                  have p1 := mul_bd m1 hv
                  obtain ⟨T, hT⟩ : ∃ T, T = by_ * V := ⟨_, rfl⟩
                  rw [← hT] at p1
                  have u1 : IntKind.i64.wrap (by_ * V) = T := by rw [hT]; exact Go.IntWalk.i64_in _ (by omega)
                  have u2 : IntKind.i64.wrap (en M q s - T) = en M q s - T := Go.IntWalk.i64_in _ (by omega)
                  have b4 : (s : Int) < (k : Int) := by omega
                  have HT := Lib.hid hT
                  have HV := Lib.hid hV
                  clear hT hV e1 e2
                  go_wp2
                  go_still_tail 24, (by kernel_rfl)
                  still_call (stillW (Field_any _ _))
                  repeat still_step
                  refine wpStill_nil ?_
                  change wpList _ _ _ _ _ wr.drew
                  clear u1 u2
                  go_wp2
                  go_roundw
                  case rel => exact ⟨s + 1, _, by omega, by go_num, (hd.set matTy.ne hqn _).drew, ⟨hi.out.1.setE _ _ _, fun i j h3 h4 => by
                    rw [hi.out.1.en_set _ h3 h4]
                    by_cases e : q = i ∧ s = j
                    · rw [if_pos e]
                      unfold clearP clearO
                      rw [if_pos (by omega), ← e.1, ← e.2, if_neg HQ.out, HT.out, HV.out, HBY.out]
                    · rw [if_neg e, hi.out.2 i j h3 h4]
                      unfold clearP
                      by_cases e2 : i < q ∨ (i = q ∧ j < s)
                      · rw [if_pos e2, if_pos (by omega)]
                      · rw [if_neg e2, if_neg (by omega)]⟩, (kb.set hqn _).drew, (hb.setCell (p := ⟨D q, s, none⟩) (hd.lowI hqn).1 _).drew⟩
                  case measure => simp [intOf]; omega
                · obtain rfl : s = k := by omega
                  go_wp2
                  go_roundw
                  case rel => exact ⟨q + 1, P, by omega, by go_num, hd, nx hi.out, kb, hb⟩
                  case measure => simp [intOf]; omega
        · obtain rfl : q = n := by omega
          go_wp2
          go_end0
          refine ⟨by simp, P, hd, hi.out.congr fun i j h3 _ => ?_, kb, hb⟩
          unfold clearP clearO clearE
          rw [if_pos (.inl h3), HO.out]
end Go.Proofs.YtkielldinghmbaaDoor
namespace Go.Rk
open Go.RowKit Go.Proofs.YtkielldinghmbaaDoor

theorem Made.perm {n c : Nat} (A : Mx) {σ : Nat → Nat} (h : ∀ i, i < n → σ i < n) : Made n c A (fun i j => A (σ i) j) :=
  ⟨fun i t => if σ i = t then 1 else 0, fun i j hi _ => Eqm.of_eq (sumTo_pick (fun t => A t j) (h i hi)).symm⟩
theorem Made.add {n c r : Nat} (A : Mx) (x : Nat → Int) (h : r < n) : Made n c A (fun i j => A i j + x i * A r j) := by
  refine ⟨fun i t => (if i = t then 1 else 0) + (if r = t then 1 else 0) * x i, fun i j hi _ => Eqm.of_eq ?_⟩
  unfold mulM
  rw [sumTo_congr (h := fun t => (if i = t then 1 else 0) * A t j + (if r = t then 1 else 0) * (x i * A t j)) fun t _ => by rw [Int.add_mul, Int.mul_assoc], sumTo_add, sumTo_pick (fun t => A t j) hi, sumTo_pick (fun t => x i * A t j) h]

/-- What holds when the first q columns are done, and begin at the columns of ps. -/
structure GInv (n c : Nat) (A : Mx) (q : Nat) (M : List (List Int)) (ps : List Int) : Prop where
  dm : Dm n c M
  ent : EntR 0 9972 n c M
  made : Made n c A (mx M)
  back : Made n c (mx M) A
  st : Stairs n q ps.length (mx M) (fun i => (ix ps i).toNat)
  pos : ∀ i, i < ps.length → 0 ≤ ix ps i

section
variable {n c q : Nat} {A : Mx} {M : List (List Int)} {ps : List Int}
theorem GInv.start {M : List (List Int)} (hd : Dm n c M) (he : EntR 0 9972 n c M) : GInv n c (mx M) 0 M [] :=
  ⟨hd, he, Made.refl _ _ _, Made.refl _ _ _, ⟨Nat.zero_le _, fun _ hi => absurd hi (Nat.not_lt_zero _), fun _ _ _ hj => absurd hj (Nat.not_lt_zero _), fun _ _ _ hj => absurd hj (Nat.not_lt_zero _), fun _ _ _ _ hs => absurd hs (Nat.not_lt_zero _), fun _ _ hi => absurd hi (Nat.not_lt_zero _)⟩, fun _ hi => absurd hi (Nat.not_lt_zero _)⟩

/-- Nothing below in this column. -/
theorem GInv.pass (h : GInv n c A q M ps) (hz : ∀ i, ps.length ≤ i → i < n → en M i q = 0) : GInv n c A (q + 1) M ps :=
  ⟨h.dm, h.ent, h.made, h.back, ⟨h.st.le, fun i hi => Nat.lt_succ_of_lt (h.st.lt i hi), h.st.inc, h.st.one, fun i s h1 h2 h3 => by
    rcases Nat.lt_or_ge s q with h4 | h4
    · exact h.st.low i s h1 h2 h4
    · obtain rfl : s = q := by omega
      exact Eqm.of_eq (hz i h1 h2), h.st.lead⟩, h.pos⟩

theorem en_swap {r k i : Nat} (h : Dm n c M) (hr : r < n) (hk : k < n) (j : Nat) : en (swapL M r k) i j = en M (if i = k then r else if i = r then k else i) j := by
  unfold en
  rw [rowOf_swapL (by rw [h.1]; exact hr) (by rw [h.1]; exact hk)]
  by_cases e : i = k
  · rw [if_pos e, if_pos e]
  · rw [if_neg e, if_neg e]
    by_cases e2 : i = r
    · rw [if_pos e2, if_pos e2]
    · rw [if_neg e2, if_neg e2]
theorem Dm.swap {r k : Nat} (h : Dm n c M) (hr : r < n) (hk : k < n) : Dm n c (swapL M r k) := by
  refine ⟨by rw [swapL_len]; exact h.1, fun i hi => ?_⟩
  rw [rowOf_swapL (by rw [h.1]; exact hr) (by rw [h.1]; exact hk)]
  (repeat' split) <;> exact h.2 _ (by assumption)
theorem swap_lt {r k i : Nat} (hr : r < n) (hk : k < n) (hi : i < n) : (if i = k then r else if i = r then k else i) < n := by
  (repeat' split) <;> assumption

/-- Rows that are not done change places. -/
theorem GInv.swap (h : GInv n c A q M ps) {k : Nat} (h1 : ps.length ≤ k) (hk : k < n) : GInv n c A q (swapL M ps.length k) ps := by
  have hr : ps.length < n := by omega
  have ee : ∀ i j, en (swapL M ps.length k) i j = en M (if i = k then ps.length else if i = ps.length then k else i) j := fun i j => en_swap h.dm hr hk j
  have lo : ∀ i, i < ps.length → (if i = k then ps.length else if i = ps.length then k else i) = i := fun i hi => by rw [if_neg (by omega), if_neg (by omega)]
  have hi' : ∀ i, ps.length ≤ i → ps.length ≤ (if i = k then ps.length else if i = ps.length then k else i) := fun i hi => by (repeat' split) <;> omega
  have em : mx (swapL M ps.length k) = fun i j => mx M (if i = k then ps.length else if i = ps.length then k else i) j := by
    funext i j
    exact ee i j
  have em2 : mx M = fun i j => mx (swapL M ps.length k) (if i = k then ps.length else if i = ps.length then k else i) j := by
    funext i j
    show en M i j = en (swapL M ps.length k) _ j
    rw [ee]
    congr 1
    by_cases e : i = k
    · rw [if_pos e]
      by_cases e2 : ps.length = k
      · rw [if_pos e2]; omega
      · rw [if_neg e2, if_pos rfl]; exact e
    · rw [if_neg e]
      by_cases e2 : i = ps.length
      · rw [if_pos e2, if_pos rfl]; exact e2
      · rw [if_neg e2, if_neg e, if_neg e2]
  have mb : Made n c (mx (swapL M ps.length k)) (mx M) := by
    have := Made.perm (n := n) (c := c) (mx (swapL M ps.length k)) (σ := fun i => if i = k then ps.length else if i = ps.length then k else i) fun i hi => swap_lt hr hk hi
    rwa [← em2] at this
  refine ⟨h.dm.swap hr hk, fun i j hi hj => by rw [ee]; exact h.ent _ j (swap_lt hr hk hi) hj, h.made.trans (by rw [em]; exact Made.perm _ fun i hi => swap_lt hr hk hi), Made.trans mb h.back, ⟨h.st.le, h.st.lt, h.st.inc, fun i j hi hj => ?_, fun i s h1 h2 h3 => ?_, fun i s h1 h2 => ?_⟩, h.pos⟩
  · show Eqm (en (swapL M ps.length k) i _) _
    rw [ee]
    rcases Nat.lt_or_ge i ps.length with h4 | h4
    · rw [lo i h4]; exact h.st.one i j hi hj
    · have e1 : (if i = j then (1 : Int) else 0) = 0 := if_neg (by omega)
      have e2 : (if (if i = k then ps.length else if i = ps.length then k else i) = j then (1 : Int) else 0) = 0 := if_neg (by have := hi' i h4; omega)
      rw [e1, ← e2]
      exact h.st.one _ j (swap_lt hr hk hi) hj
  · show Eqm (en (swapL M ps.length k) i s) _
    rw [ee]
    exact h.st.low _ s (hi' i h1) (swap_lt hr hk h2) h3
  · show Eqm (en (swapL M ps.length k) i s) _
    rw [ee, lo i h1]
    exact h.st.lead i s h1 h2

/-- The pivot's column is cleared. -/
theorem GInv.clear (h : GInv n c A q M ps) (hr : ps.length < n) (hq : q < c) (hp : en M ps.length q ≠ 0) {P : List (List Int)} (hi : IsR n c P (clearE M ps.length q)) : GInv n c A (q + 1) P (ps ++ [(q : Int)]) := by
  have b := h.ent ps.length q hr hq
  have ho := over_mul b.1 b.2 hp
  obtain ⟨ov, hov⟩ : ∃ ov, powm (en M ps.length q) 9971 = ov := ⟨_, rfl⟩
  rw [hov] at ho
  -- by the prime
  have er : ∀ j, j < c → Eqm (en P ps.length j) (ov * en M ps.length j) := fun j hj => by
    rw [hi.2 _ j hr hj]
    unfold clearE
    rw [if_pos rfl, hov, Int.mul_comm]
    exact Eqm.mod _
  have ei : ∀ i j, i < n → j < c → i ≠ ps.length → Eqm (en P i j) (en M i j - en M i q * (ov * en M ps.length j)) := fun i j h1 hj hne => by
    rw [hi.2 i j h1 hj]
    unfold clearE
    rw [if_neg hne, hov, Int.mul_comm (en M ps.length j) ov]
    exact (Eqm.mod _).trans (Eqm.sub (Eqm.refl _) (Eqm.mul (Eqm.refl _) (Eqm.mod _)))
  have o1 : Eqm (ov * en M ps.length q) 1 := by unfold Eqm; rw [ho]; rfl
  have zr : ∀ s, s < q → Eqm (en M ps.length s) 0 := fun s hs => h.st.low _ s (Nat.le_refl _) hr hs
  have hl : (ps ++ [(q : Int)]).length = ps.length + 1 := by simp
  have pl : ∀ i, i < ps.length → ix (ps ++ [(q : Int)]) i = ix ps i := fun i hi => by rw [ix_lt (by simp; omega), ix_lt hi, List.getElem_append_left hi]
  have pe : ix (ps ++ [(q : Int)]) ps.length = q := by rw [ix_lt (by simp)]; simp
  have pz : ∀ s, s < q → ∀ i, i < n → Eqm (en P i s) (en M i s) := fun s hs i h1 => by
    by_cases e : i = ps.length
    · subst e
      refine (er s (by omega)).trans ?_
      have := Eqm.mul (Eqm.refl ov) (zr s hs)
      rw [Int.mul_zero] at this
      exact this.trans (zr s hs).symm
    · refine (ei i s h1 (by omega) e).trans ?_
      have := Eqm.sub (Eqm.refl (en M i s)) (Eqm.mul (Eqm.refl (en M i q)) (Eqm.mul (Eqm.refl ov) (zr s hs)))
      rwa [Int.mul_zero, Int.mul_zero, Int.sub_zero] at this
  have pq : ∀ i, i < n → Eqm (en P i q) (if i = ps.length then 1 else 0) := fun i h1 => by
    by_cases e : i = ps.length
    · subst e
      rw [if_pos rfl]
      exact (er q hq).trans o1
    · rw [if_neg e]
      refine (ei i q h1 hq e).trans ?_
      have := Eqm.sub (Eqm.refl (en M i q)) (Eqm.mul (Eqm.refl (en M i q)) o1)
      rwa [Int.mul_one, Int.sub_self] at this
  refine ⟨hi.1, fun i j h1 h2 => by rw [hi.2 i j h1 h2]; unfold clearE; split <;> omega, ?_, ?_, ⟨by rw [hl]; omega, fun i h1 => ?_, fun i j h1 h2 => ?_, fun i j h1 h2 => ?_, fun i s h1 h2 h3 => ?_, fun i s h1 h2 => ?_⟩, fun i h1 => ?_⟩
  · -- the rows are made of those before
    refine h.made.trans ((Made.add (mx M) (fun i => if i = ps.length then ov - 1 else -(en M i q * ov)) hr).trans (Made.eqm fun i j h1 h2 => Eqm.symm ?_))
    show Eqm (en P i j) (en M i j + _ * en M ps.length j)
    by_cases e : i = ps.length
    · rw [if_pos e, e]
      refine (er j h2).trans (Eqm.of_eq ?_)
      rw [Int.sub_mul]; omega
    · rw [if_neg e]
      refine (ei i j h1 h2 e).trans (Eqm.of_eq ?_)
      rw [Int.neg_mul, Int.mul_assoc]; omega
  · refine Made.trans ?_ h.back
    refine (Made.add (mx P) (fun i => if i = ps.length then en M ps.length q - 1 else en M i q) hr).trans (Made.eqm fun i j h1 h2 => ?_)
    show Eqm (en P i j + _ * en P ps.length j) (en M i j)
    by_cases e : i = ps.length
    · rw [if_pos e, e]
      have h3 : Eqm (en M ps.length q * en P ps.length j) (en M ps.length j) := by
        refine (Eqm.mul (Eqm.refl _) (er j h2)).trans ?_
        have := Eqm.mul o1 (Eqm.refl (en M ps.length j))
        rw [Int.one_mul] at this
        exact (Eqm.of_eq (by rw [← Int.mul_assoc, Int.mul_comm (en M ps.length q) ov])).trans this
      exact (Eqm.of_eq (by rw [Int.sub_mul]; omega)).trans h3
    · rw [if_neg e]
      refine (Eqm.add (ei i j h1 h2 e) (Eqm.mul (Eqm.refl (en M i q)) (er j h2))).trans (Eqm.of_eq (by omega))
  · rw [hl] at h1
    rcases Nat.lt_or_ge i ps.length with h4 | h4
    · rw [pl i h4]; have := h.st.lt i h4; omega
    · obtain rfl : i = ps.length := by omega
      rw [pe]; omega
  · rw [hl] at h2
    rcases Nat.lt_or_ge j ps.length with h4 | h4
    · rw [pl i (by omega), pl j h4]; exact h.st.inc i j h1 h4
    · obtain rfl : j = ps.length := by omega
      rw [pl i h1, pe]; have := h.st.lt i h1; omega
  · rw [hl] at h2
    rcases Nat.lt_or_ge j ps.length with h4 | h4
    · rw [pl j h4]
      have := h.st.lt j h4
      exact (pz _ this i h1).trans (h.st.one i j h1 h4)
    · obtain rfl : j = ps.length := by omega
      rw [pe]
      exact pq i h1
  · rw [hl] at h1
    rcases Nat.lt_or_ge s q with h4 | h4
    · exact (pz s h4 i h2).trans (h.st.low i s (by omega) h2 h4)
    · obtain rfl : s = q := by omega
      have := pq i h2
      rwa [if_neg (by omega)] at this
  · rw [hl] at h1
    rcases Nat.lt_or_ge i ps.length with h4 | h4
    · rw [pl i h4] at h2
      have h5 := h.st.lt i h4
      exact (pz s (by omega) i (by omega)).trans (h.st.lead i s h4 h2)
    · obtain rfl : i = ps.length := by omega
      rw [pe] at h2
      exact (pz s (by omega) _ hr).trans (zr s (by omega))
  · rw [hl] at h1
    rcases Nat.lt_or_ge i ps.length with h4 | h4
    · rw [pl i h4]; exact h.pos i h4
    · obtain rfl : i = ps.length := by omega
      rw [pe]; omega
end
end Go.Rk
