/-
  Steps of a matrix by the prime: how many there are, and that they are one form. No program in sight.
  An order's sign: by its cycles, by its pairs, and as the determinant of its matrix. Plain Lean.
-/
import Derived.Test.YtoahegjjffggaaaDoorMg3
import Derived.Test.YtoahegjjffggaaaDoorMg5
namespace Go.Rk
open Go.RowKit

/-- The rows of B are made of those of A. -/
def Made (n c : Nat) (A B : Mx) : Prop := ∃ K, EqM n c B (mulM n K A)
theorem Made.refl (n c : Nat) (A : Mx) : Made n c A A := ⟨oneM, fun _ _ hi _ => Eqm.of_eq (one_mulM A hi _).symm⟩
theorem Made.trans {n c : Nat} {A B C : Mx} (h : Made n c A B) (g : Made n c B C) : Made n c A C := by
  obtain ⟨K, hK⟩ := h
  obtain ⟨L, hL⟩ := g
  refine ⟨mulM n L K, hL.trans ?_⟩
  rw [mulM_go]
  exact EqM.mul (EqM.refl _ _ _) hK
theorem Made.cols {n c b : Nat} {A B : Mx} (h : Made n c A B) (hb : b ≤ c) : Made n b A B := by
  obtain ⟨K, hK⟩ := h
  exact ⟨K, fun i j hi hj => hK i j hi (by omega)⟩
theorem Made.eqm {n c : Nat} {A B : Mx} (h : EqM n c A B) : Made n c A B := ⟨oneM, h.symm.trans fun _ _ hi _ => Eqm.of_eq (one_mulM A hi _).symm⟩

/-- The product of one with s columns and one with s rows. -/
def Fac (n c s : Nat) (A : Mx) : Prop := ∃ X Y, EqM n c A (mulM s X Y)

theorem sumTo_split (g : Nat → Int) (s t : Nat) : sumTo g (s + t) = sumTo g s + sumTo (fun u => g (s + u)) t := by
  induction t with
  | zero => rw [Nat.add_zero, sumTo]; omega
  | succ t ih => rw [← Nat.add_assoc, sumTo, sumTo, ih]; omega
theorem sumTo_cut {g : Nat → Int} {r n : Nat} (h : r ≤ n) (e : ∀ t, r ≤ t → t < n → Eqm (g t) 0) : Eqm (sumTo g n) (sumTo g r) := by
  obtain ⟨d, rfl⟩ := Nat.le.dest h
  rw [sumTo_split]
  have : Eqm (sumTo (fun u => g (r + u)) d) (sumTo (fun _ => 0) d) := sumTo_eqm fun u hu => e (r + u) (by omega) (by omega)
  rw [sumTo_zero] at this
  have := Eqm.add (Eqm.refl (sumTo g r)) this
  rwa [Int.add_zero] at this

section
variable {n c s t k : Nat} {A B : Mx}
theorem Fac.congr (h : Fac n c s A) (e : EqM n c A B) : Fac n c s B := let ⟨X, Y, hx⟩ := h; ⟨X, Y, e.symm.trans hx⟩
theorem Fac.add (h : Fac n c s A) (g : Fac n c t B) : Fac n c (s + t) (fun i j => A i j + B i j) := by
  obtain ⟨X, Y, hx⟩ := h
  obtain ⟨Z, U, hz⟩ := g
  refine ⟨fun i u => if u < s then X i u else Z i (u - s), fun u j => if u < s then Y u j else U (u - s) j, fun i j hi hj => ?_⟩
  unfold mulM
  rw [sumTo_split]
  refine Eqm.add ((hx i j hi hj).trans (Eqm.of_eq (sumTo_congr fun u hu => by dsimp only; rw [if_pos hu, if_pos hu]))) ((hz i j hi hj).trans (Eqm.of_eq (sumTo_congr fun u _ => by dsimp only; rw [if_neg (by omega), if_neg (by omega), Nat.add_sub_cancel_left])))
theorem Fac.neg (h : Fac n c s A) : Fac n c s (fun i j => -A i j) := by
  obtain ⟨X, Y, hx⟩ := h
  refine ⟨fun i u => -X i u, Y, fun i j hi hj => (Eqm.neg (hx i j hi hj)).trans (Eqm.of_eq ?_)⟩
  unfold mulM
  rw [show -sumTo (fun k => X i k * Y k j) s = (-1) * sumTo (fun k => X i k * Y k j) s by omega, ← sumTo_mul]
  exact sumTo_congr fun u _ => by rw [Int.neg_mul, Int.neg_mul, Int.one_mul]
theorem Fac.mulL (h : Fac n k s A) (B : Mx) : Fac n c s (mulM k A B) := by
  obtain ⟨X, Y, hx⟩ := h
  refine ⟨X, mulM k Y B, (EqM.mul hx (EqM.refl k c B)).trans ?_⟩
  rw [mulM_go]
  exact EqM.refl _ _ _
theorem Fac.mulR (A : Mx) (h : Fac k c s B) : Fac n c s (mulM k A B) := by
  obtain ⟨X, Y, hx⟩ := h
  refine ⟨mulM k A X, Y, (EqM.mul (EqM.refl n k A) hx).trans ?_⟩
  rw [mulM_go]
  exact EqM.refl _ _ _
theorem Fac.tr (h : Fac n c s A) : Fac c n s (trM A) := by
  obtain ⟨X, Y, hx⟩ := h
  refine ⟨trM Y, trM X, fun i j hi hj => (hx j i hj hi).trans (Eqm.of_eq ?_)⟩
  exact congrFun (congrFun (mulM_tr s X Y) i) j
end

/-- Steps: r rows that begin with 1 further and further to the right, each alone in its column; then noughts. -/
structure Stairs (n c r : Nat) (R : Mx) (p : Nat → Nat) : Prop where
  le : r ≤ n
  lt : ∀ i, i < r → p i < c
  inc : ∀ i j, i < j → j < r → p i < p j
  one : ∀ i j, i < n → j < r → Eqm (R i (p j)) (if i = j then 1 else 0)
  low : ∀ i s, r ≤ i → i < n → s < c → Eqm (R i s) 0
  lead : ∀ i s, i < r → s < p i → Eqm (R i s) 0

section
variable {n c r r' s : Nat} {A B R R' : Mx} {p p' : Nat → Nat}
theorem Stairs.fac (h : Stairs n c r R p) (m : Made n c R A) : Fac n c r A := by
  obtain ⟨K, hK⟩ := m
  refine ⟨K, R, fun i j hi hj => (hK i j hi hj).trans ?_⟩
  refine sumTo_cut h.le fun t h1 h2 => ?_
  have := Eqm.mul (Eqm.refl (K i t)) (h.low t j h1 h2 hj)
  rwa [Int.mul_zero] at this

theorem det_narrow {r s : Nat} (hs : s < r) (P Q : Mx) : det r (mulM s P Q) = 0 := by
  have e : det r (mulM s P Q) = det r (mulM r (fun i t => if t < s then P i t else 0) Q) := by
    refine det_congr fun i j _ _ => ?_
    unfold mulM
    obtain ⟨d, rfl⟩ := Nat.le.dest (Nat.le_of_lt hs)
    rw [sumTo_split, sumTo_congr (g := fun u => (if s + u < s then P i (s + u) else 0) * Q (s + u) j) (h := fun _ => 0) fun u _ => by rw [if_neg (by omega), Int.zero_mul], sumTo_zero, Int.add_zero]
    exact sumTo_congr fun u hu => by dsimp only; rw [if_pos hu]
  rw [e, det_mul, ← det_tr, (det_alt r).zero_row _ hs fun c _ => by show (if s < s then _ else (0 : Int)) = 0; rw [if_neg (by omega)]]
  omega

theorem Stairs.no_less (h : Stairs n c r R p) (m : Made n c A R) (f : Fac n c s A) : r ≤ s := by
  rcases Nat.lt_or_ge s r with hs | hs
  · exfalso
    obtain ⟨K, hK⟩ := m
    obtain ⟨X, Y, hx⟩ := f
    have e : EqM n c R (mulM s (mulM n K X) Y) := by
      rw [mulM_go]
      exact hK.trans (EqM.mul (EqM.refl _ _ _) hx)
    have d : Eqm (det r (mulM s (mulM n K X) fun t j => Y t (p j))) (det r idM) := det_eqm fun i j hi hj => by
      have h1 := h.one i j (by have := h.le; omega) hj
      refine (e i (p j) (by have := h.le; omega) (h.lt j hj)).symm.trans (h1.trans (Eqm.of_eq ?_))
      unfold idM unit_
      by_cases e : i = j
      · rw [if_pos e, if_pos e.symm]
      · rw [if_neg e, if_neg fun x => e x.symm]
    rw [det_narrow hs, det_id] at d
    exact absurd d (by unfold Eqm; decide)
  · exact hs

/-- As many steps as the least such product has. -/
theorem Stairs.same_rank (h : Stairs n c r R p) (g : Stairs n c r' R' p') (m : Made n c R R') (m' : Made n c R' R) : r = r' :=
  Nat.le_antisymm (h.no_less m' (g.fac (Made.refl _ _ _))) (g.no_less m (h.fac (Made.refl _ _ _)))

theorem Stairs.cut (h : Stairs n c r R p) {b : Nat} (hb : b ≤ c) : ∃ m, m ≤ r ∧ (∀ i, i < m → p i < b) ∧ (∀ i, m ≤ i → i < r → b ≤ p i) ∧ Stairs n b m R p := by
  have key : ∀ q, q ≤ r → ∃ m, m ≤ q ∧ (∀ i, i < m → p i < b) ∧ (∀ i, m ≤ i → i < q → b ≤ p i) := by
    intro q
    induction q with
    | zero => intro _; exact ⟨0, Nat.le_refl _, fun i hi => absurd hi (Nat.not_lt_zero _), fun i _ hi => absurd hi (Nat.not_lt_zero _)⟩
    | succ q ih =>
      intro hq
      obtain ⟨m, m1, m2, m3⟩ := ih (by omega)
      by_cases e : p q < b
      · refine ⟨q + 1, Nat.le_refl _, fun i hi => ?_, fun i h1 h2 => absurd h1 (by omega)⟩
        rcases Nat.lt_or_ge i q with h1 | h1
        · have := h.inc i q h1 (by omega); omega
        · obtain rfl : i = q := by omega
          exact e
      · refine ⟨m, by omega, m2, fun i h1 h2 => ?_⟩
        rcases Nat.lt_or_ge i q with h3 | h3
        · exact m3 i h1 h3
        · obtain rfl : i = q := by omega
          omega
  obtain ⟨m, m1, m2, m3⟩ := key r (Nat.le_refl _)
  refine ⟨m, m1, m2, m3, Nat.le_trans m1 h.le, m2, fun i j hi hj => h.inc i j hi (by omega), fun i j hi hj => h.one i j hi (by omega), fun i s h1 h2 h3 => ?_, fun i s h1 h2 => h.lead i s (by omega) h2⟩
  rcases Nat.lt_or_ge i r with h4 | h4
  · exact h.lead i s h4 (by have := m3 i h1 h4; omega)
  · exact h.low i s h4 h2 (by omega)

/-- Steps are one form. -/
theorem Stairs.unique (h : Stairs n c r R p) (g : Stairs n c r' R' p') (m : Made n c R R') (m' : Made n c R' R) : r = r' ∧ (∀ i, i < r → p i = p' i) ∧ EqM n c R R' := by
  have er := h.same_rank g m m'
  subst er
  have le : ∀ {R R' : Mx} {p p' : Nat → Nat}, Stairs n c r R p → Stairs n c r R' p' → Made n c R R' → Made n c R' R → ∀ i, i < r → p' i ≤ p i := by
    intro R R' p p' h g m m' i hi
    have hb : p i + 1 ≤ c := h.lt i hi
    obtain ⟨q, q1, q2, q3, q4⟩ := h.cut hb
    obtain ⟨q', q1', q2', q3', q4'⟩ := g.cut hb
    have e := q4.same_rank q4' (m.cols hb) (m'.cols hb)
    subst e
    rcases Nat.lt_or_ge i q with h1 | h1
    · have := q2' i h1; omega
    · have := q3 i h1 hi; omega
  have ep : ∀ i, i < r → p i = p' i := fun i hi => Nat.le_antisymm (le g h m' m i hi) (le h g m m' i hi)
  refine ⟨rfl, ep, fun i j hi hj => ?_⟩
  rcases Nat.lt_or_ge i r with h1 | h1
  · obtain ⟨K, hK⟩ := m
    have kd : ∀ t, t < r → Eqm (K i t) (if i = t then 1 else 0) := fun t ht => by
      have a1 := g.one i t hi ht
      rw [← ep t ht] at a1
      have a2 := hK i (p t) hi (h.lt t ht)
      have a3 : Eqm (mulM n K R i (p t)) (K i t) := by
        refine (sumTo_eqm (h := fun u => (if t = u then 1 else 0) * K i u) fun u hu => ?_).trans (Eqm.of_eq (sumTo_pick (fun u => K i u) (by have := h.le; omega)))
        refine (Eqm.mul (Eqm.refl _) (h.one u t hu ht)).trans (Eqm.of_eq ?_)
        by_cases e : u = t
        · subst e; rw [if_pos rfl]; omega
        · rw [if_neg e, if_neg fun x => e x.symm]; omega
      exact a3.symm.trans (a2.symm.trans a1)
    refine Eqm.symm ((hK i j hi hj).trans ?_)
    refine (sumTo_cut h.le fun t h2 h3 => ?_).trans ?_
    · have := Eqm.mul (Eqm.refl (K i t)) (h.low t j h2 h3 hj)
      rwa [Int.mul_zero] at this
    · refine (sumTo_eqm (h := fun u => (if i = u then 1 else 0) * R u j) fun u hu => Eqm.mul (kd u hu) (Eqm.refl _)).trans (Eqm.of_eq (sumTo_pick (fun u => R u j) h1))
  · exact (h.low i j h1 hi hj).trans (g.low i j h1 hi hj).symm
end

/-- A sum over all, by those that are picked and those that are not. -/
theorem split_sum : ∀ (k r : Nat) (p : Nat → Nat), (∀ i j, i < j → j < r → p i < p j) → (∀ i, i < r → p i < k) → r ≤ k ∧ ∃ q : Nat → Nat, ∀ g : Nat → Int, sumTo g k = sumTo (fun t => g (p t)) r + sumTo (fun u => g (q u)) (k - r) := by
  intro k
  induction k with
  | zero =>
    intro r p _ lt
    rcases r with _ | r
    · exact ⟨Nat.le_refl _, id, fun g => rfl⟩
    · exact absurd (lt 0 (by omega)) (by omega)
  | succ k ih =>
    intro r p inc lt
    by_cases e : ∃ r', r = r' + 1 ∧ p r' = k
    · obtain ⟨r', rfl, e⟩ := e
      obtain ⟨h1, q, hq⟩ := ih r' p (fun i j hi hj => inc i j hi (by omega)) (fun i hi => by have := inc i r' hi (by omega); omega)
      refine ⟨by omega, q, fun g => ?_⟩
      rw [sumTo, hq g, sumTo, e, show k + 1 - (r' + 1) = k - r' by omega]
      omega
    · have lt' : ∀ i, i < r → p i < k := fun i hi => by
        have h1 := lt i hi
        have h2 : p i ≠ k := fun e2 => by
          rcases Nat.lt_or_ge (i + 1) r with h3 | h3
          · have := inc i (i + 1) (by omega) h3
            have := lt (i + 1) h3
            omega
          · exact e ⟨i, by omega, e2⟩
        omega
      obtain ⟨h1, q, hq⟩ := ih r p inc lt'
      refine ⟨by omega, fun u => if u < k - r then q u else k, fun g => ?_⟩
      dsimp only
      rw [sumTo, hq g, show k + 1 - r = (k - r) + 1 by omega, sumTo, if_neg (by omega), sumTo_congr (g := fun u => g (if u < k - r then q u else k)) (h := fun u => g (q u)) fun u hu => by rw [if_pos hu]]
      omega

/-- Sylvester's bound. -/
theorem Stairs.sylvester {n k c r s : Nat} {A B R : Mx} {p : Nat → Nat} (h : Stairs n k r R p) (m : Made n k A R) (f : Fac n c s (mulM k A B)) : r ≤ k ∧ Fac k c (s + (k - r)) B := by
  obtain ⟨hrk, q, hq⟩ := split_sum k r p h.inc h.lt
  refine ⟨hrk, ?_⟩
  obtain ⟨K, hK⟩ := m
  obtain ⟨X, Y, hx⟩ := f
  let S : Mx := fun i t => if i = p t then 1 else 0
  let N : Mx := fun i j => (if i = j then 1 else 0) - mulM r S R i j
  have hN : ∀ i t, i < k → t < r → Eqm (N i (p t)) 0 := fun i t _ ht => by
    have e : Eqm (mulM r S R i (p t)) (if i = p t then 1 else 0) := by
      refine (sumTo_eqm (h := fun u => (if t = u then 1 else 0) * S i u) fun u hu => ?_).trans (Eqm.of_eq (sumTo_pick (fun u => S i u) ht))
      refine (Eqm.mul (Eqm.refl _) (h.one u t (by have := h.le; omega) ht)).trans (Eqm.of_eq ?_)
      by_cases e : u = t
      · subst e; rw [if_pos rfl]; omega
      · rw [if_neg e, if_neg fun x => e x.symm]; omega
    have := Eqm.sub (Eqm.refl (if i = p t then (1 : Int) else 0)) e
    rwa [Int.sub_self] at this
  have f1 : Fac k c s (mulM r S (mulM k R B)) := by
    refine ⟨mulM r S (mulM n K X), Y, ?_⟩
    rw [mulM_go]
    refine EqM.mul (EqM.refl _ _ _) fun i j hi hj => ?_
    have hi' : i < n := by have := h.le; omega
    refine (EqM.mul hK (EqM.refl k c B) i j hi' hj).trans ?_
    rw [mulM_go, mulM_go]
    exact EqM.mul (EqM.refl n n K) hx i j hi' hj
  have f2 : Fac k c (k - r) (mulM k N B) := by
    refine ⟨fun i u => N i (q u), fun u j => B (q u) j, fun i j hi _ => ?_⟩
    unfold mulM
    rw [hq fun t => N i t * B t j]
    have : Eqm (sumTo (fun t => N i (p t) * B (p t) j) r) (sumTo (fun _ => 0) r) := sumTo_eqm fun t ht => by
      have := Eqm.mul (hN i t hi ht) (Eqm.refl (B (p t) j))
      rwa [Int.zero_mul] at this
    rw [sumTo_zero] at this
    have := Eqm.add this (Eqm.refl (sumTo (fun u => N i (q u) * B (q u) j) (k - r)))
    rwa [Int.zero_add] at this
  refine (f1.add f2).congr fun i j hi _ => Eqm.of_eq ?_
  rw [← mulM_go]
  show sumTo (fun t => mulM r S R i t * B t j) k + sumTo (fun t => N i t * B t j) k = B i j
  rw [← sumTo_add, sumTo_congr (h := fun t => (if i = t then 1 else 0) * B t j) fun t _ => ?_]
  · exact sumTo_pick (fun t => B t j) hi
  · show mulM r S R i t * B t j + ((if i = t then 1 else 0) - mulM r S R i t) * B t j = _
    rw [← Int.add_mul]
    congr 1
    omega

/-- A square matrix has as many steps as rows just if its determinant is not 0 by the prime. -/
theorem Stairs.full {n r : Nat} {A R : Mx} {p : Nat → Nat} (h : Stairs n n r R p) (m : Made n n A R) (m' : Made n n R A) : r = n ↔ ¬ Eqm (det n A) 0 := by
  constructor
  · rintro rfl hd
    obtain ⟨K, hK⟩ := m
    have hp : ∀ d i, i + d = r → i < r → p i + d ≤ r := by
      intro d
      induction d with
      | zero => intro i h1 h2; omega
      | succ d ih =>
        intro i h1 h2
        rcases Nat.lt_or_ge (i + 1) r with h3 | h3
        · have := ih (i + 1) (by omega) h3
          have := h.inc i (i + 1) (by omega) h3
          omega
        · have := h.lt i h2; omega
    have hp2 : ∀ i, i < r → i ≤ p i := by
      intro i
      induction i with
      | zero => intro _; omega
      | succ i ih =>
        intro hi
        have := ih (by omega)
        have := h.inc i (i + 1) (by omega) hi
        omega
    have hpi : ∀ i, i < r → p i = i := fun i hi => by
      have := hp (r - i) i (by omega) hi
      have := hp2 i hi
      omega
    have d1 : Eqm (det r R) (det r idM) := det_eqm fun i j hi hj => by
      have := h.one i j hi hj
      rw [hpi j hj] at this
      refine this.trans (Eqm.of_eq ?_)
      unfold idM unit_
      by_cases e : i = j
      · rw [if_pos e, if_pos e.symm]
      · rw [if_neg e, if_neg fun x => e x.symm]
    have d2 : Eqm (det r R) (det r K * det r A) := by rw [← det_mul]; exact det_eqm hK
    have d3 := Eqm.mul (Eqm.refl (det r K)) hd
    rw [Int.mul_zero] at d3
    have := d1.symm.trans (d2.trans d3)
    rw [det_id] at this
    exact absurd this (by unfold Eqm; decide)
  · intro hd
    rcases Nat.lt_or_ge r n with h1 | h1
    · exfalso
      obtain ⟨X, Y, hx⟩ := h.fac m'
      refine hd ((det_eqm hx).trans ?_)
      rw [det_narrow h1]
      exact Eqm.refl _
    · have := h.le; omega

/-- What can be undone: the rows come back. -/
theorem Made.undo {n c : Nat} {K A : Mx} (hd : ¬ Eqm (det n K) 0) : Made n c (mulM n K A) A := by
  have h0 : det n K % 9973 ≠ 0 := fun e => hd (by unfold Eqm; rw [e]; rfl)
  have ho := over_mul (a := det n K % 9973) (by omega) (by omega) h0
  refine ⟨fun i j => powm (det n K % 9973) 9971 * adj n K i j, fun i j hi hj => ?_⟩
  have e : mulM n (fun i j => powm (det n K % 9973) 9971 * adj n K i j) (mulM n K A) i j = powm (det n K % 9973) 9971 * (det n K * A i j) := by
    rw [← mulM_go]
    have : ∀ t, t < n → mulM n (fun i j => powm (det n K % 9973) 9971 * adj n K i j) K i t * A t j = (if i = t then 1 else 0) * (powm (det n K % 9973) 9971 * det n K * A t j) := fun t ht => by
      have h1 : mulM n (fun i j => powm (det n K % 9973) 9971 * adj n K i j) K i t = powm (det n K % 9973) 9971 * mulM n (adj n K) K i t := by
        unfold mulM
        rw [← sumTo_mul]
        exact sumTo_congr fun s _ => Int.mul_assoc _ _ _
      rw [h1, adj_mul K hi ht]
      by_cases e : i = t
      · rw [if_pos e, if_pos e, Int.one_mul]
      · rw [if_neg e, if_neg e]; simp
    show sumTo (fun t => _ * A t j) n = _
    rw [sumTo_congr this, sumTo_pick (fun t => powm (det n K % 9973) 9971 * det n K * A t j) hi, Int.mul_assoc]
  rw [e, ← Int.mul_assoc]
  have e2 : Eqm (powm (det n K % 9973) 9971 * det n K) 1 := by
    refine (Eqm.mul (Eqm.refl _) (Eqm.mod (det n K)).symm).trans ?_
    unfold Eqm
    rw [ho]; rfl
  have := Eqm.mul e2 (Eqm.refl (A i j))
  rw [Int.one_mul] at this
  exact this.symm
end Go.Rk
namespace Go.Rk

/-- The matrix of an order. -/
def pm (m : Nat → Nat) : Mx := fun r => unit_ (m r)

/-- What m is when two places exchange what they hold. -/
def swapN (m : Nat → Nat) (i j : Nat) : Nat → Nat := fun r => if r = j then m i else if r = i then m j else m r

theorem det_pm_swap (m : Nat → Nat) {n i j : Nat} (hij : i ≠ j) (hi : i < n) (hj : j < n) : det n (pm (swapN m i j)) = -det n (pm m) := by
  rw [← (det_alt n).swap (pm m) hij hi hj]
  refine det_congr fun r c _ _ => ?_
  simp only [pm, swapN, swapM, setRow]
  by_cases h1 : r = j
  · simp [h1]
  · by_cases h2 : r = i
    · simp [h2, hij]
    · simp [h1, h2]

/-- An order that takes each place to a place, none twice. -/
structure Ord (n : Nat) (m : Nat → Nat) : Prop where
  lt : ∀ a, a < n → m a < n
  inj : ∀ a b, a < n → b < n → m a = m b → a = b

theorem Ord.swap {n : Nat} {m : Nat → Nat} (h : Ord n m) {i j : Nat} (hi : i < n) (hj : j < n) : Ord n (swapN m i j) := by
  have e (r : Nat) : swapN m i j r = m (if r = j then i else if r = i then j else r) := by
    unfold swapN
    (repeat' split) <;> rfl
  have hlt (r : Nat) (hr : r < n) : (if r = j then i else if r = i then j else r) < n := by (repeat' split) <;> omega
  refine ⟨fun a ha => ?_, fun a b ha hb e2 => ?_⟩
  · rw [e]; exact h.lt _ (hlt a ha)
  · rw [e, e] at e2
    have e3 := h.inj _ _ (hlt a ha) (hlt b hb) e2
    revert e3
    (repeat' split) <;> omega

/-- Each place is some place's, as soon as no two have the same. -/
theorem Ord.onto : ∀ {n : Nat} {m : Nat → Nat}, Ord n m → ∀ b, b < n → ∃ a, a < n ∧ m a = b := by
  intro n
  induction n with
  | zero => intro m _ b hb; omega
  | succ n ih =>
    intro m h b hb
    -- the place that goes to the last one is put last
    by_cases hx : ∃ a, a < n + 1 ∧ m a = n
    · obtain ⟨a, ha, ea⟩ := hx
      by_cases hbn : b = n
      · exact ⟨a, ha, by omega⟩
      have h' : Ord n (swapN m a n) := by
        have hs := h.swap ha (Nat.lt_succ_self n)
        refine ⟨fun x hx => ?_, fun x y hx hy e => hs.inj x y (by omega) (by omega) e⟩
        have h1 := hs.lt x (by omega)
        have h2 : swapN m a n x ≠ n := fun e => by
          have : swapN m a n n = n := by simp [swapN, ea]
          have := hs.inj x n (by omega) (by omega) (by omega)
          omega
        omega
      obtain ⟨c, hc, ec⟩ := ih h' b (by omega)
      unfold swapN at ec
      by_cases h1 : c = n
      · omega
      · rw [if_neg h1] at ec
        by_cases h2 : c = a
        · rw [if_pos h2] at ec; exact ⟨n, Nat.lt_succ_self n, ec⟩
        · rw [if_neg h2] at ec; exact ⟨c, by omega, ec⟩
    · exfalso
      have h' : Ord n m := ⟨fun x hx2 => by
        have h1 := h.lt x (by omega)
        have h2 : m x ≠ n := fun e => hx ⟨x, by omega, e⟩
        omega, fun x y hx hy e => h.inj x y (by omega) (by omega) e⟩
      have h1 := h.lt n (Nat.lt_succ_self n)
      have h2 : m n ≠ n := fun e => hx ⟨n, Nat.lt_succ_self n, e⟩
      obtain ⟨a, ha, ea⟩ := ih h' (m n) (by omega)
      have := h.inj a n (by omega) (by omega) ea
      omega

/-- What is not yet done of an order, in a cycle that began at i and stands at k. -/
structure Mid (n : Nat) (l : List Int) (d : List Bool) (i k : Nat) (m : Nat → Nat) : Prop where
  ord : Ord n m
  len : d.length = n
  isdone : ∀ j, j < n → bx d j = true → j ≠ i → m j = j
  left : ∀ j, j < n → bx d j = false → m j = (ix l j).toNat
  di : bx d i = true
  at_ : m i = k

theorem Mid.step {n : Nat} {l : List Int} {d : List Bool} {i k : Nat} {m : Nat → Nat} (h : Mid n l d i k m) (hi : i < n) (hd : bx d k = false) :
    Mid n l (d.set k true) i (ix l k).toNat (swapN m i k) ∧ det n (pm (swapN m i k)) = -det n (pm m) := by
  have hk : k < n := h.at_ ▸ h.ord.lt i hi
  have hik : i ≠ k := fun e => by subst e; rw [h.di] at hd; cases hd
  refine ⟨⟨h.ord.swap hi hk, by rw [List.length_set]; exact h.len, fun j hj hb hji => ?_, fun j hj hb => ?_, ?_, ?_⟩, det_pm_swap m hik hi hk⟩
  · unfold swapN
    by_cases e : j = k
    · rw [if_pos e, h.at_, e]
    · rw [if_neg e, if_neg hji]
      rw [bx_set, if_neg (by rintro ⟨e2, _⟩; exact e e2.symm)] at hb
      exact h.isdone j hj hb hji
  · rw [bx_set] at hb
    by_cases e : k = j
    · rw [if_pos ⟨e, by rw [h.len]; exact hj⟩] at hb; cases hb
    · rw [if_neg fun e2 => e e2.1] at hb
      unfold swapN
      rw [if_neg fun e2 => e e2.symm, if_neg (by rintro rfl; rw [h.di] at hb; cases hb)]
      exact h.left j hj hb
  · rw [bx_set]
    split
    · rfl
    · exact h.di
  · unfold swapN
    rw [if_neg hik, if_pos rfl]
    exact h.left k hk hd

/-- Once the cycle is back, it is at its beginning. -/
theorem Mid.back {n : Nat} {l : List Int} {d : List Bool} {i k : Nat} {m : Nat → Nat} (h : Mid n l d i k m) (hi : i < n) (hd : bx d k = true) : k = i := by
  have hk : k < n := h.at_ ▸ h.ord.lt i hi
  by_cases e : k = i
  · exact e
  · have h1 := h.isdone k hk hd e
    exact (h.ord.inj i k hi hk (by rw [h.at_, h1])).symm

theorem cyc_mid {n : Nat} {l : List Int} {i : Nat} (hi : i < n) : ∀ (f : Nat) (d : List Bool) (k g : Nat) (m : Nat → Nat), Mid n l d i k m → cntF d < f →
    ∃ m', Mid n l (cycF l f d k g).1 i i m' ∧ g ≤ (cycF l f d k g).2 ∧ det n (pm m) = sg ((cycF l f d k g).2 - g) * det n (pm m') := by
  intro f
  induction f with
  | zero => intro d k g m _ hf; omega
  | succ f ih =>
    intro d k g m h hf
    rw [cycF]
    rcases hd : bx d k
    · obtain ⟨h2, e2⟩ := h.step hi hd
      have hk : k < n := h.at_ ▸ h.ord.lt i hi
      have hc := cntF_set (d := d) (k := k) (by rw [h.len]; exact hk) hd
      obtain ⟨m', h3, h4, e3⟩ := ih (d.set k true) (ix l k).toNat (g + 1) _ h2 (by omega)
      simp only [Bool.false_eq_true, if_false]
      refine ⟨m', h3, by omega, ?_⟩
      have e4 : (cycF l f (d.set k true) (ix l k).toNat (g + 1)).2 - g = (cycF l f (d.set k true) (ix l k).toNat (g + 1)).2 - (g + 1) + 1 := by omega
      rw [e4, sg_succ, Int.neg_mul, ← e3, e2]
      omega
    · simp only [if_true]
      have := h.back hi hd
      subst this
      exact ⟨m, h, Nat.le_refl _, by simp [sg]⟩

/-- What is left of an order when the cycles through the first i places are done. -/
structure Gone (n : Nat) (l : List Int) (d : List Bool) (i : Nat) (m : Nat → Nat) : Prop where
  ord : Ord n m
  len : d.length = n
  isdone : ∀ j, j < n → bx d j = true → m j = j
  left : ∀ j, j < n → bx d j = false → m j = (ix l j).toNat
  upto : ∀ j, j < i → bx d j = true

theorem cycF_keeps (l : List Int) : ∀ (f : Nat) (d : List Bool) (k g j : Nat), j < d.length → bx d j = true → bx (cycF l f d k g).1 j = true := by
  intro f
  induction f with
  | zero => intro d k g j _ h; exact h
  | succ f ih =>
    intro d k g j hj h
    rw [cycF]
    split
    · exact h
    · refine ih _ _ _ _ (by rw [List.length_set]; exact hj) ?_
      rw [bx_set]
      split
      · rfl
      · exact h

theorem Gone.step {n : Nat} {l : List Int} {i : Nat} {m : Nat → Nat} (hi : i < n) (h : Gone n l (cycN l n i).1 i m) :
    ∃ m', Gone n l (cycN l n (i + 1)).1 (i + 1) m' ∧ (cycN l n (i + 1)).2 * det n (pm m') = (cycN l n i).2 * det n (pm m) := by
  rw [cycN]
  generalize (cycN l n i).2 = s at *
  generalize (cycN l n i).1 = d at *
  dsimp only
  rcases hd : bx d i
  · have hM : Mid n l (d.set i true) i (ix l i).toNat m := by
      refine ⟨h.ord, by rw [List.length_set]; exact h.len, fun j hj hb hji => ?_, fun j hj hb => ?_, ?_, h.left i hi hd⟩
      · rw [bx_set, if_neg (by rintro ⟨e2, _⟩; exact hji e2.symm)] at hb
        exact h.isdone j hj hb
      · rw [bx_set] at hb
        by_cases e : i = j
        · rw [if_pos ⟨e, by rw [h.len]; exact hj⟩] at hb; cases hb
        · rw [if_neg fun e2 => e e2.1] at hb
          exact h.left j hj hb
      · rw [bx_set, if_pos ⟨rfl, by rw [h.len]; exact hi⟩]
    have hc := cntF_set (d := d) (k := i) (by rw [h.len]; exact hi) hd
    have hc2 := cntF_le d
    rw [h.len] at hc2
    obtain ⟨m', h3, h4, e3⟩ := cyc_mid hi n (d.set i true) (ix l i).toNat 1 m hM (by omega)
    have e5 : cycF l (n + 1) d i 0 = cycF l n (d.set i true) (ix l i).toNat 1 := by
      rw [cycF, hd]
      simp
    rw [e5]
    have hk := fun j (hj : j < (d.set i true).length) (hb : bx (d.set i true) j = true) => cycF_keeps l n (d.set i true) (ix l i).toNat 1 j hj hb
    generalize cycF l n (d.set i true) (ix l i).toNat 1 = r at *
    refine ⟨m', ⟨h3.ord, h3.len, fun j hj hb => ?_, h3.left, fun j hj => ?_⟩, ?_⟩
    · by_cases e : j = i
      · subst e; exact h3.at_
      · exact h3.isdone j hj hb e
    · refine hk j (by rw [List.length_set, h.len]; omega) ?_
      rw [bx_set]
      by_cases e : i = j
      · rw [if_pos ⟨e, by rw [h.len]; omega⟩]
      · rw [if_neg fun e2 => e e2.1]; exact h.upto j (by omega)
    · rw [e3]
      unfold sg
      by_cases h6 : r.2 % 2 = 0
      · rw [if_pos ⟨by omega, h6⟩, if_neg (by omega)]; grind
      · rw [if_neg fun e => h6 e.2, if_pos (by omega)]; grind
  · have e5 : cycF l (n + 1) d i 0 = (d, 0) := by
      rw [cycF, hd]
      simp
    rw [e5]
    refine ⟨m, ⟨h.ord, h.len, h.isdone, h.left, fun j hj => ?_⟩, by simp⟩
    by_cases e : j = i
    · subst e; exact hd
    · exact h.upto j (by omega)

/-- The sign by the cycles is the determinant of the order's matrix. -/
theorem cycN_det {n : Nat} {l : List Int} (h : Ord n fun j => (ix l j).toNat) : (cycN l n n).2 = det n (pm fun j => (ix l j).toNat) := by
  have key : ∀ i, i ≤ n → ∃ m, Gone n l (cycN l n i).1 i m ∧ (cycN l n i).2 * det n (pm m) = det n (pm fun j => (ix l j).toNat) := by
    intro i
    induction i with
    | zero =>
      intro _
      refine ⟨_, ⟨h, by simp [cycN], fun j hj hb => ?_, fun j _ _ => rfl, fun j hj => by omega⟩, by simp [cycN]⟩
      simp [cycN, bx, List.getD, hj] at hb
    | succ i ih =>
      intro hi
      obtain ⟨m, h1, e1⟩ := ih (by omega)
      obtain ⟨m', h2, e2⟩ := h1.step (by omega)
      exact ⟨m', h2, e2.trans e1⟩
  obtain ⟨m, h1, e1⟩ := key n (Nat.le_refl _)
  rw [← e1, det_congr (B := idM) fun r c hr _ => by
    show unit_ (m r) c = unit_ r c
    rw [h1.isdone r hr (h1.upto r hr)], det_id]
  omega

theorem prodTo_skip (g : Nat → Int) {a : Nat} : ∀ {n}, a ≤ n → prodTo g (n + 1) = prodTo (fun k => g (skip a k)) n * g a := by
  intro n
  induction n with
  | zero =>
    intro h
    obtain rfl : a = 0 := by omega
    simp [prodTo]
  | succ n ih =>
    intro h
    rcases Nat.lt_or_ge n a with h1 | h1
    · obtain rfl : a = n + 1 := by omega
      rw [prodTo, prodTo_congr (h := fun k => g (skip (n + 1) k)) fun i hi => by simp [skip, hi]]
    · rw [prodTo, ih h1]
      conv => rhs; rw [prodTo]
      have : skip a n = n + 1 := by unfold skip; rw [if_neg (by omega)]
      rw [this]
      grind

/-- The product over all the pairs. -/
def pairs (F : Nat → Nat → Int) (n : Nat) : Int := prodTo (fun i => prodTo (fun k => F k i) i) n

theorem pairs_skip (F : Nat → Nat → Int) {a : Nat} : ∀ {n}, a ≤ n → pairs F (n + 1) = pairs (fun k i => F (skip a k) (skip a i)) n * (prodTo (fun k => F k a) a * prodTo (fun i => F a (a + 1 + i)) (n - a)) := by
  intro n
  induction n with
  | zero =>
    intro h
    obtain rfl : a = 0 := by omega
    simp [pairs, prodTo]
  | succ n ih =>
    intro h
    rcases Nat.lt_or_ge n a with h1 | h1
    · obtain rfl : a = n + 1 := by omega
      have e1 : pairs F (n + 1 + 1) = pairs F (n + 1) * prodTo (fun k => F k (n + 1)) (n + 1) := rfl
      have e2 : pairs (fun k i => F (skip (n + 1) k) (skip (n + 1) i)) (n + 1) = pairs F (n + 1) := by
        unfold pairs
        refine prodTo_congr fun i hi => prodTo_congr fun k hk => ?_
        simp only [skip]
        rw [if_pos (by omega), if_pos hi]
      have e3 : prodTo (fun i => F (n + 1) (n + 1 + 1 + i)) (n + 1 - (n + 1)) = 1 := by rw [Nat.sub_self]; rfl
      rw [e1, e2, e3, Int.mul_one]
    · have e1 : pairs F (n + 1 + 1) = pairs F (n + 1) * prodTo (fun k => F k (n + 1)) (n + 1) := rfl
      have e2 : pairs (fun k i => F (skip a k) (skip a i)) (n + 1) = pairs (fun k i => F (skip a k) (skip a i)) n * prodTo (fun k => F (skip a k) (skip a n)) n := rfl
      have e3 : n + 1 - a = n - a + 1 := by omega
      have e4 : skip a n = n + 1 := by unfold skip; rw [if_neg (by omega)]
      have e5 : a + 1 + (n - a) = n + 1 := by omega
      rw [e1, ih h1, e2, e3, prodTo_skip (fun k => F k (n + 1)) h1, e4]
      conv => rhs; rw [prodTo, e5]
      grind

theorem prodTo_one {g : Nat → Int} {n : Nat} (h : ∀ i, i < n → g i = 1) : prodTo g n = 1 := by
  induction n with
  | zero => rfl
  | succ n ih => rw [prodTo, ih fun i hi => h i (by omega), h n (by omega)]; rfl
theorem prodTo_neg {g : Nat → Int} {n : Nat} (h : ∀ i, i < n → g i = -1) : prodTo g n = sg n := by
  induction n with
  | zero => rfl
  | succ n ih => rw [prodTo, ih fun i hi => h i (by omega), h n (by omega), sg_succ]; omega

/-- What a pair does to an order's sign. -/
def turnF (m : Nat → Nat) (k i : Nat) : Int := if m i < m k then -1 else 1

/-- The sign by the pairs is the determinant of the order's matrix. -/
theorem det_pairs : ∀ {n : Nat} {m : Nat → Nat}, Ord n m → det n (pm m) = pairs (turnF m) n := by
  intro n
  induction n with
  | zero => intro m _; rfl
  | succ n ih =>
    intro m h
    obtain ⟨a, ha, ea⟩ := h.onto n (Nat.lt_succ_self n)
    have hne : ∀ r, r < n + 1 → r ≠ a → m r < n := fun r hr h1 => by
      have h2 := h.lt r hr
      have h3 : m r ≠ n := fun e => h1 (h.inj r a hr ha (by omega))
      omega
    have h' : Ord n (fun r => m (skip a r)) := by
      refine ⟨fun r hr => hne _ (skip_lt hr) (skip_ne a r), fun x y hx hy e => ?_⟩
      have := h.inj _ _ (skip_lt hx) (skip_lt hy) e
      revert this
      unfold skip
      split <;> split <;> omega
    have e1 : det (n + 1) (pm m) = sg (a + n) * det n (pm fun r => m (skip a r)) := by
      rw [det_row (pm m) ha, sumTo_congr (g := fun j => sg (a + j) * pm m a j * det n (minor (pm m) a j)) (h := fun k => unit_ n k * (sg (a + k) * det n (minor (pm m) a k))) fun j _ => by
        show sg (a + j) * unit_ (m a) j * _ = _
        rw [ea]
        grind]
      rw [unit_pick (fun k => sg (a + k) * det n (minor (pm m) a k)) (Nat.lt_succ_self n)]
      congr 1
      refine det_congr fun r c hr hc => ?_
      show unit_ (m (skip a r)) (skip n c) = unit_ (m (skip a r)) c
      rw [show skip n c = c by unfold skip; rw [if_pos hc]]
    rw [e1, ih h', pairs_skip _ (by omega : a ≤ n)]
    have e2 : prodTo (fun k => turnF m k a) a = 1 := prodTo_one fun k hk => by
      have := h.lt k (by omega)
      unfold turnF
      rw [if_neg (by omega)]
    have e3 : prodTo (fun i => turnF m a (a + 1 + i)) (n - a) = sg (n - a) := prodTo_neg fun i hi => by
      have := hne (a + 1 + i) (by omega) (by omega)
      unfold turnF
      rw [if_pos (by omega)]
    have e4 : sg (n - a) = sg (a + n) := by
      unfold sg
      by_cases h1 : (n - a) % 2 = 0
      · rw [if_pos h1, if_pos (by omega)]
      · rw [if_neg h1, if_neg (by omega)]
    rw [e2, e3, e4]
    have e5 : pairs (turnF fun r => m (skip a r)) n = pairs (fun k i => turnF m (skip a k) (skip a i)) n := rfl
    rw [e5]
    grind

theorem bx_metN {l : List Int} {n : Nat} : ∀ {k}, ∀ v, v < n → (bx (metN l n k) v = true ↔ ∃ j, j < k ∧ (ix l j).toNat = v) := by
  intro k
  induction k with
  | zero =>
    intro v hv
    simp [metN, bx, List.getD, hv]
  | succ k ih =>
    intro v hv
    rw [metN, bx_set, metN_len]
    by_cases h1 : (ix l k).toNat = v
    · rw [if_pos ⟨h1, hv⟩]
      exact ⟨fun _ => ⟨k, by omega, h1⟩, fun _ => rfl⟩
    · rw [if_neg fun e => h1 e.1, ih v hv]
      constructor
      · rintro ⟨j, hj, e⟩; exact ⟨j, by omega, e⟩
      · rintro ⟨j, hj, e⟩
        by_cases h2 : j = k
        · subst h2; exact absurd e h1
        · exact ⟨j, by omega, e⟩

theorem okN_inj {l : List Int} {n : Nat} : ∀ {k}, okN l n k = true → ∀ a b, a < b → b < k → (ix l a).toNat ≠ (ix l b).toNat := by
  intro k
  induction k with
  | zero => intro _ a b _ hb; omega
  | succ k ih =>
    intro h a b hab hb e
    have hle := okN_le h
    rw [okN, Bool.and_eq_true, Bool.and_eq_true] at h
    rcases Nat.lt_or_ge b k with h1 | h1
    · exact ih h.1.1 a b hab h1 e
    · obtain rfl : b = k := by omega
      have h2 := hle b (by omega)
      have := (bx_metN (l := l) (n := n) (k := b) (ix l b).toNat (by omega)).2 ⟨a, hab, e⟩
      rw [this] at h
      exact absurd h.2 (by simp)

theorem okN_ord {l : List Int} {n : Nat} (h : okN l n n = true) : Ord n (fun j => (ix l j).toNat) ∧ ∀ j, j < n → 0 ≤ ix l j := by
  have hle := okN_le h
  refine ⟨⟨fun a ha => by have := hle a ha; show (ix l a).toNat < n; omega, fun a b ha hb e => ?_⟩, fun j hj => (hle j hj).1⟩
  rcases Nat.lt_trichotomy a b with h1 | h1 | h1
  · exact absurd e (okN_inj h a b h1 hb)
  · exact h1
  · exact absurd e.symm (okN_inj h b a h1 ha)

theorem ord_okN {l : List Int} {n : Nat} (h : Ord n (fun j => (ix l j).toNat)) (h0 : ∀ j, j < n → 0 ≤ ix l j) : ∀ k, k ≤ n → okN l n k = true := by
  intro k
  induction k with
  | zero => intro _; rfl
  | succ k ih =>
    intro hk
    have h1 := h.lt k (by omega)
    have h2 := h0 k (by omega)
    change (ix l k).toNat < n at h1
    have h3 : bx (metN l n k) (ix l k).toNat = false := by
      rcases hb : bx (metN l n k) (ix l k).toNat
      · rfl
      · obtain ⟨j, hj, e⟩ := (bx_metN _ h1).1 hb
        have := h.inj j k (by omega) (by omega) e
        omega
    rw [okN, ih (by omega), h3]
    simp
    omega

/-- If each number has its place, it is an order. -/
theorem has_ord {l : List Int} {n : Nat} (h : ∀ i : Nat, i < n → ∃ p, p < n ∧ ix l p = i) : Ord n (fun j => (ix l j).toNat) ∧ ∀ j, j < n → 0 ≤ ix l j := by
  let f : Nat → Nat := fun i => if hi : i < n then (h i hi).choose else 0
  have hf : ∀ i, i < n → f i < n ∧ ix l (f i) = i := fun i hi => by
    have := (h i hi).choose_spec
    simp only [f, dif_pos hi]
    exact this
  have hF : Ord n f := ⟨fun a ha => (hf a ha).1, fun a b ha hb e => by
    have h1 := (hf a ha).2
    have h2 := (hf b hb).2
    rw [e] at h1
    omega⟩
  refine ⟨⟨fun p hp => ?_, fun p q hp hq e => ?_⟩, fun p hp => ?_⟩
  · obtain ⟨i, hi, rfl⟩ := hF.onto p hp
    have := (hf i hi).2
    show (ix l (f i)).toNat < n
    omega
  · obtain ⟨i, hi, rfl⟩ := hF.onto p hp
    obtain ⟨j, hj, rfl⟩ := hF.onto q hq
    have h1 := (hf i hi).2
    have h2 := (hf j hj).2
    change (ix l (f i)).toNat = (ix l (f j)).toNat at e
    have : i = j := by omega
    rw [this]
  · obtain ⟨i, hi, rfl⟩ := hF.onto p hp
    have := (hf i hi).2
    omega
end Go.Rk
