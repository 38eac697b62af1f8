/-
  What takes a matrix to noughts: its factors, and those of the adjugate; Cayley and Hamilton; Faddeev and Le Verrier. Plain Lean, no program in sight.
-/
import Derived.Test.YtfocfgddlnjfmaaSum
import Derived.Test.YtfocfgddlnjfmaaDet
import Derived.Test.YtfocfgddlnjfmaaDetMore
import Derived.Test.YtfocfgddlnjfmaaMx
import Derived.Test.YtfocfgddlnjfmaaPfun
namespace Go.Rk

/-- x times the one that changes nothing, less A. -/
def chiM (A : Mx) (x : Int) : Mx := linM idM (fun i j => -A i j) x

theorem chi_lead (n : Nat) (A : Mx) : DL n 1 fun x => det n (chiM A x) := by
  have := det_lin n idM (fun i j => -A i j)
  rwa [det_id] at this

/-- A row that is a sum by h. -/
theorem det_row_lin {n : Nat} (M : Mx) {m : Nat} (hm : m < n) (r s : Nat → Int) (h : Int) : det n (setRow M m fun c => h * r c + s c) = h * det n (setRow M m r) + det n (setRow M m s) := by
  rw [det_row_add M m hm (fun c => h * r c) s, det_row_mul M m hm]

/-- The first m rows by h, the others as they are in Q. -/
def partM (P Q : Mx) (h : Int) (m : Nat) : Mx := fun i j => if i < m then h * P i j + Q i j else Q i j
theorem partM_full (n : Nat) (P Q : Mx) (h : Int) : det n (partM P Q h n) = det n (linM P Q h) := det_congr fun i j hi _ => by unfold partM linM; rw [if_pos hi]
theorem partM_none (n : Nat) (P Q : Mx) (h : Int) : det n (partM P Q h 0) = det n Q := det_congr fun i j _ _ => by unfold partM; rw [if_neg (Nat.not_lt_zero i)]
theorem partM_succ {n m : Nat} (hm : m < n) (P Q : Mx) (h : Int) : det n (partM P Q h (m + 1)) = h * det n (setRow (partM P Q h m) m (P m)) + det n (partM P Q h m) := by
  have e1 : partM P Q h (m + 1) = setRow (partM P Q h m) m (fun c => h * P m c + Q m c) := by
    funext i j
    unfold partM setRow
    dsimp only
    by_cases e : i = m
    · subst e; rw [if_pos (by omega), if_pos rfl]
    · rw [if_neg e]
      by_cases e2 : i < m
      · rw [if_pos (by omega), if_pos e2]
      · rw [if_neg (by omega), if_neg e2]
  have e2 : setRow (partM P Q h m) m (Q m) = partM P Q h m := by
    funext i j
    unfold partM setRow
    by_cases e : i = m
    · subst e; rw [if_pos rfl, if_neg (by omega)]
    · rw [if_neg e]
  rw [e1, det_row_lin _ hm, e2]
theorem det_steps (n : Nat) (P Q : Mx) (h : Int) : det n (linM P Q h) = det n Q + h * sumTo (fun m => det n (setRow (partM P Q h m) m (P m))) n := by
  have : ∀ k, k ≤ n → det n (partM P Q h k) = det n Q + h * sumTo (fun m => det n (setRow (partM P Q h m) m (P m))) k := by
    intro k
    induction k with
    | zero => intro _; rw [partM_none, sumTo, Int.mul_zero, Int.add_zero]
    | succ k ih =>
      intro hk
      rw [partM_succ (by omega), ih (by omega), sumTo, Int.mul_add]
      omega
  rw [← this n (Nat.le_refl _), partM_full]
/-- Each of these is a polynomial in h. -/
theorem det_steps_df (n : Nat) (P Q : Mx) (m : Nat) : DF n fun h => det n (setRow (partM P Q h m) m (P m)) := by
  have : ∀ h, det n (setRow (partM P Q h m) m (P m)) = det n (linM (fun i j => if i < m then P i j else 0) (fun i j => if i = m then P m j else Q i j) h) := fun h => det_congr fun i j _ _ => by
    unfold setRow partM linM
    dsimp only
    by_cases e : i = m
    · rw [if_pos e, if_neg (by omega), if_pos e]; omega
    · rw [if_neg e]
      by_cases e2 : i < m
      · rw [if_pos e2, if_pos e2, if_neg e]
      · rw [if_neg e2, if_neg e2, if_neg e]; omega
  exact (det_lin n _ _).df.congr fun h => (this h).symm
theorem det_unit_row {n : Nat} (M : Mx) {m : Nat} (hm : m < n) : det n (setRow M m (unit_ m)) = adj n M m m := by
  obtain ⟨k, rfl⟩ : ∃ k, n = k + 1 := ⟨n - 1, by omega⟩
  rw [det_row (setRow M m (unit_ m)) hm]
  have : ∀ j, j < k + 1 → sg (m + j) * setRow M m (unit_ m) m j * det k (minor (setRow M m (unit_ m)) m j) = unit_ m j * (sg (m + j) * det k (minor M m j)) := fun j _ => by
    have e : minor (setRow M m (unit_ m)) m j = minor M m j := by
      funext r c
      unfold minor setRow
      rw [if_neg (skip_ne m r)]
    rw [e]
    show sg (m + j) * (if m = m then unit_ m j else M m j) * _ = _
    rw [if_pos rfl, Int.mul_comm (sg (m + j)), Int.mul_assoc]
  rw [sumTo_congr this, unit_pick (fun j => sg (m + j) * det k (minor M m j)) hm]
  rfl

/-- The powers' differences. -/
def powD (x h : Int) : Nat → Int
  | 0 => 0
  | k + 1 => x ^ k + (x + h) * powD x h k
theorem powD_eq (x h : Int) (k : Nat) : (x + h) ^ k = x ^ k + h * powD x h k := by
  induction k with
  | zero => simp [powD]
  | succ k ih => rw [Int.pow_succ, ih, powD, Int.pow_succ]; grind
theorem powD_zero (x : Int) (k : Nat) : x * powD x 0 k = k * x ^ k := by
  induction k with
  | zero => simp [powD]
  | succ k ih =>
    rw [powD, Int.pow_succ, Int.add_zero, Int.mul_add, ih]
    have : ((k + 1 : Nat) : Int) = (k : Int) + 1 := by omega
    rw [this]
    grind
theorem powD_zero_succ (x : Int) (k : Nat) : powD x 0 (k + 1) = (k + 1) * x ^ k := by
  rw [powD, Int.add_zero, powD_zero]; grind
theorem powD_df (x : Int) (k : Nat) : DF k fun h => powD x h k := by
  induction k with
  | zero => exact DF.const 0
  | succ k ih =>
    have h1 : DF 1 fun h => x + h := (DF.lin 1 x).congr fun h => by omega
    have h2 := h1.mul ih
    rw [Nat.add_comm] at h2
    exact (((DF.const (x ^ k)).ups (Nat.zero_le _)).add h2)

/-- e: the factors of what takes A to noughts; b: those of the adjugate. -/
structure FL (n : Nat) (A : Mx) (e : Nat → Int) (b : Nat → Mx) : Prop where
  chi : ∀ x, det n (chiM A x) = pv e (n + 1) x
  top : e n = 1
  last : ∀ i j, i < n → j < n → b (n - 1) i j = oneM i j
  step : ∀ k, 1 ≤ k → k < n → ∀ i j, i < n → j < n → b (k - 1) i j - mulM n A (b k) i j = e k * oneM i j
  first : ∀ i j, i < n → j < n → -mulM n A (b 0) i j = e 0 * oneM i j
  tr : ∀ k, 1 ≤ k → k ≤ n → sumTo (fun i => b (k - 1) i i) n = k * e k

theorem FL.ex {n : Nat} (hn : 1 ≤ n) (A : Mx) : ∃ e b, FL n A e b := by
  obtain ⟨e, etop, hchi⟩ := chi_lead n A
  replace hchi : ∀ x, det n (chiM A x) = pv e (n + 1) x := hchi
  -- the adjugate's factors
  have hb : ∀ i j, ∃ c : Nat → Int, ∀ x, adj n (chiM A x) i j = pv c n x := fun i j => by
    have h1 := (det_lin (n - 1) (minor idM j i) (minor (fun r s => -A r s) j i)).smul (sg (i + j))
    obtain ⟨c, _, hc⟩ := h1
    refine ⟨c, fun x => ?_⟩
    rw [show n - 1 + 1 = n by omega] at hc
    rw [← hc]
    rfl
  obtain ⟨b', hb'⟩ := Classical.axiomOfChoice (fun i => Classical.axiomOfChoice (hb i))
  let b : Nat → Mx := fun k i j => b' i j k
  have hba : ∀ i j x, adj n (chiM A x) i j = pv (fun k => b k i j) n x := fun i j x => hb' i j x
  -- what the product says, factor by factor
  have key : ∀ i j, i < n → j < n → ∀ k, k < n + 1 → (if k = 0 then 0 else b (k - 1) i j) - (if k < n then mulM n A (b k) i j else 0) = e k * oneM i j := fun i j hi hj => by
    refine pv_same 0 fun x _ => ?_
    have h1 := mul_adj (chiM A x) hi hj
    have h2 : mulM n (chiM A x) (adj n (chiM A x)) i j = x * adj n (chiM A x) i j - sumTo (fun t => A i t * adj n (chiM A x) t j) n := by
      unfold mulM
      rw [sumTo_congr (h := fun t => unit_ i t * (x * adj n (chiM A x) t j) + (-1) * (A i t * adj n (chiM A x) t j)) fun t _ => by
        show (x * unit_ i t + -A i t) * _ = _
        grind, sumTo_add, sumTo_mul, unit_pick (fun t => x * adj n (chiM A x) t j) hi]
      omega
    have h3 : sumTo (fun t => A i t * adj n (chiM A x) t j) n = pv (fun k => mulM n A (b k) i j) n x := by
      rw [sumTo_congr (h := fun t => sumTo (fun k => A i t * (b k t j * x ^ k)) n) fun t _ => by rw [hba]; unfold pv; rw [sumTo_mul], sumTo_swap]
      unfold pv
      refine sumTo_congr fun k _ => ?_
      unfold mulM
      rw [Int.mul_comm, ← sumTo_mul]
      exact sumTo_congr fun t _ => by grind
    have h4 : pv (fun k => (if k = 0 then 0 else b (k - 1) i j) - (if k < n then mulM n A (b k) i j else 0)) (n + 1) x = x * pv (fun k => b k i j) n x - pv (fun k => mulM n A (b k) i j) n x := by
      have e1 := pv_add (fun k => if k = 0 then 0 else b (k - 1) i j) (fun k => -1 * (if k < n then mulM n A (b k) i j else 0)) (n + 1) x
      rw [pv_mul, pv_more (fun k => mulM n A (b k) i j) (Nat.le_succ n), pv_succ_left (fun k => if k = 0 then 0 else b (k - 1) i j), if_pos rfl, Int.zero_add] at e1
      rw [pv_congr (e := fun k => (if k = 0 then 0 else b (k - 1) i j) + -1 * (if k < n then mulM n A (b k) i j else 0)) fun k _ => by omega, e1,
        pv_congr (c := fun k => if k + 1 = 0 then 0 else b (k + 1 - 1) i j) (e := fun k => b k i j) fun k _ => by rw [if_neg (by omega)]; rfl]
      omega
    rw [h4, ← hba, ← h3, ← h2, h1]
    have h5 : pv (fun k => e k * oneM i j) (n + 1) x = oneM i j * pv e (n + 1) x := by rw [← pv_mul]; exact pv_congr (fun k _ => Int.mul_comm _ _) x
    rw [h5, ← hchi]
    unfold oneM
    by_cases eij : i = j
    · rw [if_pos eij, if_pos eij, Int.one_mul]
    · rw [if_neg eij, if_neg eij, Int.zero_mul]
  -- the middle
  have htr : ∀ x, sumTo (fun i => adj n (chiM A x) i i) n = pv (fun k => (k + 1) * e (k + 1)) n x := fun x => by
    have h1 : ∀ h, det n (chiM A (x + h)) = det n (chiM A x) + h * sumTo (fun m => det n (setRow (partM idM (chiM A x) h m) m (idM m))) n := fun h => by
      rw [← det_steps]
      exact det_congr fun i j _ _ => by show (x + h) * idM i j + -A i j = h * idM i j + (x * idM i j + -A i j); grind
    have h2 : ∀ h, det n (chiM A (x + h)) = det n (chiM A x) + h * sumTo (fun k => e k * powD x h k) (n + 1) := fun h => by
      rw [hchi, hchi]
      unfold pv
      rw [← sumTo_mul, ← sumTo_add]
      exact sumTo_congr fun k _ => by rw [powD_eq]; grind
    have d1 : DF n fun h => sumTo (fun m => det n (setRow (partM idM (chiM A x) h m) m (idM m))) n := DF.sum fun m _ => det_steps_df n idM (chiM A x) m
    have d2 : DF n fun h => sumTo (fun k => e k * powD x h k) (n + 1) := DF.sum fun k hk => ((powD_df x k).smul (e k)).ups (by omega)
    have h3 := d1.same d2 1 (fun h hh => by
      have := (h1 h).symm.trans (h2 h)
      exact Int.eq_of_mul_eq_mul_left (by omega : h ≠ 0) (by omega)) 0
    have h4 : sumTo (fun m => det n (setRow (partM idM (chiM A x) 0 m) m (idM m))) n = sumTo (fun i => adj n (chiM A x) i i) n := sumTo_congr fun m hm => by
      have : partM idM (chiM A x) 0 m = chiM A x := by
        funext i j
        unfold partM
        split
        · omega
        · rfl
      rw [this]
      exact det_unit_row _ hm
    have h3' : sumTo (fun m => det n (setRow (partM idM (chiM A x) 0 m) m (idM m))) n = sumTo (fun k => e k * powD x 0 k) (n + 1) := h3
    rw [h4, sumTo_succ_left] at h3'
    rw [h3']
    show e 0 * 0 + _ = _
    rw [Int.mul_zero, Int.zero_add]
    unfold pv
    exact sumTo_congr fun k _ => by rw [powD_zero_succ]; grind
  have htr2 : ∀ k, k < n → sumTo (fun i => b k i i) n = (k + 1) * e (k + 1) := fun k hk => by
    refine pv_same (c := fun k => sumTo (fun i => b k i i) n) (e := fun k => (k + 1) * e (k + 1)) (d := n) 0 (fun x _ => ?_) k hk
    rw [← htr]
    unfold pv
    rw [sumTo_congr (h := fun k => sumTo (fun i => b k i i * x ^ k) n) fun k _ => by
      rw [Int.mul_comm, ← sumTo_mul]; exact sumTo_congr fun i _ => Int.mul_comm _ _, sumTo_swap]
    exact sumTo_congr fun i _ => by rw [hba]; rfl
  refine ⟨e, b, hchi, etop, fun i j hi hj => ?_, fun k h1 h2 i j hi hj => ?_, fun i j hi hj => ?_, fun k h1 h2 => ?_⟩
  · have := key i j hi hj n (by omega)
    rw [if_neg (by omega), if_neg (by omega), etop] at this
    omega
  · have := key i j hi hj k (by omega)
    rwa [if_neg (by omega), if_pos h2] at this
  · have := key i j hi hj 0 (by omega)
    rw [if_pos rfl, if_pos (by omega)] at this
    omega
  · obtain ⟨m, rfl⟩ : ∃ m, k = m + 1 := ⟨k - 1, by omega⟩
    rw [show m + 1 - 1 = m from rfl, htr2 m (by omega)]
    rfl

section
variable {n : Nat} {A : Mx} {e : Nat → Int} {b : Nat → Mx}
theorem sumTo_same (a : Int) (n : Nat) : sumTo (fun _ => a) n = n * a := by
  induction n with
  | zero => simp [sumTo]
  | succ n ih => rw [sumTo, ih]; have : ((n + 1 : Nat) : Int) = (n : Int) + 1 := by omega
                 rw [this, Int.add_mul, Int.one_mul]
/-- The middle of A times one of these. -/
theorem FL.mid (h : FL n A e b) {j : Nat} (hj : j < n) : sumTo (fun i => mulM n A (b j) i i) n = ((j : Int) - n) * e j := by
  rcases j with _ | j
  · rw [sumTo_congr (h := fun _ => -e 0) fun i hi => by have := h.first i i hi hi; unfold oneM at this; rw [if_pos rfl] at this; omega, sumTo_same]
    grind
  · rw [sumTo_congr (h := fun i => b j i i + -e (j + 1)) fun i hi => by
      have := h.step (j + 1) (by omega) hj i i hi hi
      unfold oneM at this
      rw [if_pos rfl, show j + 1 - 1 = j from rfl] at this
      omega, sumTo_add, sumTo_same]
    have := h.tr (j + 1) (by omega) (by omega)
    rw [show j + 1 - 1 = j from rfl] at this
    rw [this]
    grind
theorem FL.next (h : FL n A e b) {j i k : Nat} (h1 : 1 ≤ j) (h2 : j < n) (hi : i < n) (hk : k < n) : b (j - 1) i k = mulM n A (b j) i k + e j * oneM i k := by
  have := h.step j h1 h2 i k hi hk
  omega
theorem FL.same (h : FL n A e b) {e' : Nat → Int} {b' : Nat → Mx} (g : FL n A e' b') : ∀ k, k ≤ n → e k = e' k := fun k hk =>
  pv_same 0 (fun x _ => by rw [← h.chi, ← g.chi]) k (by omega)

/-- Cayley, Hamilton. -/
theorem FL.cayley (h : FL n A e b) (hn : 1 ≤ n) {i j : Nat} (hi : i < n) (hj : j < n) : sumTo (fun k => e k * powM n A k i j) (n + 1) = 0 := by
  have pow_comm : ∀ k, ∀ i j, i < n → j < n → mulM n (powM n A k) A i j = powM n A (k + 1) i j := fun k => by
    induction k with
    | zero => intro i j hi hj; exact (one_mulM A hi j).trans (mulM_one A i hj).symm
    | succ k ih =>
      intro i j hi hj
      show mulM n (mulM n A (powM n A k)) A i j = mulM n A (powM n A (k + 1)) i j
      rw [mulM_go]
      exact sumTo_congr fun t ht => by rw [ih t j ht hj]
  have key : ∀ m, m < n → sumTo (fun k => e k * powM n A k i j) (m + 1) = -mulM n (powM n A (m + 1)) (b m) i j := by
    intro m
    induction m with
    | zero =>
      intro hm
      show 0 + e 0 * oneM i j = -mulM n (mulM n A oneM) (b 0) i j
      rw [← h.first i j hi hj]
      have : mulM n (mulM n A oneM) (b 0) i j = mulM n A (b 0) i j := by
        rw [mulM_go]
        exact sumTo_congr fun t ht => by rw [one_mulM _ ht]
      rw [this]
      omega
    | succ m ih =>
      intro hm
      rw [sumTo, ih (by omega)]
      have e1 : mulM n (powM n A (m + 1)) (b m) i j = mulM n (powM n A (m + 1)) (fun r c => mulM n A (b (m + 1)) r c + e (m + 1) * oneM r c) i j := by
        show sumTo _ n = sumTo _ n
        exact sumTo_congr fun t ht => by
          show powM n A (m + 1) i t * b m t j = powM n A (m + 1) i t * (mulM n A (b (m + 1)) t j + e (m + 1) * oneM t j)
          rw [← h.next (j := m + 1) (by omega) hm ht hj]
          rfl
      rw [e1, mulM_add, ← mulM_go]
      have e2 : mulM n (powM n A (m + 1)) (fun r c => e (m + 1) * oneM r c) i j = e (m + 1) * powM n A (m + 1) i j := by
        have := mulM_one (powM n A (m + 1)) i hj
        rw [← this]
        show sumTo _ n = _ * sumTo _ n
        rw [← sumTo_mul]
        exact sumTo_congr fun t _ => by grind
      dsimp only
      rw [e2]
      have e3 : mulM n (mulM n (powM n A (m + 1)) A) (b (m + 1)) i j = mulM n (powM n A (m + 1 + 1)) (b (m + 1)) i j := sumTo_congr fun t ht => by rw [pow_comm (m + 1) i t hi ht]
      rw [e3]
      omega
  obtain ⟨m, rfl⟩ : ∃ m, n = m + 1 := ⟨n - 1, by omega⟩
  rw [sumTo, key m (by omega), h.top, Int.one_mul]
  have : mulM (m + 1) (powM (m + 1) A (m + 1)) (b m) i j = powM (m + 1) A (m + 1) i j := by
    rw [← mulM_one (powM (m + 1) A (m + 1)) i hj]
    exact sumTo_congr fun t ht => by rw [← h.last t j ht hj]; rfl
  omega
end
end Go.Rk
