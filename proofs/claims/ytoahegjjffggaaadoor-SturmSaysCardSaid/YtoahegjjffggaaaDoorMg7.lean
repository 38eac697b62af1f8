/-
  What takes a matrix to noughts: its factors, and those of the adjugate; Cayley and Hamilton; Faddeev and Le Verrier. Plain Lean, no program in sight.
  charpoly.trace, charpoly.Trace and charpoly.Of walked.
  The closed fact of the statements on what takes a matrix to noughts; its ends.
  Matrices by a rule, row by row. No program in sight.
  Two rows of factors as one matrix (Sylvester); what is wrong with two rows. Plain Lean on the words of the walks.
-/
import Derived.Test.YtoahegjjffggaaaDoorRows
import Derived.StillTailTactics
import Derived.RowKit
import Derived.Test.YtoahegjjffggaaaDoorMg0
import Derived.Test.YtoahegjjffggaaaDoorMg1
import Derived.Test.YtoahegjjffggaaaDoorMg2
import Derived.Test.YtoahegjjffggaaaDoorMg3
import Derived.Test.YtoahegjjffggaaaDoorMg5
import Derived.Test.YtoahegjjffggaaaDoorMg6
namespace Go.Rk

/-- x times the one that changes nothing, less A. -/
def chiM (A : Mx) (x : Int) : Mx := linM idM (fun i j => -A i j) x

theorem chi_lead (n : Nat) (A : Mx) : DL n 1 fun x => det n (chiM A x) := by
  have := det_lin n idM (fun i j => -A i j)
  rwa [det_id] at this

/-- A row that is a sum by h. -/
theorem det_row_lin {n : Nat} (M : Mx) {m : Nat} (hm : m < n) (r s : Nat → Int) (h : Int) : det n (setRow M m fun c => h * r c + s c) = h * det n (setRow M m r) + det n (setRow M m s) := by
  rw [det_row_add M m hm (fun c => h * r c) s, det_row_mul M m hm]

/-- The first m rows by h, the others as they are in Q. -/
def partM (P Q : Mx) (h : Int) (m : Nat) : Mx := fun i j => if i < m then h * P i j + Q i j else Q i j
theorem partM_full (n : Nat) (P Q : Mx) (h : Int) : det n (partM P Q h n) = det n (linM P Q h) := det_congr fun i j hi _ => by unfold partM linM; rw [if_pos hi]
theorem partM_none (n : Nat) (P Q : Mx) (h : Int) : det n (partM P Q h 0) = det n Q := det_congr fun i j _ _ => by unfold partM; rw [if_neg (Nat.not_lt_zero i)]
theorem partM_succ {n m : Nat} (hm : m < n) (P Q : Mx) (h : Int) : det n (partM P Q h (m + 1)) = h * det n (setRow (partM P Q h m) m (P m)) + det n (partM P Q h m) := by
  have e1 : partM P Q h (m + 1) = setRow (partM P Q h m) m (fun c => h * P m c + Q m c) := by
    funext i j
    unfold partM setRow
    dsimp only
    by_cases e : i = m
    · subst e; rw [if_pos (by omega), if_pos rfl]
    · rw [if_neg e]
      by_cases e2 : i < m
      · rw [if_pos (by omega), if_pos e2]
      · rw [if_neg (by omega), if_neg e2]
  have e2 : setRow (partM P Q h m) m (Q m) = partM P Q h m := by
    funext i j
    unfold partM setRow
    by_cases e : i = m
    · subst e; rw [if_pos rfl, if_neg (by omega)]
    · rw [if_neg e]
  rw [e1, det_row_lin _ hm, e2]
theorem det_steps (n : Nat) (P Q : Mx) (h : Int) : det n (linM P Q h) = det n Q + h * sumTo (fun m => det n (setRow (partM P Q h m) m (P m))) n := by
  have : ∀ k, k ≤ n → det n (partM P Q h k) = det n Q + h * sumTo (fun m => det n (setRow (partM P Q h m) m (P m))) k := by
    intro k
    induction k with
    | zero => intro _; rw [partM_none, sumTo, Int.mul_zero, Int.add_zero]
    | succ k ih =>
      intro hk
      rw [partM_succ (by omega), ih (by omega), sumTo, Int.mul_add]
      omega
  rw [← this n (Nat.le_refl _), partM_full]
/-- Each of these is a polynomial in h. -/
theorem det_steps_df (n : Nat) (P Q : Mx) (m : Nat) : DF n fun h => det n (setRow (partM P Q h m) m (P m)) := by
  have : ∀ h, det n (setRow (partM P Q h m) m (P m)) = det n (linM (fun i j => if i < m then P i j else 0) (fun i j => if i = m then P m j else Q i j) h) := fun h => det_congr fun i j _ _ => by
    unfold setRow partM linM
    dsimp only
    by_cases e : i = m
    · rw [if_pos e, if_neg (by omega), if_pos e]; omega
    · rw [if_neg e]
      by_cases e2 : i < m
      · rw [if_pos e2, if_pos e2, if_neg e]
      · rw [if_neg e2, if_neg e2, if_neg e]; omega
  exact (det_lin n _ _).df.congr fun h => (this h).symm
theorem det_unit_row {n : Nat} (M : Mx) {m : Nat} (hm : m < n) : det n (setRow M m (unit_ m)) = adj n M m m := by
  obtain ⟨k, rfl⟩ : ∃ k, n = k + 1 := ⟨n - 1, by omega⟩
  rw [det_row (setRow M m (unit_ m)) hm]
  have : ∀ j, j < k + 1 → sg (m + j) * setRow M m (unit_ m) m j * det k (minor (setRow M m (unit_ m)) m j) = unit_ m j * (sg (m + j) * det k (minor M m j)) := fun j _ => by
    have e : minor (setRow M m (unit_ m)) m j = minor M m j := by
      funext r c
      unfold minor setRow
      rw [if_neg (skip_ne m r)]
    rw [e]
    show sg (m + j) * (if m = m then unit_ m j else M m j) * _ = _
    rw [if_pos rfl, Int.mul_comm (sg (m + j)), Int.mul_assoc]
  rw [sumTo_congr this, unit_pick (fun j => sg (m + j) * det k (minor M m j)) hm]
  rfl

/-- The powers' differences. -/
def powD (x h : Int) : Nat → Int
  | 0 => 0
  | k + 1 => x ^ k + (x + h) * powD x h k
theorem powD_eq (x h : Int) (k : Nat) : (x + h) ^ k = x ^ k + h * powD x h k := by
  induction k with
  | zero => simp [powD]
  | succ k ih => rw [Int.pow_succ, ih, powD, Int.pow_succ]; grind
theorem powD_zero (x : Int) (k : Nat) : x * powD x 0 k = k * x ^ k := by
  induction k with
  | zero => simp [powD]
  | succ k ih =>
    rw [powD, Int.pow_succ, Int.add_zero, Int.mul_add, ih]
    have : ((k + 1 : Nat) : Int) = (k : Int) + 1 := by omega
    rw [this]
    grind
theorem powD_zero_succ (x : Int) (k : Nat) : powD x 0 (k + 1) = (k + 1) * x ^ k := by
  rw [powD, Int.add_zero, powD_zero]; grind
theorem powD_df (x : Int) (k : Nat) : DF k fun h => powD x h k := by
  induction k with
  | zero => exact DF.const 0
  | succ k ih =>
    have h1 : DF 1 fun h => x + h := (DF.lin 1 x).congr fun h => by omega
    have h2 := h1.mul ih
    rw [Nat.add_comm] at h2
    exact (((DF.const (x ^ k)).ups (Nat.zero_le _)).add h2)

/-- e: the factors of what takes A to noughts; b: those of the adjugate. -/
structure FL (n : Nat) (A : Mx) (e : Nat → Int) (b : Nat → Mx) : Prop where
  chi : ∀ x, det n (chiM A x) = pv e (n + 1) x
  top : e n = 1
  last : ∀ i j, i < n → j < n → b (n - 1) i j = oneM i j
  step : ∀ k, 1 ≤ k → k < n → ∀ i j, i < n → j < n → b (k - 1) i j - mulM n A (b k) i j = e k * oneM i j
  first : ∀ i j, i < n → j < n → -mulM n A (b 0) i j = e 0 * oneM i j
  tr : ∀ k, 1 ≤ k → k ≤ n → sumTo (fun i => b (k - 1) i i) n = k * e k

theorem FL.ex {n : Nat} (hn : 1 ≤ n) (A : Mx) : ∃ e b, FL n A e b := by
  obtain ⟨e, etop, hchi⟩ := chi_lead n A
  replace hchi : ∀ x, det n (chiM A x) = pv e (n + 1) x := hchi
  -- the adjugate's factors
  have hb : ∀ i j, ∃ c : Nat → Int, ∀ x, adj n (chiM A x) i j = pv c n x := fun i j => by
    have h1 := (det_lin (n - 1) (minor idM j i) (minor (fun r s => -A r s) j i)).smul (sg (i + j))
    obtain ⟨c, _, hc⟩ := h1
    refine ⟨c, fun x => ?_⟩
    rw [show n - 1 + 1 = n by omega] at hc
    rw [← hc]
    rfl
  obtain ⟨b', hb'⟩ := Classical.axiomOfChoice (fun i => Classical.axiomOfChoice (hb i))
  let b : Nat → Mx := fun k i j => b' i j k
  have hba : ∀ i j x, adj n (chiM A x) i j = pv (fun k => b k i j) n x := fun i j x => hb' i j x
  -- what the product says, factor by factor
  have key : ∀ i j, i < n → j < n → ∀ k, k < n + 1 → (if k = 0 then 0 else b (k - 1) i j) - (if k < n then mulM n A (b k) i j else 0) = e k * oneM i j := fun i j hi hj => by
    refine pv_same 0 fun x _ => ?_
    have h1 := mul_adj (chiM A x) hi hj
    have h2 : mulM n (chiM A x) (adj n (chiM A x)) i j = x * adj n (chiM A x) i j - sumTo (fun t => A i t * adj n (chiM A x) t j) n := by
      unfold mulM
      rw [sumTo_congr (h := fun t => unit_ i t * (x * adj n (chiM A x) t j) + (-1) * (A i t * adj n (chiM A x) t j)) fun t _ => by
        show (x * unit_ i t + -A i t) * _ = _
        grind, sumTo_add, sumTo_mul, unit_pick (fun t => x * adj n (chiM A x) t j) hi]
      omega
    have h3 : sumTo (fun t => A i t * adj n (chiM A x) t j) n = pv (fun k => mulM n A (b k) i j) n x := by
      rw [sumTo_congr (h := fun t => sumTo (fun k => A i t * (b k t j * x ^ k)) n) fun t _ => by rw [hba]; unfold pv; rw [sumTo_mul], sumTo_swap]
      unfold pv
      refine sumTo_congr fun k _ => ?_
      unfold mulM
      rw [Int.mul_comm, ← sumTo_mul]
      exact sumTo_congr fun t _ => by grind
    have h4 : pv (fun k => (if k = 0 then 0 else b (k - 1) i j) - (if k < n then mulM n A (b k) i j else 0)) (n + 1) x = x * pv (fun k => b k i j) n x - pv (fun k => mulM n A (b k) i j) n x := by
      have e1 := pv_add (fun k => if k = 0 then 0 else b (k - 1) i j) (fun k => -1 * (if k < n then mulM n A (b k) i j else 0)) (n + 1) x
      rw [pv_mul, pv_more (fun k => mulM n A (b k) i j) (Nat.le_succ n), pv_succ_left (fun k => if k = 0 then 0 else b (k - 1) i j), if_pos rfl, Int.zero_add] at e1
      rw [pv_congr (e := fun k => (if k = 0 then 0 else b (k - 1) i j) + -1 * (if k < n then mulM n A (b k) i j else 0)) fun k _ => by omega, e1,
        pv_congr (c := fun k => if k + 1 = 0 then 0 else b (k + 1 - 1) i j) (e := fun k => b k i j) fun k _ => by rw [if_neg (by omega)]; rfl]
      omega
    rw [h4, ← hba, ← h3, ← h2, h1]
    have h5 : pv (fun k => e k * oneM i j) (n + 1) x = oneM i j * pv e (n + 1) x := by rw [← pv_mul]; exact pv_congr (fun k _ => Int.mul_comm _ _) x
    rw [h5, ← hchi]
    unfold oneM
    by_cases eij : i = j
    · rw [if_pos eij, if_pos eij, Int.one_mul]
    · rw [if_neg eij, if_neg eij, Int.zero_mul]
  -- the middle
  have htr : ∀ x, sumTo (fun i => adj n (chiM A x) i i) n = pv (fun k => (k + 1) * e (k + 1)) n x := fun x => by
    have h1 : ∀ h, det n (chiM A (x + h)) = det n (chiM A x) + h * sumTo (fun m => det n (setRow (partM idM (chiM A x) h m) m (idM m))) n := fun h => by
      rw [← det_steps]
      exact det_congr fun i j _ _ => by show (x + h) * idM i j + -A i j = h * idM i j + (x * idM i j + -A i j); grind
    have h2 : ∀ h, det n (chiM A (x + h)) = det n (chiM A x) + h * sumTo (fun k => e k * powD x h k) (n + 1) := fun h => by
      rw [hchi, hchi]
      unfold pv
      rw [← sumTo_mul, ← sumTo_add]
      exact sumTo_congr fun k _ => by rw [powD_eq]; grind
    have d1 : DF n fun h => sumTo (fun m => det n (setRow (partM idM (chiM A x) h m) m (idM m))) n := DF.sum fun m _ => det_steps_df n idM (chiM A x) m
    have d2 : DF n fun h => sumTo (fun k => e k * powD x h k) (n + 1) := DF.sum fun k hk => ((powD_df x k).smul (e k)).ups (by omega)
    have h3 := d1.same d2 1 (fun h hh => by
      have := (h1 h).symm.trans (h2 h)
      exact Int.eq_of_mul_eq_mul_left (by omega : h ≠ 0) (by omega)) 0
    have h4 : sumTo (fun m => det n (setRow (partM idM (chiM A x) 0 m) m (idM m))) n = sumTo (fun i => adj n (chiM A x) i i) n := sumTo_congr fun m hm => by
      have : partM idM (chiM A x) 0 m = chiM A x := by
        funext i j
        unfold partM
        split
        · omega
        · rfl
      rw [this]
      exact det_unit_row _ hm
    have h3' : sumTo (fun m => det n (setRow (partM idM (chiM A x) 0 m) m (idM m))) n = sumTo (fun k => e k * powD x 0 k) (n + 1) := h3
    rw [h4, sumTo_succ_left] at h3'
    rw [h3']
    show e 0 * 0 + _ = _
    rw [Int.mul_zero, Int.zero_add]
    unfold pv
    exact sumTo_congr fun k _ => by rw [powD_zero_succ]; grind
  have htr2 : ∀ k, k < n → sumTo (fun i => b k i i) n = (k + 1) * e (k + 1) := fun k hk => by
    refine pv_same (c := fun k => sumTo (fun i => b k i i) n) (e := fun k => (k + 1) * e (k + 1)) (d := n) 0 (fun x _ => ?_) k hk
    rw [← htr]
    unfold pv
    rw [sumTo_congr (h := fun k => sumTo (fun i => b k i i * x ^ k) n) fun k _ => by
      rw [Int.mul_comm, ← sumTo_mul]; exact sumTo_congr fun i _ => Int.mul_comm _ _, sumTo_swap]
    exact sumTo_congr fun i _ => by rw [hba]; rfl
  refine ⟨e, b, hchi, etop, fun i j hi hj => ?_, fun k h1 h2 i j hi hj => ?_, fun i j hi hj => ?_, fun k h1 h2 => ?_⟩
  · have := key i j hi hj n (by omega)
    rw [if_neg (by omega), if_neg (by omega), etop] at this
    omega
  · have := key i j hi hj k (by omega)
    rwa [if_neg (by omega), if_pos h2] at this
  · have := key i j hi hj 0 (by omega)
    rw [if_pos rfl, if_pos (by omega)] at this
    omega
  · obtain ⟨m, rfl⟩ : ∃ m, k = m + 1 := ⟨k - 1, by omega⟩
    rw [show m + 1 - 1 = m from rfl, htr2 m (by omega)]
    rfl

section
variable {n : Nat} {A : Mx} {e : Nat → Int} {b : Nat → Mx}
theorem sumTo_same (a : Int) (n : Nat) : sumTo (fun _ => a) n = n * a := by
  induction n with
  | zero => simp [sumTo]
  | succ n ih => rw [sumTo, ih]; have : ((n + 1 : Nat) : Int) = (n : Int) + 1 := by omega
                 rw [this, Int.add_mul, Int.one_mul]
/-- The middle of A times one of these. -/
theorem FL.mid (h : FL n A e b) {j : Nat} (hj : j < n) : sumTo (fun i => mulM n A (b j) i i) n = ((j : Int) - n) * e j := by
  rcases j with _ | j
  · rw [sumTo_congr (h := fun _ => -e 0) fun i hi => by have := h.first i i hi hi; unfold oneM at this; rw [if_pos rfl] at this; omega, sumTo_same]
    grind
  · rw [sumTo_congr (h := fun i => b j i i + -e (j + 1)) fun i hi => by
      have := h.step (j + 1) (by omega) hj i i hi hi
      unfold oneM at this
      rw [if_pos rfl, show j + 1 - 1 = j from rfl] at this
      omega, sumTo_add, sumTo_same]
    have := h.tr (j + 1) (by omega) (by omega)
    rw [show j + 1 - 1 = j from rfl] at this
    rw [this]
    grind
theorem FL.next (h : FL n A e b) {j i k : Nat} (h1 : 1 ≤ j) (h2 : j < n) (hi : i < n) (hk : k < n) : b (j - 1) i k = mulM n A (b j) i k + e j * oneM i k := by
  have := h.step j h1 h2 i k hi hk
  omega
theorem FL.same (h : FL n A e b) {e' : Nat → Int} {b' : Nat → Mx} (g : FL n A e' b') : ∀ k, k ≤ n → e k = e' k := fun k hk =>
  pv_same 0 (fun x _ => by rw [← h.chi, ← g.chi]) k (by omega)

/-- Cayley, Hamilton. -/
theorem FL.cayley (h : FL n A e b) (hn : 1 ≤ n) {i j : Nat} (hi : i < n) (hj : j < n) : sumTo (fun k => e k * powM n A k i j) (n + 1) = 0 := by
  have pow_comm : ∀ k, ∀ i j, i < n → j < n → mulM n (powM n A k) A i j = powM n A (k + 1) i j := fun k => by
    induction k with
    | zero => intro i j hi hj; exact (one_mulM A hi j).trans (mulM_one A i hj).symm
    | succ k ih =>
      intro i j hi hj
      show mulM n (mulM n A (powM n A k)) A i j = mulM n A (powM n A (k + 1)) i j
      rw [mulM_go]
      exact sumTo_congr fun t ht => by rw [ih t j ht hj]
  have key : ∀ m, m < n → sumTo (fun k => e k * powM n A k i j) (m + 1) = -mulM n (powM n A (m + 1)) (b m) i j := by
    intro m
    induction m with
    | zero =>
      intro hm
      show 0 + e 0 * oneM i j = -mulM n (mulM n A oneM) (b 0) i j
      rw [← h.first i j hi hj]
      have : mulM n (mulM n A oneM) (b 0) i j = mulM n A (b 0) i j := by
        rw [mulM_go]
        exact sumTo_congr fun t ht => by rw [one_mulM _ ht]
      rw [this]
      omega
    | succ m ih =>
      intro hm
      rw [sumTo, ih (by omega)]
      have e1 : mulM n (powM n A (m + 1)) (b m) i j = mulM n (powM n A (m + 1)) (fun r c => mulM n A (b (m + 1)) r c + e (m + 1) * oneM r c) i j := by
        show sumTo _ n = sumTo _ n
        exact sumTo_congr fun t ht => by
          show powM n A (m + 1) i t * b m t j = powM n A (m + 1) i t * (mulM n A (b (m + 1)) t j + e (m + 1) * oneM t j)
          rw [← h.next (j := m + 1) (by omega) hm ht hj]
          rfl
      rw [e1, mulM_add, ← mulM_go]
      have e2 : mulM n (powM n A (m + 1)) (fun r c => e (m + 1) * oneM r c) i j = e (m + 1) * powM n A (m + 1) i j := by
        have := mulM_one (powM n A (m + 1)) i hj
        rw [← this]
        show sumTo _ n = _ * sumTo _ n
        rw [← sumTo_mul]
        exact sumTo_congr fun t _ => by grind
      dsimp only
      rw [e2]
      have e3 : mulM n (mulM n (powM n A (m + 1)) A) (b (m + 1)) i j = mulM n (powM n A (m + 1 + 1)) (b (m + 1)) i j := sumTo_congr fun t ht => by rw [pow_comm (m + 1) i t hi ht]
      rw [e3]
      omega
  obtain ⟨m, rfl⟩ : ∃ m, n = m + 1 := ⟨n - 1, by omega⟩
  rw [sumTo, key m (by omega), h.top, Int.one_mul]
  have : mulM (m + 1) (powM (m + 1) A (m + 1)) (b m) i j = powM (m + 1) A (m + 1) i j := by
    rw [← mulM_one (powM (m + 1) A (m + 1)) i hj]
    exact sumTo_congr fun t ht => by rw [← h.last t j ht hj]; rfl
  omega
end
end Go.Rk
namespace Go.Proofs.YtoahegjjffggaaaDoor
open Go.RowKit Go.Rk

theorem hid_ex {α : Type} (a : α) : ∃ x, Hid (x = a) := ⟨a, rfl⟩
/-- The sum of the middle. -/
def midS (M : List (List Int)) (n : Nat) : Int := sumTo (fun i => en M i i) n

theorem trace_any {a : Option Addr} {n ca : Nat} {M : List (List Int)} {w : World} (hM : RdM w a n ca M) (d : Dm n n M) (he : EntR 0 9972 n n M) (hn : n ≤ 1000) :
    Calls Tryd.prog 31 #[.slice a n ca] w fun e w' => e = .returned (.int .i64 (midS M n % 9973)) ∧ w = w' := by
  have bd : Hid (∀ k, k ≤ n → 0 ≤ midS M k ∧ midS M k ≤ 9972 * k) := fun k => by
    induction k with
    | zero => intro _; exact ⟨Int.le_refl _, Int.le_refl _⟩
    | succ k ih =>
      intro hk
      have h1 := ih (by omega)
      have h2 := he k k (by omega) (by omega)
      unfold midS at *
      rw [sumTo]
      omega
  have HD := Lib.hid d
  have HE := Lib.hid he
  clear d he
  go_enter Tryd.func31, Tryd.ntmps31
  go_wp2
  go_loop [3, 7] (fun s v => ∃ (k : Nat) (S : Int), k ≤ n ∧ v = .int .i64 k ∧ s = .int .i64 S ∧ Hid (S = midS M k)) (fun _ v => n - (intOf v).toNat)
  case atStart => exact ⟨0, 0, Nat.zero_le _, rfl, rfl, rfl⟩
  case round =>
    obtain ⟨k, S, hk, rfl, rfl, HS⟩ := hrel
    have bS : 0 ≤ S ∧ S ≤ 9972 * k := by rw [HS.out]; exact bd.out k hk
    by_cases hlt : k < n
    · obtain ⟨b, off, rfl, ar, cr, hc, hrd⟩ := hM.rowIn HD.out hlt
      obtain ⟨b2, o2, rfl, _, hc2⟩ := hrd.at hlt
      replace hc2 := hc2 k hlt
      have hx := HE.out k k hlt hlt
      have HS2 : Hid (S + ix (rowOf M k) k = midS M (k + 1)) := by unfold Hid midS; rw [sumTo, HS.out]; rfl
      change 0 ≤ ix (rowOf M k) k ∧ ix (rowOf M k) k ≤ 9972 at hx
      generalize ix (rowOf M k) k = X at *
      have u1 : IntKind.i64.wrap (S + X) = S + X := Go.IntWalk.i64_in _ (by omega)
      have hlt' : (k : Int) < (n : Int) := by omega
      go_wp2
      go_round
      case rel => exact ⟨k + 1, S + X, by omega, by go_num, rfl, HS2⟩
      case measure => simp [intOf]; omega
    · obtain rfl : k = n := by omega
      have u2 : S.tmod 9973 = S % 9973 := Int.tmod_eq_emod_of_nonneg bS.1
      go_wp2
      go_ret
      exact ⟨ret_int (by rw [HS.out]), rfl⟩

theorem Trace_any {a : Option Addr} {n ca : Nat} {M : List (List Int)} {w : World} (hM : RdM w a n ca M) (G : Good n n M) :
    Calls Tryd.prog 9 #[.slice a n ca] w fun e w' => e = .returned (.tuple #[.int .i64 (midS M n % 9973), .nilIface]) ∧ w = w' := by
  have n1 := G.n1
  have C := det_Check_any hM
  rw [squareR_of (lo := 0) (hi := 9972) (most := 5) n1.1 (by omega) G.dm G.ent] at C
  have C := Lib.hid C
  have C2 := Lib.hid (trace_any hM G.dm G.ent (by omega))
  clear G
  go_enter Tryd.func9, Tryd.ntmps9
  go_wp2_with (first | (go_at_call 30; refine C.out.mono ?_; rintro e w' ⟨rfl, rfl⟩; simp only [errV]) | (go_at_call 31; refine C2.out.mono ?_; rintro e w' ⟨rfl, rfl⟩))
  go_ret2
  exact ⟨rfl, rfl⟩
theorem Trace_err {a : Option Addr} {n ca : Nat} {M : List (List Int)} {w : World} {x : Int} (hM : RdM w a n ca M) (hq : squareR 5 0 9972 M = some x) :
    Calls Tryd.prog 9 #[.slice a n ca] w fun e w' => e = .returned (.tuple #[.int .i64 0, .iface 52 (.int .i64 x)]) ∧ w = w' := by
  have C := det_Check_any hM
  rw [hq] at C
  have C := Lib.hid C
  clear hq
  go_enter Tryd.func9, Tryd.ntmps9
  go_wp2_with (first | (go_at_call 30; refine C.out.mono ?_; rintro e w' ⟨rfl, rfl⟩; simp only [errV]))
  go_ret2
  exact ⟨rfl, rfl⟩
theorem char_Of_err {a : Option Addr} {n ca : Nat} {M : List (List Int)} {w : World} {x : Int} (hM : RdM w a n ca M) (hq : squareR 5 0 9972 M = some x) :
    Calls Tryd.prog 11 #[.slice a n ca] w fun e w' => e = .returned (.tuple #[.slice none 0 0, .iface 52 (.int .i64 x)]) ∧ w = w' := by
  have C := det_Check_any hM
  rw [hq] at C
  have C := Lib.hid C
  clear hq
  go_enter Tryd.func11, Tryd.ntmps11
  go_wp2_with (first | (go_at_call 30; refine C.out.mono ?_; rintro e w' ⟨rfl, rfl⟩; simp only [errV]))
  go_ret2
  exact ⟨rfl, rfl⟩

/-- The next factor. -/
theorem char_c {n k : Nat} {A : Mx} {eF : Nat → Int} {b : Nat → Mx} {N : List (List Int)} (F : FL n A eF b) (h1 : 1 ≤ k) (h2 : k ≤ n) (hn : n ≤ 5) (hN : EqM n n (mx N) (mulM n A (b (n - k)))) {T V : Int} (hT : T = midS N n % 9973) (hV : V = powm k 9971) : -T * V % 9973 = eF (n - k) % 9973 := by
  have e1 : Eqm (midS N n) (((n - k : Nat) - (n : Int)) * eF (n - k)) := by
    rw [← F.mid (by omega)]
    exact sumTo_eqm fun i hi => hN i i hi hi
  have e2 : Eqm T (((n - k : Nat) - (n : Int)) * eF (n - k)) := by rw [hT]; exact (Eqm.mod _).trans e1
  have e3 : V * k % 9973 = 1 := by rw [hV]; exact over_mul (by omega) (by omega) (by omega)
  have e4 : ((n - k : Nat) - (n : Int)) = -(k : Int) := by omega
  rw [e4] at e2
  have e5 : Eqm (-T * V) (-(-(k : Int) * eF (n - k)) * V) := e2.neg.mul (Eqm.refl V)
  have e6 : -(-(k : Int) * eF (n - k)) * V = V * k * eF (n - k) := by grind
  rw [e6] at e5
  have e7 : Eqm (V * k * eF (n - k)) (1 * eF (n - k)) := Eqm.mul e3 (Eqm.refl _)
  rw [Int.one_mul] at e7
  exact e5.trans e7

/-- Its first i places of the middle, with c. -/
def addI (N : List (List Int)) (c : Int) (q i j : Nat) : Int := if i = j ∧ i < q then (en N i j + c) % 9973 else en N i j

set_option maxHeartbeats 8000000 in
set_option maxRecDepth 100000 in
theorem char_Of_ok {a : Option Addr} {n ca : Nat} {M : List (List Int)} {w : World} (hM : RdM w a n ca M) (G : Good n n M) {eF : Nat → Int} {b : Nat → Mx} (F : FL n (mx M) eF b) :
    Calls Tryd.prog 11 #[.slice a n ca] w fun e w' => ∃ aL cL l, e = .returned (.tuple #[.slice aL (n + 1) cL, .nilIface]) ∧ OwI w' w.heap.size 3 aL (n + 1) cL l ∧ (∀ k, k ≤ n → ix l k = eF k % 9973) ∧ Below w.heap.size w w' := by
  have HIT := Lib.hid intTy
  have n1 := G.n1
  have HG := Lib.hid G
  have HF := Lib.hid F
  have C := det_Check_any hM
  rw [squareR_of (lo := 0) (hi := 9972) (most := 5) n1.1 (by omega) G.dm G.ent] at C
  have C := Lib.hid C
  clear G F
  have t1 : ((n : Int) + 1).toNat = n + 1 := by omega
  have b0 : (n : Int) < ((n + 1 : Nat) : Int) := by omega
  have b1 : (1 : Int) ≤ (n : Int) := by omega
  go_enter Tryd.func11, Tryd.ntmps11
  go_wp2_with (first | (go_at_call 30; refine C.out.mono ?_; rintro e w' ⟨rfl, rfl⟩; simp only [errV]) | (at_make; refine wpList_make_ints HIT.out rfl (.tmp 22) (.tmp 22) (n := n + 1) rfl rfl rfl (by omega) ?_; intro w2 ho2 hb2; obtain ⟨g2, hz, _, _, hc2, hf2⟩ := ho2.at (by omega); cases hz; have y1 := hc2 n (by omega); have y2 := hf2 n) | (go_at_call 33; fail))
  clear C y1 y2
  have ho2 := ho2.set (k := n) 1
  have hb2 := hb2.setCell (p := ⟨w.heap.size, n, none⟩) (Nat.le_refl _) (.int .i64 1)
  generalize w2.setCell ⟨w.heap.size, n, none⟩ (.int .i64 1) = w3 at *
  have C := Lib.hid (One_any n w3 (by omega) (by omega))
  (with_reducible refine C.out.mono ?_)
  clear C
  rintro e w4 ⟨a4, c4, P4, rfl, ho4, hi4, hb4⟩
  have hx := ho2.below hb4
  have k4 := below_tr hb2 hb4
  have hs4 := hb4.size
  have hP := ho4.rd
  have l0 : Hid ((List.replicate (n + 1) (0 : Int)).set n 1 = (List.replicate (n + 1) (0 : Int)).set n 1) := rfl
  have GP : Hid (Good n n P4 ∧ EqM n n (mx P4) (b (n - 1))) := ⟨⟨n1, n1, hi4.1, fun i j h1 h2 => by rw [hi4.2 i j h1 h2]; unfold oneM; split <;> omega⟩, fun i j h1 h2 => by show Eqm (en P4 i j) _; rw [hi4.2 i j h1 h2, HF.out.last i j h1 h2]; exact Eqm.refl _⟩
  have HL : Hid (∀ j, n - 1 < j → j ≤ n → ix ((List.replicate (n + 1) (0 : Int)).set n 1) j = eF j % 9973) := fun j h1 h2 => by
    obtain rfl : j = n := by omega
    rw [ix_set, if_pos ⟨rfl, by simp⟩, HF.out.top]
    rfl
  clear ho2 hb2 ho4 hi4 l0 hb4
  go_wp2
  generalize hl0 : (List.replicate (n + 1) (0 : Int)).set n 1 = l0 at *
  clear hl0
  go_loopw [7, 9] (fun u v wr => ∃ (k : Nat) (ab : Option Addr) (cb : Nat) (Bm : List (List Int)) (l : List Int), 1 ≤ k ∧ k ≤ n + 1 ∧ v = .int .i64 k ∧ u = .slice ab n cb ∧ RdM wr ab n cb Bm ∧ OwI wr w.heap.size 3 (some ⟨w.heap.size, 0, none⟩) (n + 1) (n + 1) l ∧ w.heap.size < wr.heap.size ∧ Hid (k ≤ n → Good n n Bm ∧ EqM n n (mx Bm) (b (n - k))) ∧ Hid (∀ j, n - k < j ∨ k = n + 1 → j ≤ n → ix l j = eF j % 9973) ∧ Below w.heap.size w wr) (fun _ v _ => n + 1 - (intOf v).toNat)
  case atStart => exact ⟨1, a4, c4, P4, l0, Nat.le_refl _, by omega, rfl, rfl, hP, hx, by have := hx.own.lt _ rfl; exact this.2, fun _ => GP.out, fun j hj h2 => HL.out j (by omega) h2, k4⟩
  case round =>
    clear hx k4 hs4 hP GP HL
    obtain ⟨k, ab, cb, Bm, l, hk1, hk2, rfl, rfl, hB, hx, hsz, HB, HL, hb⟩ := hrel
    by_cases hlt : k ≤ n
    · have hlt' : (k : Int) ≤ (n : Int) := by omega
      have hk1' : (1 : Int) ≤ (k : Int) := by omega
      have hk0 : (0 : Int) ≤ (k : Int) := by omega
      have GB := Lib.hid (HB.out hlt)
      have C := Lib.hid (Mul_ok (hM.below hb) hB (HG.out.mulOk GB.out.1))
      rw [GB.out.1.r0] at C
      clear HB
      obtain ⟨wo, hwo⟩ : ∃ wo, wo = wr := ⟨_, rfl⟩
      subst hwo
      go_wp2_with (first | (go_at_call 14; fail))
      (with_reducible refine C.out.mono ?_)
      clear C
      rintro e w5 ⟨a5, c5, N, rfl, ho5, hi5, hb5⟩
      have GN := Lib.hid (HG.out.prod GB.out.1 hi5)
      have HN : Hid (EqM n n (mx N) (mulM n (mx M) (b (n - k)))) := GN.out.2.trans (EqM.mul (EqM.refl _ _ _) GB.out.2)
      have hx5 := hx.below hb5
      have hb6 := below_tr hb hb5
      have C1 := Lib.hid (trace_any ho5.rd GN.out.1.dm GN.out.1.ent (by omega))
      have C2 := Lib.hid (Over_any (k : Int) w5 (by omega) (by omega))
      have hT := hid_ex (midS N n % 9973)
      obtain ⟨T, hT⟩ := hT
      have hV := hid_ex (powm k 9971)
      obtain ⟨V, hV⟩ := hV
      have bT : 0 ≤ T ∧ T ≤ 9972 := by rw [hT.out]; omega
      have bV : 0 ≤ V ∧ V ≤ 9972 := by rw [hV.out]; exact powm_in _ _
      rw [← hT.out] at C1
      rw [← hV.out] at C2
      have p1 := mul_bd bT bV
      obtain ⟨Q, hQ⟩ := hid_ex (T * V)
      rw [← hQ.out] at p1
      have u1 : IntKind.i64.wrap (-T) = -T := Go.IntWalk.i64_in _ (by omega)
      have u2 : IntKind.i64.wrap (-T * V) = -Q := by rw [Int.neg_mul, ← hQ.out]; exact Go.IntWalk.i64_in _ (by omega)
      have C3 : Hid (Calls Tryd.prog 34 #[.int .i64 (-Q)] w5 fun e w' => e = .returned (.int .i64 (eF (n - k) % 9973)) ∧ w5 = w') := by
        have := Field_any (-Q) w5
        rwa [show -Q % 9973 = eF (n - k) % 9973 from by rw [hQ.out, ← Int.neg_mul]; exact char_c HF.out hk1 hlt n1.2 HN.out hT.out hV.out] at this
      obtain ⟨c, hc⟩ := hid_ex (eF (n - k) % 9973)
      have bc : 0 ≤ c ∧ c ≤ 9972 := by rw [hc.out]; omega
      rw [← hc.out] at C3
      have u3 : IntKind.i64.wrap ((n : Int) - k) = (n : Int) - k := Go.IntWalk.i64_in _ (by omega)
      have t3 : ((n : Int) - k).toNat = n - k := by omega
      have b3 : (n : Int) - k < ((n + 1 : Nat) : Int) := by omega
      have b4 : (0 : Int) ≤ (n : Int) - k := by omega
      obtain ⟨g5, hz, _, _, hcx, hfx⟩ := hx5.at (by omega)
      cases hz
      have y1 := hcx (n - k) (by omega)
      have y2 := hfx (n - k)
      clear hcx hfx p1 bT bV
      go_wp2_with (first | (go_at_call 31; (with_reducible refine C1.out.mono ?_); rintro e w' ⟨rfl, rfl⟩) | (go_at_call 35; (with_reducible refine C2.out.mono ?_); rintro e w' ⟨rfl, rfl⟩) | (go_at_call 34; (with_reducible refine C3.out.mono ?_); rintro e w' ⟨rfl, rfl⟩))
      obtain ⟨g, D, C, hz, hd5⟩ := ho5.named (by omega) fun r hr => by rw [GN.out.1.dm.2 r hr]; omega
      subst hz
      have hlow := hd5.lowO
      have hlowI : ∀ i, i < n → wo.heap.size ≤ D i := fun i hi => (hd5.lowI hi).1
      have hd6 := hd5.setElse (p := ⟨w.heap.size, n - k, none⟩) (by show w.heap.size ≠ g; omega) (fun i hi => by have := hlowI i hi; show w.heap.size ≠ D i; omega) (.int .i64 c)
      have hx6 := hx5.set (k := n - k) c
      have hb7 := hb6.setCell (p := ⟨w.heap.size, n - k, none⟩) (Nat.le_refl _) (.int .i64 c)
      have hs7 : wo.heap.size ≤ (w5.setCell ⟨w.heap.size, n - k, none⟩ (.int .i64 c)).heap.size := by have := hb5.size; simpa using this
      have hll := hx.len_eq
      have HLL := Lib.hid hll
      clear C1 C2 C3 y1 y2 ho5 hi5 hb5 hx5 hb6 hd5 hB hx hb u1 u2 hll
      go_wp2
      generalize w5.setCell ⟨w.heap.size, n - k, none⟩ (.int .i64 c) = w6 at *
      go_loopw [58] (fun v wr => ∃ (q : Nat) (N' : List (List Int)), q ≤ n ∧ v = .int .i64 q ∧ OwMD wr wo.heap.size 24 3 g D C n c5 N' ∧ OwI wr w.heap.size 3 (some ⟨w.heap.size, 0, none⟩) (n + 1) (n + 1) (l.set (n - k) c) ∧ Hid (IsR n n N' (addI N c q)) ∧ wo.heap.size ≤ wr.heap.size ∧ Below w.heap.size w wr) (fun v _ => n - (intOf v).toNat)
      case atStart => exact ⟨0, N, Nat.zero_le _, rfl, hd6, hx6, ⟨GN.out.1.dm, fun i j _ _ => by unfold addI; rw [if_neg (by omega)]⟩, hs7, hb7⟩
      case round =>
        clear hd6 hx6 hb7 hs7
        obtain ⟨q, N', hq, rfl, hd, hx, hN', hs, hb⟩ := hrel
        by_cases hlq : q < n
        · have hlq' : (q : Int) < (n : Int) := by omega
          have x1 := hd.cellO hlq
          rw [hN'.out.1.2 q hlq] at x1
          have x2 := hd.cellI hlq (j := q) (by rw [hN'.out.1.2 q hlq]; exact hlq)
          have x3 := hd.frozenI hlq (by rw [hN'.out.1.2 q hlq]; omega) q
          have x4 : en N' q q = en N q q := by rw [hN'.out.2 q q hlq hlq]; unfold addI; rw [if_neg (by omega)]
          rw [x4] at x2
          have m1 := GN.out.1.ent q q hlq hlq
          have u1 : IntKind.i64.wrap (en N q q + c) = en N q q + c := Go.IntWalk.i64_in _ (by omega)
          have hx2 := hx.setElse (p := ⟨D q, q, none⟩) (by have := hlowI q hlq; show D q ≠ w.heap.size; omega) (.int .i64 ((en N q q + c) % 9973))
          clear x4
          go_wp2
          go_still_tail 16, (by kernel_rfl)
          still_call (stillW (Field_any _ _))
          repeat still_step
          refine wpStill_nil ?_
          change wpList _ _ _ _ _ wr.drew
          clear u1
          go_wp2
          go_roundw
          case rel => exact ⟨q + 1, _, by omega, by go_num, (hd.set matTy.ne hlq _).drew, hx2.drew, ⟨hN'.out.1.setE _ _ _, fun i j h3 h4 => by
            rw [hN'.out.1.en_set _ h3 h4]
            by_cases e : q = i ∧ q = j
            · rw [if_pos e, ← e.1, ← e.2]; unfold addI; rw [if_pos ⟨rfl, by omega⟩]
            · rw [if_neg e, hN'.out.2 i j h3 h4]
              unfold addI
              by_cases e2 : i = j ∧ i < q
              · rw [if_pos e2, if_pos ⟨e2.1, by omega⟩]
              · rw [if_neg e2, if_neg fun e3 => by omega]⟩, by simpa using hs, (hb.setCell (p := ⟨D q, q, none⟩) (by have := hlowI q hlq; show w.heap.size ≤ D q; omega) _).drew⟩
          case measure => simp [intOf]; omega
        · obtain rfl : q = n := by omega
          have hNr := hd.toM.rd
          have HG' : Hid (k + 1 ≤ q → Good q q N' ∧ EqM q q (mx N') (b (q - (k + 1)))) := fun hk => by
            refine ⟨⟨HG.out.n1, HG.out.n1, hN'.out.1, fun i j h1 h2 => ?_⟩, fun i j h1 h2 => ?_⟩
            · rw [hN'.out.2 i j h1 h2]
              unfold addI
              have := GN.out.1.ent i j h1 h2
              split <;> omega
            · show Eqm (en N' i j) _
              have e0 := HF.out.next (j := q - k) (by omega) (by omega) h1 h2
              rw [show q - k - 1 = q - (k + 1) by omega] at e0
              rw [hN'.out.2 i j h1 h2, e0]
              have e1 : Eqm (en N i j) (mulM q (mx M) (b (q - k)) i j) := HN.out i j h1 h2
              unfold addI oneM
              by_cases e : i = j
              · rw [if_pos ⟨e, h1⟩, if_pos e, Int.mul_one]
                refine (Eqm.mod _).trans (Eqm.add e1 ?_)
                rw [hc.out]
                exact Eqm.mod _
              · rw [if_neg fun e2 => e e2.1, if_neg e, Int.mul_zero, Int.add_zero]
                exact e1
          have HL' : Hid (∀ j, q - (k + 1) < j ∨ k + 1 = q + 1 → j ≤ q → ix (l.set (q - k) c) j = eF j % 9973) := fun j h1 h2 => by
            rw [ix_set, HLL.out]
            by_cases e : q - k = j
            · rw [if_pos ⟨e, by omega⟩, hc.out, e]
            · rw [if_neg fun e2 => e e2.1]
              exact HL.out j (.inl (by omega)) h2
          go_wp2
          go_roundw
          case rel => exact ⟨k + 1, some ⟨g, 0, none⟩, c5, N', _, by omega, by omega, by go_num, rfl, hNr, hx, by omega, HG', HL', hb⟩
          case measure => simp [intOf]; omega
    · obtain rfl : k = n + 1 := by omega
      go_wp2
      go_ret2
      exact ⟨_, n + 1, rfl, l, hx, fun j hj => HL.out j (by first | exact .inr rfl | exact .inr trivial) hj, hb⟩
end Go.Proofs.YtoahegjjffggaaaDoor
namespace Go.Rk

theorem det_scale (n : Nat) : ∀ (a : Int) (A : Mx), det n (fun i j => a * A i j) = a ^ n * det n A := by
  induction n with
  | zero => intro a A; simp [det]
  | succ n ih =>
    intro a A
    show sumTo (fun j => sg j * (a * A 0 j) * det n (minor (fun i j => a * A i j) 0 j)) (n + 1) = a ^ (n + 1) * sumTo (fun j => sg j * A 0 j * det n (minor A 0 j)) (n + 1)
    rw [← sumTo_mul]
    refine sumTo_congr fun j _ => ?_
    have : det n (minor (fun i j => a * A i j) 0 j) = a ^ n * det n (minor A 0 j) := ih a (minor A 0 j)
    rw [this, Int.pow_succ]
    grind
theorem neg_one_pow (n : Nat) : (-1 : Int) ^ n = sg n := by
  induction n with
  | zero => rfl
  | succ n ih => rw [Int.pow_succ, ih, sg_succ]; omega
theorem FL.end0 {n : Nat} {A : Mx} {e : Nat → Int} {b : Nat → Mx} (h : FL n A e b) : e 0 = sg n * det n A := by
  have h1 := h.chi 0
  rw [pv_zero_at] at h1
  rw [← h1, ← neg_one_pow, ← det_scale]
  exact det_congr fun i j _ _ => by show 0 * idM i j + -A i j = _; omega
theorem FL.end1 {n : Nat} {A : Mx} {e : Nat → Int} {b : Nat → Mx} (h : FL n A e b) (hn : 1 ≤ n) : e (n - 1) = -sumTo (fun i => A i i) n := by
  have h1 := h.mid (j := n - 1) (by omega)
  rw [sumTo_congr (h := fun i => A i i) fun i hi => by
    have : mulM n A (b (n - 1)) i i = mulM n A oneM i i := sumTo_congr fun t ht => by rw [h.last t i ht hi]
    rw [this, mulM_one A i hi]] at h1
  have e1 : ((n - 1 : Nat) : Int) - n = -1 := by omega
  rw [e1] at h1
  omega
/-- Turned, it is the same. -/
theorem FL.turned {n : Nat} {A B : Mx} {e e' : Nat → Int} {b b' : Nat → Mx} (h : FL n A e b) (g : FL n B e' b') (hB : ∀ i j, i < n → j < n → B i j = A j i) : ∀ k, k ≤ n → e k = e' k := fun k hk =>
  pv_same 0 (fun x _ => by
    rw [← h.chi, ← g.chi, ← det_tr]
    exact det_congr fun i j hi hj => by
      show x * unit_ j i + -A j i = x * unit_ i j + -B i j
      rw [hB i j hi hj]
      unfold unit_
      by_cases e : i = j
      · rw [if_pos e, if_pos e.symm]
      · rw [if_neg e, if_neg fun x => e x.symm]) k (by omega)
end Go.Rk
namespace Go.Proofs.YtoahegjjffggaaaDoor
open Go.RowKit Go.Rk

theorem rd3 {w : World} {b : Nat} {x y z : Int} (h0 : w.cell? ⟨b, 0, none⟩ = some (.int .i64 x)) (h1 : w.cell? ⟨b, 1, none⟩ = some (.int .i64 y)) (h2 : w.cell? ⟨b, 2, none⟩ = some (.int .i64 z)) : RdI w (some ⟨b, 0, none⟩) 3 3 [x, y, z] := by
  refine ⟨rfl, Nat.le_refl _, by decide, fun k hk => ⟨b, 0, rfl, ?_⟩⟩
  rcases k with _ | k
  · exact h0
  · rcases k with _ | k
    · exact h1
    · obtain rfl : k = 0 := by omega
      exact h2

theorem charIs {e : Nat → Int} {b : Nat → Mx} {l : List Int} (F : FL 2 (mx [[1, 2], [3, 4]]) e b) (h : ∀ k, k ≤ 2 → ix l k = e k % 9973) (hl : l.length = 3) : l = [9971, 9968, 1] := by
  have d : det 2 (mx [[1, 2], [3, 4]]) = -2 := by decide
  have t : sumTo (fun i => mx [[1, 2], [3, 4]] i i) 2 = 5 := by decide
  have h0 := h 0 (by omega)
  have h1 := h 1 (by omega)
  have h2 := h 2 (by omega)
  rw [F.end0, d] at h0
  rw [show (1 : Nat) = 2 - 1 from rfl, F.end1 (by omega), t] at h1
  rw [F.top] at h2
  refine ix_ext hl fun k hk => ?_
  rw [hl] at hk
  rcases (show k = 0 ∨ k = 1 ∨ k = 2 by omega) with rfl | rfl | rfl
  · rw [h0]; rfl
  · exact h1.trans rfl
  · rw [h2]; rfl

set_option maxHeartbeats 4000000 in
set_option maxRecDepth 100000 in
theorem charFact_any (w : World) : Calls Tryd.prog 13 #[] w fun e w' => e = .returned (.bool true) ∧ Below w.heap.size w w' := by
  have G := Lib.hid (Good.of (n := 2) (M := [[1, 2], [3, 4]]) rfl (by decide))
  obtain ⟨eF, b, F⟩ := FL.ex (n := 2) (by omega) (mx [[1, 2], [3, 4]])
  have F := Lib.hid F
  go_enter Tryd.func13, Tryd.ntmps13
  go_wp2_with fail
  refine (char_Of_ok (n := 2) (M := [[1, 2], [3, 4]]) (rd22 (p := w.heap.size) (q := w.heap.size + 1) ?_ ?_ ?_ ?_ ?_ ?_) G.out F.out).mono ?main
  case main =>
    rintro e w1 ⟨aL, cL, l, rfl, ho, hl, hb⟩
    obtain rfl := charIs F.out hl ho.len_eq
    have b1 := below_tr (below_al (below_al (below_al (Below.refl _ w) _) _) _) hb
    have hX := ho.rd
    clear ho hl hb
    go_wp2_with fail
    refine (Ints_any (l := [9971, 9968, 1]) (m := [9971, 9968, 1]) (hX.below (below_al (Below.refl _ w1) _)) (rd3 ?_ ?_ ?_)).mono ?main
    case main =>
      rintro e w4 ⟨rfl, hb⟩
      have b4 := below_tr b1 (below_tr (below_al (Below.refl _ w1) _) hb)
      clear hb b1 hX
      go_wp2
      go_ret
      exact ⟨rfl, b4⟩
    all_goals simp [go_sem]
  all_goals simp [go_sem]
end Go.Proofs.YtoahegjjffggaaaDoor
namespace Go.Rk

def rowF (f : Nat → Int) (c : Nat) : List Int := (List.range c).map f
def rowsF (F : Nat → Nat → Int) (c n : Nat) : List (List Int) := (List.range n).map fun i => rowF (F i) c
theorem rowF_succ (f : Nat → Int) (c : Nat) : rowF f (c + 1) = rowF f c ++ [f c] := by simp [rowF, List.range_succ]
theorem rowF_len (f : Nat → Int) (c : Nat) : (rowF f c).length = c := by simp [rowF]
theorem rowF_ix {f : Nat → Int} {c k : Nat} (h : k < c) : ix (rowF f c) k = f k := by
  rw [ix_lt (by rw [rowF_len]; exact h)]; simp [rowF]
theorem rowsF_succ (F : Nat → Nat → Int) (c n : Nat) : rowsF F c (n + 1) = rowsF F c n ++ [rowF (F n) c] := by simp [rowsF, List.range_succ]
theorem rowsF_row {F : Nat → Nat → Int} {c n i : Nat} (h : i < n) : rowOf (rowsF F c n) i = rowF (F i) c := by
  rw [rowOf_lt (by simp [rowsF]; exact h)]; simp [rowsF]
theorem rowsF_is (F : Nat → Nat → Int) (c n : Nat) : IsR n c (rowsF F c n) F :=
  ⟨⟨by simp [rowsF], fun i hi => by rw [rowsF_row hi, rowF_len]⟩, fun i j hi hj => by unfold en; rw [rowsF_row hi, rowF_ix hj]⟩
theorem IsR.same {n c : Nat} {F : Nat → Nat → Int} {P Q : List (List Int)} (h : IsR n c P F) (k : IsR n c Q F) : P = Q := h.1.ext k.1 fun i j hi hj => by rw [h.2 i j hi hj, k.2 i j hi hj]
end Go.Rk
namespace Go.Proofs.YtoahegjjffggaaaDoor
open Go.RowKit Go.Rk

def twoR (f g : List Int) : Option Int :=
  if f.length = 0 ∨ g.length = 0 then some 5 else if anyB 0 9972 f || anyB 0 9972 g then some 1 else
    if ix f (f.length - 1) = 0 ∨ ix g (g.length - 1) = 0 then some 3 else if outB ((f.length : Int) + g.length - 2) 1 5 then some 4 else none
theorem twoR_nz {f g : List Int} {c : Int} (h : twoR f g = some c) : c ≠ 0 := by
  unfold twoR at h
  (repeat' split at h) <;> first | (injection h with h; subst h; decide) | cases h
theorem twoR_none {f g : List Int} (h : twoR f g = none) : 1 ≤ f.length ∧ 1 ≤ g.length ∧ In 0 9972 f ∧ In 0 9972 g ∧ ix f (f.length - 1) ≠ 0 ∧ ix g (g.length - 1) ≠ 0 ∧ 3 ≤ f.length + g.length ∧ f.length + g.length ≤ 7 := by
  unfold twoR at h
  split at h
  · cases h
  split at h
  · cases h
  split at h
  · cases h
  split at h
  · cases h
  next h1 h2 h3 h4 =>
    simp at h2
    simp [outB] at h4
    exact ⟨by omega, by omega, in_of_any h2.1, in_of_any h2.2, fun e => h3 (.inl e), fun e => h3 (.inr e), by omega, by omega⟩
theorem twoR_of {f g : List Int} (h1 : 1 ≤ f.length) (h2 : 1 ≤ g.length) (h3 : In 0 9972 f) (h4 : In 0 9972 g) (h5 : ix f (f.length - 1) ≠ 0) (h6 : ix g (g.length - 1) ≠ 0) (h7 : 3 ≤ f.length + g.length) (h8 : f.length + g.length ≤ 7) : twoR f g = none := by
  unfold twoR
  rw [if_neg (by omega), any_of_in h3, any_of_in h4, if_neg (by simp), if_neg (fun e => e.elim h5 h6), if_neg]
  simp [outB]
  omega

theorem wrap_two {p q : Nat} (h1 : 1 ≤ p) (h2 : 1 ≤ q) (h3 : p ≤ 9223372036854775807) (h4 : q ≤ 9223372036854775807) : outB (wrap64 (wrap64 ((p : Int) + (q : Int)) - 2)) 1 5 = outB ((p : Int) + q - 2) 1 5 := by
  rcases Nat.lt_or_ge (p + q) 9223372036854775808 with h | h
  · have e : wrap64 (wrap64 ((p : Int) + (q : Int)) - 2) = (p : Int) + q - 2 := by unfold wrap64; omega
    rw [e]
  · have a : wrap64 (wrap64 ((p : Int) + (q : Int)) - 2) < 1 ∨ 5 < wrap64 (wrap64 ((p : Int) + (q : Int)) - 2) := by unfold wrap64; omega
    have b : (5 : Int) < (p : Int) + q - 2 := by omega
    unfold outB
    rw [decide_eq_true b, Bool.or_true]
    rcases a with a | a
    · rw [decide_eq_true a]; rfl
    · rw [decide_eq_true a, Bool.or_true]

/-- A row of factors, highest first, from a place on. -/
def sylR (l : List Int) (at_ j : Nat) : Int := if at_ ≤ j ∧ j < at_ + l.length then ix l (l.length - 1 - (j - at_)) else 0
def sylM (f g : List Int) (i j : Nat) : Int := if i < g.length - 1 then sylR f i j else sylR g (i - (g.length - 1)) j
theorem sylR_in {l : List Int} (h : In 0 9972 l) (at_ j : Nat) : 0 ≤ sylR l at_ j ∧ sylR l at_ j ≤ 9972 := by
  unfold sylR
  split
  · exact h _ (by omega)
  · omega
theorem sylM_in {f g : List Int} (h : In 0 9972 f) (k : In 0 9972 g) (i j : Nat) : 0 ≤ sylM f g i j ∧ sylM f g i j ≤ 9972 := by
  unfold sylM
  split
  · exact sylR_in h _ _
  · exact sylR_in k _ _

/-- A matrix with a row of factors laid into some of its rows: the first i of them, and of the next the last k places. -/
def putQ (l : List Int) (fr : Nat) (P : List (List Int)) (i k r j : Nat) : Int :=
  if fr ≤ r ∧ ((r - fr < i ∧ r - fr ≤ j ∧ j < (r - fr) + l.length) ∨ (r - fr = i ∧ i + (l.length - k) ≤ j ∧ j < i + l.length)) then ix l (l.length - 1 - (j - (r - fr))) else en P r j
theorem put_syl {f g : List Int} {P P1 P2 : List (List Int)} {n : Nat} (hf : 1 ≤ f.length) (hg : 1 ≤ g.length) (hn : n + 2 = f.length + g.length) (h0 : IsR n n P (fun _ _ => 0)) (h1 : IsR n n P1 (putQ f 0 P (g.length - 1) 0)) (h2 : IsR n n P2 (putQ g (g.length - 1) P1 (f.length - 1) 0)) : IsR n n P2 (sylM f g) := by
  refine h2.congr fun i j hi hj => ?_
  unfold putQ sylM
  by_cases e : i < g.length - 1
  · rw [if_neg (by omega), if_pos e, h1.2 i j hi hj]
    unfold putQ sylR
    by_cases c : i ≤ j ∧ j < i + f.length
    · rw [if_pos (by omega), if_pos c]; rfl
    · rw [if_neg (by omega), if_neg c, h0.2 i j hi hj]
  · rw [if_neg e]
    unfold sylR
    by_cases c : i - (g.length - 1) ≤ j ∧ j < i - (g.length - 1) + g.length
    · rw [if_pos (by omega), if_pos c]
    · rw [if_neg (by omega), if_neg c, h1.2 i j hi hj]
      unfold putQ
      rw [if_neg (by omega), h0.2 i j hi hj]
end Go.Proofs.YtoahegjjffggaaaDoor
