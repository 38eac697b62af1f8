/-
  The statements' own word for 'between'.
  A matrix of a call's own whose rows lie in memory that others own: append of a row that is part of another one. No program in sight.
  Determinants of whole numbers by divisions without a rest (Chio, Bareiss); a bound; Levy and Desplanques; Hadamard. Plain Lean, no program in sight.
  bareiss.of walked: elimination of whole numbers by divisions without a rest; bareiss.Check, bareiss.Of.
-/
import Derived.Test.YtoahegjjffggaaaRows
import Derived.Deep.QuietTactic
import Derived.BigQuiet
import Derived.Deep.RegionWith
import Derived.StillTailTactics
import Derived.Deep.Cut
import Derived.Deep.CutRange
import Derived.Deep.DeepCutAuto
import Derived.Test.YtoahegjjffggaaaMg0
import Derived.Test.YtoahegjjffggaaaMg1
import Derived.Test.YtoahegjjffggaaaMg2
import Derived.Test.YtoahegjjffggaaaMg3
import Derived.Test.YtoahegjjffggaaaMg4
namespace Go.Proofs.Ytoahegjjffggaaa
open Go.RowKit Go.Rk

theorem T_in_any (n lo hi : Int) (w : World) :
    Calls Try.prog 28 #[.int .i64 n, .int .i64 lo, .int .i64 hi] w fun e w' => e = .returned (.bool (inB n lo hi)) ∧ w = w' := by
  by_cases h : lo ≤ n
  all_goals
    go_enter Try.func28, Try.ntmps28
    go_wp2
    all_goals (go_ret; refine ⟨congrArg (fun b => Ending.returned (.bool b)) ?_, rfl⟩; unfold inB; simp; try omega)
end Go.Proofs.Ytoahegjjffggaaa
namespace Go.Rk
open Go.RowKit

/-- The outer slice is the call's own, laid since w0; the rows are as they were in w0. -/
structure AlM (w0 w : World) (T : TypeId) (a : Option Addr) (n cap : Nat) (M : List (List Int)) : Prop where
  len_eq : M.length = n
  own : ∃ vs : List Value, w.ownsRow w0.heap.size T 1 (.slice a n cap) n vs ∧ ∀ k, k < n → ∃ ar cr, vs[k]? = some (.slice ar (rowOf M k).length cr) ∧ RdI w0 ar (rowOf M k).length cr (rowOf M k)
  bel : Below w0.heap.size w0 w

section
variable {P : Program} {w0 w w' : World} {T TT E : TypeId} {a : Option Addr} {n cap : Nat} {M : List (List Int)}
theorem AlM.nil (T : TypeId) (h : Below w0.heap.size w0 w) : AlM w0 w T none 0 0 [] := ⟨rfl, ⟨[], World.ownsRow_nil w _ T 1, fun _ h => absurd h (Nat.not_lt_zero _)⟩, h⟩

theorem AlM.caps (h : AlM w0 w T a n cap M) : n ≤ cap ∧ cap ≤ maxLen := by
  obtain ⟨vs, ho, _⟩ := h.own
  rcases ho.2 with ⟨hv, h0⟩ | ⟨g, c, cur, hv, _, _, hc, hm, _⟩
  · injection hv with _ _ hc
    subst hc; subst h0
    exact ⟨Nat.le_refl _, Nat.zero_le _⟩
  · injection hv with _ _ hc'
    subst hc'
    exact ⟨hc, hm⟩

theorem AlM.rd (h : AlM w0 w T a n cap M) : RdM w a n cap M := by
  refine ⟨h.len_eq, h.caps.1, h.caps.2, fun k hk => ?_⟩
  obtain ⟨vs, ho, hr⟩ := h.own
  obtain ⟨g, c, hv, hb, hlt⟩ := ho.form (by omega)
  injection hv with ha _ hc
  subst ha; subst hc
  obtain ⟨ar, cr, hvs, hoi⟩ := hr k hk
  exact ⟨g, 0, ar, _, cr, rfl, by rw [Nat.zero_add, ho.cellAt k (by omega), hvs], hoi.below h.bel⟩

theorem AlM.below (h : AlM w0 w T a n cap M) (hb : Below w.heap.size w w') : AlM w0 w' T a n cap M := by
  obtain ⟨vs, ho, hr⟩ := h.own
  exact ⟨h.len_eq, ⟨vs, ho.kept (row := none) ⟨hb.os, hb.tape, hb.output, hb.size, fun k hk _ => hb.block k hk⟩ (by cases (Value.slice a n cap).ownBlock <;> simp), hr⟩, h.bel.trans (hb.mono h.bel.size)⟩
theorem AlM.alloc (h : AlM w0 w T a n cap M) (o : Obj) : AlM w0 (w.alloc o) T a n cap M := h.below ((Below.refl _ _).alloc (Nat.le_refl _) o)
theorem AlM.drew (h : AlM w0 w T a n cap M) : AlM w0 w.drew T a n cap M := h.below (Below.refl _ _).drew
theorem AlM.drewN (h : AlM w0 w T a n cap M) (k : Nat) : AlM w0 (w.drewN k) T a n cap M := h.below (below_drewN (Below.refl _ _) k)

/-- append(out, row): the row read in w0. -/
theorem wpList_push_alias (hT : MatTy P TT T E) {ops : Array Oper} {rest : List Oper} {o : Oper} {ac : Act} {Q : Exit → Act → World → Prop} (hgd : o.guard = none) (s x : Operand)
    (ho : o.op = .call { callee := .builtin .append, args := #[s, x], argTypes := #[TT, TT] })
    {ar : Option Addr} {blk_ c2 cr : Nat} {l : List Int} (hs : ac.eval s = .slice a n cap) (hx : ac.eval x = .slice (some ⟨blk_, 0, none⟩) 1 c2) (h : AlM w0 w T a n cap M)
    (hl : RdI w0 ar l.length cr l) (hc : w.cell? ⟨blk_, 0, none⟩ = some (.slice ar l.length cr)) (hn : (n + 1) * 24 ≤ 140737488355328)
    (hK : ∀ a' cap' w', AlM w0 w' T a' (n + 1) cap' (M ++ [l]) → wpList P ops Q rest (ac.put o.dst (.slice a' (n + 1) cap')) w') : wpList P ops Q (o :: rest) ac w := by
  obtain ⟨i, hi, hz, hs1, hby⟩ := hT.hi
  obtain ⟨vs', ho', hr'⟩ := h.own
  refine wpList_append_own w hgd s x TT ho w0.heap.size T i (.slice none 0 0) 1 24 hT.ht hi hz hs1 hby rfl (by decide) (.slice a n cap) n vs' hs ho' ⟨blk_, 0, none⟩ 1 c2 [.slice ar l.length cr] hx rfl (fun j u hu => ?_) (fun u hu => ?_) (by unfold maxLen; omega) hn h.bel.size fun v' w' h1 h2 _ => ?_
  · rcases j with _ | j
    · simp at hu
      subst hu
      have : (⟨blk_, 0, none⟩ : Addr).add 0 = ⟨blk_, 0, none⟩ := by simp [Addr.add]
      rw [this]; exact hc
    · simp at hu
  · simp at hu; subst hu; rfl
  · obtain ⟨a', cap', rfl⟩ : ∃ a' cap', v' = .slice a' (n + 1) cap' := by
      rcases h1.2 with ⟨e, h0⟩ | ⟨g, c, cur, e, _⟩
      · exact absurd h0 (by omega)
      · exact ⟨_, _, e⟩
    have hvl : vs'.length = n := by have := ho'.1; omega
    refine hK a' cap' w' ⟨by simp [h.len_eq], ⟨_, h1, fun k hk => ?_⟩, h.bel.trans ((Below.refl w0.heap.size w).grown h2 h.bel.size fun k hk => (ho'.lt k hk).1)⟩
    rcases Nat.lt_or_ge k n with h3 | h3
    · obtain ⟨ar1, cr1, e1, o1⟩ := hr' k h3
      rw [rowOf_append_left (by rw [h.len_eq]; exact h3)]
      exact ⟨ar1, cr1, by rw [List.getElem?_append_left (by omega)]; exact e1, o1⟩
    · obtain rfl : k = n := by omega
      have er : rowOf (M ++ [l]) k = l := by rw [rowOf_append_right (by rw [h.len_eq]; exact Nat.le_refl _), h.len_eq, Nat.sub_self]; rfl
      rw [er]
      exact ⟨ar, cr, by rw [List.getElem?_append_right (by omega), hvl]; simp, hl⟩

theorem rowOf_take {M : List (List Int)} {n k : Nat} (h : k < n) : rowOf (M.take n) k = rowOf M k := by
  unfold rowOf
  simp only [List.getD_eq_getElem?_getD, List.getElem?_take_of_lt h]
theorem RdM.take (h : RdM w a n cap M) {k : Nat} (hk : k ≤ n) : RdM w a k cap (M.take k) :=
  ⟨by have := h.len_eq; rw [List.length_take]; omega, Nat.le_trans hk h.le, h.max, fun j hj => by
    obtain ⟨b, off, ar, nr, cr, h1, h2, h3⟩ := h.row j (by omega)
    exact ⟨b, off, ar, nr, cr, h1, h2, by rw [rowOf_take hj]; exact h3⟩⟩
end
end Go.Rk
namespace Go.Rk

theorem det_times (n : Nat) : ∀ (a : Int) (A : Mx), det n (fun i j => a * A i j) = a ^ n * det n A := by
  induction n with
  | zero => intro a A; simp [det]
  | succ n ih =>
    intro a A
    show sumTo (fun j => sg j * (a * A 0 j) * det n (minor (fun i j => a * A i j) 0 j)) (n + 1) = a ^ (n + 1) * sumTo (fun j => sg j * A 0 j * det n (minor A 0 j)) (n + 1)
    rw [← sumTo_mul]
    refine sumTo_congr fun j _ => ?_
    have : det n (minor (fun i j => a * A i j) 0 j) = a ^ n * det n (minor A 0 j) := ih a (minor A 0 j)
    rw [this, Int.pow_succ]
    grind
theorem det_first_col {m : Nat} (A : Mx) (h : ∀ i, i < m → A (i + 1) 0 = 0) : det (m + 1) A = A 0 0 * det m (fun i j => A (i + 1) (j + 1)) := by
  rw [det_col, sumTo_succ_left, sumTo_congr (h := fun _ => 0) fun i hi => by rw [h i hi, Int.mul_zero, Int.zero_mul], sumTo_zero, Int.add_zero]
  have e : minor A 0 0 = fun i j => A (i + 1) (j + 1) := by funext i j; unfold minor; rw [skip_zero, skip_zero]
  rw [e]
  simp [sg]

/-- Crosswise products with the first number. -/
def chio (A : Mx) : Mx := fun i j => A (i + 1) (j + 1) * A 0 0 - A (i + 1) 0 * A 0 (j + 1)
theorem det_chio (k : Nat) (A : Mx) : A 0 0 ^ k * det (k + 1) A = A 0 0 * det k (chio A) := by
  have e1 : det (k + 1) (fun i j => if i = 0 then A 0 j else A 0 0 * A i j) = A 0 0 ^ k * det (k + 1) A := by
    show sumTo (fun j => sg j * (if (0 : Nat) = 0 then A 0 j else A 0 0 * A 0 j) * det k (minor (fun i j => if i = 0 then A 0 j else A 0 0 * A i j) 0 j)) (k + 1) = A 0 0 ^ k * sumTo (fun j => sg j * A 0 j * det k (minor A 0 j)) (k + 1)
    rw [← sumTo_mul]
    refine sumTo_congr fun j _ => ?_
    have : minor (fun i j => if i = 0 then A 0 j else A 0 0 * A i j) 0 j = fun r c => A 0 0 * minor A 0 j r c := by
      funext r c
      unfold minor
      rw [skip_zero]
      exact if_neg (by omega)
    rw [this, det_times, if_pos rfl]
    grind
  have e2 := det_clear (m := k) (fun i j => if i = 0 then A 0 j else A 0 0 * A i j) (fun i => A i 0)
  have e3 := det_first_col (m := k) (fun i j => if i = 0 then (fun i j => if i = 0 then A 0 j else A 0 0 * A i j) 0 j else (fun i j => if i = 0 then A 0 j else A 0 0 * A i j) i j - A i 0 * (fun i j => if i = 0 then A 0 j else A 0 0 * A i j) 0 j) fun i _ => by
    show (if i + 1 = 0 then _ else (if i + 1 = 0 then A 0 0 else A 0 0 * A (i + 1) 0) - A (i + 1) 0 * (if (0 : Nat) = 0 then A 0 0 else A 0 0 * A 0 0)) = 0
    rw [if_neg (by omega), if_neg (by omega), if_pos rfl]
    grind
  rw [← e1, ← e2, e3]
  show (if (0 : Nat) = 0 then A 0 0 else A 0 0 * A 0 0) * _ = _
  rw [if_pos rfl]
  congr 1
  exact det_congr fun i j _ _ => by
    show (if i + 1 = 0 then _ else (if i + 1 = 0 then A 0 (j + 1) else A 0 0 * A (i + 1) (j + 1)) - A (i + 1) 0 * (if (0 : Nat) = 0 then A 0 (j + 1) else A 0 0 * A 0 (j + 1))) = chio A i j
    rw [if_neg (by omega), if_neg (by omega), if_pos rfl]
    unfold chio
    grind
theorem det_chio_pos {k : Nat} (A : Mx) (hk : 1 ≤ k) (hp : A 0 0 ≠ 0) : det k (chio A) = A 0 0 ^ (k - 1) * det (k + 1) A := by
  have h := det_chio k A
  obtain ⟨m, rfl⟩ : ∃ m, k = m + 1 := ⟨k - 1, by omega⟩
  rw [Int.pow_succ] at h
  rw [show m + 1 - 1 = m from rfl]
  exact Int.eq_of_mul_eq_mul_left hp (by rw [← h]; grind)

/-- So great a determinant can be. -/
def detB (b : Int) : Nat → Int
  | 0 => 1
  | n + 1 => (n + 1) * (b * detB b n)
theorem detB_nonneg {b : Int} (hb : 0 ≤ b) (n : Nat) : 0 ≤ detB b n := by
  induction n with
  | zero => exact Int.zero_le_ofNat 1
  | succ n ih => exact Int.mul_nonneg (by omega) (Int.mul_nonneg hb ih)
theorem abs_mul_le {x y a b : Int} (hx : -a ≤ x ∧ x ≤ a) (hy : -b ≤ y ∧ y ≤ b) : -(a * b) ≤ x * y ∧ x * y ≤ a * b := by
  have h1 : x.natAbs ≤ a.natAbs := by omega
  have h2 : y.natAbs ≤ b.natAbs := by omega
  have h3 : (x * y).natAbs ≤ (a * b).natAbs := by rw [Int.natAbs_mul, Int.natAbs_mul]; exact Nat.mul_le_mul h1 h2
  have h4 : 0 ≤ a * b := Int.mul_nonneg (by omega) (by omega)
  omega
theorem sumTo_abs {f : Nat → Int} {n : Nat} {B : Int} (h : ∀ i, i < n → -B ≤ f i ∧ f i ≤ B) : -(n * B) ≤ sumTo f n ∧ sumTo f n ≤ n * B := by
  induction n with
  | zero => simp [sumTo]
  | succ n ih =>
    have h1 := ih fun i hi => h i (by omega)
    have h2 := h n (by omega)
    have e : ((n + 1 : Nat) : Int) * B = n * B + B := by rw [Int.natCast_add, Int.add_mul]; simp
    rw [sumTo, e]
    omega
theorem det_le {n : Nat} : ∀ {A : Mx} {b : Int}, 0 ≤ b → (∀ i j, i < n → j < n → -b ≤ A i j ∧ A i j ≤ b) → -detB b n ≤ det n A ∧ det n A ≤ detB b n := by
  induction n with
  | zero => intro A b _ _; exact ⟨by simp [det, detB], by simp [det, detB]⟩
  | succ n ih =>
    intro A b hb h
    have := sumTo_abs (f := fun j => sg j * A 0 j * det n (minor A 0 j)) (n := n + 1) (B := b * detB b n) fun j hj => by
      have h1 : -b ≤ sg j * A 0 j ∧ sg j * A 0 j ≤ b := by
        have := h 0 j (by omega) hj
        unfold sg
        split <;> omega
      exact abs_mul_le h1 (ih hb fun r c hr hc => h _ _ (skip_lt hr) (skip_lt hc))
    rw [show ((n + 1 : Nat) : Int) = (n : Int) + 1 by omega] at this
    exact this

/-- The first c as they are, behind them those that are told. -/
def pre (c : Nat) (r : Nat → Nat) (i : Nat) : Nat := if i < c then i else r (i - c)

theorem pow_nz {a : Int} (h : a ≠ 0) (k : Nat) : a ^ k ≠ 0 := by
  induction k with
  | zero => simp
  | succ k ih => rw [Int.pow_succ]; exact fun e => (Int.mul_eq_zero.1 e).elim ih h
theorem pre_lt {c i : Nat} (r : Nat → Nat) (h : i < c) : pre c r i = i := if_pos h
theorem pre_ge {c i : Nat} (r : Nat → Nat) (h : c ≤ i) : pre c r i = r (i - c) := if_neg (by omega)

/-- What is known at column c. -/
structure BInv (n : Nat) (A : Mx) (c : Nat) (M : List (List Int)) (sign last : Int) : Prop where
  dim : Dim n M
  nz : last ≠ 0
  ex : ∃ A' : Mx, sign * det n A' = det n A ∧ (∀ i, i < n → ∃ i', i' < n ∧ ∀ j, A' i j = A i' j) ∧
    ∀ k, 1 ≤ k → ∀ r s : Nat → Nat, (∀ i, i < k → c ≤ r i ∧ r i < n) → (∀ i, i < k → c ≤ s i ∧ s i < n) → det k (fun i j => en M (r i) (s j)) = last ^ (k - 1) * det (c + k) (fun i j => A' (pre c r i) (pre c s j))

section
variable {n c : Nat} {A : Mx} {M : List (List Int)} {sign last : Int}
theorem BInv.start (h : Dim n M) : BInv n (mx M) 0 M 1 1 :=
  ⟨h, by decide, mx M, Int.one_mul _, fun i hi => ⟨i, hi, fun _ => rfl⟩, fun k _ r s _ _ => by
    rw [Int.one_pow, Int.one_mul, Nat.zero_add]
    exact det_congr fun i j _ _ => by unfold pre; rw [if_neg (Nat.not_lt_zero _), if_neg (Nat.not_lt_zero _)]; rfl⟩
theorem BInv.entry (h : BInv n A c M sign last) : ∃ A' : Mx, sign * det n A' = det n A ∧ (∀ i, i < n → ∃ i', i' < n ∧ ∀ j, A' i j = A i' j) ∧ ∀ i j, c ≤ i → i < n → c ≤ j → j < n → en M i j = det (c + 1) (fun a b => A' (pre c (fun _ => i) a) (pre c (fun _ => j) b)) := by
  obtain ⟨A', h1, h2, h3⟩ := h.ex
  refine ⟨A', h1, h2, fun i j hi hin hj hjn => ?_⟩
  have := h3 1 (Nat.le_refl _) (fun _ => i) (fun _ => j) (fun _ _ => ⟨hi, hin⟩) (fun _ _ => ⟨hj, hjn⟩)
  rw [Nat.sub_self, Int.pow_zero, Int.one_mul] at this
  rw [← this]
  simp [det, sg, sumTo]
/-- The numbers are not great. -/
theorem BInv.bound (h : BInv n A c M sign last) {b : Int} (hb : 0 ≤ b) (hA : ∀ i j, i < n → j < n → -b ≤ A i j ∧ A i j ≤ b) {i j : Nat} (hi : c ≤ i) (hin : i < n) (hj : c ≤ j) (hjn : j < n) : -detB b (c + 1) ≤ en M i j ∧ en M i j ≤ detB b (c + 1) := by
  obtain ⟨A', _, h2, h3⟩ := h.entry
  rw [h3 i j hi hin hj hjn]
  refine det_le hb fun p q hp hq => ?_
  have l1 : pre c (fun _ => i) p < n := by unfold pre; split <;> omega
  have l2 : pre c (fun _ => j) q < n := by unfold pre; split <;> omega
  obtain ⟨i', hi', e⟩ := h2 _ l1
  rw [e]
  exact hA _ _ hi' l2
theorem BInv.zero (h : BInv n A c M sign last) (hc : c < n) (hz : ∀ r, c ≤ r → r < n → en M r c = 0) : det n A = 0 := by
  obtain ⟨A', h1, _, h3⟩ := h.ex
  obtain ⟨k, hk⟩ : ∃ k, n = c + (k + 1) := ⟨n - c - 1, by omega⟩
  have := h3 (k + 1) (by omega) (fun i => c + i) (fun i => c + i) (fun i hi => by omega) (fun i hi => by omega)
  rw [det_first_zero _ (fun i hi => hz _ (by omega) (by omega))] at this
  rcases Int.mul_eq_zero.1 this.symm with e | e
  · exact absurd e (pow_nz h.nz _)
  · rw [← h1, hk, det_congr (B := fun i j => A' (pre c (fun i => c + i) i) (pre c (fun i => c + i) j)) fun i j hi hj => by
      have p : ∀ i, pre c (fun i => c + i) i = i := fun i => by
        rcases Nat.lt_or_ge i c with h | h
        · exact pre_lt _ h
        · rw [pre_ge _ h]; show c + (i - c) = i; omega
      rw [p, p], e, Int.mul_zero]
theorem BInv.done (h : BInv n A c M sign last) (hc : c + 1 = n) : sign * en M c c = det n A := by
  obtain ⟨A', h1, _, h3⟩ := h.entry
  rw [h3 c c (Nat.le_refl _) (by omega) (Nat.le_refl _) (by omega), ← h1, ← hc]
  congr 1
  exact det_congr fun i j hi hj => by
    have p : ∀ i, i < c + 1 → pre c (fun _ => c) i = i := fun i hi => by
      rcases Nat.lt_or_ge i c with h | h
      · exact pre_lt _ h
      · rw [pre_ge _ h]; show c = i; omega
    rw [p i hi, p j hj]
theorem BInv.swap (h : BInv n A c M sign last) {k : Nat} (h1 : c < k) (hk : k < n) : BInv n A c (swapL M c k) (-sign) last := by
  obtain ⟨A', e1, e2, e3⟩ := h.ex
  let σ : Nat → Nat := fun i => if i = k then c else if i = c then k else i
  have hσ : ∀ i, i < n → σ i < n := fun i hi => by show (if i = k then c else if i = c then k else i) < n; (repeat' split) <;> omega
  have hσc : ∀ i, c ≤ i → c ≤ σ i := fun i hi => by show c ≤ (if i = k then c else if i = c then k else i); (repeat' split) <;> omega
  refine ⟨h.dim.swap (by omega) hk, h.nz, fun i j => A' (σ i) j, ?_, fun i hi => e2 _ (hσ i hi), fun m hm r s hr hs => ?_⟩
  · have := (det_alt n).swap A' (i := c) (j := k) (by omega) (by omega) hk
    have e : det n (fun i j => A' (σ i) j) = det n (swapM A' c k) := det_congr fun i j _ _ => by
      show A' (if i = k then c else if i = c then k else i) j = (if i = k then A' c j else if i = c then A' k j else A' i j)
      split
      · rfl
      · split <;> rfl
    rw [e, this]
    rw [← e1]
    grind
  · have := e3 m hm (fun i => σ (r i)) s (fun i hi => ⟨hσc _ (hr i hi).1, hσ _ (hr i hi).2⟩) hs
    rw [det_congr (B := fun i j => en M (σ (r i)) (s j)) fun i j hi _ => ?_, this]
    · congr 1
      exact det_congr fun i j hi _ => by
        have : pre c (fun i => σ (r i)) i = σ (pre c r i) := by
          unfold pre
          split
          · show i = (if i = k then c else if i = c then k else i)
            rw [if_neg (by omega), if_neg (by omega)]
          · rfl
        show A' (pre c (fun i => σ (r i)) i) _ = A' (σ (pre c r i)) _
        rw [this]
    · show en (swapL M c k) (r i) (s j) = en M (if r i = k then c else if r i = c then k else r i) (s j)
      rw [en_swapL h.dim (by omega) hk]
      split
      · rfl
      · split <;> rfl
/-- What is divided has no rest. -/
theorem BInv.cross (h : BInv n A c M sign last) (hc : c + 1 < n) (hp : en M c c ≠ 0) : ∃ A' : Mx, ∀ i j, c < i → i < n → c < j → j < n → en M i j * en M c c - en M i c * en M c j = last * det (c + 2) (fun a b => A' (pre (c + 1) (fun _ => i) a) (pre (c + 1) (fun _ => j) b)) := by
  obtain ⟨A', _, _, h3⟩ := h.ex
  refine ⟨A', fun i j hi hin hj hjn => ?_⟩
  have e1 := h3 2 (by omega) (fun t => if t = 0 then c else i) (fun t => if t = 0 then c else j) (fun t _ => by split <;> omega) (fun t _ => by split <;> omega)
  have e2 : det 2 (fun a b => en M (if a = 0 then c else i) (if b = 0 then c else j)) = en M i j * en M c c - en M i c * en M c j := by
    have h1 := det_chio_pos (k := 1) (fun a b => en M (if a = 0 then c else i) (if b = 0 then c else j)) (Nat.le_refl _) hp
    rw [Nat.sub_self, Int.pow_zero, Int.one_mul] at h1
    rw [← h1]
    have h2 : ∀ B : Mx, det 1 B = B 0 0 := fun B => by simp [det, sg, sumTo]
    rw [h2]
    rfl
  rw [e2] at e1
  rw [e1, show last ^ (2 - 1) = last from Int.pow_one last]
  congr 1
  exact det_congr fun a b _ _ => by
    have p : ∀ (i a : Nat), pre c (fun t => if t = 0 then c else i) a = pre (c + 1) (fun _ => i) a := fun i a => by
      rcases Nat.lt_trichotomy a c with h | h | h
      · rw [pre_lt _ h, pre_lt _ (by omega)]
      · subst h
        rw [pre_ge _ (Nat.le_refl _), pre_lt _ (by omega), Nat.sub_self]
        exact if_pos rfl
      · rw [pre_ge _ (by omega), pre_ge _ (by omega)]
        exact if_neg (by omega)
    rw [p, p]
theorem BInv.step (h : BInv n A c M sign last) (hc : c + 1 < n) (hp : en M c c ≠ 0) {M2 : List (List Int)} (d2 : Dim n M2) (hq : ∀ i j, c < i → i < n → c < j → j < n → last * en M2 i j = en M i j * en M c c - en M i c * en M c j) : BInv n A (c + 1) M2 sign (en M c c) := by
  obtain ⟨A', e1, e2, e3⟩ := h.ex
  refine ⟨d2, hp, A', e1, e2, fun k hk r s hr hs => ?_⟩
  have a1 := e3 (k + 1) (by omega) (fun t => if t = 0 then c else r (t - 1)) (fun t => if t = 0 then c else s (t - 1)) (fun t ht => by
    by_cases e : t = 0
    · rw [if_pos e]; omega
    · rw [if_neg e]; have := hr (t - 1) (by omega); omega) (fun t ht => by
    by_cases e : t = 0
    · rw [if_pos e]; omega
    · rw [if_neg e]; have := hs (t - 1) (by omega); omega)
  have a2 := det_chio_pos (k := k) (fun a b => en M (if a = 0 then c else r (a - 1)) (if b = 0 then c else s (b - 1))) hk hp
  have a3 : det k (chio (fun a b => en M (if a = 0 then c else r (a - 1)) (if b = 0 then c else s (b - 1)))) = last ^ k * det k (fun i j => en M2 (r i) (s j)) := by
    rw [← det_times]
    exact det_congr fun i j hi hj => by
      have h1 := hr i hi
      have h2 := hs j hj
      show en M (if i + 1 = 0 then c else r (i + 1 - 1)) (if j + 1 = 0 then c else s (j + 1 - 1)) * en M c c - en M (if i + 1 = 0 then c else r (i + 1 - 1)) c * en M c (if j + 1 = 0 then c else s (j + 1 - 1)) = _
      rw [if_neg (by omega), if_neg (by omega), Nat.add_sub_cancel, Nat.add_sub_cancel, hq _ _ (by omega) h1.2 (by omega) h2.2]
  rw [a3, a1, Nat.add_sub_cancel] at a2
  have p : ∀ (r : Nat → Nat) (a : Nat), pre c (fun t => if t = 0 then c else r (t - 1)) a = pre (c + 1) r a := fun r a => by
    rcases Nat.lt_trichotomy a c with h | h | h
    · rw [pre_lt _ h, pre_lt _ (by omega)]
    · subst h
      rw [pre_ge _ (Nat.le_refl _), pre_lt _ (by omega), Nat.sub_self]
      exact if_pos rfl
    · rw [pre_ge _ (by omega), pre_ge _ (by omega)]
      show (if a - c = 0 then c else r (a - c - 1)) = r (a - (c + 1))
      rw [if_neg (by omega)]
      congr 1
  have a4 : det (c + (k + 1)) (fun i j => A' (pre c (fun t => if t = 0 then c else r (t - 1)) i) (pre c (fun t => if t = 0 then c else s (t - 1)) j)) = det (c + 1 + k) (fun i j => A' (pre (c + 1) r i) (pre (c + 1) s j)) := by
    rw [show c + (k + 1) = c + 1 + k by omega]
    exact det_congr fun i j _ _ => by rw [p, p]
  rw [a4] at a2
  have hl : last ^ k ≠ 0 := pow_nz h.nz k
  exact Int.eq_of_mul_eq_mul_left hl (by rw [a2]; grind)
end

/-- Levy, Desplanques. -/
theorem det_heavy {n : Nat} : ∀ (A : Mx), (∀ i, i < n → sumTo (fun j => ((A i j).natAbs : Int)) n < 2 * ((A i i).natAbs : Int)) → det n A ≠ 0 := by
  have others : ∀ {f g : Nat → Int} {n i : Nat}, i < n → (∀ j, j < n → j ≠ i → f j ≤ g j) → sumTo f n + g i ≤ sumTo g n + f i := by
    intro f g n i hi h
    have le : ∀ {m : Nat}, (∀ j, j < m → f j ≤ g j) → sumTo f m ≤ sumTo g m := by
      intro m
      induction m with
      | zero => intro _; exact Int.le_refl _
      | succ m ih => intro h; have := ih fun j hj => h j (by omega); have := h m (by omega); rw [sumTo, sumTo]; omega
    induction n with
    | zero => omega
    | succ n ih =>
      rw [sumTo, sumTo]
      by_cases e : i = n
      · subst e
        have := le (m := i) fun j hj => h j (by omega) (by omega)
        omega
      · have := ih (by omega) fun j hj hne => h j (by omega) hne
        have := h n (by omega) (fun e2 => e e2.symm)
        omega
  induction n with
  | zero => intro A _; simp [det]
  | succ n ih =>
    intro A h
    have h0 := h 0 (by omega)
    rw [sumTo_succ_left] at h0
    have nn : ∀ (f : Nat → Int) (m : Nat), 0 ≤ sumTo (fun j => ((f j).natAbs : Int)) m := fun f m => by
      induction m with
      | zero => exact Int.le_refl _
      | succ m ih => rw [sumTo]; omega
    have n0 := nn (fun j => A 0 (j + 1)) n
    have hp : A 0 0 ≠ 0 := fun e => by rw [e] at h0; simp at h0; omega
    have hd : det n (chio A) ≠ 0 := ih (chio A) fun i hi => by
      have hi' := h (i + 1) (by omega)
      rw [sumTo_succ_left] at hi'
      obtain ⟨P, hP⟩ : ∃ P : Int, P = (A 0 0).natAbs := ⟨_, rfl⟩
      obtain ⟨a0, ha0⟩ : ∃ a0 : Int, a0 = (A (i + 1) 0).natAbs := ⟨_, rfl⟩
      obtain ⟨T, hT⟩ : ∃ T : Int, T = sumTo (fun j => ((A (i + 1) (j + 1)).natAbs : Int)) n := ⟨_, rfl⟩
      obtain ⟨U, hU⟩ : ∃ U : Int, U = sumTo (fun j => ((A 0 (j + 1)).natAbs : Int)) n := ⟨_, rfl⟩
      obtain ⟨ti, hti⟩ : ∃ ti : Int, ti = (A (i + 1) (i + 1)).natAbs := ⟨_, rfl⟩
      obtain ⟨ui, hui⟩ : ∃ ui : Int, ui = (A 0 (i + 1)).natAbs := ⟨_, rfl⟩
      have hPpos : 0 < P := by omega
      have g1 : ∀ j, ((chio A i j).natAbs : Int) ≤ P * (A (i + 1) (j + 1)).natAbs + a0 * (A 0 (j + 1)).natAbs := fun j => by
        have := Int.natAbs_sub_le (A (i + 1) (j + 1) * A 0 0) (A (i + 1) 0 * A 0 (j + 1))
        rw [Int.natAbs_mul, Int.natAbs_mul] at this
        unfold chio
        rw [hP, ha0, Int.mul_comm ((A 0 0).natAbs : Int)]
        have e1 : ((A (i + 1) (j + 1)).natAbs : Int) * ((A 0 0).natAbs : Int) = (((A (i + 1) (j + 1)).natAbs * (A 0 0).natAbs : Nat) : Int) := (Int.natCast_mul _ _).symm
        have e2 : ((A (i + 1) 0).natAbs : Int) * ((A 0 (j + 1)).natAbs : Int) = (((A (i + 1) 0).natAbs * (A 0 (j + 1)).natAbs : Nat) : Int) := (Int.natCast_mul _ _).symm
        rw [e1, e2]
        omega
      have g2 : P * ti - a0 * ui ≤ ((chio A i i).natAbs : Int) := by
        have h1 : (A (i + 1) (i + 1) * A 0 0).natAbs ≤ (chio A i i).natAbs + (A (i + 1) 0 * A 0 (i + 1)).natAbs := by
          unfold chio; omega
        rw [Int.natAbs_mul, Int.natAbs_mul] at h1
        rw [hP, ha0, hti, hui, Int.mul_comm ((A 0 0).natAbs : Int)]
        have e1 : ((A (i + 1) (i + 1)).natAbs : Int) * ((A 0 0).natAbs : Int) = (((A (i + 1) (i + 1)).natAbs * (A 0 0).natAbs : Nat) : Int) := (Int.natCast_mul _ _).symm
        have e2 : ((A (i + 1) 0).natAbs : Int) * ((A 0 (i + 1)).natAbs : Int) = (((A (i + 1) 0).natAbs * (A 0 (i + 1)).natAbs : Nat) : Int) := (Int.natCast_mul _ _).symm
        rw [e1, e2]
        omega
      have g3 := others (f := fun j => ((chio A i j).natAbs : Int)) (g := fun j => P * (A (i + 1) (j + 1)).natAbs + a0 * (A 0 (j + 1)).natAbs) hi fun j _ _ => g1 j
      rw [sumTo_add, sumTo_mul, sumTo_mul, ← hT, ← hU, ← hti, ← hui] at g3
      rw [← hT, ← ha0, ← hti] at hi'
      rw [← hU, ← hP] at h0
      have m1 : P * (a0 + T) < P * (2 * ti) := Int.mul_lt_mul_of_pos_left hi' hPpos
      have m2 : a0 * U ≤ a0 * P := Int.mul_le_mul_of_nonneg_left (by omega) (by omega)
      rw [Int.mul_add] at m1
      have m3 : P * (2 * ti) = 2 * (P * ti) := by grind
      have m4 : a0 * P = P * a0 := Int.mul_comm _ _
      show sumTo (fun j => ((chio A i j).natAbs : Int)) n < _
      omega
    intro e
    have := det_chio n A
    rw [e, Int.mul_zero] at this
    rcases Int.mul_eq_zero.1 this.symm with e2 | e2
    · exact hp e2
    · exact hd e2
end Go.Rk
namespace Go.Proofs.Ytoahegjjffggaaa
open Go.RowKit Go.Rk

theorem tdiv_exact {x l q : Int} (h : x = l * q) (hl : l ≠ 0) : x.tdiv l = q := by rw [h]; exact Int.mul_tdiv_cancel_left q hl

theorem cross_any {w : World} {Bm Bo g ba bc n cap c1 c2 : Nat} {i j c : Nat} {x p y z last q : Int} (hi : i < n) (hj : j < n) (hc : c < n)
    (hm : w.cell? ⟨Bm, 0, none⟩ = some (.slice (some ⟨g, 0, none⟩) n cap)) (ho : w.cell? ⟨Bo, 0, none⟩ = some (.int .i64 last))
    (hr : w.cell? ⟨g, i, none⟩ = some (.slice (some ⟨ba, 0, none⟩) n c1)) (hq : w.cell? ⟨g, c, none⟩ = some (.slice (some ⟨bc, 0, none⟩) n c2))
    (hx : w.cell? ⟨ba, j, none⟩ = some (.int .i64 x)) (hp : w.cell? ⟨bc, c, none⟩ = some (.int .i64 p)) (hy : w.cell? ⟨ba, c, none⟩ = some (.int .i64 y)) (hz : w.cell? ⟨bc, j, none⟩ = some (.int .i64 z))
    (bx : -7085880 ≤ x ∧ x ≤ 7085880) (bp : -7085880 ≤ p ∧ p ≤ 7085880) (by_ : -7085880 ≤ y ∧ y ≤ 7085880) (bz : -7085880 ≤ z ∧ z ≤ 7085880) (bq : -7085880 ≤ q ∧ q ≤ 7085880) (hl : last ≠ 0) (he : x * p - y * z = last * q) :
    Calls Try.prog 86 #[.int .i64 c, .int .i64 i, .int .i64 j, .pointer (some ⟨Bm, 0, none⟩), .pointer (some ⟨Bo, 0, none⟩)] w fun e w' => e = .returned (.int .i64 q) ∧ ∃ m, w' = w.drewN m := by
  have i1 : (i : Int) < (n : Int) := by omega
  have i2 : (j : Int) < (n : Int) := by omega
  have i3 : (c : Int) < (n : Int) := by omega
  have p1 := abs_mul_le bx bp
  have p2 := abs_mul_le by_ bz
  have HE := Lib.hid he
  have HT := Lib.hid (tdiv_exact he hl)
  clear he
  obtain ⟨X, hX⟩ : ∃ X, X = x * p := ⟨_, rfl⟩
  obtain ⟨Y, hY⟩ : ∃ Y, Y = y * z := ⟨_, rfl⟩
  rw [← hX] at p1 HT
  rw [← hY] at p2 HT
  have u1 : IntKind.i64.wrap (x * p) = X := by rw [hX]; exact Go.IntWalk.i64_in _ (by omega)
  have u2 : IntKind.i64.wrap (y * z) = Y := by rw [hY]; exact Go.IntWalk.i64_in _ (by omega)
  have u3 : IntKind.i64.wrap (X - Y) = X - Y := Go.IntWalk.i64_in _ (by omega)
  have u4 : (X - Y).tdiv last = q := HT.out
  have u5 : IntKind.i64.wrap q = q := Go.IntWalk.i64_in _ (by omega)
  have z1 : (last == 0) = false := beq_eq_false_iff_ne.2 hl
  clear hX hY HE HT p1 p2 bx bp by_ bz bq
  go_enter Try.func86, Try.ntmps86
  go_wp2
  go_quiet (fail)
  go_wp2
  go_ret
  exact ⟨rfl, _, rfl⟩

theorem detB9 {c : Nat} (h : c ≤ 5) : detB 9 c ≤ 7085880 := by
  rcases (show c = 0 ∨ c = 1 ∨ c = 2 ∨ c = 3 ∨ c = 4 ∨ c = 5 by omega) with rfl | rfl | rfl | rfl | rfl | rfl <;> decide
theorem swapL_comm {n : Nat} {M : List (List Int)} (h : M.length = n) {i k : Nat} (hi : i < n) (hk : k < n) : swapL M i k = swapL M k i :=
  rowOf_ext (by rw [swapL_len, swapL_len]) fun j _ => by
    rw [rowOf_swapL (by omega) (by omega), rowOf_swapL (by omega) (by omega)]
    by_cases e1 : j = k
    · by_cases e2 : j = i
      · rw [if_pos e1, if_pos e2, ← e1, ← e2]
      · rw [if_pos e1, if_neg e2, if_pos e1]
    · by_cases e2 : j = i
      · rw [if_neg e1, if_pos e2, if_pos e2]
      · rw [if_neg e1, if_neg e2, if_neg e2, if_neg e1]

/-- What is divided has no rest, and is not great. -/
theorem quotients {n c : Nat} {A : Mx} {M : List (List Int)} {s o : Int} (h : BInv n A c M s o) (hA : ∀ i j, i < n → j < n → -9 ≤ A i j ∧ A i j ≤ 9) (h5 : n ≤ 5) (hc : c + 1 < n) (hp : en M c c ≠ 0) :
    ∃ Q : Nat → Nat → Int, ∀ i j, c < i → i < n → c < j → j < n → en M i j * en M c c - en M i c * en M c j = o * Q i j ∧ -7085880 ≤ Q i j ∧ Q i j ≤ 7085880 := by
  obtain ⟨A', hA'⟩ := h.cross hc hp
  obtain ⟨Q, hQ⟩ : ∃ Q : Nat → Nat → Int, ∀ i j, c < i → i < n → c < j → j < n → en M i j * en M c c - en M i c * en M c j = o * Q i j := ⟨fun i j => det (c + 2) (fun a b => A' (pre (c + 1) (fun _ => i) a) (pre (c + 1) (fun _ => j) b)), hA'⟩
  refine ⟨Q, fun i j h1 h2 h3 h4 => ⟨hQ i j h1 h2 h3 h4, ?_⟩⟩
  have row : ∀ i, i < n → rowOf ((List.range n).map fun i => (List.range n).map fun j => Q i j) i = (List.range n).map fun j => Q i j := fun i hi => by
    rw [rowOf_lt (by simp; exact hi)]
    simp
  have eM : ∀ i j, i < n → j < n → en ((List.range n).map fun i => (List.range n).map fun j => Q i j) i j = Q i j := fun i j hi hj => by
    unfold en
    rw [row i hi, ix_lt (by simp; exact hj)]
    simp
  have hb := h.step (M2 := (List.range n).map fun i => (List.range n).map fun j => Q i j) hc hp ⟨by simp, fun i hi => by rw [row i hi]; simp⟩ (fun i j h1 h2 h3 h4 => by rw [eM i j h2 h4]; exact (hQ i j h1 h2 h3 h4).symm)
  have := hb.bound (b := 9) (by decide) hA (i := i) (j := j) (by omega) h2 (by omega) h4
  rw [eM i j h2 h4] at this
  have := detB9 (c := c + 1 + 1) (by omega)
  omega

/-- Rows change places. -/
theorem DSt.swap2 {w0 w : World} {Bm Bo g : Nat} {D C : Nat → Nat} {n cap : Nat} {M : List (List Int)} {o : Int} {i k : Nat} (h : DSt w0 w Bm Bo g D C n cap M o) (hi : i < n) (hk : k < n) :
    DSt w0 ((w.setCell ⟨g, i, none⟩ (.slice (some ⟨D k, 0, none⟩) (rowOf M k).length (C k))).setCell ⟨g, k, none⟩ (.slice (some ⟨D i, 0, none⟩) (rowOf M i).length (C i))) Bm Bo g (swapF D i k) (swapF C i k) n cap (swapL M i k) o := by
  have hg : w0.heap.size ≤ g := Nat.le_trans (Nat.le_succ _) h.own.lowO.1
  refine ⟨h.own.swap matTy.ne hi hk, ?_, ?_, by simp [h.fo], h.n1, h.n2, h.n3, fun j hj => ?_, fun j hj => ?_, h.lo, h.lm, (h.bel.setCell (p := ⟨g, i, none⟩) hg _).setCell (p := ⟨g, k, none⟩) hg _⟩
  · rw [World.cell?_setCell_other _ _ _ _ (by simp; exact fun e => absurd e.symm h.n1), World.cell?_setCell_other _ _ _ _ (by simp; exact fun e => absurd e.symm h.n1)]; exact h.m
  · rw [World.cell?_setCell_other _ _ _ _ (by simp; exact fun e => absurd e.symm h.n2), World.cell?_setCell_other _ _ _ _ (by simp; exact fun e => absurd e.symm h.n2)]; exact h.o
  · simp only [swapF]; (repeat' split) <;> first | exact h.n4 _ hi | exact h.n4 _ hk | exact h.n4 _ hj
  · simp only [swapF]; (repeat' split) <;> first | exact h.n5 _ hi | exact h.n5 _ hk | exact h.n5 _ hj

/-- What stands at a place while column c is worked. -/
def barP (M : List (List Int)) (c k m : Nat) (Q : Nat → Nat → Int) (i j : Nat) : Int := if (c < i ∧ i < k ∧ c < j) ∨ (i = k ∧ c < j ∧ j < m) then Q i j else en M i j

set_option maxHeartbeats 4000000 in
set_option maxRecDepth 100000 in
theorem bareiss_of_any {a : Option Addr} {n cap : Nat} {M : List (List Int)} {w : World} (h : RdM w a n cap M) (hd : Dim n M) (he : Ent (-9) 9 n M) (h1 : 1 ≤ n) (h5 : n ≤ 5) :
    Calls Try.prog 59 #[.slice a n cap] w fun e w' => e = .returned (.int .i64 (det n (mx M))) ∧ Below w.heap.size w w' := by
  have S0 := Lib.hid (BInv.start hd)
  have HE : Hid (∀ i j, i < n → j < n → -9 ≤ mx M i j ∧ mx M i j ≤ 9) := he
  have hR := Lib.hid (show RdM (w.alloc (.cells #[.slice a n cap] 43)) a n cap M from h.below ((Below.refl _ _).alloc (Nat.le_refl _) _))
  have HD := Lib.hid hd
  have hmf : ∀ (fn : Fn) (first cap : Array Value) (w : World), (Instr.makeFunc fn first cap).run Try.prog w = .ok (.func fn first cap) w := fun _ _ _ _ => rfl
  clear hd he
  go_enter Try.func59, Try.ntmps59
  go_wp2_with fail
  refine (Copy_any hR.out (by omega) (fun k hk => by rw [HD.out.2 k hk]; omega)).mono ?_
  rintro e w1 ⟨z, cz, rfl, ho1, hb1⟩
  have hBm : w1.cell? ⟨w.heap.size, 0, none⟩ = some (.slice a n cap) := hb1.keep (by simp) (by rw [World.cell?_alloc_at _ _ _ _ rfl]; rfl)
  have hfm : w1.frozen? ⟨w.heap.size, 0, none⟩ = false := by rw [hb1.frozen (by simp)]; exact World.frozen?_alloc_at _ _ _ _ rfl
  have hz1 : w.heap.size + 1 ≤ w1.heap.size := by have := hb1.size; simpa using this
  have hz2 : ¬ w1.heap.size = w.heap.size := by omega
  have hz3 : w.heap.size < w1.heap.size := by omega
  obtain ⟨g, D, C, hzz, hd1⟩ := ho1.named (by omega) fun i hi => by rw [HD.out.2 i hi]; omega
  subst hzz
  have g1 := hd1.lowO
  have hb0 : Below w.heap.size w w1 := ((Below.refl _ _).alloc (Nat.le_refl _) _).trans (hb1.mono (by simp))
  go_wp2
  have hst : DSt w ((w1.setCell ⟨w.heap.size, 0, none⟩ (.slice (some ⟨g, 0, none⟩) n cz)).alloc (.cells #[.int .i64 1] 3)) w.heap.size w1.heap.size g D C n cz M 1 := by
    simp at hd1 g1
    refine ⟨(hd1.setElse (p := ⟨w.heap.size, 0, none⟩) (by simp; omega) (fun i hi => by have := (hd1.lowI hi).1; simp; omega) _).alloc _, ?_, ?_, ?_, by omega, by omega, by omega, fun j hj => by have := (hd1.lowI hj).2; omega, fun j hj => by have := (hd1.lowI hj).1; omega, by omega, Nat.le_refl _, (hb0.setCell (Nat.le_refl _) _).alloc (by simp; omega) _⟩
    · rw [World.cell?_alloc_past _ _ _ (by simpa using hz3)]; exact World.cell?_setCell_same _ _ _ hBm
    · rw [World.cell?_alloc_at _ _ _ _ (by simp)]; rfl
    · exact World.frozen?_alloc_at _ _ _ _ (by simp)
  generalize ((w1.setCell ⟨w.heap.size, 0, none⟩ (.slice (some ⟨g, 0, none⟩) n cz)).alloc (.cells #[.int .i64 1] 3)) = w3 at *
  clear hBm hfm hz1 hz2 hz3 g1 hb0 hd1 ho1 hb1
  generalize w1.heap.size = Bo at *
  clear hmf
  go_loopw [3, 6] (fun s i wr => ∃ (c : Nat) (D C : Nat → Nat) (M' : List (List Int)) (sg_ o : Int), c + 1 ≤ n ∧ i = .int .i64 c ∧ s = .int .i64 sg_ ∧ (sg_ = 1 ∨ sg_ = -1) ∧ (-7085880 ≤ o ∧ o ≤ 7085880) ∧ DSt w wr w.heap.size Bo g D C n cz M' o ∧ Hid (BInv n (mx M) c M' sg_ o)) (fun _ i _ => n - (intOf i).toNat)
  case atStart => exact ⟨0, D, C, M, 1, 1, by omega, rfl, rfl, .inl rfl, by omega, hst, S0⟩
  case round =>
    clear hst S0
    obtain ⟨c, D, C, M', sg_, o, hc, rfl, rfl, hsg, hob, hs, hi⟩ := hrel
    have hcm := hs.m
    have hbd : Hid (∀ i j, c ≤ i → i < n → c ≤ j → j < n → -7085880 ≤ en M' i j ∧ en M' i j ≤ 7085880) := fun i j h1 h2 h3 h4 => by
      have := hi.out.bound (b := 9) (by decide) HE.out h1 h2 h3 h4
      have := detB9 (c := c + 1) (by omega)
      omega
    by_cases hlt : c + 1 < n
    · have i0 : (c : Int) + 1 < (n : Int) := by omega
      have i9 : (c : Int) < (n : Int) := by omega
      have hcn : c < n := by omega
      go_wp2
      go_loop [7] (fun i => ∃ k : Nat, c ≤ k ∧ k ≤ n ∧ i = .int .i64 k ∧ Hid (∀ r, c ≤ r → r < k → en M' r c = 0)) (fun i => n - (intOf i).toNat)
      case atStart => exact ⟨c, Nat.le_refl _, by omega, rfl, fun r h1 h2 => absurd h2 (by omega)⟩
      case round =>
        obtain ⟨k, hk1, hk2, rfl, hz⟩ := hrel
        by_cases hkn : k < n
        · have x1 := hs.own.cellO hkn
          rw [hi.out.dim.2 k hkn] at x1
          have x2 := hs.own.cellI hkn (j := c) (by rw [hi.out.dim.2 k hkn]; exact hcn)
          have i1 : (k : Int) < (n : Int) := by omega
          by_cases hp : en M' k c = 0
          · have hp' : (en M' k c == 0) = true := beq_iff_eq.2 hp
            have HP := Lib.hid hp
            clear hp
            go_wp2
            go_round
            case rel => exact ⟨k + 1, by omega, by omega, by go_num, zeros_succ hz.out HP.out⟩
            case measure => simp [intOf]; omega
          · have hp' : (en M' k c == 0) = false := beq_eq_false_iff_ne.2 hp
            have hkn' : ((k : Int) == (n : Int)) = false := beq_eq_false_iff_ne.2 (by omega)
            have HP := Lib.hid hp
            clear hp
            go_upto_if 43 with (fail)
            go_cut [3] (fun s wx => ∃ (D4 C4 : Nat → Nat) (M4 : List (List Int)) (s4 : Int), s = .int .i64 s4 ∧ (s4 = 1 ∨ s4 = -1) ∧ DSt w wx w.heap.size Bo g D4 C4 n cz M4 o ∧ Hid (BInv n (mx M) c M4 s4 o) ∧ Hid (en M4 c c ≠ 0))
            case first =>
              by_cases hck : c = k
              · subst hck
                have z3 : ((c : Int) != (c : Int)) = false := bne_eq_false_iff_eq.2 rfl
                go_wp2_with fail
                go_meet
                exact ⟨D, C, M', sg_, rfl, hsg, hs, hi, HP⟩
              · have z3 : ((k : Int) != (c : Int)) = true := bne_iff_ne.2 (by omega)
                have y1 := hs.own.cellO hcn
                rw [hi.out.dim.2 c hcn] at y1
                have f1 := hs.own.frozenO k
                have f2 := hs.own.frozenO c
                have hnk := hs.n1
                have y3 : (wr.setCell ⟨g, k, none⟩ (.slice (some ⟨D c, 0, none⟩) n (C c))).cell? ⟨g, c, none⟩ = some (.slice (some ⟨D c, 0, none⟩) n (C c)) := by
                  rw [World.cell?_setCell_other _ _ _ _ (by first | (simp; done) | (simp; omega))]; exact y1
                have y4 : (wr.setCell ⟨g, k, none⟩ (.slice (some ⟨D c, 0, none⟩) n (C c))).cell? ⟨w.heap.size, 0, none⟩ = some (.slice (some ⟨g, 0, none⟩) n cz) := by
                  rw [World.cell?_setCell_other _ _ _ _ (by first | (simp; done) | (simp; exact fun e => absurd e.symm hnk))]; exact hcm
                have hsw := (hs.swap2 hkn hcn).drew
                rw [hi.out.dim.2 c hcn, hi.out.dim.2 k hkn, swapL_comm hi.out.dim.1 hkn hcn] at hsw
                have hisw := hi.out.swap (k := k) (by omega) hkn
                have hpsw : en (swapL M' c k) c c ≠ 0 := by
                  rw [en_swapL hi.out.dim hcn hkn, if_neg hck, if_pos rfl]; exact HP.out
                have hsg4 : -sg_ = 1 ∨ -sg_ = -1 := by rcases hsg with rfl | rfl <;> simp
                have v8 : IntKind.i64.wrap (-sg_) = -sg_ := Go.IntWalk.i64_in _ (by omega)
                have HI2 := Lib.hid hisw
                have HP2 := Lib.hid hpsw
                clear hisw hpsw
                go_wp2
                go_region
                clear x1 x2 y1 y3 y4 f1 f2 hcm hp' HP hbd hz hs hi hnk
                generalize ((wr.setCell ⟨g, k, none⟩ (.slice (some ⟨D c, 0, none⟩) n (C c))).setCell ⟨g, c, none⟩ (.slice (some ⟨D k, 0, none⟩) n (C k))).drew = w4 at *
                go_wp2_with fail
                go_meet
                exact ⟨_, _, _, _, rfl, hsg4, hsw, HI2, HP2⟩
            case rest =>
              clear hs hi hz hcm x1 x2 hp' HP hbd hsg hkn' i1 hk1 hk2 hkn
              obtain ⟨D4, C4, M4, s4, rfl, hsg4, hs4, HI4_, HP4_⟩ := hcut
              have hi4 := HI4_.out
              have hpc := HP4_.out
              clear HI4_ HP4_
              have HQ := Lib.hid (quotients hi4 HE.out h5 hlt hpc)
              obtain ⟨Q, hQ⟩ := HQ.out
              have HQQ := Lib.hid hQ
              have HI4 := Lib.hid hi4
              have HPC := Lib.hid hpc
              have HB4 : Hid (∀ i j, c ≤ i → i < n → c ≤ j → j < n → -7085880 ≤ en M4 i j ∧ en M4 i j ≤ 7085880) := fun i j h1 h2 h3 h4 => by
                have := hi4.bound (b := 9) (by decide) HE.out h1 h2 h3 h4
                have := detB9 (c := c + 1) (by omega)
                omega
              clear hQ HQ hi4 hpc
              have hm4 := hs4.m
              have onz := HI4.out.nz
              go_wp2
              go_loopw [8] (fun i wr => ∃ (k : Nat) (M5 : List (List Int)), c + 1 ≤ k ∧ k ≤ n ∧ i = .int .i64 k ∧ DSt w wr w.heap.size Bo g D4 C4 n cz M5 o ∧ Hid (Is n M5 (barP M4 c k 0 Q))) (fun i _ => n - (intOf i).toNat)
              case atStart => exact ⟨c + 1, M4, Nat.le_refl _, by omega, by go_num, hs4, ⟨HI4.out.dim, fun i j _ _ => by unfold barP; rw [if_neg (by omega)]⟩⟩
              case round =>
                clear hs4 hm4
                obtain ⟨k2, M5, hk3, hk4, rfl, hs7, hi7⟩ := hrel
                have z2 := hs7.m
                by_cases hlt2 : k2 < n
                · have j1 : (k2 : Int) < (n : Int) := by omega
                  go_wp2
                  go_loopw [9] (fun i wr => ∃ (j : Nat) (M5 : List (List Int)), c + 1 ≤ j ∧ j ≤ n ∧ i = .int .i64 j ∧ DSt w wr w.heap.size Bo g D4 C4 n cz M5 o ∧ Hid (Is n M5 (barP M4 c k2 j Q))) (fun i _ => n - (intOf i).toNat)
                  case atStart => exact ⟨c + 1, M5, Nat.le_refl _, by omega, by go_num, hs7, hi7.out.congr fun i j _ _ => by
                    unfold barP
                    by_cases e : c < i ∧ i < k2 ∧ c < j
                    · rw [if_pos (.inl e), if_pos (.inl e)]
                    · rw [if_neg (by omega), if_neg (by omega)]⟩
                  case round =>
                    clear hs7 z2 hi7
                    obtain ⟨j, M6, hj0, hj1, rfl, hs8, hi8⟩ := hrel
                    have y1 := hs8.m
                    by_cases hlt3 : j < n
                    · have y7 := hs8.o
                      have y2 := hs8.own.cellO hlt2
                      have y3 := hs8.own.cellO hcn
                      have y4 := hs8.own.cellI hlt2 (j := j) (by rw [hi8.out.1.2 k2 hlt2]; exact hlt3)
                      have y5 := hs8.own.cellI hcn (j := c) (by rw [hi8.out.1.2 c hcn]; exact hcn)
                      have y8 := hs8.own.cellI hlt2 (j := c) (by rw [hi8.out.1.2 k2 hlt2]; exact hcn)
                      have y9 := hs8.own.cellI hcn (j := j) (by rw [hi8.out.1.2 c hcn]; exact hlt3)
                      have y6 := hs8.own.frozenI hlt2 (by rw [hi8.out.1.2 k2 hlt2]; omega) j
                      rw [hi8.out.1.2 k2 hlt2] at y2
                      rw [hi8.out.1.2 c hcn] at y3
                      rw [hi8.out.2 k2 j hlt2 hlt3, show barP M4 c k2 j Q k2 j = en M4 k2 j by unfold barP; rw [if_neg (by omega)]] at y4
                      rw [hi8.out.2 c c hcn hcn, show barP M4 c k2 j Q c c = en M4 c c by unfold barP; rw [if_neg (by omega)]] at y5
                      rw [hi8.out.2 k2 c hlt2 hcn, show barP M4 c k2 j Q k2 c = en M4 k2 c by unfold barP; rw [if_neg (by omega)]] at y8
                      rw [hi8.out.2 c j hcn hlt3, show barP M4 c k2 j Q c j = en M4 c j by unfold barP; rw [if_neg (by omega)]] at y9
                      have q1 := HQQ.out k2 j (by omega) hlt2 (by omega) hlt3
                      have C := Lib.hid (fun w' (a1 : w'.cell? _ = _) (a2 : w'.cell? _ = _) (a3 : w'.cell? _ = _) (a4 : w'.cell? _ = _) (a5 : w'.cell? _ = _) (a6 : w'.cell? _ = _) (a7 : w'.cell? _ = _) (a8 : w'.cell? _ = _) => cross_any (w := w') (Bm := w.heap.size) (Bo := Bo) (g := g) (ba := D4 k2) (bc := D4 c) (cap := cz) (c1 := C4 k2) (c2 := C4 c) hlt2 hlt3 hcn a1 a2 a3 a4 a5 a6 a7 a8 (HB4.out k2 j (by omega) hlt2 (by omega) hlt3) (HB4.out c c (Nat.le_refl _) hcn (Nat.le_refl _) hcn) (HB4.out k2 c (by omega) hlt2 (Nat.le_refl _) hcn) (HB4.out c j (Nat.le_refl _) hcn (by omega) hlt3) q1.2 onz q1.1)
                      have hset : Hid (Is n (setE M6 k2 j (Q k2 j)) (barP M4 c k2 (j + 1) Q)) := by
                        refine Is.congr (hi8.out.set _) fun r s hr hs => ?_
                        unfold barP
                        by_cases e4 : k2 = r ∧ j = s
                        · obtain ⟨rfl, rfl⟩ := e4
                          rw [if_pos ⟨rfl, rfl⟩, if_pos (by omega)]
                        · rw [if_neg e4]
                          by_cases e5 : (c < r ∧ r < k2 ∧ c < s) ∨ (r = k2 ∧ c < s ∧ s < j)
                          · rw [if_pos e5, if_pos (by omega)]
                          · rw [if_neg e5, if_neg (by omega)]
                      have c1 : (c : Int) < (n : Int) := by omega
                      have c3 : (j : Int) < (n : Int) := by omega
                      generalize hqv : Q k2 j = qv at *
                      clear q1
                      go_wp2
                      go_region_with (first | (go_at_call 86; refine (C.out _ ?_ ?_ ?_ ?_ ?_ ?_ ?_ ?_).mono ?_; exact y1; exact y7; exact y2; exact y3; exact y4; exact y5; exact y8; exact y9; rintro e w9 ⟨rfl, m9, rfl⟩))
                      all_goals
                        have hs9 := (hs8.drewN (1 + m9)).setE (j := j) hlt2 qv
                        clear y1 y2 y3 y4 y5 y6 y7 y8 y9 C
                        go_wp2
                        go_roundw
                        case rel => exact ⟨j + 1, _, by omega, by omega, by go_num, hs9, hset⟩
                        case measure => simp [intOf]; omega
                    · obtain rfl : j = n := by omega
                      go_wp2
                      go_roundw
                      case rel => exact ⟨k2 + 1, M6, by omega, by omega, by go_num, hs8, hi8.out.congr fun i s hi hs => by
                        unfold barP
                        by_cases e : (c < i ∧ i < k2 ∧ c < s) ∨ (i = k2 ∧ c < s ∧ s < j)
                        · rw [if_pos e, if_pos (by omega)]
                        · rw [if_neg e, if_neg (by omega)]⟩
                      case measure => simp [intOf]; omega
                · obtain rfl : k2 = n := by omega
                  have x1 := hs7.own.cellO hcn
                  rw [hi7.out.1.2 c hcn] at x1
                  have x2 := hs7.own.cellI hcn (j := c) (by rw [hi7.out.1.2 c hcn]; exact hcn)
                  rw [hi7.out.2 c c hcn hcn, show barP M4 c k2 0 Q c c = en M4 c c by unfold barP; rw [if_neg (by omega)]] at x2
                  have y7 := hs7.o
                  have y8 := hs7.fo
                  have hst := hs7.setO (en M4 c c)
                  have HN : Hid (BInv k2 (mx M) (c + 1) M5 s4 (en M4 c c)) := HI4.out.step hlt HPC.out hi7.out.1 fun i j h1 h2 h3 h4 => by
                    rw [hi7.out.2 i j h2 h4, show barP M4 c k2 0 Q i j = Q i j by unfold barP; rw [if_pos (.inl ⟨h1, h2, h3⟩)]]
                    exact (HQQ.out i j h1 h2 h3 h4).1.symm
                  have ob := HB4.out c c (Nat.le_refl _) hcn (Nat.le_refl _) hcn
                  go_wp2
                  go_roundw
                  case rel => exact ⟨c + 1, D4, C4, M5, s4, _, by omega, by go_num, rfl, hsg4, ob, hst, HN⟩
                  case measure => simp [intOf]; omega
        · obtain rfl : k = n := by omega
          have hkn' : ((k : Int) == (k : Int)) = true := beq_iff_eq.2 rfl
          have HZ : Hid (det k (mx M) = 0) := hi.out.zero hcn hz.out
          go_wp2
          go_ret
          exact ⟨congrArg (fun x => Ending.returned (.int .i64 x)) HZ.out.symm, hs.bel⟩
    · obtain rfl : n = c + 1 := by omega
      have HF : Hid (sg_ * en M' c c = det (c + 1) (mx M)) := hi.out.done rfl
      have x1 := hs.own.cellO (i := c) (by omega)
      rw [hi.out.dim.2 c (by omega)] at x1
      have x2 := hs.own.cellI (i := c) (by omega) (j := c) (by rw [hi.out.dim.2 c (by omega)]; omega)
      have b1 := hbd.out c c (Nat.le_refl _) (by omega) (Nat.le_refl _) (by omega)
      have u1 : IntKind.i64.wrap (sg_ * en M' c c) = sg_ * en M' c c := Go.IntWalk.i64_in _ (by rcases hsg with rfl | rfl <;> omega)
      obtain ⟨N, hN⟩ : ∃ N, N = c + 1 := ⟨_, rfl⟩
      have HN := Lib.hid hN
      rw [← hN] at hcm x1 ⊢
      have i0 : ¬ (c : Int) + 1 < (N : Int) := by omega
      have u2 : IntKind.i64.wrap ((N : Int) - 1) = (c : Int) := by rw [Go.IntWalk.i64_in _ (by omega)]; omega
      have i1 : (c : Int) < (N : Int) := by omega
      clear hN
      go_wp2
      go_quiet (fail)
      go_wp2
      go_ret
      exact ⟨congrArg (fun x => Ending.returned (.int .i64 x)) HF.out, below_drewN hs.bel _⟩
end Go.Proofs.Ytoahegjjffggaaa
