/-
  A matrix and a row of the call's own that grow side by side. No program in sight.
  The walk of det.Sign: an order's sign, by its cycles.
  An order's sign: by its cycles, by its pairs, and as the determinant of its matrix. Plain Lean.
  The reference's Has and Sign walked.
  A row of a matrix, read at once. No program in sight.
-/
import Derived.Test.YtefmllkimdaimaaDoorRows
import Derived.Test.YtefmllkimdaimaaDoorMgMasseySaysF0
import Derived.Test.YtefmllkimdaimaaDoorMgMasseySaysF1
import Derived.Test.YtefmllkimdaimaaDoorMgMasseySaysF2
import Derived.Test.YtefmllkimdaimaaDoorMgMasseySaysF3
import Derived.Test.YtefmllkimdaimaaDoorMgMasseySaysF4
import Derived.Test.YtefmllkimdaimaaDoorMgMasseySaysF5
import Derived.Test.YtefmllkimdaimaaDoorMgMasseySaysF8
namespace Go.Rk
open Go.RowKit

section
variable {w w' : World} {B T E : Nat} {a b : Option Addr} {n cap m cb : Nat} {M : List (List Int)} {t : List Int}

theorem owns_det {size : Nat} {vs us : List Value} (h : w.ownsRow B T size (.slice a n cap) n vs) (k : w.ownsRow B T size (.slice a n cap) n us) (hs : size = 1) : vs = us := by
  subst hs
  have l1 : vs.length = n := by have := h.1; omega
  have l2 : us.length = n := by have := k.1; omega
  apply List.ext_getElem?
  intro i
  rcases Nat.lt_or_ge i n with hi | hi
  · obtain ⟨g, c, hv, _, _⟩ := h.form (by omega)
    injection hv with ha _ hc
    subst ha; subst hc
    rw [← h.cellAt i (by omega), ← k.cellAt i (by omega)]
  · rw [List.getElem?_eq_none (by omega), List.getElem?_eq_none (by omega)]

/-- The matrix, the row, and that no row of the matrix lies where the row does. -/
structure OwP (w : World) (B T E : Nat) (a : Option Addr) (n cap : Nat) (M : List (List Int)) (b : Option Addr) (m cb : Nat) (t : List Int) : Prop where
  mat : OwM w B T E a n cap M
  row : OwI w B E b m cb t
  sep : ∀ vs, w.ownsRow B T 1 (.slice a n cap) n vs → ∀ i k, i < n → blk vs i = some k → (Value.slice b m cb).ownBlock ≠ some k

theorem OwP.nil (w : World) (B T E : Nat) : OwP w B T E none 0 0 [] none 0 0 [] := ⟨OwM.nil _ _ _ _, OwI.nil _ _ _, fun _ _ _ _ hi => absurd hi (Nat.not_lt_zero _)⟩

theorem OwP.below (h : OwP w B T E a n cap M b m cb t) (hb : Below w.heap.size w w') : OwP w' B T E a n cap M b m cb t := by
  refine ⟨h.mat.below hb, h.row.below hb, fun vs hv i k hi e => ?_⟩
  obtain ⟨us, ho, _, _⟩ := h.mat.own
  have ho' := ho.kept (w' := w') (row := none) ⟨hb.os, hb.tape, hb.output, hb.size, fun k hk _ => hb.block k hk⟩ (by cases (Value.slice a n cap).ownBlock <;> simp)
  obtain rfl := owns_det ho' hv rfl
  exact h.sep us ho i k hi e
theorem OwP.alloc (h : OwP w B T E a n cap M b m cb t) (o : Obj) : OwP (w.alloc o) B T E a n cap M b m cb t := h.below ((Below.refl _ _).alloc (Nat.le_refl _) o)

/-- What grows where none of it lies leaves a matrix as it is. -/
theorem OwM.grownElse {row : Option Nat} (h : OwM w B T E a n cap M) (hg : w.grownBy w' row) (h1 : (Value.slice a n cap).ownBlock = none ∨ (Value.slice a n cap).ownBlock ≠ row) (h2 : ∀ vs, w.ownsRow B T 1 (.slice a n cap) n vs → ∀ i k, i < n → blk vs i = some k → row ≠ some k) : OwM w' B T E a n cap M := by
  obtain ⟨vs, ho, hr, hd⟩ := h.own
  refine ⟨h.len_eq, vs, ho.kept hg h1, fun k hk => ?_, hd⟩
  obtain ⟨ar, cr, e, o⟩ := hr k hk
  refine ⟨ar, cr, e, o.grown hg ?_⟩
  rcases eo : (Value.slice ar (rowOf M k).length cr).ownBlock with _ | q
  · exact .inl rfl
  · exact .inr fun e2 => h2 vs ho k q hk (by simp [blk, e, eo]) e2.symm

variable {P : Program} {TT : TypeId}
theorem wpList_push_rowP (hT : MatTy P TT T E) {ops : Array Oper} {rest : List Oper} {o : Oper} {ac : Act} {Q : Exit → Act → World → Prop} (hgd : o.guard = none) (s x : Operand)
    (ho : o.op = .call { callee := .builtin .append, args := #[s, x], argTypes := #[TT, TT] })
    {w0 w : World} {a ar : Option Addr} {n cap blk_ c2 nr cr : Nat} {M : List (List Int)} {l : List Int} (hs : ac.eval s = .slice a n cap) (hx : ac.eval x = .slice (some ⟨blk_, 0, none⟩) 1 c2) (h : OwP w0 B T E a n cap M b m cb t) (hb : Below w0.heap.size w0 w)
    (ho2 : OwI w w0.heap.size E ar nr cr l) (hc : w.cell? ⟨blk_, 0, none⟩ = some (.slice ar nr cr)) (hn : (n + 1) * 24 ≤ 140737488355328) (hB : B ≤ w0.heap.size)
    (hK : ∀ a' cap' w', OwP w' B T E a' (n + 1) cap' (M ++ [l]) b m cb t → Below B w w' → wpList P ops Q rest (ac.put o.dst (.slice a' (n + 1) cap')) w') : wpList P ops Q (o :: rest) ac w := by
  obtain ⟨i, hi, hz, hs1, hby⟩ := hT.hi
  have hw := h.below hb
  obtain ⟨vs', ho', hr', hd'⟩ := hw.mat.own
  refine wpList_append_own w hgd s x TT ho B T i (.slice none 0 0) 1 24 hT.ht hi hz hs1 hby rfl (by decide) (.slice a n cap) n vs' hs ho' ⟨blk_, 0, none⟩ 1 c2 [.slice ar nr cr] hx rfl (fun j u hu => ?_) (fun u hu => ?_) (by unfold maxLen; omega) hn (Nat.le_trans hB hb.size) fun v' w' h1 h2 _ => ?_
  · rcases j with _ | j
    · simp at hu
      subst hu
      have : (⟨blk_, 0, none⟩ : Addr).add 0 = ⟨blk_, 0, none⟩ := by simp [Addr.add]
      rw [this]; exact hc
    · simp at hu
  · simp at hu; subst hu; rfl
  · obtain ⟨a', cap', rfl⟩ : ∃ a' cap', v' = .slice a' (n + 1) cap' := by
      rcases h1.2 with ⟨e, h0⟩ | ⟨g, c, cur, e, _⟩
      · exact absurd h0 (by omega)
      · exact ⟨_, _, e⟩
    have hvl : vs'.length = n := by have := ho'.1; omega
    refine hK a' cap' w' ⟨h.mat.pushed hb ho2 hB hT.ne ho' h1 h2 hr' hd', hw.row.grown h2 ?_, fun us hu i k hi e => ?_⟩ ((Below.refl B w).grown h2 (Nat.le_trans hB hb.size) fun k hk => (ho'.lt k hk).1)
    · rcases eo : (Value.slice b m cb).ownBlock with _ | q
      · exact .inl rfl
      · refine .inr fun e2 => ?_
        exact own_ne hT.ne ho' hw.row.own (b := q) e2.symm eo
    · obtain rfl := owns_det h1 hu rfl
      rcases Nat.lt_or_ge i n with h3 | h3
      · refine hw.sep vs' ho' i k h3 ?_
        simp only [blk, List.getElem?_append_left (show i < vs'.length by omega)] at e
        exact e
      · obtain rfl : i = n := by omega
        simp [blk, hvl] at e
        intro e3
        have h4 := (ho2.own.lt k e).1
        have h5 := (h.row.own.lt k e3).2
        omega

theorem wpList_push_intP (hT : MatTy P TT T E) {ops : Array Oper} {rest : List Oper} {o : Oper} {ac : Act} {Q : Exit → Act → World → Prop} (hgd : o.guard = none) (s x : Operand)
    (ho : o.op = .call { callee := .builtin .append, args := #[s, x], argTypes := #[T, T] })
    {a b : Option Addr} {n cap m cb blk_ c2 : Nat} {M : List (List Int)} {t : List Int} {z : Int} (hs : ac.eval s = .slice b m cb) (hx : ac.eval x = .slice (some ⟨blk_, 0, none⟩) 1 c2) (h : OwP w B T E a n cap M b m cb t)
    (hc : w.cell? ⟨blk_, 0, none⟩ = some (.int .i64 z)) (hc2 : 1 ≤ c2) (hm2 : c2 ≤ maxLen) (hn : (m + 1) * 8 ≤ 140737488355328) (hB : B ≤ w.heap.size)
    (hK : ∀ b' cb' w', OwP w' B T E a n cap M b' (m + 1) cb' (t ++ [z]) → Below B w w' → wpList P ops Q rest (ac.put o.dst (.slice b' (m + 1) cb')) w') : wpList P ops Q (o :: rest) ac w := by
  refine wpList_push_int2 hT.int hgd s x ho hs hx h.row hc hc2 hm2 hn hB fun b' cb' w' h1 h2 h3 => ?_
  have hlt : ∀ vs, w.ownsRow B T 1 (.slice a n cap) n vs → ∀ i k, i < n → blk vs i = some k → k < w.heap.size := fun vs hv i k hi e => by
    obtain ⟨us, ho', hr, _⟩ := h.mat.own
    obtain rfl := owns_det ho' hv rfl
    obtain ⟨ar, cr, e1, o1⟩ := hr i hi
    simp [blk, e1] at e
    exact (o1.own.lt k e).2
  have hout : (Value.slice a n cap).ownBlock = none ∨ (Value.slice a n cap).ownBlock ≠ (Value.slice b m cb).ownBlock := by
    obtain ⟨us, ho', _, _⟩ := h.mat.own
    rcases eo : (Value.slice a n cap).ownBlock with _ | q
    · exact .inl rfl
    · exact .inr fun e2 => own_ne hT.ne ho' h.row.own (b := q) eo e2.symm
  have hm' := h.mat.grownElse h2 hout fun vs hv i k hi e => h.sep vs hv i k hi e
  refine hK b' cb' w' ⟨hm', h1, fun us hu i k hi e => ?_⟩ ((Below.refl B w).grown h2 hB fun k hk => (h.row.own.lt k hk).1)
  obtain ⟨vs, ho', _, _⟩ := h.mat.own
  obtain rfl := owns_det (ho'.kept h2 hout) hu rfl
  intro e3
  rcases h3 k e3 with h4 | h4
  · exact h.sep vs ho' i k hi e h4.symm
  · have := hlt vs ho' i k hi e
    omega
end
end Go.Rk
namespace Go.Rk
open Go.RowKit

def bx (l : List Bool) (k : Nat) : Bool := l.getD k false
theorem bx_set (l : List Bool) (k j : Nat) (x : Bool) : bx (l.set k x) j = if k = j ∧ j < l.length then x else bx l j := by
  simp only [bx, List.getD, List.getElem?_set]
  by_cases h1 : k = j
  · subst h1
    by_cases h2 : k < l.length <;> simp [h2]
  · simp [h1]

/-- A slice of bools of the call's own. -/
structure OwB (w : World) (B E : Nat) (a : Option Addr) (n cap : Nat) (l : List Bool) : Prop where
  len_eq : l.length = n
  own : w.ownsRow B E 1 (.slice a n cap) n (l.map Value.bool)

structure BoolTy (P : Program) (T E : TypeId) : Prop where
  ht : P.underlying T = some (.slice E)
  hi : ∃ i, P.info? E = some i ∧ i.zero = some (.bool false) ∧ i.size = 1 ∧ i.bytes = 1

section
variable {w w' : World} {B E : Nat} {a : Option Addr} {n cap : Nat} {l : List Bool}
theorem OwB.at (h : OwB w B E a n cap l) (hn : 0 < n) :
    ∃ g, a = some ⟨g, 0, none⟩ ∧ B ≤ g ∧ g < w.heap.size ∧ (∀ i, i < n → w.cell? ⟨g, i, none⟩ = some (.bool (bx l i))) ∧ ∀ i, w.frozen? ⟨g, i, none⟩ = false := by
  obtain ⟨g, c, hv, hb, hlt⟩ := h.own.form hn
  injection hv with ha _ hc
  subst ha; subst hc
  refine ⟨g, rfl, hb, hlt, fun i hi => ?_, fun i => h.own.frozenAt i⟩
  rw [h.own.cellAt i (by omega), List.getElem?_map, List.getElem?_eq_getElem (by rw [h.len_eq]; exact hi)]
  simp [bx, List.getD, h.len_eq, hi]
theorem OwB.below (h : OwB w B E a n cap l) (hb : Below w.heap.size w w') : OwB w' B E a n cap l :=
  ⟨h.len_eq, h.own.kept (row := none) ⟨hb.os, hb.tape, hb.output, hb.size, fun k hk _ => hb.block k hk⟩ (by cases (Value.slice a n cap).ownBlock <;> simp)⟩
theorem OwB.set {g k : Nat} (h : OwB w B E (some ⟨g, 0, none⟩) n cap l) (x : Bool) : OwB (w.setCell ⟨g, k, none⟩ (.bool x)) B E (some ⟨g, 0, none⟩) n cap (l.set k x) :=
  ⟨by rw [List.length_set]; exact h.len_eq, by rw [List.map_set]; exact (h.own.stored k _).1⟩
end

theorem wpList_make_bools {P : Program} {T E : TypeId} {w : World} (hT : BoolTy P T E) {ops : Array Oper} {rest : List Oper} {o : Oper} {ac : Act} {Q : Exit → Act → World → Prop} (hgd : o.guard = none) (x y : Operand) (ho : o.op = .makeSlice T x y)
    {n : Nat} (hx : ac.eval x = .int .i64 n) (hy : ac.eval y = .int .i64 n) (hn : n ≤ 1000000)
    (h : ∀ w', OwB w' w.heap.size E (some ⟨w.heap.size, 0, none⟩) n n (List.replicate n false) → Below w.heap.size w w' → wpList P ops Q rest (ac.put o.dst (.slice (some ⟨w.heap.size, 0, none⟩) n n)) w') : wpList P ops Q (o :: rest) ac w := by
  obtain ⟨i, hi, hz, hs, hby⟩ := hT.hi
  refine wpList_make_full w hgd x y T ho w.heap.size E i (.bool false) 1 hT.ht hi hz hs .i64 .i64 n n n hx hy rfl rfl (by rw [hby]; omega) (by unfold maxLen; omega) (Nat.le_refl _) fun w' h1 h2 => h w' ⟨by simp, ?_⟩ (below_of_grown h2)
  have : (madeCells (Value.bool false).cells (n * 1)).toList = (List.replicate n false).map Value.bool := by
    rw [Nat.mul_one, List.map_replicate]
    exact toList_madeCells_one _ n
  rw [this] at h1
  exact h1

/-- Which numbers have been met in the first k places. -/
def metN (l : List Int) (n : Nat) : Nat → List Bool
  | 0 => List.replicate n false
  | k + 1 => (metN l n k).set (ix l k).toNat true
/-- Nothing is wrong in the first k places: each number a place, none of them twice. -/
def okN (l : List Int) (n : Nat) : Nat → Bool
  | 0 => true
  | k + 1 => okN l n k && !(decide (ix l k < 0) || decide ((n : Int) - 1 < ix l k)) && !bx (metN l n k) (ix l k).toNat

theorem metN_len (l : List Int) (n k : Nat) : (metN l n k).length = n := by
  induction k with
  | zero => simp [metN]
  | succ k ih => simp [metN, ih]

theorem okN_le {l : List Int} {n : Nat} : ∀ {k}, okN l n k = true → ∀ j, j < k → 0 ≤ ix l j ∧ ix l j ≤ (n : Int) - 1 := by
  intro k
  induction k with
  | zero => intro _ j hj; omega
  | succ k ih =>
    intro h j hj
    simp only [okN, Bool.and_eq_true, Bool.not_eq_true', Bool.or_eq_false_iff, decide_eq_false_iff_not] at h
    rcases Nat.lt_or_ge j k with h1 | h1
    · exact ih h.1.1 j h1
    · obtain rfl : j = k := by omega
      omega

theorem okN_false {l : List Int} {n k m : Nat} (h : okN l n k = false) (hkm : k ≤ m) : okN l n m = false := by
  induction m with
  | zero => obtain rfl : k = 0 := by omega
            exact h
  | succ m ih =>
    rcases Nat.lt_or_ge m k with h1 | h1
    · obtain rfl : k = m + 1 := by omega
      exact h
    · rw [okN, ih h1]; rfl

/-- One cycle from k on: what has been done, and how long it is. -/
def cycF (l : List Int) : Nat → List Bool → Nat → Nat → List Bool × Nat
  | 0, d, _, g => (d, g)
  | f + 1, d, k, g => if bx d k then (d, g) else cycF l f (d.set k true) (ix l k).toNat (g + 1)
def cycN (l : List Int) (n : Nat) : Nat → List Bool × Int
  | 0 => (List.replicate n false, 1)
  | i + 1 => ((cycF l (n + 1) (cycN l n i).1 i 0).1, if 0 < (cycF l (n + 1) (cycN l n i).1 i 0).2 ∧ (cycF l (n + 1) (cycN l n i).1 i 0).2 % 2 = 0 then -(cycN l n i).2 else (cycN l n i).2)
/-- An order's sign. -/
def signC (l : List Int) : Int := if okN l l.length l.length then (cycN l l.length l.length).2 else 0

def cntF (d : List Bool) : Nat := (d.filter fun b => !b).length
theorem cntF_set {d : List Bool} {k : Nat} (hk : k < d.length) (h : bx d k = false) : cntF (d.set k true) + 1 = cntF d := by
  induction d generalizing k with
  | nil => simp at hk
  | cons x d ih =>
    cases k with
    | zero =>
      have : x = false := by simpa [bx] using h
      subst this
      simp [cntF]
    | succ k =>
      have h2 : bx d k = false := by simpa [bx] using h
      have := ih (by simpa using hk) h2
      simp only [cntF, List.set_cons_succ, List.filter_cons] at *
      cases x <;> simp <;> omega
theorem cntF_le (d : List Bool) : cntF d ≤ d.length := List.length_filter_le _ _

theorem cycF_len (l : List Int) : ∀ (f : Nat) (d : List Bool) (k g : Nat), (cycF l f d k g).1.length = d.length ∧ (cycF l f d k g).2 ≤ g + f := by
  intro f
  induction f with
  | zero => intro d k g; exact ⟨rfl, Nat.le_refl _⟩
  | succ f ih =>
    intro d k g
    rw [cycF]
    split
    · exact ⟨rfl, by omega⟩
    · have := ih (d.set k true) (ix l k).toNat (g + 1)
      simp only [List.length_set] at this
      omega

theorem cycN_len (l : List Int) (n i : Nat) : (cycN l n i).1.length = n ∧ ((cycN l n i).2 = 1 ∨ (cycN l n i).2 = -1) := by
  induction i with
  | zero => simp [cycN]
  | succ i ih =>
    simp only [cycN]
    refine ⟨by rw [(cycF_len l _ _ _ _).1, ih.1], ?_⟩
    split <;> omega
end Go.Rk
namespace Go.Proofs.YtefmllkimdaimaaDoor
open Go.RowKit Go.Rk

theorem infoBool : (Tryd.prog.info? 4).map (fun i => (i.zero, i.size, i.bytes)) = some (some (.bool false), 1, 1) := by kernel_rfl
end Go.Proofs.YtefmllkimdaimaaDoor
namespace Go.Rk

/-- The matrix of an order. -/
def pm (m : Nat → Nat) : Mx := fun r => unit_ (m r)

/-- What m is when two places exchange what they hold. -/
def swapN (m : Nat → Nat) (i j : Nat) : Nat → Nat := fun r => if r = j then m i else if r = i then m j else m r

theorem det_pm_swap (m : Nat → Nat) {n i j : Nat} (hij : i ≠ j) (hi : i < n) (hj : j < n) : det n (pm (swapN m i j)) = -det n (pm m) := by
  rw [← (det_alt n).swap (pm m) hij hi hj]
  refine det_congr fun r c _ _ => ?_
  simp only [pm, swapN, swapM, setRow]
  by_cases h1 : r = j
  · simp [h1]
  · by_cases h2 : r = i
    · simp [h2, hij]
    · simp [h1, h2]

/-- An order that takes each place to a place, none twice. -/
structure Ord (n : Nat) (m : Nat → Nat) : Prop where
  lt : ∀ a, a < n → m a < n
  inj : ∀ a b, a < n → b < n → m a = m b → a = b

theorem Ord.swap {n : Nat} {m : Nat → Nat} (h : Ord n m) {i j : Nat} (hi : i < n) (hj : j < n) : Ord n (swapN m i j) := by
  have e (r : Nat) : swapN m i j r = m (if r = j then i else if r = i then j else r) := by
    unfold swapN
    (repeat' split) <;> rfl
  have hlt (r : Nat) (hr : r < n) : (if r = j then i else if r = i then j else r) < n := by (repeat' split) <;> omega
  refine ⟨fun a ha => ?_, fun a b ha hb e2 => ?_⟩
  · rw [e]; exact h.lt _ (hlt a ha)
  · rw [e, e] at e2
    have e3 := h.inj _ _ (hlt a ha) (hlt b hb) e2
    revert e3
    (repeat' split) <;> omega

/-- Each place is some place's, as soon as no two have the same. -/
theorem Ord.onto : ∀ {n : Nat} {m : Nat → Nat}, Ord n m → ∀ b, b < n → ∃ a, a < n ∧ m a = b := by
  intro n
  induction n with
  | zero => intro m _ b hb; omega
  | succ n ih =>
    intro m h b hb
    -- the place that goes to the last one is put last
    by_cases hx : ∃ a, a < n + 1 ∧ m a = n
    · obtain ⟨a, ha, ea⟩ := hx
      by_cases hbn : b = n
      · exact ⟨a, ha, by omega⟩
      have h' : Ord n (swapN m a n) := by
        have hs := h.swap ha (Nat.lt_succ_self n)
        refine ⟨fun x hx => ?_, fun x y hx hy e => hs.inj x y (by omega) (by omega) e⟩
        have h1 := hs.lt x (by omega)
        have h2 : swapN m a n x ≠ n := fun e => by
          have : swapN m a n n = n := by simp [swapN, ea]
          have := hs.inj x n (by omega) (by omega) (by omega)
          omega
        omega
      obtain ⟨c, hc, ec⟩ := ih h' b (by omega)
      unfold swapN at ec
      by_cases h1 : c = n
      · omega
      · rw [if_neg h1] at ec
        by_cases h2 : c = a
        · rw [if_pos h2] at ec; exact ⟨n, Nat.lt_succ_self n, ec⟩
        · rw [if_neg h2] at ec; exact ⟨c, by omega, ec⟩
    · exfalso
      have h' : Ord n m := ⟨fun x hx2 => by
        have h1 := h.lt x (by omega)
        have h2 : m x ≠ n := fun e => hx ⟨x, by omega, e⟩
        omega, fun x y hx hy e => h.inj x y (by omega) (by omega) e⟩
      have h1 := h.lt n (Nat.lt_succ_self n)
      have h2 : m n ≠ n := fun e => hx ⟨n, Nat.lt_succ_self n, e⟩
      obtain ⟨a, ha, ea⟩ := ih h' (m n) (by omega)
      have := h.inj a n (by omega) (by omega) ea
      omega

/-- What is not yet done of an order, in a cycle that began at i and stands at k. -/
structure Mid (n : Nat) (l : List Int) (d : List Bool) (i k : Nat) (m : Nat → Nat) : Prop where
  ord : Ord n m
  len : d.length = n
  isdone : ∀ j, j < n → bx d j = true → j ≠ i → m j = j
  left : ∀ j, j < n → bx d j = false → m j = (ix l j).toNat
  di : bx d i = true
  at_ : m i = k

theorem Mid.step {n : Nat} {l : List Int} {d : List Bool} {i k : Nat} {m : Nat → Nat} (h : Mid n l d i k m) (hi : i < n) (hd : bx d k = false) :
    Mid n l (d.set k true) i (ix l k).toNat (swapN m i k) ∧ det n (pm (swapN m i k)) = -det n (pm m) := by
  have hk : k < n := h.at_ ▸ h.ord.lt i hi
  have hik : i ≠ k := fun e => by subst e; rw [h.di] at hd; cases hd
  refine ⟨⟨h.ord.swap hi hk, by rw [List.length_set]; exact h.len, fun j hj hb hji => ?_, fun j hj hb => ?_, ?_, ?_⟩, det_pm_swap m hik hi hk⟩
  · unfold swapN
    by_cases e : j = k
    · rw [if_pos e, h.at_, e]
    · rw [if_neg e, if_neg hji]
      rw [bx_set, if_neg (by rintro ⟨e2, _⟩; exact e e2.symm)] at hb
      exact h.isdone j hj hb hji
  · rw [bx_set] at hb
    by_cases e : k = j
    · rw [if_pos ⟨e, by rw [h.len]; exact hj⟩] at hb; cases hb
    · rw [if_neg fun e2 => e e2.1] at hb
      unfold swapN
      rw [if_neg fun e2 => e e2.symm, if_neg (by rintro rfl; rw [h.di] at hb; cases hb)]
      exact h.left j hj hb
  · rw [bx_set]
    split
    · rfl
    · exact h.di
  · unfold swapN
    rw [if_neg hik, if_pos rfl]
    exact h.left k hk hd

/-- Once the cycle is back, it is at its beginning. -/
theorem Mid.back {n : Nat} {l : List Int} {d : List Bool} {i k : Nat} {m : Nat → Nat} (h : Mid n l d i k m) (hi : i < n) (hd : bx d k = true) : k = i := by
  have hk : k < n := h.at_ ▸ h.ord.lt i hi
  by_cases e : k = i
  · exact e
  · have h1 := h.isdone k hk hd e
    exact (h.ord.inj i k hi hk (by rw [h.at_, h1])).symm

theorem cyc_mid {n : Nat} {l : List Int} {i : Nat} (hi : i < n) : ∀ (f : Nat) (d : List Bool) (k g : Nat) (m : Nat → Nat), Mid n l d i k m → cntF d < f →
    ∃ m', Mid n l (cycF l f d k g).1 i i m' ∧ g ≤ (cycF l f d k g).2 ∧ det n (pm m) = sg ((cycF l f d k g).2 - g) * det n (pm m') := by
  intro f
  induction f with
  | zero => intro d k g m _ hf; omega
  | succ f ih =>
    intro d k g m h hf
    rw [cycF]
    rcases hd : bx d k
    · obtain ⟨h2, e2⟩ := h.step hi hd
      have hk : k < n := h.at_ ▸ h.ord.lt i hi
      have hc := cntF_set (d := d) (k := k) (by rw [h.len]; exact hk) hd
      obtain ⟨m', h3, h4, e3⟩ := ih (d.set k true) (ix l k).toNat (g + 1) _ h2 (by omega)
      simp only [Bool.false_eq_true, if_false]
      refine ⟨m', h3, by omega, ?_⟩
      have e4 : (cycF l f (d.set k true) (ix l k).toNat (g + 1)).2 - g = (cycF l f (d.set k true) (ix l k).toNat (g + 1)).2 - (g + 1) + 1 := by omega
      rw [e4, sg_succ, Int.neg_mul, ← e3, e2]
      omega
    · simp only [if_true]
      have := h.back hi hd
      subst this
      exact ⟨m, h, Nat.le_refl _, by simp [sg]⟩

/-- What is left of an order when the cycles through the first i places are done. -/
structure Gone (n : Nat) (l : List Int) (d : List Bool) (i : Nat) (m : Nat → Nat) : Prop where
  ord : Ord n m
  len : d.length = n
  isdone : ∀ j, j < n → bx d j = true → m j = j
  left : ∀ j, j < n → bx d j = false → m j = (ix l j).toNat
  upto : ∀ j, j < i → bx d j = true

theorem cycF_keeps (l : List Int) : ∀ (f : Nat) (d : List Bool) (k g j : Nat), j < d.length → bx d j = true → bx (cycF l f d k g).1 j = true := by
  intro f
  induction f with
  | zero => intro d k g j _ h; exact h
  | succ f ih =>
    intro d k g j hj h
    rw [cycF]
    split
    · exact h
    · refine ih _ _ _ _ (by rw [List.length_set]; exact hj) ?_
      rw [bx_set]
      split
      · rfl
      · exact h

theorem Gone.step {n : Nat} {l : List Int} {i : Nat} {m : Nat → Nat} (hi : i < n) (h : Gone n l (cycN l n i).1 i m) :
    ∃ m', Gone n l (cycN l n (i + 1)).1 (i + 1) m' ∧ (cycN l n (i + 1)).2 * det n (pm m') = (cycN l n i).2 * det n (pm m) := by
  rw [cycN]
  generalize (cycN l n i).2 = s at *
  generalize (cycN l n i).1 = d at *
  dsimp only
  rcases hd : bx d i
  · have hM : Mid n l (d.set i true) i (ix l i).toNat m := by
      refine ⟨h.ord, by rw [List.length_set]; exact h.len, fun j hj hb hji => ?_, fun j hj hb => ?_, ?_, h.left i hi hd⟩
      · rw [bx_set, if_neg (by rintro ⟨e2, _⟩; exact hji e2.symm)] at hb
        exact h.isdone j hj hb
      · rw [bx_set] at hb
        by_cases e : i = j
        · rw [if_pos ⟨e, by rw [h.len]; exact hj⟩] at hb; cases hb
        · rw [if_neg fun e2 => e e2.1] at hb
          exact h.left j hj hb
      · rw [bx_set, if_pos ⟨rfl, by rw [h.len]; exact hi⟩]
    have hc := cntF_set (d := d) (k := i) (by rw [h.len]; exact hi) hd
    have hc2 := cntF_le d
    rw [h.len] at hc2
    obtain ⟨m', h3, h4, e3⟩ := cyc_mid hi n (d.set i true) (ix l i).toNat 1 m hM (by omega)
    have e5 : cycF l (n + 1) d i 0 = cycF l n (d.set i true) (ix l i).toNat 1 := by
      rw [cycF, hd]
      simp
    rw [e5]
    have hk := fun j (hj : j < (d.set i true).length) (hb : bx (d.set i true) j = true) => cycF_keeps l n (d.set i true) (ix l i).toNat 1 j hj hb
    generalize cycF l n (d.set i true) (ix l i).toNat 1 = r at *
    refine ⟨m', ⟨h3.ord, h3.len, fun j hj hb => ?_, h3.left, fun j hj => ?_⟩, ?_⟩
    · by_cases e : j = i
      · subst e; exact h3.at_
      · exact h3.isdone j hj hb e
    · refine hk j (by rw [List.length_set, h.len]; omega) ?_
      rw [bx_set]
      by_cases e : i = j
      · rw [if_pos ⟨e, by rw [h.len]; omega⟩]
      · rw [if_neg fun e2 => e e2.1]; exact h.upto j (by omega)
    · rw [e3]
      unfold sg
      by_cases h6 : r.2 % 2 = 0
      · rw [if_pos ⟨by omega, h6⟩, if_neg (by omega)]; grind
      · rw [if_neg fun e => h6 e.2, if_pos (by omega)]; grind
  · have e5 : cycF l (n + 1) d i 0 = (d, 0) := by
      rw [cycF, hd]
      simp
    rw [e5]
    refine ⟨m, ⟨h.ord, h.len, h.isdone, h.left, fun j hj => ?_⟩, by simp⟩
    by_cases e : j = i
    · subst e; exact hd
    · exact h.upto j (by omega)

/-- The sign by the cycles is the determinant of the order's matrix. -/
theorem cycN_det {n : Nat} {l : List Int} (h : Ord n fun j => (ix l j).toNat) : (cycN l n n).2 = det n (pm fun j => (ix l j).toNat) := by
  have key : ∀ i, i ≤ n → ∃ m, Gone n l (cycN l n i).1 i m ∧ (cycN l n i).2 * det n (pm m) = det n (pm fun j => (ix l j).toNat) := by
    intro i
    induction i with
    | zero =>
      intro _
      refine ⟨_, ⟨h, by simp [cycN], fun j hj hb => ?_, fun j _ _ => rfl, fun j hj => by omega⟩, by simp [cycN]⟩
      simp [cycN, bx, List.getD, hj] at hb
    | succ i ih =>
      intro hi
      obtain ⟨m, h1, e1⟩ := ih (by omega)
      obtain ⟨m', h2, e2⟩ := h1.step (by omega)
      exact ⟨m', h2, e2.trans e1⟩
  obtain ⟨m, h1, e1⟩ := key n (Nat.le_refl _)
  rw [← e1, det_congr (B := idM) fun r c hr _ => by
    show unit_ (m r) c = unit_ r c
    rw [h1.isdone r hr (h1.upto r hr)], det_id]
  omega

theorem prodTo_skip (g : Nat → Int) {a : Nat} : ∀ {n}, a ≤ n → prodTo g (n + 1) = prodTo (fun k => g (skip a k)) n * g a := by
  intro n
  induction n with
  | zero =>
    intro h
    obtain rfl : a = 0 := by omega
    simp [prodTo]
  | succ n ih =>
    intro h
    rcases Nat.lt_or_ge n a with h1 | h1
    · obtain rfl : a = n + 1 := by omega
      rw [prodTo, prodTo_congr (h := fun k => g (skip (n + 1) k)) fun i hi => by simp [skip, hi]]
    · rw [prodTo, ih h1]
      conv => rhs; rw [prodTo]
      have : skip a n = n + 1 := by unfold skip; rw [if_neg (by omega)]
      rw [this]
      grind

/-- The product over all the pairs. -/
def pairs (F : Nat → Nat → Int) (n : Nat) : Int := prodTo (fun i => prodTo (fun k => F k i) i) n

theorem pairs_skip (F : Nat → Nat → Int) {a : Nat} : ∀ {n}, a ≤ n → pairs F (n + 1) = pairs (fun k i => F (skip a k) (skip a i)) n * (prodTo (fun k => F k a) a * prodTo (fun i => F a (a + 1 + i)) (n - a)) := by
  intro n
  induction n with
  | zero =>
    intro h
    obtain rfl : a = 0 := by omega
    simp [pairs, prodTo]
  | succ n ih =>
    intro h
    rcases Nat.lt_or_ge n a with h1 | h1
    · obtain rfl : a = n + 1 := by omega
      have e1 : pairs F (n + 1 + 1) = pairs F (n + 1) * prodTo (fun k => F k (n + 1)) (n + 1) := rfl
      have e2 : pairs (fun k i => F (skip (n + 1) k) (skip (n + 1) i)) (n + 1) = pairs F (n + 1) := by
        unfold pairs
        refine prodTo_congr fun i hi => prodTo_congr fun k hk => ?_
        simp only [skip]
        rw [if_pos (by omega), if_pos hi]
      have e3 : prodTo (fun i => F (n + 1) (n + 1 + 1 + i)) (n + 1 - (n + 1)) = 1 := by rw [Nat.sub_self]; rfl
      rw [e1, e2, e3, Int.mul_one]
    · have e1 : pairs F (n + 1 + 1) = pairs F (n + 1) * prodTo (fun k => F k (n + 1)) (n + 1) := rfl
      have e2 : pairs (fun k i => F (skip a k) (skip a i)) (n + 1) = pairs (fun k i => F (skip a k) (skip a i)) n * prodTo (fun k => F (skip a k) (skip a n)) n := rfl
      have e3 : n + 1 - a = n - a + 1 := by omega
      have e4 : skip a n = n + 1 := by unfold skip; rw [if_neg (by omega)]
      have e5 : a + 1 + (n - a) = n + 1 := by omega
      rw [e1, ih h1, e2, e3, prodTo_skip (fun k => F k (n + 1)) h1, e4]
      conv => rhs; rw [prodTo, e5]
      grind

theorem prodTo_one {g : Nat → Int} {n : Nat} (h : ∀ i, i < n → g i = 1) : prodTo g n = 1 := by
  induction n with
  | zero => rfl
  | succ n ih => rw [prodTo, ih fun i hi => h i (by omega), h n (by omega)]; rfl
theorem prodTo_neg {g : Nat → Int} {n : Nat} (h : ∀ i, i < n → g i = -1) : prodTo g n = sg n := by
  induction n with
  | zero => rfl
  | succ n ih => rw [prodTo, ih fun i hi => h i (by omega), h n (by omega), sg_succ]; omega

/-- What a pair does to an order's sign. -/
def turnF (m : Nat → Nat) (k i : Nat) : Int := if m i < m k then -1 else 1

/-- The sign by the pairs is the determinant of the order's matrix. -/
theorem det_pairs : ∀ {n : Nat} {m : Nat → Nat}, Ord n m → det n (pm m) = pairs (turnF m) n := by
  intro n
  induction n with
  | zero => intro m _; rfl
  | succ n ih =>
    intro m h
    obtain ⟨a, ha, ea⟩ := h.onto n (Nat.lt_succ_self n)
    have hne : ∀ r, r < n + 1 → r ≠ a → m r < n := fun r hr h1 => by
      have h2 := h.lt r hr
      have h3 : m r ≠ n := fun e => h1 (h.inj r a hr ha (by omega))
      omega
    have h' : Ord n (fun r => m (skip a r)) := by
      refine ⟨fun r hr => hne _ (skip_lt hr) (skip_ne a r), fun x y hx hy e => ?_⟩
      have := h.inj _ _ (skip_lt hx) (skip_lt hy) e
      revert this
      unfold skip
      split <;> split <;> omega
    have e1 : det (n + 1) (pm m) = sg (a + n) * det n (pm fun r => m (skip a r)) := by
      rw [det_row (pm m) ha, sumTo_congr (g := fun j => sg (a + j) * pm m a j * det n (minor (pm m) a j)) (h := fun k => unit_ n k * (sg (a + k) * det n (minor (pm m) a k))) fun j _ => by
        show sg (a + j) * unit_ (m a) j * _ = _
        rw [ea]
        grind]
      rw [unit_pick (fun k => sg (a + k) * det n (minor (pm m) a k)) (Nat.lt_succ_self n)]
      congr 1
      refine det_congr fun r c hr hc => ?_
      show unit_ (m (skip a r)) (skip n c) = unit_ (m (skip a r)) c
      rw [show skip n c = c by unfold skip; rw [if_pos hc]]
    rw [e1, ih h', pairs_skip _ (by omega : a ≤ n)]
    have e2 : prodTo (fun k => turnF m k a) a = 1 := prodTo_one fun k hk => by
      have := h.lt k (by omega)
      unfold turnF
      rw [if_neg (by omega)]
    have e3 : prodTo (fun i => turnF m a (a + 1 + i)) (n - a) = sg (n - a) := prodTo_neg fun i hi => by
      have := hne (a + 1 + i) (by omega) (by omega)
      unfold turnF
      rw [if_pos (by omega)]
    have e4 : sg (n - a) = sg (a + n) := by
      unfold sg
      by_cases h1 : (n - a) % 2 = 0
      · rw [if_pos h1, if_pos (by omega)]
      · rw [if_neg h1, if_neg (by omega)]
    rw [e2, e3, e4]
    have e5 : pairs (turnF fun r => m (skip a r)) n = pairs (fun k i => turnF m (skip a k) (skip a i)) n := rfl
    rw [e5]
    grind

theorem bx_metN {l : List Int} {n : Nat} : ∀ {k}, ∀ v, v < n → (bx (metN l n k) v = true ↔ ∃ j, j < k ∧ (ix l j).toNat = v) := by
  intro k
  induction k with
  | zero =>
    intro v hv
    simp [metN, bx, List.getD, hv]
  | succ k ih =>
    intro v hv
    rw [metN, bx_set, metN_len]
    by_cases h1 : (ix l k).toNat = v
    · rw [if_pos ⟨h1, hv⟩]
      exact ⟨fun _ => ⟨k, by omega, h1⟩, fun _ => rfl⟩
    · rw [if_neg fun e => h1 e.1, ih v hv]
      constructor
      · rintro ⟨j, hj, e⟩; exact ⟨j, by omega, e⟩
      · rintro ⟨j, hj, e⟩
        by_cases h2 : j = k
        · subst h2; exact absurd e h1
        · exact ⟨j, by omega, e⟩

theorem okN_inj {l : List Int} {n : Nat} : ∀ {k}, okN l n k = true → ∀ a b, a < b → b < k → (ix l a).toNat ≠ (ix l b).toNat := by
  intro k
  induction k with
  | zero => intro _ a b _ hb; omega
  | succ k ih =>
    intro h a b hab hb e
    have hle := okN_le h
    rw [okN, Bool.and_eq_true, Bool.and_eq_true] at h
    rcases Nat.lt_or_ge b k with h1 | h1
    · exact ih h.1.1 a b hab h1 e
    · obtain rfl : b = k := by omega
      have h2 := hle b (by omega)
      have := (bx_metN (l := l) (n := n) (k := b) (ix l b).toNat (by omega)).2 ⟨a, hab, e⟩
      rw [this] at h
      exact absurd h.2 (by simp)

theorem okN_ord {l : List Int} {n : Nat} (h : okN l n n = true) : Ord n (fun j => (ix l j).toNat) ∧ ∀ j, j < n → 0 ≤ ix l j := by
  have hle := okN_le h
  refine ⟨⟨fun a ha => by have := hle a ha; show (ix l a).toNat < n; omega, fun a b ha hb e => ?_⟩, fun j hj => (hle j hj).1⟩
  rcases Nat.lt_trichotomy a b with h1 | h1 | h1
  · exact absurd e (okN_inj h a b h1 hb)
  · exact h1
  · exact absurd e.symm (okN_inj h b a h1 ha)

theorem ord_okN {l : List Int} {n : Nat} (h : Ord n (fun j => (ix l j).toNat)) (h0 : ∀ j, j < n → 0 ≤ ix l j) : ∀ k, k ≤ n → okN l n k = true := by
  intro k
  induction k with
  | zero => intro _; rfl
  | succ k ih =>
    intro hk
    have h1 := h.lt k (by omega)
    have h2 := h0 k (by omega)
    change (ix l k).toNat < n at h1
    have h3 : bx (metN l n k) (ix l k).toNat = false := by
      rcases hb : bx (metN l n k) (ix l k).toNat
      · rfl
      · obtain ⟨j, hj, e⟩ := (bx_metN _ h1).1 hb
        have := h.inj j k (by omega) (by omega) e
        omega
    rw [okN, ih (by omega), h3]
    simp
    omega

/-- If each number has its place, it is an order. -/
theorem has_ord {l : List Int} {n : Nat} (h : ∀ i : Nat, i < n → ∃ p, p < n ∧ ix l p = i) : Ord n (fun j => (ix l j).toNat) ∧ ∀ j, j < n → 0 ≤ ix l j := by
  let f : Nat → Nat := fun i => if hi : i < n then (h i hi).choose else 0
  have hf : ∀ i, i < n → f i < n ∧ ix l (f i) = i := fun i hi => by
    have := (h i hi).choose_spec
    simp only [f, dif_pos hi]
    exact this
  have hF : Ord n f := ⟨fun a ha => (hf a ha).1, fun a b ha hb e => by
    have h1 := (hf a ha).2
    have h2 := (hf b hb).2
    rw [e] at h1
    omega⟩
  refine ⟨⟨fun p hp => ?_, fun p q hp hq e => ?_⟩, fun p hp => ?_⟩
  · obtain ⟨i, hi, rfl⟩ := hF.onto p hp
    have := (hf i hi).2
    show (ix l (f i)).toNat < n
    omega
  · obtain ⟨i, hi, rfl⟩ := hF.onto p hp
    obtain ⟨j, hj, rfl⟩ := hF.onto q hq
    have h1 := (hf i hi).2
    have h2 := (hf j hj).2
    change (ix l (f i)).toNat = (ix l (f j)).toNat at e
    have : i = j := by omega
    rw [this]
  · obtain ⟨i, hi, rfl⟩ := hF.onto p hp
    have := (hf i hi).2
    omega
end Go.Rk
namespace Go.Proofs.YtefmllkimdaimaaDoor
open Go.RowKit Go.Rk

def hasB (n : Int) (l : List Int) : Bool := l.any (· == n)
theorem hasB_iff {n : Int} {l : List Int} : hasB n l = true ↔ ∃ p, p < l.length ∧ ix l p = n := by
  unfold hasB
  rw [List.any_eq_true]
  constructor
  · rintro ⟨x, hx, e⟩
    obtain ⟨p, hp, rfl⟩ := List.getElem_of_mem hx
    exact ⟨p, hp, by rw [ix_lt hp]; exact beq_iff_eq.1 e⟩
  · rintro ⟨p, hp, e⟩
    exact ⟨_, ix_mem hp, beq_iff_eq.2 e⟩

/-- The sign by the pairs, as the reference counts it. -/
def turnI (l : List Int) (k i : Nat) : Int := if ix l i < ix l k then -1 else 1

theorem prodTo_pm {g : Nat → Int} {n : Nat} (h : ∀ i, i < n → g i = 1 ∨ g i = -1) : prodTo g n = 1 ∨ prodTo g n = -1 := by
  induction n with
  | zero => exact .inl rfl
  | succ n ih =>
    rw [prodTo]
    rcases ih fun i hi => h i (by omega) with e | e <;> rcases h n (by omega) with e2 | e2 <;> rw [e, e2] <;> simp
theorem turnI_pm (l : List Int) (k i : Nat) : turnI l k i = 1 ∨ turnI l k i = -1 := by unfold turnI; split <;> simp
theorem pairs_pm (l : List Int) (n : Nat) : pairs (turnI l) n = 1 ∨ pairs (turnI l) n = -1 := prodTo_pm fun i _ => prodTo_pm fun k _ => turnI_pm l k i

end Go.Proofs.YtefmllkimdaimaaDoor
namespace Go.Rk
open Go.RowKit

/-- A row of a matrix, read at once. -/
theorem RdM.rowIn {w : World} {a : Option Addr} {n c cap : Nat} {M : List (List Int)} (h : RdM w a n cap M) (d : Dm n c M) {k : Nat} (hk : k < n) :
    ∃ b off, a = some ⟨b, off, none⟩ ∧ ∃ ar cr, w.cell? ⟨b, off + k, none⟩ = some (.slice ar c cr) ∧ RdI w ar c cr (rowOf M k) := by
  obtain ⟨b, off, rfl, _, hr⟩ := h.at hk
  obtain ⟨ar, cr, hc, hrd⟩ := hr k hk
  rw [d.2 k hk] at hc hrd
  exact ⟨b, off, rfl, ar, cr, hc, hrd⟩

end Go.Rk
