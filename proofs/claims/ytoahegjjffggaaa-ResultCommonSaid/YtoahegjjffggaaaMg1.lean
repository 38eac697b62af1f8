/-
  Matrices that a call makes for itself: slices of slices of integers, each row in a block of its own. No program in sight.
  Finite sums of integers, and numbers modulo 9973. Plain Lean, no program in sight.
-/
import Derived.Test.YtoahegjjffggaaaMg0
namespace Go.Rk
open Go.RowKit

def en (M : List (List Int)) (i j : Nat) : Int := ix (rowOf M i) j
def setE (M : List (List Int)) (i j : Nat) (x : Int) : List (List Int) := M.set i ((rowOf M i).set j x)

theorem rowOf_lt {M : List (List Int)} {k : Nat} (h : k < M.length) : rowOf M k = M[k] := by simp [rowOf, List.getD, h]
theorem rowOf_set (M : List (List Int)) (k j : Nat) (l : List Int) : rowOf (M.set k l) j = if k = j ∧ j < M.length then l else rowOf M j := by
  simp only [rowOf, List.getD, List.getElem?_set]
  by_cases h1 : k = j
  · subst h1
    by_cases h2 : k < M.length <;> simp [h2]
  · simp [h1]
theorem rowOf_append_left {M N : List (List Int)} {k : Nat} (h : k < M.length) : rowOf (M ++ N) k = rowOf M k := by
  simp [rowOf, List.getD, List.getElem?_append_left h]
theorem rowOf_append_right {M N : List (List Int)} {k : Nat} (h : M.length ≤ k) : rowOf (M ++ N) k = rowOf N (k - M.length) := by
  simp [rowOf, List.getD, List.getElem?_append_right h]
theorem rowOf_ext {M N : List (List Int)} (h : M.length = N.length) (e : ∀ k, k < M.length → rowOf M k = rowOf N k) : M = N := by
  apply List.ext_getElem h
  intro i h1 h2
  have := e i h1
  rwa [rowOf_lt h1, rowOf_lt h2] at this
theorem en_ext {M N : List (List Int)} (h : M.length = N.length) (h2 : ∀ k, k < M.length → (rowOf M k).length = (rowOf N k).length) (e : ∀ i j, i < M.length → j < (rowOf M i).length → en M i j = en N i j) : M = N :=
  rowOf_ext h fun k hk => ix_ext (h2 k hk) fun j hj => e k j hk hj
theorem setE_len (M : List (List Int)) (i j : Nat) (x : Int) : (setE M i j x).length = M.length := by simp [setE]
theorem setE_row_len (M : List (List Int)) (i j k : Nat) (x : Int) : (rowOf (setE M i j x) k).length = (rowOf M k).length := by
  unfold setE
  rw [rowOf_set]
  split
  · next h => rw [List.length_set, h.1]
  · rfl
theorem en_setE (M : List (List Int)) (i j : Nat) (x : Int) (r c : Nat) : en (setE M i j x) r c = if i = r ∧ j = c ∧ r < M.length ∧ c < (rowOf M r).length then x else en M r c := by
  unfold en setE
  rw [rowOf_set]
  by_cases h : i = r ∧ r < M.length
  · obtain ⟨rfl, h2⟩ := h
    rw [if_pos ⟨rfl, h2⟩, ix_set]
    by_cases h3 : j = c ∧ c < (rowOf M i).length
    · rw [if_pos h3, if_pos ⟨rfl, h3.1, h2, h3.2⟩]
    · rw [if_neg h3, if_neg fun h4 => h3 ⟨h4.2.1, h4.2.2.2⟩]
  · rw [if_neg h, if_neg fun h4 => h ⟨h4.1, h4.2.2.1⟩]

section
variable {w w' : World} {a : Option Addr} {len cap : Nat} {M : List (List Int)}

theorem RdM.at (h : RdM w a len cap M) {k : Nat} (hk : k < len) :
    ∃ b off, a = some ⟨b, off, none⟩ ∧ b < w.heap.size ∧ ∀ i, i < len → ∃ ar cr, w.cell? ⟨b, off + i, none⟩ = some (.slice ar (rowOf M i).length cr) ∧ RdI w ar (rowOf M i).length cr (rowOf M i) := by
  obtain ⟨b, off, _, _, _, ha, hc0, _⟩ := h.row k hk
  refine ⟨b, off, ha, World.block_lt_of_cell? w _ hc0, fun i hi => ?_⟩
  obtain ⟨b', off', ar, nr, cr, ha', hc, hr⟩ := h.row i hi
  rw [ha] at ha'
  cases ha'
  have := hr.len_eq
  subst this
  exact ⟨ar, cr, hc, hr⟩

theorem RdM.below (h : RdM w a len cap M) (hb : Below w.heap.size w w') : RdM w' a len cap M := by
  refine ⟨h.len_eq, h.le, h.max, fun k hk => ?_⟩
  obtain ⟨b, off, ar, nr, cr, ha, hc, hr⟩ := h.row k hk
  refine ⟨b, off, ar, nr, cr, ha, ?_, hr.below hb⟩
  rw [hb.cell (World.block_lt_of_cell? w _ hc)]
  exact hc

/-- A store into a cell that holds a slice turns no number. -/
theorem _root_.Go.Rk.RdI.setSlice {l : List Int} {a : Option Addr} {len cap : Nat} {p : Addr} {x : Option Addr} {y z : Nat} (h : RdI w a len cap l) (hp : w.cell? p = some (.slice x y z)) (u : Value) : RdI (w.setCell p u) a len cap l := by
  refine ⟨h.len_eq, h.le, h.max, fun k hk => ?_⟩
  obtain ⟨b, off, ha, hc⟩ := h.cell k hk
  refine ⟨b, off, ha, ?_⟩
  rw [World.cell?_setCell_other _ _ _ _ ?_]
  · exact hc
  · intro e; subst e; rw [hc] at hp; cases hp

/-- A row that reads as l, set in the place of row k. -/
theorem RdM.setRow {g k : Nat} {ar : Option Addr} {nr cr : Nat} {l : List Int} (h : RdM w (some ⟨g, 0, none⟩) len cap M) (hk : k < len) (hr : RdI w ar nr cr l) : RdM (w.setCell ⟨g, k, none⟩ (.slice ar nr cr)) (some ⟨g, 0, none⟩) len cap (M.set k l) := by
  obtain ⟨b0, o0, a0, n0, c0, hg, hc0, _⟩ := h.row k hk
  injection hg with hg
  injection hg with e1 e2
  subst e1; subst e2
  rw [Nat.zero_add] at hc0
  refine ⟨by rw [List.length_set]; exact h.len_eq, h.le, h.max, fun i hi => ?_⟩
  rw [rowOf_set]
  by_cases hik : k = i
  · subst hik
    rw [if_pos ⟨rfl, by rw [h.len_eq]; exact hk⟩]
    exact ⟨g, 0, ar, nr, cr, rfl, by rw [Nat.zero_add]; exact World.cell?_setCell_same _ _ _ hc0, hr.setSlice hc0 _⟩
  · rw [if_neg fun e => hik e.1]
    obtain ⟨b1, o1, a1, n1, c1, hg1, hc1, hr1⟩ := h.row i hi
    injection hg1 with hg1
    injection hg1 with e1 e2
    subst e1; subst e2
    refine ⟨g, 0, a1, n1, c1, rfl, ?_, hr1.setSlice hc0 _⟩
    rw [World.cell?_setCell_other _ _ _ _ (by simp)]
    exact hc1

theorem RdM.two {b : Nat} {a0 a1 : Option Addr} {n0 c0 n1 c1 : Nat} {l0 l1 : List Int} (h0 : w.cell? ⟨b, 0, none⟩ = some (.slice a0 n0 c0)) (r0 : RdI w a0 n0 c0 l0) (h1 : w.cell? ⟨b, 1, none⟩ = some (.slice a1 n1 c1)) (r1 : RdI w a1 n1 c1 l1) :
    RdM w (some ⟨b, 0, none⟩) 2 2 [l0, l1] := by
  refine ⟨rfl, Nat.le_refl _, by decide, fun k hk => ?_⟩
  rcases k with _ | k
  · exact ⟨b, 0, a0, n0, c0, rfl, h0, r0⟩
  · obtain rfl : k = 0 := by omega
    exact ⟨b, 0, a1, n1, c1, rfl, h1, r1⟩

theorem RdM.len_max (h : RdM w a len cap M) : len ≤ 9223372036854775807 := by
  have h1 := h.le; have h2 := h.max; unfold maxLen at h2; omega
theorem RdM.nil (w : World) : RdM w none 0 0 [] := ⟨rfl, Nat.le_refl _, Nat.zero_le _, fun _ h => absurd h (Nat.not_lt_zero _)⟩
end

/-- n rows, the first k of them m noughts, the others empty. -/
def gridN (n m : Nat) : Nat → List (List Int)
  | 0 => List.replicate n []
  | k + 1 => (gridN n m k).set k (List.replicate m 0)

theorem gridN_len (n m k : Nat) : (gridN n m k).length = n := by
  induction k with
  | zero => simp [gridN]
  | succ k ih => simp [gridN, ih]

theorem gridN_row (n m : Nat) : ∀ k, k ≤ n → ∀ i, i < k → rowOf (gridN n m k) i = List.replicate m 0 := by
  intro k
  induction k with
  | zero => intro _ i hi; omega
  | succ k ih =>
    intro hk i hi
    rw [gridN, rowOf_set, gridN_len]
    by_cases h : k = i
    · rw [if_pos ⟨h, by omega⟩]
    · rw [if_neg fun h2 => h h2.1]; exact ih (by omega) i (by omega)

theorem gridN_full (n m : Nat) : gridN n m n = List.replicate n (List.replicate m 0) := by
  refine rowOf_ext (by rw [gridN_len]; simp) fun k hk => ?_
  rw [gridN_len] at hk
  rw [gridN_row n m n (Nat.le_refl _) k hk]
  simp [rowOf, List.getD, hk]

/-- n rows, the first k of them those of M, the others empty. -/
def copyN (M : List (List Int)) (n : Nat) : Nat → List (List Int)
  | 0 => List.replicate n []
  | k + 1 => (copyN M n k).set k (rowOf M k)

theorem copyN_len (M : List (List Int)) (n k : Nat) : (copyN M n k).length = n := by
  induction k with
  | zero => simp [copyN]
  | succ k ih => simp [copyN, ih]

theorem copyN_row (M : List (List Int)) (n : Nat) : ∀ k, k ≤ n → ∀ i, i < k → rowOf (copyN M n k) i = rowOf M i := by
  intro k
  induction k with
  | zero => intro _ i hi; omega
  | succ k ih =>
    intro hk i hi
    rw [copyN, rowOf_set, copyN_len]
    by_cases h : k = i
    · rw [if_pos ⟨h, by omega⟩, h]
    · rw [if_neg fun h2 => h h2.1]; exact ih (by omega) i (by omega)

theorem copyN_full {M : List (List Int)} {n : Nat} (h : M.length = n) : copyN M n n = M := by
  refine rowOf_ext (by rw [copyN_len, h]) fun k hk => ?_
  rw [copyN_len] at hk
  exact copyN_row M n n (Nat.le_refl _) k hk

def blk (vs : List Value) (k : Nat) : Option Nat := (vs[k]?).bind Value.ownBlock

/-- The slice value '.slice a n cap' is a call's own, and so is each of its rows, all in blocks from B on; they read as M. T: the number of the type []int, E: of int. -/
structure OwM (w : World) (B T E : Nat) (a : Option Addr) (n cap : Nat) (M : List (List Int)) : Prop where
  len_eq : M.length = n
  own : ∃ vs : List Value, w.ownsRow B T 1 (.slice a n cap) n vs ∧ (∀ k, k < n → ∃ ar cr, vs[k]? = some (.slice ar (rowOf M k).length cr) ∧ OwI w B E ar (rowOf M k).length cr (rowOf M k)) ∧
    ∀ i j b, i < n → j < n → i ≠ j → blk vs i = some b → blk vs j ≠ some b

/-- TT: the number of [][]int, T: of []int, E: of int. -/
structure MatTy (P : Program) (TT T E : TypeId) : Prop where
  ht : P.underlying TT = some (.slice T)
  hi : ∃ i, P.info? T = some i ∧ i.zero = some (.slice none 0 0) ∧ i.size = 1 ∧ i.bytes = 24
  int : IntTy P T E
  ne : T ≠ E

section
variable {w w' : World} {B B' T E : Nat} {a : Option Addr} {n cap : Nat} {M : List (List Int)}

/-- A row's block is not the outer one's: their elements' types are not one. -/
theorem own_ne {v v2 : Value} {n2 : Nat} {xs ys : List Value} (hne : T ≠ E) (h : w.ownsRow B T 1 v n xs) (h2 : w.ownsRow B' E 1 v2 n2 ys) {b : Nat} (e : v.ownBlock = some b) : v2.ownBlock ≠ some b := by
  intro e2
  rcases h.2 with ⟨rfl, _⟩ | ⟨g, c, cur, rfl, _, hg, _⟩
  · simp [Value.ownBlock] at e
  · rcases h2.2 with ⟨rfl, _⟩ | ⟨g2, c2, cur2, rfl, _, hg2, _⟩
    · simp [Value.ownBlock] at e2
    · simp [Value.ownBlock] at e e2
      subst e; subst e2
      rw [hg] at hg2
      injection hg2 with hg2
      injection hg2 with _ ht
      exact hne ht

theorem OwM.caps (h : OwM w B T E a n cap M) : n ≤ cap ∧ cap ≤ maxLen := by
  obtain ⟨vs, ho, _⟩ := h.own
  rcases ho.2 with ⟨hv, h0⟩ | ⟨g, c, cur, hv, _, _, hc, hm, _⟩
  · injection hv with _ _ hc
    subst hc; subst h0
    exact ⟨Nat.le_refl _, Nat.zero_le _⟩
  · injection hv with _ _ hc'
    subst hc'
    exact ⟨hc, hm⟩

theorem OwM.nil (w : World) (B T E : Nat) : OwM w B T E none 0 0 [] := ⟨rfl, [], World.ownsRow_nil w B T 1, fun _ h => absurd h (Nat.not_lt_zero _), fun _ _ _ h => absurd h (Nat.not_lt_zero _)⟩

/-- The outer place, and what lies at a row's. -/
theorem OwM.at (h : OwM w B T E a n cap M) {k : Nat} (hk : k < n) :
    ∃ g, a = some ⟨g, 0, none⟩ ∧ B ≤ g ∧ g < w.heap.size ∧ (∀ i, w.frozen? ⟨g, i, none⟩ = false) ∧ ∀ i, i < n → ∃ ar cr, w.cell? ⟨g, i, none⟩ = some (.slice ar (rowOf M i).length cr) ∧ OwI w B E ar (rowOf M i).length cr (rowOf M i) := by
  obtain ⟨vs, ho, hr, _⟩ := h.own
  obtain ⟨g, c, hv, hb, hlt⟩ := ho.form (by omega)
  injection hv with ha _ hc
  subst ha; subst hc
  refine ⟨g, rfl, hb, hlt, fun i => ho.frozenAt i, fun i hi => ?_⟩
  obtain ⟨ar, cr, hvs, hoi⟩ := hr i hi
  exact ⟨ar, cr, by rw [ho.cellAt i (by omega), hvs], hoi⟩

theorem OwM.rd (h : OwM w B T E a n cap M) : RdM w a n cap M := by
  refine ⟨h.len_eq, h.caps.1, h.caps.2, fun k hk => ?_⟩
  obtain ⟨g, ha, _, _, _, hr⟩ := h.at hk
  obtain ⟨ar, cr, hc, ho⟩ := hr k hk
  exact ⟨g, 0, ar, _, cr, ha, by rw [Nat.zero_add]; exact hc, ho.rd⟩

theorem OwM.mono (h : OwM w B T E a n cap M) (hb : B' ≤ B) : OwM w B' T E a n cap M := by
  obtain ⟨vs, ho, hr, hd⟩ := h.own
  exact ⟨h.len_eq, vs, ho.mono hb, fun k hk => let ⟨ar, cr, e, o⟩ := hr k hk; ⟨ar, cr, e, o.mono hb⟩, hd⟩

theorem OwM.below (h : OwM w B T E a n cap M) (hb : Below w.heap.size w w') : OwM w' B T E a n cap M := by
  obtain ⟨vs, ho, hr, hd⟩ := h.own
  exact ⟨h.len_eq, vs, ho.kept (row := none) ⟨hb.os, hb.tape, hb.output, hb.size, fun k hk _ => hb.block k hk⟩ (by cases (Value.slice a n cap).ownBlock <;> simp), fun k hk => let ⟨ar, cr, e, o⟩ := hr k hk; ⟨ar, cr, e, o.below hb⟩, hd⟩

theorem OwM.alloc (h : OwM w B T E a n cap M) (o : Obj) : OwM (w.alloc o) B T E a n cap M := h.below ((Below.refl _ _).alloc (Nat.le_refl _) o)
theorem OwM.drew (h : OwM w B T E a n cap M) : OwM w.drew B T E a n cap M := h.below (Below.refl _ _).drew
theorem OwM.drewN (h : OwM w B T E a n cap M) (k : Nat) : OwM (w.drewN k) B T E a n cap M := h.below (below_drewN (Below.refl _ _) k)

theorem grownBy_setCell (w : World) (p : Addr) (u : Value) : w.grownBy (w.setCell p u) (some p.block) :=
  ⟨rfl, rfl, rfl, by simp, fun k _ hk => Below.heap_setCell _ _ _ _ (fun e => hk (by rw [e]))⟩

/-- An element, its place, and what the matrix is when it is stored anew. -/
theorem OwM.el (h : OwM w B T E a n cap M) (hne : T ≠ E) {k j : Nat} (hk : k < n) (hj : j < (rowOf M k).length) :
    ∃ g b cr, a = some ⟨g, 0, none⟩ ∧ B ≤ g ∧ g < w.heap.size ∧ B ≤ b ∧ b < w.heap.size ∧ w.cell? ⟨g, k, none⟩ = some (.slice (some ⟨b, 0, none⟩) (rowOf M k).length cr) ∧ w.cell? ⟨b, j, none⟩ = some (.int .i64 (en M k j)) ∧ w.frozen? ⟨b, j, none⟩ = false ∧
      ∀ x, OwM (w.setCell ⟨b, j, none⟩ (.int .i64 x)) B T E a n cap (setE M k j x) := by
  obtain ⟨vs, ho, hr, hd⟩ := h.own
  obtain ⟨g, c, hv, hb, hlt⟩ := ho.form (by omega)
  injection hv with ha _ hc
  subst ha; subst hc
  obtain ⟨ar, cr, e, o⟩ := hr k hk
  obtain ⟨b, hab, hb1, hb2, hcell, hfz⟩ := o.at (by omega)
  subst hab
  refine ⟨g, b, cr, rfl, hb, hlt, hb1, hb2, by rw [ho.cellAt k (by omega), e], hcell j hj, hfz j, fun x => ⟨by rw [setE_len]; exact h.len_eq, vs, ?_, fun i hi => ?_, hd⟩⟩
  · refine ho.kept (grownBy_setCell w _ _) (.inr ?_)
    exact fun e2 => own_ne hne ho o.own e2 rfl
  · obtain ⟨ar', cr', e', o'⟩ := hr i hi
    rw [setE_row_len]
    refine ⟨ar', cr', e', ?_⟩
    by_cases hik : i = k
    · subst hik
      rw [e] at e'
      injection e' with e'
      injection e' with e1 _ e3
      subst e1; subst e3
      have : rowOf (setE M i j x) i = (rowOf M i).set j x := by
        unfold setE
        rw [rowOf_set, if_pos ⟨rfl, by rw [h.len_eq]; exact hi⟩]
      rw [this]
      exact o.set x
    · have : rowOf (setE M k j x) i = rowOf M i := by
        unfold setE
        rw [rowOf_set, if_neg fun h2 => hik h2.1.symm]
      rw [this]
      refine o'.grown (grownBy_setCell w _ _) ?_
      cases ar' with
      | none => exact .inl rfl
      | some b' =>
        refine .inr fun e2 => ?_
        have := hd k i b hk hi (Ne.symm hik) (by simp [blk, e, Value.ownBlock])
        apply this
        simp [blk, e', Value.ownBlock] at e2 ⊢
        exact e2

/-- A row of the call's own, laid since, set in a row's place. -/
theorem OwM.setFresh (h : OwM w B T E a n cap M) {g k : Nat} (_ : k < n) (ha : a = some ⟨g, 0, none⟩) (hb : Below w.heap.size w w') {ar : Option Addr} {nr cr : Nat} {l : List Int} (ho2 : OwI w' w.heap.size E ar nr cr l) (hB : B ≤ w.heap.size) (hne : T ≠ E) :
    OwM (w'.setCell ⟨g, k, none⟩ (.slice ar nr cr)) B T E a n cap (M.set k l) := by
  have h' := h.below hb
  obtain ⟨vs, ho, hr, hd⟩ := h.own
  obtain ⟨vs', ho', hr', hd'⟩ := h'.own
  -- one list of values serves both worlds: take the one of the later world
  subst ha
  have hlen := ho2.len_eq
  subst hlen
  have hlt : ∀ i b, i < n → blk vs' i = some b → b < w.heap.size := by
    intro i b hi e
    obtain ⟨ar0, cr0, e0, o0⟩ := hr i hi
    obtain ⟨ar1, cr1, e1, o1⟩ := hr' i hi
    have c0 := ho.cellAt i (by omega)
    have c1 := ho'.cellAt i (by omega)
    have gl := (ho.lt g rfl).2
    rw [hb.cell (p := ⟨g, i, none⟩) gl, c0, e0, e1] at c1
    injection c1 with c1
    injection c1 with c1 _ c2
    subst c1; subst c2
    simp [blk, e1] at e
    exact (o0.own.lt b e).2
  refine ⟨by rw [List.length_set]; exact h.len_eq, vs'.set k (.slice ar l.length cr), (ho'.stored k _).1, fun i hi => ?_, fun i j b hi hj hij e => ?_⟩
  · have hvl : vs'.length = n := by have := ho'.1; omega
    by_cases hik : k = i
    · subst hik
      have er : rowOf (M.set k l) k = l := by rw [rowOf_set, if_pos ⟨rfl, by rw [h.len_eq]; exact hi⟩]
      rw [er]
      refine ⟨ar, cr, by simp [hvl, hi], ?_⟩
      refine (ho2.mono hB).grown (grownBy_setCell w' _ _) ?_
      rcases eo : (Value.slice ar l.length cr).ownBlock with _ | b
      · exact .inl rfl
      · refine .inr fun e2 => ?_
        exact own_ne hne ho' ho2.own (b := g) rfl (by rw [eo, e2])
    · have er : rowOf (M.set k l) i = rowOf M i := by rw [rowOf_set, if_neg fun h2 => hik h2.1]
      rw [er]
      obtain ⟨ar1, cr1, e1, o1⟩ := hr' i hi
      refine ⟨ar1, cr1, by rw [List.getElem?_set, if_neg hik]; exact e1, o1.grown (grownBy_setCell w' _ _) ?_⟩
      rcases eo : (Value.slice ar1 (rowOf M i).length cr1).ownBlock with _ | b
      · exact .inl rfl
      · refine .inr fun e2 => ?_
        exact own_ne hne ho' o1.own (b := g) rfl (by rw [eo, e2])
  · have hvl : vs'.length = n := by have := ho'.1; omega
    simp only [blk, List.getElem?_set] at e ⊢
    by_cases h1 : k = i
    · subst h1
      rw [if_neg hij]
      simp only [if_true, hvl, hi] at e
      intro e3
      have h4 := hlt j b hj (by simpa [blk] using e3)
      have h5 := (ho2.own.lt b (by simpa using e)).1
      omega
    · rw [if_neg h1] at e
      by_cases h2 : k = j
      · subst h2
        simp only [if_true, hvl, hj]
        intro e3
        have h4 := hlt i b hi (by simpa [blk] using e)
        have h5 := (ho2.own.lt b (by simpa using e3)).1
        omega
      · rw [if_neg h2]
        exact hd' i j b hi hj hij e
end

section
variable {P : Program} {TT T E : TypeId} {B : Nat} {w : World}

theorem below_of_grown {w w' : World} (hg : w.grownBy w' none) : Below w.heap.size w w' := ⟨hg.os, hg.tape, hg.output, hg.size, fun k hk => hg.block k hk (by simp)⟩

/-- make([]int, n). -/
theorem wpList_make_ints (hT : IntTy P T E) {ops : Array Oper} {rest : List Oper} {o : Oper} {ac : Act} {Q : Exit → Act → World → Prop} (hgd : o.guard = none) (x y : Operand) (ho : o.op = .makeSlice T x y)
    {n : Nat} (hx : ac.eval x = .int .i64 n) (hy : ac.eval y = .int .i64 n) (hn : 8 * n ≤ 281474976710656)
    (h : ∀ w', OwI w' w.heap.size E (some ⟨w.heap.size, 0, none⟩) n n (List.replicate n 0) → Below w.heap.size w w' → wpList P ops Q rest (ac.put o.dst (.slice (some ⟨w.heap.size, 0, none⟩) n n)) w') : wpList P ops Q (o :: rest) ac w := by
  obtain ⟨i, hi, hz, hs, hby⟩ := hT.hi
  refine wpList_make_full w hgd x y T ho w.heap.size E i (.int .i64 0) 1 hT.ht hi hz hs .i64 .i64 n n n hx hy rfl rfl (by rw [hby]; exact hn) (by unfold maxLen; omega) (Nat.le_refl _) fun w' h1 h2 => h w' ⟨by simp, ?_⟩ (below_of_grown h2)
  have : (madeCells (Value.int .i64 0).cells (n * 1)).toList = (List.replicate n (0 : Int)).map (Value.int .i64) := by
    rw [Nat.mul_one, List.map_replicate]
    exact toList_madeCells_one _ n
  rw [this] at h1
  exact h1

theorem OwM.of_nils {a : Option Addr} {n cap : Nat} (h : w.ownsRow B T 1 (.slice a n cap) n (List.replicate n (.slice none 0 0))) : OwM w B T E a n cap (List.replicate n []) := by
  have hr : ∀ k, k < n → rowOf (List.replicate n []) k = [] := fun k hk => by simp [rowOf, List.getD, hk]
  refine ⟨by simp, _, h, fun k hk => ?_, fun i j b hi hj _ e => ?_⟩
  · rw [hr k hk]
    exact ⟨none, 0, by simp [hk], OwI.nil _ _ _⟩
  · simp [blk, hi, Value.ownBlock] at e

/-- make([][]int, n). -/
theorem wpList_make_rows (hT : MatTy P TT T E) {ops : Array Oper} {rest : List Oper} {o : Oper} {ac : Act} {Q : Exit → Act → World → Prop} (hgd : o.guard = none) (x y : Operand) (ho : o.op = .makeSlice TT x y)
    {n : Nat} (hx : ac.eval x = .int .i64 n) (hy : ac.eval y = .int .i64 n) (hn : 24 * n ≤ 281474976710656)
    (h : ∀ w', OwM w' w.heap.size T E (some ⟨w.heap.size, 0, none⟩) n n (List.replicate n []) → Below w.heap.size w w' → wpList P ops Q rest (ac.put o.dst (.slice (some ⟨w.heap.size, 0, none⟩) n n)) w') : wpList P ops Q (o :: rest) ac w := by
  obtain ⟨i, hi, hz, hs, hby⟩ := hT.hi
  refine wpList_make_full w hgd x y TT ho w.heap.size T i (.slice none 0 0) 1 hT.ht hi hz hs .i64 .i64 n n n hx hy rfl rfl (by rw [hby]; exact hn) (by unfold maxLen; omega) (Nat.le_refl _) fun w' h1 h2 => h w' ?_ (below_of_grown h2)
  have : (madeCells (Value.slice none 0 0).cells (n * 1)).toList = List.replicate n (.slice none 0 0) := by
    rw [Nat.mul_one]
    exact toList_madeCells_one _ n
  rw [this] at h1
  exact OwM.of_nils h1

/-- A row of the call's own, laid since the matrix, put behind its last. -/
theorem OwM.pushed {w w1 w2 : World} {a a' : Option Addr} {n cap cap' : Nat} {M : List (List Int)} (h : OwM w B T E a n cap M) (hb : Below w.heap.size w w1) {ar : Option Addr} {nr cr : Nat} {l : List Int} (ho2 : OwI w1 w.heap.size E ar nr cr l) (hB : B ≤ w.heap.size) (hne : T ≠ E)
    {vs' : List Value} (hvs : w1.ownsRow B T 1 (.slice a n cap) n vs') (hown : w2.ownsRow B T 1 (.slice a' (n + 1) cap') (n + 1) (vs' ++ [.slice ar nr cr])) (hg : w1.grownBy w2 (Value.slice a n cap).ownBlock)
    (hvs2 : ∀ k, k < n → ∃ ar cr, vs'[k]? = some (.slice ar (rowOf M k).length cr) ∧ OwI w1 B E ar (rowOf M k).length cr (rowOf M k)) (hd' : ∀ i j b, i < n → j < n → i ≠ j → blk vs' i = some b → blk vs' j ≠ some b) :
    OwM w2 B T E a' (n + 1) cap' (M ++ [l]) := by
  have hlen := ho2.len_eq
  subst hlen
  obtain ⟨vs, ho, hr, hd⟩ := h.own
  have hvl : vs'.length = n := by have := hvs.1; omega
  have hlt : ∀ i b, i < n → blk vs' i = some b → b < w.heap.size := by
    intro i b hi e
    obtain ⟨g, c, hv, _, gl⟩ := ho.form (by omega)
    injection hv with ha _ hc
    subst ha; subst hc
    obtain ⟨ar0, cr0, e0, o0⟩ := hr i hi
    obtain ⟨ar1, cr1, e1, o1⟩ := hvs2 i hi
    have c0 := ho.cellAt i (by omega)
    have c1 := hvs.cellAt i (by omega)
    rw [hb.cell (p := ⟨g, i, none⟩) gl, c0, e0, e1] at c1
    injection c1 with c1
    injection c1 with c1 _ c2
    subst c1; subst c2
    simp [blk, e1] at e
    exact (o0.own.lt b e).2
  have keep : ∀ {B0 : Nat} {ar0 : Option Addr} {n0 c0 : Nat} {l0 : List Int}, OwI w1 B0 E ar0 n0 c0 l0 → OwI w2 B0 E ar0 n0 c0 l0 := by
    intro B0 ar0 n0 c0 l0 o
    refine o.grown hg ?_
    rcases eo : (Value.slice ar0 n0 c0).ownBlock with _ | b
    · exact .inl rfl
    · refine .inr fun e2 => ?_
      exact own_ne hne hvs o.own e2.symm eo
  refine ⟨by simp [h.len_eq], _, hown, fun k hk => ?_, fun i j b hi hj hij e => ?_⟩
  · rcases Nat.lt_or_ge k n with h1 | h1
    · obtain ⟨ar1, cr1, e1, o1⟩ := hvs2 k h1
      rw [rowOf_append_left (by rw [h.len_eq]; exact h1)]
      exact ⟨ar1, cr1, by rw [List.getElem?_append_left (by omega)]; exact e1, keep o1⟩
    · have hk' : k = n := by omega
      subst hk'
      have er : rowOf (M ++ [l]) k = l := by rw [rowOf_append_right (by rw [h.len_eq]; exact Nat.le_refl _), h.len_eq, Nat.sub_self]; rfl
      rw [er]
      refine ⟨ar, cr, by rw [List.getElem?_append_right (by omega), hvl]; simp, keep (ho2.mono hB)⟩
  · have hnew : ∀ b, blk (vs' ++ [.slice ar l.length cr]) n = some b → w.heap.size ≤ b := by
      intro b e
      simp [blk, hvl] at e
      exact (ho2.own.lt b e).1
    have hold : ∀ i, i < n → blk (vs' ++ [.slice ar l.length cr]) i = blk vs' i := by
      intro i hi
      simp [blk, List.getElem?_append_left (show i < vs'.length by omega)]
    rcases Nat.lt_or_ge i n with h1 | h1
    · rw [hold i h1] at e
      rcases Nat.lt_or_ge j n with h2 | h2
      · rw [hold j h2]
        exact hd' i j b h1 h2 hij e
      · obtain rfl : j = n := by omega
        intro e3
        have := hlt i b h1 e
        have := hnew b e3
        omega
    · obtain rfl : i = n := by omega
      intro e3
      have h2 : j < i := by omega
      rw [hold j h2] at e3
      have := hlt j b h2 e3
      have := hnew b e
      omega

/-- append(out, row), a row of the call's own, laid since the matrix was as it is: the new row stands in a block of one cell. -/
theorem wpList_push_row (hT : MatTy P TT T E) {ops : Array Oper} {rest : List Oper} {o : Oper} {ac : Act} {Q : Exit → Act → World → Prop} (hgd : o.guard = none) (s x : Operand)
    (ho : o.op = .call { callee := .builtin .append, args := #[s, x], argTypes := #[TT, TT] })
    {w0 : World} {a ar : Option Addr} {n cap blk_ c2 nr cr : Nat} {M : List (List Int)} {l : List Int} (hs : ac.eval s = .slice a n cap) (hx : ac.eval x = .slice (some ⟨blk_, 0, none⟩) 1 c2) (h : OwM w0 B T E a n cap M) (hb : Below w0.heap.size w0 w)
    (ho2 : OwI w w0.heap.size E ar nr cr l) (hc : w.cell? ⟨blk_, 0, none⟩ = some (.slice ar nr cr)) (hn : (n + 1) * 24 ≤ 140737488355328) (hB : B ≤ w0.heap.size)
    (hK : ∀ a' cap' w', OwM w' B T E a' (n + 1) cap' (M ++ [l]) → Below B w w' → wpList P ops Q rest (ac.put o.dst (.slice a' (n + 1) cap')) w') : wpList P ops Q (o :: rest) ac w := by
  obtain ⟨i, hi, hz, hs1, hby⟩ := hT.hi
  obtain ⟨vs', ho', hr', hd'⟩ := (h.below hb).own
  refine wpList_append_own w hgd s x TT ho B T i (.slice none 0 0) 1 24 hT.ht hi hz hs1 hby rfl (by decide) (.slice a n cap) n vs' hs ho' ⟨blk_, 0, none⟩ 1 c2 [.slice ar nr cr] hx rfl (fun j u hu => ?_) (fun u hu => ?_) (by unfold maxLen; omega) hn (Nat.le_trans hB hb.size) fun v' w' h1 h2 _ => ?_
  · rcases j with _ | j
    · simp at hu
      subst hu
      have : (⟨blk_, 0, none⟩ : Addr).add 0 = ⟨blk_, 0, none⟩ := by simp [Addr.add]
      rw [this]; exact hc
    · simp at hu
  · simp at hu; subst hu; rfl
  · obtain ⟨a', cap', rfl⟩ : ∃ a' cap', v' = .slice a' (n + 1) cap' := by
      rcases h1.2 with ⟨e, h0⟩ | ⟨g, c, cur, e, _⟩
      · exact absurd h0 (by omega)
      · exact ⟨_, _, e⟩
    exact hK a' cap' w' (h.pushed hb ho2 hB hT.ne ho' h1 h2 hr' hd') ((Below.refl B w).grown h2 (Nat.le_trans hB hb.size) fun k hk => (ho'.lt k hk).1)
end
end Go.Rk
namespace Go.Rk

def sumTo (g : Nat → Int) : Nat → Int
  | 0 => 0
  | n + 1 => sumTo g n + g n

theorem sumTo_congr {g h : Nat → Int} {n : Nat} (e : ∀ i, i < n → g i = h i) : sumTo g n = sumTo h n := by
  induction n with
  | zero => rfl
  | succ n ih => rw [sumTo, sumTo, ih fun i hi => e i (Nat.lt_succ_of_lt hi), e n (Nat.lt_succ_self n)]

theorem sumTo_add (g h : Nat → Int) (n : Nat) : sumTo (fun i => g i + h i) n = sumTo g n + sumTo h n := by
  induction n with
  | zero => rfl
  | succ n ih => rw [sumTo, sumTo, sumTo, ih]; omega

theorem sumTo_mul (c : Int) (g : Nat → Int) (n : Nat) : sumTo (fun i => c * g i) n = c * sumTo g n := by
  induction n with
  | zero => simp [sumTo]
  | succ n ih => rw [sumTo, sumTo, ih, Int.mul_add]

theorem sumTo_zero (n : Nat) : sumTo (fun _ => 0) n = 0 := by
  induction n with
  | zero => rfl
  | succ n ih => rw [sumTo, ih]; rfl

theorem sumTo_swap (g : Nat → Nat → Int) (n m : Nat) : sumTo (fun i => sumTo (fun j => g i j) m) n = sumTo (fun j => sumTo (fun i => g i j) n) m := by
  induction n with
  | zero => simp [sumTo, sumTo_zero]
  | succ n ih =>
    simp only [sumTo]
    rw [ih, ← sumTo_add]

theorem sumTo_succ_left (g : Nat → Int) (n : Nat) : sumTo g (n + 1) = g 0 + sumTo (fun i => g (i + 1)) n := by
  induction n with
  | zero => simp [sumTo]
  | succ n ih => rw [sumTo, ih, sumTo]; omega

/-- The same modulo 9973. -/
def Eqm (a b : Int) : Prop := a % 9973 = b % 9973

theorem Eqm.refl (a : Int) : Eqm a a := rfl
theorem Eqm.symm {a b : Int} (h : Eqm a b) : Eqm b a := Eq.symm h
theorem Eqm.trans {a b c : Int} (h : Eqm a b) (k : Eqm b c) : Eqm a c := Eq.trans h k
theorem Eqm.of_eq {a b : Int} (h : a = b) : Eqm a b := by rw [h]; rfl
theorem Eqm.mod (a : Int) : Eqm (a % 9973) a := Int.emod_emod_of_dvd a (Int.dvd_refl 9973)
theorem Eqm.add {a b c d : Int} (h : Eqm a b) (k : Eqm c d) : Eqm (a + c) (b + d) := by
  unfold Eqm at *; rw [Int.add_emod, h, k, ← Int.add_emod]
theorem Eqm.mul {a b c d : Int} (h : Eqm a b) (k : Eqm c d) : Eqm (a * c) (b * d) := by
  unfold Eqm at *; rw [Int.mul_emod, h, k, ← Int.mul_emod]
theorem Eqm.neg {a b : Int} (h : Eqm a b) : Eqm (-a) (-b) := by unfold Eqm at *; omega
theorem Eqm.sub {a b c d : Int} (h : Eqm a b) (k : Eqm c d) : Eqm (a - c) (b - d) := by unfold Eqm at *; omega
theorem Eqm.eq {a b : Int} (h : Eqm a b) (ha : 0 ≤ a ∧ a ≤ 9972) (hb : 0 ≤ b ∧ b ≤ 9972) : a = b := by unfold Eqm at h; omega
theorem Eqm.sum {g h : Nat → Int} {n : Nat} (e : ∀ i, i < n → Eqm (g i) (h i)) : Eqm (sumTo g n) (sumTo h n) := by
  induction n with
  | zero => rfl
  | succ n ih => exact (ih fun i hi => e i (Nat.lt_succ_of_lt hi)).add (e n (Nat.lt_succ_self n))

end Go.Rk
