/-
  Matrices that a call makes for itself: slices of slices of integers, each row in a block of its own. No program in sight.
  Finite sums of integers, and numbers modulo 9973. Plain Lean, no program in sight.
  The walks of the functions of package num and of the references' small ones.
-/
import Derived.Test.YtoahegjjffggaaaDoorRows
import Derived.Test.YtoahegjjffggaaaDoorMg0
namespace Go.Rk
open Go.RowKit

def en (M : List (List Int)) (i j : Nat) : Int := ix (rowOf M i) j
def setE (M : List (List Int)) (i j : Nat) (x : Int) : List (List Int) := M.set i ((rowOf M i).set j x)

theorem rowOf_lt {M : List (List Int)} {k : Nat} (h : k < M.length) : rowOf M k = M[k] := by simp [rowOf, List.getD, h]
theorem rowOf_set (M : List (List Int)) (k j : Nat) (l : List Int) : rowOf (M.set k l) j = if k = j ∧ j < M.length then l else rowOf M j := by
  simp only [rowOf, List.getD, List.getElem?_set]
  by_cases h1 : k = j
  · subst h1
    by_cases h2 : k < M.length <;> simp [h2]
  · simp [h1]
theorem rowOf_append_left {M N : List (List Int)} {k : Nat} (h : k < M.length) : rowOf (M ++ N) k = rowOf M k := by
  simp [rowOf, List.getD, List.getElem?_append_left h]
theorem rowOf_append_right {M N : List (List Int)} {k : Nat} (h : M.length ≤ k) : rowOf (M ++ N) k = rowOf N (k - M.length) := by
  simp [rowOf, List.getD, List.getElem?_append_right h]
theorem rowOf_ext {M N : List (List Int)} (h : M.length = N.length) (e : ∀ k, k < M.length → rowOf M k = rowOf N k) : M = N := by
  apply List.ext_getElem h
  intro i h1 h2
  have := e i h1
  rwa [rowOf_lt h1, rowOf_lt h2] at this
theorem en_ext {M N : List (List Int)} (h : M.length = N.length) (h2 : ∀ k, k < M.length → (rowOf M k).length = (rowOf N k).length) (e : ∀ i j, i < M.length → j < (rowOf M i).length → en M i j = en N i j) : M = N :=
  rowOf_ext h fun k hk => ix_ext (h2 k hk) fun j hj => e k j hk hj
theorem setE_len (M : List (List Int)) (i j : Nat) (x : Int) : (setE M i j x).length = M.length := by simp [setE]
theorem setE_row_len (M : List (List Int)) (i j k : Nat) (x : Int) : (rowOf (setE M i j x) k).length = (rowOf M k).length := by
  unfold setE
  rw [rowOf_set]
  split
  · next h => rw [List.length_set, h.1]
  · rfl
theorem en_setE (M : List (List Int)) (i j : Nat) (x : Int) (r c : Nat) : en (setE M i j x) r c = if i = r ∧ j = c ∧ r < M.length ∧ c < (rowOf M r).length then x else en M r c := by
  unfold en setE
  rw [rowOf_set]
  by_cases h : i = r ∧ r < M.length
  · obtain ⟨rfl, h2⟩ := h
    rw [if_pos ⟨rfl, h2⟩, ix_set]
    by_cases h3 : j = c ∧ c < (rowOf M i).length
    · rw [if_pos h3, if_pos ⟨rfl, h3.1, h2, h3.2⟩]
    · rw [if_neg h3, if_neg fun h4 => h3 ⟨h4.2.1, h4.2.2.2⟩]
  · rw [if_neg h, if_neg fun h4 => h ⟨h4.1, h4.2.2.1⟩]

section
variable {w w' : World} {a : Option Addr} {len cap : Nat} {M : List (List Int)}

theorem RdM.at (h : RdM w a len cap M) {k : Nat} (hk : k < len) :
    ∃ b off, a = some ⟨b, off, none⟩ ∧ b < w.heap.size ∧ ∀ i, i < len → ∃ ar cr, w.cell? ⟨b, off + i, none⟩ = some (.slice ar (rowOf M i).length cr) ∧ RdI w ar (rowOf M i).length cr (rowOf M i) := by
  obtain ⟨b, off, _, _, _, ha, hc0, _⟩ := h.row k hk
  refine ⟨b, off, ha, World.block_lt_of_cell? w _ hc0, fun i hi => ?_⟩
  obtain ⟨b', off', ar, nr, cr, ha', hc, hr⟩ := h.row i hi
  rw [ha] at ha'
  cases ha'
  have := hr.len_eq
  subst this
  exact ⟨ar, cr, hc, hr⟩

theorem RdM.below (h : RdM w a len cap M) (hb : Below w.heap.size w w') : RdM w' a len cap M := by
  refine ⟨h.len_eq, h.le, h.max, fun k hk => ?_⟩
  obtain ⟨b, off, ar, nr, cr, ha, hc, hr⟩ := h.row k hk
  refine ⟨b, off, ar, nr, cr, ha, ?_, hr.below hb⟩
  rw [hb.cell (World.block_lt_of_cell? w _ hc)]
  exact hc

/-- A store into a cell that holds a slice turns no number. -/
theorem _root_.Go.Rk.RdI.setSlice {l : List Int} {a : Option Addr} {len cap : Nat} {p : Addr} {x : Option Addr} {y z : Nat} (h : RdI w a len cap l) (hp : w.cell? p = some (.slice x y z)) (u : Value) : RdI (w.setCell p u) a len cap l := by
  refine ⟨h.len_eq, h.le, h.max, fun k hk => ?_⟩
  obtain ⟨b, off, ha, hc⟩ := h.cell k hk
  refine ⟨b, off, ha, ?_⟩
  rw [World.cell?_setCell_other _ _ _ _ ?_]
  · exact hc
  · intro e; subst e; rw [hc] at hp; cases hp

/-- A row that reads as l, set in the place of row k. -/
theorem RdM.setRow {g k : Nat} {ar : Option Addr} {nr cr : Nat} {l : List Int} (h : RdM w (some ⟨g, 0, none⟩) len cap M) (hk : k < len) (hr : RdI w ar nr cr l) : RdM (w.setCell ⟨g, k, none⟩ (.slice ar nr cr)) (some ⟨g, 0, none⟩) len cap (M.set k l) := by
  obtain ⟨b0, o0, a0, n0, c0, hg, hc0, _⟩ := h.row k hk
  injection hg with hg
  injection hg with e1 e2
  subst e1; subst e2
  rw [Nat.zero_add] at hc0
  refine ⟨by rw [List.length_set]; exact h.len_eq, h.le, h.max, fun i hi => ?_⟩
  rw [rowOf_set]
  by_cases hik : k = i
  · subst hik
    rw [if_pos ⟨rfl, by rw [h.len_eq]; exact hk⟩]
    exact ⟨g, 0, ar, nr, cr, rfl, by rw [Nat.zero_add]; exact World.cell?_setCell_same _ _ _ hc0, hr.setSlice hc0 _⟩
  · rw [if_neg fun e => hik e.1]
    obtain ⟨b1, o1, a1, n1, c1, hg1, hc1, hr1⟩ := h.row i hi
    injection hg1 with hg1
    injection hg1 with e1 e2
    subst e1; subst e2
    refine ⟨g, 0, a1, n1, c1, rfl, ?_, hr1.setSlice hc0 _⟩
    rw [World.cell?_setCell_other _ _ _ _ (by simp)]
    exact hc1

theorem RdM.two {b : Nat} {a0 a1 : Option Addr} {n0 c0 n1 c1 : Nat} {l0 l1 : List Int} (h0 : w.cell? ⟨b, 0, none⟩ = some (.slice a0 n0 c0)) (r0 : RdI w a0 n0 c0 l0) (h1 : w.cell? ⟨b, 1, none⟩ = some (.slice a1 n1 c1)) (r1 : RdI w a1 n1 c1 l1) :
    RdM w (some ⟨b, 0, none⟩) 2 2 [l0, l1] := by
  refine ⟨rfl, Nat.le_refl _, by decide, fun k hk => ?_⟩
  rcases k with _ | k
  · exact ⟨b, 0, a0, n0, c0, rfl, h0, r0⟩
  · obtain rfl : k = 0 := by omega
    exact ⟨b, 0, a1, n1, c1, rfl, h1, r1⟩

theorem RdM.len_max (h : RdM w a len cap M) : len ≤ 9223372036854775807 := by
  have h1 := h.le; have h2 := h.max; unfold maxLen at h2; omega
theorem RdM.nil (w : World) : RdM w none 0 0 [] := ⟨rfl, Nat.le_refl _, Nat.zero_le _, fun _ h => absurd h (Nat.not_lt_zero _)⟩
end

/-- n rows, the first k of them m noughts, the others empty. -/
def gridN (n m : Nat) : Nat → List (List Int)
  | 0 => List.replicate n []
  | k + 1 => (gridN n m k).set k (List.replicate m 0)

theorem gridN_len (n m k : Nat) : (gridN n m k).length = n := by
  induction k with
  | zero => simp [gridN]
  | succ k ih => simp [gridN, ih]

theorem gridN_row (n m : Nat) : ∀ k, k ≤ n → ∀ i, i < k → rowOf (gridN n m k) i = List.replicate m 0 := by
  intro k
  induction k with
  | zero => intro _ i hi; omega
  | succ k ih =>
    intro hk i hi
    rw [gridN, rowOf_set, gridN_len]
    by_cases h : k = i
    · rw [if_pos ⟨h, by omega⟩]
    · rw [if_neg fun h2 => h h2.1]; exact ih (by omega) i (by omega)

theorem gridN_full (n m : Nat) : gridN n m n = List.replicate n (List.replicate m 0) := by
  refine rowOf_ext (by rw [gridN_len]; simp) fun k hk => ?_
  rw [gridN_len] at hk
  rw [gridN_row n m n (Nat.le_refl _) k hk]
  simp [rowOf, List.getD, hk]

/-- n rows, the first k of them those of M, the others empty. -/
def copyN (M : List (List Int)) (n : Nat) : Nat → List (List Int)
  | 0 => List.replicate n []
  | k + 1 => (copyN M n k).set k (rowOf M k)

theorem copyN_len (M : List (List Int)) (n k : Nat) : (copyN M n k).length = n := by
  induction k with
  | zero => simp [copyN]
  | succ k ih => simp [copyN, ih]

theorem copyN_row (M : List (List Int)) (n : Nat) : ∀ k, k ≤ n → ∀ i, i < k → rowOf (copyN M n k) i = rowOf M i := by
  intro k
  induction k with
  | zero => intro _ i hi; omega
  | succ k ih =>
    intro hk i hi
    rw [copyN, rowOf_set, copyN_len]
    by_cases h : k = i
    · rw [if_pos ⟨h, by omega⟩, h]
    · rw [if_neg fun h2 => h h2.1]; exact ih (by omega) i (by omega)

theorem copyN_full {M : List (List Int)} {n : Nat} (h : M.length = n) : copyN M n n = M := by
  refine rowOf_ext (by rw [copyN_len, h]) fun k hk => ?_
  rw [copyN_len] at hk
  exact copyN_row M n n (Nat.le_refl _) k hk

def blk (vs : List Value) (k : Nat) : Option Nat := (vs[k]?).bind Value.ownBlock

/-- The slice value '.slice a n cap' is a call's own, and so is each of its rows, all in blocks from B on; they read as M. T: the number of the type []int, E: of int. -/
structure OwM (w : World) (B T E : Nat) (a : Option Addr) (n cap : Nat) (M : List (List Int)) : Prop where
  len_eq : M.length = n
  own : ∃ vs : List Value, w.ownsRow B T 1 (.slice a n cap) n vs ∧ (∀ k, k < n → ∃ ar cr, vs[k]? = some (.slice ar (rowOf M k).length cr) ∧ OwI w B E ar (rowOf M k).length cr (rowOf M k)) ∧
    ∀ i j b, i < n → j < n → i ≠ j → blk vs i = some b → blk vs j ≠ some b

/-- TT: the number of [][]int, T: of []int, E: of int. -/
structure MatTy (P : Program) (TT T E : TypeId) : Prop where
  ht : P.underlying TT = some (.slice T)
  hi : ∃ i, P.info? T = some i ∧ i.zero = some (.slice none 0 0) ∧ i.size = 1 ∧ i.bytes = 24
  int : IntTy P T E
  ne : T ≠ E

section
variable {w w' : World} {B B' T E : Nat} {a : Option Addr} {n cap : Nat} {M : List (List Int)}

/-- A row's block is not the outer one's: their elements' types are not one. -/
theorem own_ne {v v2 : Value} {n2 : Nat} {xs ys : List Value} (hne : T ≠ E) (h : w.ownsRow B T 1 v n xs) (h2 : w.ownsRow B' E 1 v2 n2 ys) {b : Nat} (e : v.ownBlock = some b) : v2.ownBlock ≠ some b := by
  intro e2
  rcases h.2 with ⟨rfl, _⟩ | ⟨g, c, cur, rfl, _, hg, _⟩
  · simp [Value.ownBlock] at e
  · rcases h2.2 with ⟨rfl, _⟩ | ⟨g2, c2, cur2, rfl, _, hg2, _⟩
    · simp [Value.ownBlock] at e2
    · simp [Value.ownBlock] at e e2
      subst e; subst e2
      rw [hg] at hg2
      injection hg2 with hg2
      injection hg2 with _ ht
      exact hne ht

theorem OwM.caps (h : OwM w B T E a n cap M) : n ≤ cap ∧ cap ≤ maxLen := by
  obtain ⟨vs, ho, _⟩ := h.own
  rcases ho.2 with ⟨hv, h0⟩ | ⟨g, c, cur, hv, _, _, hc, hm, _⟩
  · injection hv with _ _ hc
    subst hc; subst h0
    exact ⟨Nat.le_refl _, Nat.zero_le _⟩
  · injection hv with _ _ hc'
    subst hc'
    exact ⟨hc, hm⟩

theorem OwM.nil (w : World) (B T E : Nat) : OwM w B T E none 0 0 [] := ⟨rfl, [], World.ownsRow_nil w B T 1, fun _ h => absurd h (Nat.not_lt_zero _), fun _ _ _ h => absurd h (Nat.not_lt_zero _)⟩

/-- The outer place, and what lies at a row's. -/
theorem OwM.at (h : OwM w B T E a n cap M) {k : Nat} (hk : k < n) :
    ∃ g, a = some ⟨g, 0, none⟩ ∧ B ≤ g ∧ g < w.heap.size ∧ (∀ i, w.frozen? ⟨g, i, none⟩ = false) ∧ ∀ i, i < n → ∃ ar cr, w.cell? ⟨g, i, none⟩ = some (.slice ar (rowOf M i).length cr) ∧ OwI w B E ar (rowOf M i).length cr (rowOf M i) := by
  obtain ⟨vs, ho, hr, _⟩ := h.own
  obtain ⟨g, c, hv, hb, hlt⟩ := ho.form (by omega)
  injection hv with ha _ hc
  subst ha; subst hc
  refine ⟨g, rfl, hb, hlt, fun i => ho.frozenAt i, fun i hi => ?_⟩
  obtain ⟨ar, cr, hvs, hoi⟩ := hr i hi
  exact ⟨ar, cr, by rw [ho.cellAt i (by omega), hvs], hoi⟩

theorem OwM.rd (h : OwM w B T E a n cap M) : RdM w a n cap M := by
  refine ⟨h.len_eq, h.caps.1, h.caps.2, fun k hk => ?_⟩
  obtain ⟨g, ha, _, _, _, hr⟩ := h.at hk
  obtain ⟨ar, cr, hc, ho⟩ := hr k hk
  exact ⟨g, 0, ar, _, cr, ha, by rw [Nat.zero_add]; exact hc, ho.rd⟩

theorem OwM.mono (h : OwM w B T E a n cap M) (hb : B' ≤ B) : OwM w B' T E a n cap M := by
  obtain ⟨vs, ho, hr, hd⟩ := h.own
  exact ⟨h.len_eq, vs, ho.mono hb, fun k hk => let ⟨ar, cr, e, o⟩ := hr k hk; ⟨ar, cr, e, o.mono hb⟩, hd⟩

theorem OwM.below (h : OwM w B T E a n cap M) (hb : Below w.heap.size w w') : OwM w' B T E a n cap M := by
  obtain ⟨vs, ho, hr, hd⟩ := h.own
  exact ⟨h.len_eq, vs, ho.kept (row := none) ⟨hb.os, hb.tape, hb.output, hb.size, fun k hk _ => hb.block k hk⟩ (by cases (Value.slice a n cap).ownBlock <;> simp), fun k hk => let ⟨ar, cr, e, o⟩ := hr k hk; ⟨ar, cr, e, o.below hb⟩, hd⟩

theorem OwM.alloc (h : OwM w B T E a n cap M) (o : Obj) : OwM (w.alloc o) B T E a n cap M := h.below ((Below.refl _ _).alloc (Nat.le_refl _) o)
theorem OwM.drew (h : OwM w B T E a n cap M) : OwM w.drew B T E a n cap M := h.below (Below.refl _ _).drew
theorem OwM.drewN (h : OwM w B T E a n cap M) (k : Nat) : OwM (w.drewN k) B T E a n cap M := h.below (below_drewN (Below.refl _ _) k)

theorem grownBy_setCell (w : World) (p : Addr) (u : Value) : w.grownBy (w.setCell p u) (some p.block) :=
  ⟨rfl, rfl, rfl, by simp, fun k _ hk => Below.heap_setCell _ _ _ _ (fun e => hk (by rw [e]))⟩

/-- An element, its place, and what the matrix is when it is stored anew. -/
theorem OwM.el (h : OwM w B T E a n cap M) (hne : T ≠ E) {k j : Nat} (hk : k < n) (hj : j < (rowOf M k).length) :
    ∃ g b cr, a = some ⟨g, 0, none⟩ ∧ B ≤ g ∧ g < w.heap.size ∧ B ≤ b ∧ b < w.heap.size ∧ w.cell? ⟨g, k, none⟩ = some (.slice (some ⟨b, 0, none⟩) (rowOf M k).length cr) ∧ w.cell? ⟨b, j, none⟩ = some (.int .i64 (en M k j)) ∧ w.frozen? ⟨b, j, none⟩ = false ∧
      ∀ x, OwM (w.setCell ⟨b, j, none⟩ (.int .i64 x)) B T E a n cap (setE M k j x) := by
  obtain ⟨vs, ho, hr, hd⟩ := h.own
  obtain ⟨g, c, hv, hb, hlt⟩ := ho.form (by omega)
  injection hv with ha _ hc
  subst ha; subst hc
  obtain ⟨ar, cr, e, o⟩ := hr k hk
  obtain ⟨b, hab, hb1, hb2, hcell, hfz⟩ := o.at (by omega)
  subst hab
  refine ⟨g, b, cr, rfl, hb, hlt, hb1, hb2, by rw [ho.cellAt k (by omega), e], hcell j hj, hfz j, fun x => ⟨by rw [setE_len]; exact h.len_eq, vs, ?_, fun i hi => ?_, hd⟩⟩
  · refine ho.kept (grownBy_setCell w _ _) (.inr ?_)
    exact fun e2 => own_ne hne ho o.own e2 rfl
  · obtain ⟨ar', cr', e', o'⟩ := hr i hi
    rw [setE_row_len]
    refine ⟨ar', cr', e', ?_⟩
    by_cases hik : i = k
    · subst hik
      rw [e] at e'
      injection e' with e'
      injection e' with e1 _ e3
      subst e1; subst e3
      have : rowOf (setE M i j x) i = (rowOf M i).set j x := by
        unfold setE
        rw [rowOf_set, if_pos ⟨rfl, by rw [h.len_eq]; exact hi⟩]
      rw [this]
      exact o.set x
    · have : rowOf (setE M k j x) i = rowOf M i := by
        unfold setE
        rw [rowOf_set, if_neg fun h2 => hik h2.1.symm]
      rw [this]
      refine o'.grown (grownBy_setCell w _ _) ?_
      cases ar' with
      | none => exact .inl rfl
      | some b' =>
        refine .inr fun e2 => ?_
        have := hd k i b hk hi (Ne.symm hik) (by simp [blk, e, Value.ownBlock])
        apply this
        simp [blk, e', Value.ownBlock] at e2 ⊢
        exact e2

/-- A row of the call's own, laid since, set in a row's place. -/
theorem OwM.setFresh (h : OwM w B T E a n cap M) {g k : Nat} (_ : k < n) (ha : a = some ⟨g, 0, none⟩) (hb : Below w.heap.size w w') {ar : Option Addr} {nr cr : Nat} {l : List Int} (ho2 : OwI w' w.heap.size E ar nr cr l) (hB : B ≤ w.heap.size) (hne : T ≠ E) :
    OwM (w'.setCell ⟨g, k, none⟩ (.slice ar nr cr)) B T E a n cap (M.set k l) := by
  have h' := h.below hb
  obtain ⟨vs, ho, hr, hd⟩ := h.own
  obtain ⟨vs', ho', hr', hd'⟩ := h'.own
  -- one list of values serves both worlds: take the one of the later world
  subst ha
  have hlen := ho2.len_eq
  subst hlen
  have hlt : ∀ i b, i < n → blk vs' i = some b → b < w.heap.size := by
    intro i b hi e
    obtain ⟨ar0, cr0, e0, o0⟩ := hr i hi
    obtain ⟨ar1, cr1, e1, o1⟩ := hr' i hi
    have c0 := ho.cellAt i (by omega)
    have c1 := ho'.cellAt i (by omega)
    have gl := (ho.lt g rfl).2
    rw [hb.cell (p := ⟨g, i, none⟩) gl, c0, e0, e1] at c1
    injection c1 with c1
    injection c1 with c1 _ c2
    subst c1; subst c2
    simp [blk, e1] at e
    exact (o0.own.lt b e).2
  refine ⟨by rw [List.length_set]; exact h.len_eq, vs'.set k (.slice ar l.length cr), (ho'.stored k _).1, fun i hi => ?_, fun i j b hi hj hij e => ?_⟩
  · have hvl : vs'.length = n := by have := ho'.1; omega
    by_cases hik : k = i
    · subst hik
      have er : rowOf (M.set k l) k = l := by rw [rowOf_set, if_pos ⟨rfl, by rw [h.len_eq]; exact hi⟩]
      rw [er]
      refine ⟨ar, cr, by simp [hvl, hi], ?_⟩
      refine (ho2.mono hB).grown (grownBy_setCell w' _ _) ?_
      rcases eo : (Value.slice ar l.length cr).ownBlock with _ | b
      · exact .inl rfl
      · refine .inr fun e2 => ?_
        exact own_ne hne ho' ho2.own (b := g) rfl (by rw [eo, e2])
    · have er : rowOf (M.set k l) i = rowOf M i := by rw [rowOf_set, if_neg fun h2 => hik h2.1]
      rw [er]
      obtain ⟨ar1, cr1, e1, o1⟩ := hr' i hi
      refine ⟨ar1, cr1, by rw [List.getElem?_set, if_neg hik]; exact e1, o1.grown (grownBy_setCell w' _ _) ?_⟩
      rcases eo : (Value.slice ar1 (rowOf M i).length cr1).ownBlock with _ | b
      · exact .inl rfl
      · refine .inr fun e2 => ?_
        exact own_ne hne ho' o1.own (b := g) rfl (by rw [eo, e2])
  · have hvl : vs'.length = n := by have := ho'.1; omega
    simp only [blk, List.getElem?_set] at e ⊢
    by_cases h1 : k = i
    · subst h1
      rw [if_neg hij]
      simp only [if_true, hvl, hi] at e
      intro e3
      have h4 := hlt j b hj (by simpa [blk] using e3)
      have h5 := (ho2.own.lt b (by simpa using e)).1
      omega
    · rw [if_neg h1] at e
      by_cases h2 : k = j
      · subst h2
        simp only [if_true, hvl, hj]
        intro e3
        have h4 := hlt i b hi (by simpa [blk] using e)
        have h5 := (ho2.own.lt b (by simpa using e3)).1
        omega
      · rw [if_neg h2]
        exact hd' i j b hi hj hij e
end

section
variable {P : Program} {TT T E : TypeId} {B : Nat} {w : World}

theorem below_of_grown {w w' : World} (hg : w.grownBy w' none) : Below w.heap.size w w' := ⟨hg.os, hg.tape, hg.output, hg.size, fun k hk => hg.block k hk (by simp)⟩

/-- make([]int, n). -/
theorem wpList_make_ints (hT : IntTy P T E) {ops : Array Oper} {rest : List Oper} {o : Oper} {ac : Act} {Q : Exit → Act → World → Prop} (hgd : o.guard = none) (x y : Operand) (ho : o.op = .makeSlice T x y)
    {n : Nat} (hx : ac.eval x = .int .i64 n) (hy : ac.eval y = .int .i64 n) (hn : 8 * n ≤ 281474976710656)
    (h : ∀ w', OwI w' w.heap.size E (some ⟨w.heap.size, 0, none⟩) n n (List.replicate n 0) → Below w.heap.size w w' → wpList P ops Q rest (ac.put o.dst (.slice (some ⟨w.heap.size, 0, none⟩) n n)) w') : wpList P ops Q (o :: rest) ac w := by
  obtain ⟨i, hi, hz, hs, hby⟩ := hT.hi
  refine wpList_make_full w hgd x y T ho w.heap.size E i (.int .i64 0) 1 hT.ht hi hz hs .i64 .i64 n n n hx hy rfl rfl (by rw [hby]; exact hn) (by unfold maxLen; omega) (Nat.le_refl _) fun w' h1 h2 => h w' ⟨by simp, ?_⟩ (below_of_grown h2)
  have : (madeCells (Value.int .i64 0).cells (n * 1)).toList = (List.replicate n (0 : Int)).map (Value.int .i64) := by
    rw [Nat.mul_one, List.map_replicate]
    exact toList_madeCells_one _ n
  rw [this] at h1
  exact h1

theorem OwM.of_nils {a : Option Addr} {n cap : Nat} (h : w.ownsRow B T 1 (.slice a n cap) n (List.replicate n (.slice none 0 0))) : OwM w B T E a n cap (List.replicate n []) := by
  have hr : ∀ k, k < n → rowOf (List.replicate n []) k = [] := fun k hk => by simp [rowOf, List.getD, hk]
  refine ⟨by simp, _, h, fun k hk => ?_, fun i j b hi hj _ e => ?_⟩
  · rw [hr k hk]
    exact ⟨none, 0, by simp [hk], OwI.nil _ _ _⟩
  · simp [blk, hi, Value.ownBlock] at e

/-- make([][]int, n). -/
theorem wpList_make_rows (hT : MatTy P TT T E) {ops : Array Oper} {rest : List Oper} {o : Oper} {ac : Act} {Q : Exit → Act → World → Prop} (hgd : o.guard = none) (x y : Operand) (ho : o.op = .makeSlice TT x y)
    {n : Nat} (hx : ac.eval x = .int .i64 n) (hy : ac.eval y = .int .i64 n) (hn : 24 * n ≤ 281474976710656)
    (h : ∀ w', OwM w' w.heap.size T E (some ⟨w.heap.size, 0, none⟩) n n (List.replicate n []) → Below w.heap.size w w' → wpList P ops Q rest (ac.put o.dst (.slice (some ⟨w.heap.size, 0, none⟩) n n)) w') : wpList P ops Q (o :: rest) ac w := by
  obtain ⟨i, hi, hz, hs, hby⟩ := hT.hi
  refine wpList_make_full w hgd x y TT ho w.heap.size T i (.slice none 0 0) 1 hT.ht hi hz hs .i64 .i64 n n n hx hy rfl rfl (by rw [hby]; exact hn) (by unfold maxLen; omega) (Nat.le_refl _) fun w' h1 h2 => h w' ?_ (below_of_grown h2)
  have : (madeCells (Value.slice none 0 0).cells (n * 1)).toList = List.replicate n (.slice none 0 0) := by
    rw [Nat.mul_one]
    exact toList_madeCells_one _ n
  rw [this] at h1
  exact OwM.of_nils h1

/-- A row of the call's own, laid since the matrix, put behind its last. -/
theorem OwM.pushed {w w1 w2 : World} {a a' : Option Addr} {n cap cap' : Nat} {M : List (List Int)} (h : OwM w B T E a n cap M) (hb : Below w.heap.size w w1) {ar : Option Addr} {nr cr : Nat} {l : List Int} (ho2 : OwI w1 w.heap.size E ar nr cr l) (hB : B ≤ w.heap.size) (hne : T ≠ E)
    {vs' : List Value} (hvs : w1.ownsRow B T 1 (.slice a n cap) n vs') (hown : w2.ownsRow B T 1 (.slice a' (n + 1) cap') (n + 1) (vs' ++ [.slice ar nr cr])) (hg : w1.grownBy w2 (Value.slice a n cap).ownBlock)
    (hvs2 : ∀ k, k < n → ∃ ar cr, vs'[k]? = some (.slice ar (rowOf M k).length cr) ∧ OwI w1 B E ar (rowOf M k).length cr (rowOf M k)) (hd' : ∀ i j b, i < n → j < n → i ≠ j → blk vs' i = some b → blk vs' j ≠ some b) :
    OwM w2 B T E a' (n + 1) cap' (M ++ [l]) := by
  have hlen := ho2.len_eq
  subst hlen
  obtain ⟨vs, ho, hr, hd⟩ := h.own
  have hvl : vs'.length = n := by have := hvs.1; omega
  have hlt : ∀ i b, i < n → blk vs' i = some b → b < w.heap.size := by
    intro i b hi e
    obtain ⟨g, c, hv, _, gl⟩ := ho.form (by omega)
    injection hv with ha _ hc
    subst ha; subst hc
    obtain ⟨ar0, cr0, e0, o0⟩ := hr i hi
    obtain ⟨ar1, cr1, e1, o1⟩ := hvs2 i hi
    have c0 := ho.cellAt i (by omega)
    have c1 := hvs.cellAt i (by omega)
    rw [hb.cell (p := ⟨g, i, none⟩) gl, c0, e0, e1] at c1
    injection c1 with c1
    injection c1 with c1 _ c2
    subst c1; subst c2
    simp [blk, e1] at e
    exact (o0.own.lt b e).2
  have keep : ∀ {B0 : Nat} {ar0 : Option Addr} {n0 c0 : Nat} {l0 : List Int}, OwI w1 B0 E ar0 n0 c0 l0 → OwI w2 B0 E ar0 n0 c0 l0 := by
    intro B0 ar0 n0 c0 l0 o
    refine o.grown hg ?_
    rcases eo : (Value.slice ar0 n0 c0).ownBlock with _ | b
    · exact .inl rfl
    · refine .inr fun e2 => ?_
      exact own_ne hne hvs o.own e2.symm eo
  refine ⟨by simp [h.len_eq], _, hown, fun k hk => ?_, fun i j b hi hj hij e => ?_⟩
  · rcases Nat.lt_or_ge k n with h1 | h1
    · obtain ⟨ar1, cr1, e1, o1⟩ := hvs2 k h1
      rw [rowOf_append_left (by rw [h.len_eq]; exact h1)]
      exact ⟨ar1, cr1, by rw [List.getElem?_append_left (by omega)]; exact e1, keep o1⟩
    · have hk' : k = n := by omega
      subst hk'
      have er : rowOf (M ++ [l]) k = l := by rw [rowOf_append_right (by rw [h.len_eq]; exact Nat.le_refl _), h.len_eq, Nat.sub_self]; rfl
      rw [er]
      refine ⟨ar, cr, by rw [List.getElem?_append_right (by omega), hvl]; simp, keep (ho2.mono hB)⟩
  · have hnew : ∀ b, blk (vs' ++ [.slice ar l.length cr]) n = some b → w.heap.size ≤ b := by
      intro b e
      simp [blk, hvl] at e
      exact (ho2.own.lt b e).1
    have hold : ∀ i, i < n → blk (vs' ++ [.slice ar l.length cr]) i = blk vs' i := by
      intro i hi
      simp [blk, List.getElem?_append_left (show i < vs'.length by omega)]
    rcases Nat.lt_or_ge i n with h1 | h1
    · rw [hold i h1] at e
      rcases Nat.lt_or_ge j n with h2 | h2
      · rw [hold j h2]
        exact hd' i j b h1 h2 hij e
      · obtain rfl : j = n := by omega
        intro e3
        have := hlt i b h1 e
        have := hnew b e3
        omega
    · obtain rfl : i = n := by omega
      intro e3
      have h2 : j < i := by omega
      rw [hold j h2] at e3
      have := hlt j b h2 e3
      have := hnew b e
      omega

/-- append(out, row), a row of the call's own, laid since the matrix was as it is: the new row stands in a block of one cell. -/
theorem wpList_push_row (hT : MatTy P TT T E) {ops : Array Oper} {rest : List Oper} {o : Oper} {ac : Act} {Q : Exit → Act → World → Prop} (hgd : o.guard = none) (s x : Operand)
    (ho : o.op = .call { callee := .builtin .append, args := #[s, x], argTypes := #[TT, TT] })
    {w0 : World} {a ar : Option Addr} {n cap blk_ c2 nr cr : Nat} {M : List (List Int)} {l : List Int} (hs : ac.eval s = .slice a n cap) (hx : ac.eval x = .slice (some ⟨blk_, 0, none⟩) 1 c2) (h : OwM w0 B T E a n cap M) (hb : Below w0.heap.size w0 w)
    (ho2 : OwI w w0.heap.size E ar nr cr l) (hc : w.cell? ⟨blk_, 0, none⟩ = some (.slice ar nr cr)) (hn : (n + 1) * 24 ≤ 140737488355328) (hB : B ≤ w0.heap.size)
    (hK : ∀ a' cap' w', OwM w' B T E a' (n + 1) cap' (M ++ [l]) → Below B w w' → wpList P ops Q rest (ac.put o.dst (.slice a' (n + 1) cap')) w') : wpList P ops Q (o :: rest) ac w := by
  obtain ⟨i, hi, hz, hs1, hby⟩ := hT.hi
  obtain ⟨vs', ho', hr', hd'⟩ := (h.below hb).own
  refine wpList_append_own w hgd s x TT ho B T i (.slice none 0 0) 1 24 hT.ht hi hz hs1 hby rfl (by decide) (.slice a n cap) n vs' hs ho' ⟨blk_, 0, none⟩ 1 c2 [.slice ar nr cr] hx rfl (fun j u hu => ?_) (fun u hu => ?_) (by unfold maxLen; omega) hn (Nat.le_trans hB hb.size) fun v' w' h1 h2 _ => ?_
  · rcases j with _ | j
    · simp at hu
      subst hu
      have : (⟨blk_, 0, none⟩ : Addr).add 0 = ⟨blk_, 0, none⟩ := by simp [Addr.add]
      rw [this]; exact hc
    · simp at hu
  · simp at hu; subst hu; rfl
  · obtain ⟨a', cap', rfl⟩ : ∃ a' cap', v' = .slice a' (n + 1) cap' := by
      rcases h1.2 with ⟨e, h0⟩ | ⟨g, c, cur, e, _⟩
      · exact absurd h0 (by omega)
      · exact ⟨_, _, e⟩
    exact hK a' cap' w' (h.pushed hb ho2 hB hT.ne ho' h1 h2 hr' hd') ((Below.refl B w).grown h2 (Nat.le_trans hB hb.size) fun k hk => (ho'.lt k hk).1)
end
end Go.Rk
namespace Go.Rk

def sumTo (g : Nat → Int) : Nat → Int
  | 0 => 0
  | n + 1 => sumTo g n + g n

theorem sumTo_congr {g h : Nat → Int} {n : Nat} (e : ∀ i, i < n → g i = h i) : sumTo g n = sumTo h n := by
  induction n with
  | zero => rfl
  | succ n ih => rw [sumTo, sumTo, ih fun i hi => e i (Nat.lt_succ_of_lt hi), e n (Nat.lt_succ_self n)]

theorem sumTo_add (g h : Nat → Int) (n : Nat) : sumTo (fun i => g i + h i) n = sumTo g n + sumTo h n := by
  induction n with
  | zero => rfl
  | succ n ih => rw [sumTo, sumTo, sumTo, ih]; omega

theorem sumTo_mul (c : Int) (g : Nat → Int) (n : Nat) : sumTo (fun i => c * g i) n = c * sumTo g n := by
  induction n with
  | zero => simp [sumTo]
  | succ n ih => rw [sumTo, sumTo, ih, Int.mul_add]

theorem sumTo_zero (n : Nat) : sumTo (fun _ => 0) n = 0 := by
  induction n with
  | zero => rfl
  | succ n ih => rw [sumTo, ih]; rfl

theorem sumTo_swap (g : Nat → Nat → Int) (n m : Nat) : sumTo (fun i => sumTo (fun j => g i j) m) n = sumTo (fun j => sumTo (fun i => g i j) n) m := by
  induction n with
  | zero => simp [sumTo, sumTo_zero]
  | succ n ih =>
    simp only [sumTo]
    rw [ih, ← sumTo_add]

theorem sumTo_succ_left (g : Nat → Int) (n : Nat) : sumTo g (n + 1) = g 0 + sumTo (fun i => g (i + 1)) n := by
  induction n with
  | zero => simp [sumTo]
  | succ n ih => rw [sumTo, ih, sumTo]; omega

/-- The same modulo 9973. -/
def Eqm (a b : Int) : Prop := a % 9973 = b % 9973

theorem Eqm.refl (a : Int) : Eqm a a := rfl
theorem Eqm.symm {a b : Int} (h : Eqm a b) : Eqm b a := Eq.symm h
theorem Eqm.trans {a b c : Int} (h : Eqm a b) (k : Eqm b c) : Eqm a c := Eq.trans h k
theorem Eqm.of_eq {a b : Int} (h : a = b) : Eqm a b := by rw [h]; rfl
theorem Eqm.mod (a : Int) : Eqm (a % 9973) a := Int.emod_emod_of_dvd a (Int.dvd_refl 9973)
theorem Eqm.add {a b c d : Int} (h : Eqm a b) (k : Eqm c d) : Eqm (a + c) (b + d) := by
  unfold Eqm at *; rw [Int.add_emod, h, k, ← Int.add_emod]
theorem Eqm.mul {a b c d : Int} (h : Eqm a b) (k : Eqm c d) : Eqm (a * c) (b * d) := by
  unfold Eqm at *; rw [Int.mul_emod, h, k, ← Int.mul_emod]
theorem Eqm.neg {a b : Int} (h : Eqm a b) : Eqm (-a) (-b) := by unfold Eqm at *; omega
theorem Eqm.sub {a b c d : Int} (h : Eqm a b) (k : Eqm c d) : Eqm (a - c) (b - d) := by unfold Eqm at *; omega
theorem Eqm.eq {a b : Int} (h : Eqm a b) (ha : 0 ≤ a ∧ a ≤ 9972) (hb : 0 ≤ b ∧ b ≤ 9972) : a = b := by unfold Eqm at h; omega
theorem Eqm.sum {g h : Nat → Int} {n : Nat} (e : ∀ i, i < n → Eqm (g i) (h i)) : Eqm (sumTo g n) (sumTo h n) := by
  induction n with
  | zero => rfl
  | succ n ih => exact (ih fun i hi => e i (Nat.lt_succ_of_lt hi)).add (e n (Nat.lt_succ_self n))

end Go.Rk
namespace Go.Proofs.YtoahegjjffggaaaDoor
open Go.RowKit Go.Rk

theorem infoInt : (Tryd.prog.info? 3).map (fun i => (i.zero, i.size, i.bytes)) = some (some (.int .i64 0), 1, 8) := by kernel_rfl
theorem intTy : IntTy Tryd.prog 24 3 := by
  obtain ⟨i0, hi, h0, h1, h2⟩ := info_parts infoInt
  exact ⟨Tryd.underlying24, ⟨i0, hi, h0, h1, h2⟩⟩

/-- An error: none, or its number. -/
def errV : Option Int → Value
  | none => .nilIface
  | some c => .iface 52 (.int .i64 c)

theorem infoInts : (Tryd.prog.info? 24).map (fun i => (i.zero, i.size, i.bytes)) = some (some (.slice none 0 0), 1, 24) := by kernel_rfl
theorem matTy : MatTy Tryd.prog 22 24 3 := by
  obtain ⟨i0, hi, h0, h1, h2⟩ := info_parts infoInts
  exact ⟨Tryd.underlying22, ⟨i0, hi, h0, h1, h2⟩, intTy, by decide⟩
theorem ret_bool {a b : Bool} (h : a = b) : Ending.returned (.bool a) = .returned (.bool b) := by rw [h]
theorem ret_int {k : IntKind} {a b : Int} (h : a = b) : Ending.returned (.int k a) = .returned (.int k b) := by rw [h]

def outB (n lo hi : Int) : Bool := decide (n < lo) || decide (hi < n)

theorem out_any (n lo hi : Int) (w : World) :
    Calls Tryd.prog 53 #[.int .i64 n, .int .i64 lo, .int .i64 hi] w fun e w' => e = .returned (.bool (outB n lo hi)) ∧ w = w' := by
  go_enter Tryd.func53, Tryd.ntmps53
  go_wp2
  all_goals (go_ret; refine ⟨ret_bool ?_, rfl⟩; unfold outB; simp; try omega)

def anyB (lo hi : Int) (l : List Int) : Bool := l.any fun n => outB n lo hi

theorem anyB_take (lo hi : Int) {l : List Int} {k : Nat} (h : k < l.length) (h0 : anyB lo hi (l.take k) = false) (h1 : outB (ix l k) lo hi = false) : anyB lo hi (l.take (k + 1)) = false := by
  rw [take_succ_ix h]
  unfold anyB at *
  simp [h0, h1]
theorem anyB_hit (lo hi : Int) {l : List Int} {k : Nat} (h : k < l.length) (h1 : outB (ix l k) lo hi = true) : anyB lo hi l = true := by
  unfold anyB
  exact List.any_eq_true.2 ⟨_, ix_mem h, h1⟩

theorem any_of_in {l : List Int} {lo hi : Int} (h : In lo hi l) : anyB lo hi l = false := by
  refine List.any_eq_false.2 fun x hx => ?_
  obtain ⟨k, hk, rfl⟩ := List.mem_iff_getElem.1 hx
  have := h k hk
  rw [ix_lt hk] at this
  simp [outB]
  omega

theorem in_of_any {l : List Int} {lo hi : Int} (h : anyB lo hi l = false) : In lo hi l := by
  intro k hk
  have h1 := List.any_eq_false.1 h (ix l k) (ix_mem hk)
  simp [outB] at h1
  omega

set_option maxHeartbeats 400000 in
theorem any_any (a : Option Addr) (len cap : Nat) (l : List Int) (lo hi : Int) (w : World) (h : RdI w a len cap l) :
    Calls Tryd.prog 43 #[.slice a len cap, .int .i64 lo, .int .i64 hi] w fun e w' => e = .returned (.bool (anyB lo hi l)) ∧ w = w' := by
  have hm := h.len_max
  go_enter Tryd.func43, Tryd.ntmps43
  go_wp2
  go_loop [11] (fun i => ∃ k : Nat, k ≤ len ∧ i = .int .i64 k ∧ Hid (anyB lo hi (l.take k) = false)) (fun i => len - (intOf i).toNat)
  case atStart => exact ⟨0, Nat.zero_le _, rfl, rfl⟩
  case round =>
    obtain ⟨k, hk, rfl, hno⟩ := hrel
    by_cases hlt : k < len
    · obtain ⟨b, off, rfl, _, hc⟩ := h.at hlt
      have hc := hc k hlt
      have hl : k < l.length := by have := h.len_eq; omega
      rcases ho : outB (ix l k) lo hi
      · have Ho := Lib.hid ho
        clear ho
        go_wp2_with (go_at_call 53; refine (out_any _ _ _ _).mono ?_; rintro e w' ⟨rfl, rfl⟩; rw [Ho.out])
        go_round
        case rel => exact ⟨k + 1, by omega, by go_num, anyB_take _ _ hl hno Ho.out⟩
        case measure => simp [intOf]; omega
      · have Ho := Lib.hid ho
        clear ho
        go_wp2_with (go_at_call 53; refine (out_any _ _ _ _).mono ?_; rintro e w' ⟨rfl, rfl⟩; rw [Ho.out])
        go_ret
        exact ⟨ret_bool (anyB_hit _ _ hl Ho.out).symm, rfl⟩
    · go_wp2
      go_ret
      refine ⟨ret_bool ?_, rfl⟩
      rw [← hno.out, List.take_of_length_le (by have := h.len_eq; omega)]

theorem Mod_any (n m : Int) (w : World) (hm : 0 < m) (h2 : m ≤ 1000000) :
    Calls Tryd.prog 58 #[.int .i64 n, .int .i64 m] w fun e w' => e = .returned (.int .i64 (n % m)) ∧ w = w' := by
  obtain ⟨b1, b2, b3⟩ := tmod_facts n hm
  have B3 := Lib.hid b3
  have h5 : (m == 0) = false := by simp; omega
  clear b3
  go_enter Tryd.func58, Tryd.ntmps58
  go_wp2
  all_goals
    go_ret
    refine ⟨ret_int ?_, rfl⟩
    first | exact B3.out | (rw [← Int.tmod_eq_emod_of_nonneg (by omega)]; exact B3.out) | (rw [Int.emod_eq_of_lt (by omega) (by omega)]; exact B3.out)
theorem Field_any (n : Int) (w : World) :
    Calls Tryd.prog 34 #[.int .i64 n] w fun e w' => e = .returned (.int .i64 (n % 9973)) ∧ w = w' := by
  have C := Lib.hid (Mod_any n 9973 w (by decide) (by decide))
  go_enter Tryd.func34, Tryd.ntmps34
  go_wp2_with (go_at_call 58; refine C.out.mono ?_; rintro e w' ⟨rfl, rfl⟩)
  go_ret
  exact ⟨rfl, rfl⟩
set_option maxHeartbeats 1000000 in
theorem Power_any (a : Int) (n : Nat) (w : World) (h1 : 0 ≤ a) (h2 : a ≤ 9972) (h3 : n ≤ 1000000) :
    Calls Tryd.prog 59 #[.int .i64 a, .int .i64 n] w fun e w' => e = .returned (.int .i64 (powm a n)) ∧ w = w' := by
  go_enter Tryd.func59, Tryd.ntmps59
  go_wp2
  go_loop [0, 1, 5] (fun x k o => ∃ (b o' : Int) (m : Nat), x = .int .i64 b ∧ k = .int .i64 m ∧ o = .int .i64 o' ∧ 0 ≤ b ∧ b ≤ 9972 ∧ 0 ≤ o' ∧ o' ≤ 9972 ∧ m ≤ n ∧ Hid (o' * b ^ m % 9973 = powm a n)) (fun _ k _ => (intOf k).toNat)
  case atStart => exact ⟨a, 1, n, rfl, rfl, rfl, h1, h2, by decide, by decide, Nat.le_refl _, by unfold Hid powm; rw [Int.one_mul]⟩
  case round =>
    obtain ⟨b, o', m, rfl, rfl, rfl, hb1, hb2, ho1, ho2, hm, he⟩ := hrel
    have p1 := mul_bd ⟨ho1, ho2⟩ ⟨hb1, hb2⟩
    have p2 := mul_bd ⟨hb1, hb2⟩ ⟨hb1, hb2⟩
    by_cases h0 : 0 < m
    · rcases Nat.mod_two_eq_zero_or_one m with hp | hp
      · have hp' : ((m : Int) % 2 == 1) = false := by simp; omega
        have Hp := Lib.hid hp
        clear hp
        go_wp2
        go_round
        case rel => exact ⟨b * b % 9973, o', m / 2, rfl, by go_num, rfl, by omega, by omega, ho1, ho2, by omega, powm_even he.out Hp.out⟩
        case measure => simp [intOf]; omega
      · have hp' : ((m : Int) % 2 == 1) = true := by simp; omega
        have Hp := Lib.hid hp
        clear hp
        go_wp2
        go_round
        case rel => exact ⟨b * b % 9973, o' * b % 9973, m / 2, rfl, by go_num, rfl, by omega, by omega, by omega, by omega, by omega, powm_odd he.out Hp.out⟩
        case measure => simp [intOf]; omega
    · obtain rfl : m = 0 := by omega
      go_wp2
      go_ret
      refine ⟨ret_int ?_, rfl⟩
      rw [← he.out]
      simp
      omega
theorem Over_any (a : Int) (w : World) (h1 : 0 ≤ a) (h2 : a ≤ 9972) :
    Calls Tryd.prog 35 #[.int .i64 a] w fun e w' => e = .returned (.int .i64 (powm a 9971)) ∧ w = w' := by
  have C := Lib.hid (Power_any a 9971 w h1 h2 (by decide))
  go_enter Tryd.func35, Tryd.ntmps35
  go_wp2_with (go_at_call 59; refine C.out.mono ?_; rintro e w' ⟨rfl, rfl⟩)
  go_ret
  exact ⟨rfl, rfl⟩
set_option maxHeartbeats 1000000 in
theorem Grid_any (n m : Nat) (w : World) (hn : n ≤ 1000) (hm : m ≤ 1000) :
    Calls Tryd.prog 61 #[.int .i64 n, .int .i64 m] w fun e w' => ∃ a cap, e = .returned (.slice a n cap) ∧ OwM w' w.heap.size 24 3 a n cap (List.replicate n (List.replicate m 0)) ∧ Below w.heap.size w w' := by
  have HM := Lib.hid matTy
  go_enter Tryd.func61, Tryd.ntmps61
  go_wp2_with (at_make; refine wpList_make_rows HM.out rfl (.tmp 7) (.tmp 7) rfl rfl rfl (by omega) ?_; intro w1 ho1 hb1)
  go_loopw [11] (fun i wr => ∃ (k : Nat), k ≤ n ∧ i = .int .i64 k ∧ OwM wr w.heap.size 24 3 (some ⟨w.heap.size, 0, none⟩) n n (gridN n m k) ∧ Below w.heap.size w wr) (fun i _ => n - (intOf i).toNat)
  case atStart => exact ⟨0, Nat.zero_le _, rfl, ho1, hb1⟩
  case round =>
    obtain ⟨k, hk, rfl, ho, hb⟩ := hrel
    by_cases hlt : k < n
    · have hsz := hb.size
      go_wp2_with (at_make; refine wpList_make_ints HM.out.int rfl (.tmp 16) (.tmp 16) rfl rfl rfl (by omega) ?_; intro w2 ho2 hb2; obtain ⟨g, hg, hg1, hg2, hfz, hrow⟩ := (ho.below hb2).at hlt; injection hg with hg; injection hg with hg; subst hg; obtain ⟨ar, cr, hc, _⟩ := hrow k hlt; have hf := hfz k)
      have hs := ho.setFresh (g := w.heap.size) (k := k) hlt rfl hb2 ho2 hsz HM.out.ne
      go_roundw
      case rel => exact ⟨k + 1, by omega, by go_num, hs, (hb.trans (hb2.mono hsz)).setCell (by simp) _⟩
      case measure => simp [intOf]; omega
    · obtain rfl : k = n := by omega
      go_wp2
      go_ret
      exact ⟨_, _, rfl, by rw [← gridN_full]; exact ho, hb⟩
set_option maxHeartbeats 1000000 in
theorem Copy_any {a : Option Addr} {n cap : Nat} {M : List (List Int)} {w : World} (h : RdM w a n cap M) (hn : n ≤ 1000) (hl : ∀ k, k < n → (rowOf M k).length ≤ 1000) :
    Calls Tryd.prog 76 #[.slice a n cap] w fun e w' => ∃ a' cap', e = .returned (.slice a' n cap') ∧ OwM w' w.heap.size 24 3 a' n cap' M ∧ Below w.heap.size w w' := by
  have HM := Lib.hid matTy
  have E1 := Lib.hid h.len_eq
  go_enter Tryd.func76, Tryd.ntmps76
  go_wp2_with (at_make; refine wpList_make_rows HM.out rfl (.tmp 7) (.tmp 7) rfl rfl rfl (by omega) ?_; intro w1 ho1 hb1)
  go_loopw [11] (fun i wr => ∃ (k : Nat), k ≤ n ∧ i = .int .i64 k ∧ OwM wr w.heap.size 24 3 (some ⟨w.heap.size, 0, none⟩) n n (copyN M n k) ∧ Below w.heap.size w wr) (fun i _ => n - (intOf i).toNat)
  case atStart => exact ⟨0, Nat.zero_le _, rfl, ho1, hb1⟩
  case round =>
    obtain ⟨k, hk, rfl, ho, hb⟩ := hrel
    by_cases hlt : k < n
    · have hsz := hb.size
      obtain ⟨b, off, rfl, hbl, hr⟩ := h.at hlt
      obtain ⟨ar, cr, hc, hrd⟩ := hr k hlt
      have hc := hb.keep hbl hc
      have hrd := hrd.below hb
      have hlk := hl k hlt
      have hrl := hrd.le
      go_wp2_with (at_builtin; refine wpList_append_ints HM.out.int rfl (.const (.slice none 0 0)) (.tmp 18) rfl rfl rfl (OwI.nil wr wr.heap.size _) hrd (by omega) (Nat.le_refl _) ?_; intro a3 cap3 w3 ho3 hg3; have hb3 := below_of_grown hg3; obtain ⟨g, hg, hg1, hg2, hfz, hrow⟩ := (ho.below hb3).at hlt; injection hg with hg; injection hg with hg; subst hg; obtain ⟨ar2, cr2, hc2, _⟩ := hrow k hlt; have hf := hfz k; have hc2 := hc2)
      rw [Nat.zero_add] at ho3
      have hs := ho.setFresh (g := w.heap.size) (k := k) hlt rfl hb3 ho3 hsz HM.out.ne
      go_roundw
      case rel => exact ⟨k + 1, by omega, by go_num, by rw [copyN]; simpa using hs, (hb.trans (hb3.mono hsz)).setCell (by simp) _⟩
      case measure => simp [intOf]; omega
    · obtain rfl : k = n := by omega
      go_wp2
      go_ret
      exact ⟨_, _, rfl, by rw [← copyN_full E1.out]; exact ho, hb⟩
/-- What is wrong with a row beside the first one. -/
def rowErr1 (lo hi : Int) (m : Nat) (l : List Int) : Option Int := if l.length ≠ m then some 3 else if anyB lo hi l then some 1 else none
/-- What is wrong with the first row with which something is. -/
def rowsErr (lo hi : Int) (m : Nat) (M : List (List Int)) : Option Int := M.foldl (fun r l => match r with | none => rowErr1 lo hi m l | some c => some c) none

theorem rowsErr_take {lo hi : Int} {m : Nat} {M : List (List Int)} {k : Nat} (h : k < M.length) :
    rowsErr lo hi m (M.take (k + 1)) = match rowsErr lo hi m (M.take k) with | none => rowErr1 lo hi m (rowOf M k) | some c => some c := by
  rw [List.take_succ_eq_append_getElem h]
  unfold rowsErr
  rw [List.foldl_append, rowOf_lt h]
  rfl

theorem rowsErr_at {lo hi : Int} {m : Nat} {M : List (List Int)} {k : Nat} {c : Int} (h : k < M.length) (h0 : rowsErr lo hi m (M.take k) = none) (h1 : rowErr1 lo hi m (rowOf M k) = some c) : rowsErr lo hi m M = some c := by
  have h2 := rowsErr_take (lo := lo) (hi := hi) (m := m) h
  rw [h0] at h2
  simp only [h1] at h2
  rw [← List.take_append_drop (k + 1) M]
  unfold rowsErr at h2 ⊢
  rw [List.foldl_append, h2]
  generalize M.drop (k + 1) = N
  induction N with
  | nil => rfl
  | cons x N ih => exact ih

theorem rowsErr_none {lo hi : Int} {m : Nat} {M : List (List Int)} (h : rowsErr lo hi m M = none) : ∀ k, k < M.length → (rowOf M k).length = m ∧ In lo hi (rowOf M k) := by
  have key : ∀ j, j ≤ M.length → rowsErr lo hi m (M.take j) = none := by
    intro j hj
    have : M.length - j ≤ M.length := Nat.sub_le _ _
    generalize hd : M.length - j = d at this
    induction d generalizing j with
    | zero =>
      rw [List.take_of_length_le (by omega)]
      exact h
    | succ d ih =>
      have h1 := ih (j + 1) (by omega) (by omega) (by omega)
      rw [rowsErr_take (by omega)] at h1
      split at h1
      · next e => exact e
      · cases h1
  intro k hk
  have h1 := key (k + 1) (by omega)
  rw [rowsErr_take hk, key k (by omega)] at h1
  simp only [rowErr1] at h1
  split at h1
  · cases h1
  · next e1 =>
    split at h1
    · cases h1
    · next e2 =>
      refine ⟨by omega, fun j hj => ?_⟩
      have e3 := List.any_eq_false.1 (by simpa [anyB] using e2) (ix (rowOf M k) j) (ix_mem hj)
      simp [outB] at e3
      omega

/-- What is wrong with its lengths. -/
def groundsPre (most : Int) (M : List (List Int)) : Option Int :=
  if M.length = 0 ∨ (rowOf M 0).length = 0 then some 5 else if most < M.length ∨ most < (rowOf M 0).length then some 4 else none

/-- What is wrong with a matrix. -/
def groundsR (most : Int) (lo hi : Int) (M : List (List Int)) : Option Int :=
  if M.length = 0 ∨ (rowOf M 0).length = 0 then some 5 else if most < M.length ∨ most < (rowOf M 0).length then some 4 else
    rowsErr lo hi (rowOf M 0).length M
theorem groundsPre_none {most : Int} {M : List (List Int)} (h : groundsPre most M = none) : 0 < (rowOf M 0).length ∧ (M.length : Int) ≤ most ∧ ((rowOf M 0).length : Int) ≤ most := by
  unfold groundsPre at h
  split at h
  · cases h
  · split at h
    · cases h
    · next h1 h2 => omega
theorem groundsPre_some {most lo hi : Int} {M : List (List Int)} {c : Int} (h : groundsPre most M = some c) : groundsR most lo hi M = some c := by
  unfold groundsPre at h
  unfold groundsR
  split at h
  · next e => rw [if_pos e]; exact h
  · next e =>
    rw [if_neg e]
    split at h
    · next e2 => rw [if_pos e2]; exact h
    · cases h
theorem groundsPre_cases {most : Int} {M : List (List Int)} {c : Int} (h : groundsPre most M = some c) (hM : 0 < M.length) : (c = 5 ∧ (rowOf M 0).length = 0) ∨ (c = 4 ∧ 0 < (rowOf M 0).length ∧ most < M.length) ∨
    (c = 4 ∧ 0 < (rowOf M 0).length ∧ (M.length : Int) ≤ most ∧ most < (rowOf M 0).length) := by
  unfold groundsPre at h
  split at h
  · next e => injection h with h; exact .inl ⟨h.symm, by omega⟩
  · split at h
    · next e1 e2 => injection h with h; exact .inr (by omega)
    · cases h
/-- What is wrong with a matrix that should be square. -/
def squareR (most lo hi : Int) (M : List (List Int)) : Option Int := if groundsR most lo hi M = none then (if M.length = (rowOf M 0).length then none else some 3) else groundsR most lo hi M
theorem groundsR_none {most lo hi : Int} {M : List (List Int)} (h : groundsR most lo hi M = none) : 0 < M.length ∧ 0 < (rowOf M 0).length ∧ (M.length : Int) ≤ most ∧ ((rowOf M 0).length : Int) ≤ most ∧ ∀ k, k < M.length → (rowOf M k).length = (rowOf M 0).length ∧ In lo hi (rowOf M k) := by
  unfold groundsR at h
  split at h
  · cases h
  · split at h
    · cases h
    · next h1 h2 => exact ⟨by omega, by omega, by omega, by omega, rowsErr_none h⟩
set_option maxHeartbeats 2000000 in
theorem Grounds_any {a : Option Addr} {n cap : Nat} {M : List (List Int)} (most lo hi : Int) {w : World} (h : RdM w a n cap M) :
    Calls Tryd.prog 60 #[.slice a n cap, .int .i64 most, .int .i64 lo, .int .i64 hi] w fun e w' => e = .returned (errV (groundsR most lo hi M)) ∧ w = w' := by
  have E1 := Lib.hid h.len_eq
  have hm := h.len_max
  by_cases h0 : n = 0
  · subst h0
    go_enter Tryd.func60, Tryd.ntmps60
    go_wp2
    go_ret
    refine ⟨?_, rfl⟩
    unfold groundsR
    rw [if_pos (.inl E1.out)]
    rfl
  obtain ⟨b, off, rfl, hbl, hr⟩ := h.at (k := 0) (by omega)
  obtain ⟨ar0, cr0, hc0, hrd0⟩ := hr 0 (by omega)
  rw [Nat.add_zero] at hc0
  have hm0 := hrd0.len_max
  have z1 : ((n : Int) == 0) = false := by simp; omega
  rcases hq : groundsPre most M with _ | c
  · obtain ⟨p1, p2, p3⟩ := groundsPre_none hq
    have HR : Hid (groundsR most lo hi M = rowsErr lo hi (rowOf M 0).length M) := by
      unfold Hid groundsR
      rw [if_neg (by rw [E1.out]; omega), if_neg (by omega)]
    have p2' : (n : Int) ≤ most := by rw [← E1.out]; exact p2
    have z2 : (((rowOf M 0).length : Int) == 0) = false := beq_eq_false_iff_ne.2 (by omega)
    clear hq p2
    go_enter Tryd.func60, Tryd.ntmps60
    go_wp2
    go_loop [39] (fun i => ∃ k : Nat, k ≤ n ∧ i = .int .i64 k ∧ Hid (rowsErr lo hi (rowOf M 0).length (M.take k) = none)) (fun i => n - (intOf i).toNat)
    case atStart => exact ⟨0, Nat.zero_le _, rfl, rfl⟩
    case round =>
      obtain ⟨k, hk, rfl, hno⟩ := hrel
      by_cases hlt : k < n
      · obtain ⟨ar, cr, hc, hrd⟩ := hr k hlt
        have hmk := hrd.len_max
        have hl : k < M.length := by rw [E1.out]; exact hlt
        by_cases hw : (rowOf M k).length = (rowOf M 0).length
        · have z3 : (((rowOf M k).length : Int) != ((rowOf M 0).length : Int)) = false := bne_eq_false_iff_eq.2 (by omega)
          rcases hany : anyB lo hi (rowOf M k)
          · have Ha := Lib.hid hany
            have Hw := Lib.hid hw
            clear hany hw
            go_wp2_with (go_at_call 43; refine (any_any _ _ _ _ _ _ _ hrd).mono ?_; rintro e w' ⟨rfl, rfl⟩; rw [Ha.out])
            go_round
            case rel => exact ⟨k + 1, by omega, by go_num, by unfold Hid; rw [rowsErr_take hl, hno.out, rowErr1, Ha.out, if_neg (by rw [Hw.out]; simp)]; rfl⟩
            case measure => simp [intOf]; omega
          · have Ha := Lib.hid hany
            have Hw := Lib.hid hw
            clear hany hw
            go_wp2_with (go_at_call 43; refine (any_any _ _ _ _ _ _ _ hrd).mono ?_; rintro e w' ⟨rfl, rfl⟩; rw [Ha.out])
            go_ret
            refine ⟨?_, rfl⟩
            rw [HR.out, rowsErr_at hl hno.out (c := 1) (by rw [rowErr1, Ha.out, if_neg (by rw [Hw.out]; simp)]; rfl)]
            rfl
        · have z3 : (((rowOf M k).length : Int) != ((rowOf M 0).length : Int)) = true := bne_iff_ne.2 (by omega)
          have Hw := Lib.hid hw
          clear hw
          go_wp2
          go_ret
          refine ⟨?_, rfl⟩
          rw [HR.out, rowsErr_at hl hno.out (c := 3) (by rw [rowErr1, if_pos Hw.out])]
          rfl
      · go_wp2
        go_ret
        refine ⟨?_, rfl⟩
        have hfin := hno.out
        rw [List.take_of_length_le (by rw [E1.out]; omega)] at hfin
        rw [HR.out, hfin]
        rfl
  · have HR : Hid (groundsR most lo hi M = some c) := groundsPre_some hq
    have hq2 := groundsPre_cases hq (by rw [E1.out]; omega)
    have p5 : (n : Int) = M.length := by rw [E1.out]
    rcases hq2 with ⟨rfl, hz⟩ | ⟨rfl, hz1, hz2⟩ | ⟨rfl, hz1, hz2, hz3⟩
    · have z2 : (((rowOf M 0).length : Int) == 0) = true := beq_iff_eq.2 (by omega)
      have HP := Lib.hid p5
      clear hq hz p5
      go_enter Tryd.func60, Tryd.ntmps60
      go_wp2
      go_ret
      exact ⟨by rw [HR.out]; rfl, rfl⟩
    · have z2 : (((rowOf M 0).length : Int) == 0) = false := beq_eq_false_iff_ne.2 (by omega)
      have z4 : most < (n : Int) := by omega
      have HP := Lib.hid p5
      clear hq p5 hz1 hz2
      go_enter Tryd.func60, Tryd.ntmps60
      go_wp2
      go_ret
      exact ⟨by rw [HR.out]; rfl, rfl⟩
    · have z2 : (((rowOf M 0).length : Int) == 0) = false := beq_eq_false_iff_ne.2 (by omega)
      have z4 : (n : Int) ≤ most := by omega
      have z5 : most < ((rowOf M 0).length : Int) := hz3
      have HP := Lib.hid p5
      clear hq p5 hz1 hz2 hz3
      go_enter Tryd.func60, Tryd.ntmps60
      go_wp2
      go_ret
      exact ⟨by rw [HR.out]; rfl, rfl⟩
end Go.Proofs.YtoahegjjffggaaaDoor
