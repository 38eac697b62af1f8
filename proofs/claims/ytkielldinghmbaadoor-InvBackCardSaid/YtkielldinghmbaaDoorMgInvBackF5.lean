/-
  Matrices of a call's own whose rows' places are known by name: for loops that store into them. No program in sight.
-/
import Derived.Test.YtkielldinghmbaaDoorMgInvBackF0
import Derived.Test.YtkielldinghmbaaDoorMgInvBackF2
namespace Go.Rk
open Go.RowKit

/-- The outer block is g; row i lies in block D i, of capacity C i. -/
structure OwMD (w : World) (B T E g : Nat) (D C : Nat → Nat) (n cap : Nat) (M : List (List Int)) : Prop where
  len_eq : M.length = n
  outer : w.ownsRow B T 1 (.slice (some ⟨g, 0, none⟩) n cap) n ((List.range n).map fun i => Value.slice (some ⟨D i, 0, none⟩) (rowOf M i).length (C i))
  rows : ∀ i, i < n → OwI w B E (some ⟨D i, 0, none⟩) (rowOf M i).length (C i) (rowOf M i)
  inj : ∀ i j, i < n → j < n → i ≠ j → D i ≠ D j

section
variable {w w' : World} {B B' T E g : Nat} {D C : Nat → Nat} {n cap : Nat} {M : List (List Int)}

theorem OwM.named {a : Option Addr} (h : OwM w B T E a n cap M) (hn : 0 < n) (hp : ∀ i, i < n → 0 < (rowOf M i).length) : ∃ g D C, a = some ⟨g, 0, none⟩ ∧ OwMD w B T E g D C n cap M := by
  obtain ⟨vs, ho, hr, hd⟩ := h.own
  obtain ⟨g, c, hv, hb, hlt⟩ := ho.form hn
  injection hv with ha _ hc
  subst ha; subst hc
  have hr' : ∀ i, i < n → ∃ y : Nat × Nat, vs[i]? = some (.slice (some ⟨y.1, 0, none⟩) (rowOf M i).length y.2) ∧ OwI w B E (some ⟨y.1, 0, none⟩) (rowOf M i).length y.2 (rowOf M i) := by
    intro i hi
    obtain ⟨ar, cr, e, o⟩ := hr i hi
    obtain ⟨b, hab, _⟩ := o.at (hp i hi)
    subst hab
    exact ⟨(b, cr), e, o⟩
  obtain ⟨y, hy⟩ := Go.Deep.choose_lt hr'
  have hvl : vs.length = n := by have := ho.1; omega
  refine ⟨g, fun i => (y i).1, fun i => (y i).2, rfl, h.len_eq, ?_, fun i hi => (hy i hi).2, fun i j hi hj hij e => ?_⟩
  · have : vs = (List.range n).map fun i => Value.slice (some ⟨(y i).1, 0, none⟩) (rowOf M i).length (y i).2 := by
      apply List.ext_getElem?
      intro i
      rcases Nat.lt_or_ge i n with h1 | h1
      · rw [(hy i h1).1]; simp [h1]
      · rw [List.getElem?_eq_none (by omega), List.getElem?_eq_none (by simp; omega)]
    rw [← this]
    exact ho
  · refine hd i j (y i).1 hi hj hij ?_ ?_
    · simp [blk, (hy i hi).1, Value.ownBlock]
    · simp [blk, (hy j hj).1, Value.ownBlock]
      exact e.symm

theorem OwMD.toM (h : OwMD w B T E g D C n cap M) : OwM w B T E (some ⟨g, 0, none⟩) n cap M := by
  refine ⟨h.len_eq, _, h.outer, fun k hk => ⟨_, _, by simp [hk], h.rows k hk⟩, fun i j b hi hj hij e e2 => ?_⟩
  simp [blk, hi, hj, Value.ownBlock] at e e2
  exact h.inj i j hi hj hij (e.trans e2.symm)

theorem OwMD.cellO (h : OwMD w B T E g D C n cap M) {i : Nat} (hi : i < n) : w.cell? ⟨g, i, none⟩ = some (.slice (some ⟨D i, 0, none⟩) (rowOf M i).length (C i)) := by
  rw [h.outer.cellAt i (by omega)]; simp [hi]
theorem OwMD.frozenO (h : OwMD w B T E g D C n cap M) (i : Nat) : w.frozen? ⟨g, i, none⟩ = false := h.outer.frozenAt i
theorem OwMD.cellI (h : OwMD w B T E g D C n cap M) {i j : Nat} (hi : i < n) (hj : j < (rowOf M i).length) : w.cell? ⟨D i, j, none⟩ = some (.int .i64 (en M i j)) := by
  obtain ⟨b, hb, _, _, hc, _⟩ := (h.rows i hi).at (by omega)
  injection hb with hb
  injection hb with hb
  rw [hb]; exact hc j hj
theorem OwMD.frozenI (h : OwMD w B T E g D C n cap M) {i : Nat} (hi : i < n) (hp : 0 < (rowOf M i).length) (j : Nat) : w.frozen? ⟨D i, j, none⟩ = false := by
  obtain ⟨b, hb, _, _, _, hf⟩ := (h.rows i hi).at hp
  injection hb with hb
  injection hb with hb
  rw [hb]; exact hf j
theorem OwMD.lowO (h : OwMD w B T E g D C n cap M) : B ≤ g ∧ g < w.heap.size := h.outer.lt g rfl
theorem OwMD.lowI (h : OwMD w B T E g D C n cap M) {i : Nat} (hi : i < n) : B ≤ D i ∧ D i < w.heap.size := (h.rows i hi).own.lt _ rfl
theorem OwMD.neO (h : OwMD w B T E g D C n cap M) (hne : T ≠ E) {i : Nat} (hi : i < n) : D i ≠ g := by
  intro e
  have := own_ne hne h.outer (h.rows i hi).own (b := g) rfl
  exact this (by rw [← e]; rfl)

theorem OwMD.below (h : OwMD w B T E g D C n cap M) (hb : Below w.heap.size w w') : OwMD w' B T E g D C n cap M :=
  ⟨h.len_eq, h.outer.kept (row := none) ⟨hb.os, hb.tape, hb.output, hb.size, fun k hk _ => hb.block k hk⟩ (.inr (by simp [Value.ownBlock])), fun i hi => (h.rows i hi).below hb, h.inj⟩
theorem OwMD.drew (h : OwMD w B T E g D C n cap M) : OwMD w.drew B T E g D C n cap M := h.below (Below.refl _ _).drew
theorem OwMD.drewN (h : OwMD w B T E g D C n cap M) (k : Nat) : OwMD (w.drewN k) B T E g D C n cap M := h.below (below_drewN (Below.refl _ _) k)
theorem OwMD.alloc (h : OwMD w B T E g D C n cap M) (o : Obj) : OwMD (w.alloc o) B T E g D C n cap M := h.below ((Below.refl _ _).alloc (Nat.le_refl _) o)

/-- A store of an element. -/
theorem OwMD.set (h : OwMD w B T E g D C n cap M) (hne : T ≠ E) {i j : Nat} (hi : i < n) (x : Int) : OwMD (w.setCell ⟨D i, j, none⟩ (.int .i64 x)) B T E g D C n cap (setE M i j x) := by
  refine ⟨by rw [setE_len]; exact h.len_eq, ?_, fun k hk => ?_, h.inj⟩
  · have : ((List.range n).map fun k => Value.slice (some ⟨D k, 0, none⟩) (rowOf (setE M i j x) k).length (C k)) = (List.range n).map fun k => Value.slice (some ⟨D k, 0, none⟩) (rowOf M k).length (C k) :=
      List.map_congr_left fun k _ => by rw [setE_row_len]
    rw [this]
    exact h.outer.kept (grownBy_setCell w _ _) (.inr (by simp [Value.ownBlock]; exact fun e => h.neO hne hi e.symm))
  · rw [setE_row_len]
    by_cases hik : i = k
    · subst hik
      have : rowOf (setE M i j x) i = (rowOf M i).set j x := by
        unfold setE
        rw [rowOf_set, if_pos ⟨rfl, by rw [h.len_eq]; exact hi⟩]
      rw [this]
      exact (h.rows i hi).set x
    · have : rowOf (setE M i j x) k = rowOf M k := by
        unfold setE
        rw [rowOf_set, if_neg fun h2 => hik h2.1]
      rw [this]
      exact (h.rows k hk).setElse (h.inj i k hi hk hik) _

/-- A store beside it. -/
theorem OwMD.setElse (h : OwMD w B T E g D C n cap M) {p : Addr} (hg : p.block ≠ g) (hD : ∀ i, i < n → p.block ≠ D i) (u : Value) : OwMD (w.setCell p u) B T E g D C n cap M :=
  ⟨h.len_eq, h.outer.kept (grownBy_setCell w _ _) (.inr (by simp [Value.ownBlock]; exact fun e => hg e.symm)), fun i hi => (h.rows i hi).setElse (hD i hi) _, h.inj⟩

/-- Two rows in each other's place. -/
def swapL (M : List (List Int)) (i k : Nat) : List (List Int) := (M.set i (rowOf M k)).set k (rowOf M i)
def swapF (D : Nat → Nat) (i k : Nat) : Nat → Nat := fun j => if j = k then D i else if j = i then D k else D j

theorem swapL_len (M : List (List Int)) (i k : Nat) : (swapL M i k).length = M.length := by simp [swapL]
theorem rowOf_swapL {M : List (List Int)} {i k : Nat} (hi : i < M.length) (hk : k < M.length) (j : Nat) : rowOf (swapL M i k) j = if j = k then rowOf M i else if j = i then rowOf M k else rowOf M j := by
  unfold swapL
  rw [rowOf_set, rowOf_set, List.length_set]
  by_cases h1 : j = k
  · subst h1; simp [hk]
  · by_cases h2 : j = i
    · subst h2; simp [h1, Ne.symm h1, hi]
    · simp [h1, h2, Ne.symm h1, Ne.symm h2]

theorem OwMD.swap (h : OwMD w B T E g D C n cap M) (hne : T ≠ E) {i k : Nat} (hi : i < n) (hk : k < n) :
    OwMD ((w.setCell ⟨g, i, none⟩ (.slice (some ⟨D k, 0, none⟩) (rowOf M k).length (C k))).setCell ⟨g, k, none⟩ (.slice (some ⟨D i, 0, none⟩) (rowOf M i).length (C i))) B T E g (swapF D i k) (swapF C i k) n cap (swapL M i k) := by
  have hil : i < M.length := by rw [h.len_eq]; exact hi
  have hkl : k < M.length := by rw [h.len_eq]; exact hk
  have s1 := (h.outer.stored i (.slice (some ⟨D k, 0, none⟩) (rowOf M k).length (C k))).1
  have s2 := (s1.stored k (.slice (some ⟨D i, 0, none⟩) (rowOf M i).length (C i))).1
  refine ⟨by rw [swapL_len]; exact h.len_eq, ?_, fun j hj => ?_, fun a b ha hb hab => ?_⟩
  · have : ((List.range n).map fun j => Value.slice (some ⟨swapF D i k j, 0, none⟩) (rowOf (swapL M i k) j).length (swapF C i k j)) =
        (((List.range n).map fun j => Value.slice (some ⟨D j, 0, none⟩) (rowOf M j).length (C j)).set i (.slice (some ⟨D k, 0, none⟩) (rowOf M k).length (C k))).set k (.slice (some ⟨D i, 0, none⟩) (rowOf M i).length (C i)) := by
      apply List.ext_getElem?
      intro j
      rcases Nat.lt_or_ge j n with h1 | h1
      · rw [List.getElem?_set, List.getElem?_set]
        simp only [List.length_set, List.length_map, List.length_range, List.getElem?_map]
        rw [List.getElem?_range h1]
        simp only [Option.map_some, rowOf_swapL hil hkl, swapF]
        by_cases h2 : j = k
        · subst h2; simp [h1]
        · by_cases h3 : j = i
          · subst h3; simp [h2, Ne.symm h2, h1]
          · simp [h2, h3, Ne.symm h2, Ne.symm h3]
      · rw [List.getElem?_eq_none (by simp; omega), List.getElem?_eq_none (by simp; omega)]
    rw [this]
    exact s2
  · rw [rowOf_swapL hil hkl]
    have keep : ∀ m, m < n → OwI ((w.setCell ⟨g, i, none⟩ (.slice (some ⟨D k, 0, none⟩) (rowOf M k).length (C k))).setCell ⟨g, k, none⟩ (.slice (some ⟨D i, 0, none⟩) (rowOf M i).length (C i))) B E (some ⟨D m, 0, none⟩) (rowOf M m).length (C m) (rowOf M m) :=
      fun m hm => ((h.rows m hm).setElse (h.neO hne hm).symm _).setElse (h.neO hne hm).symm _
    simp only [swapF]
    by_cases h2 : j = k
    · simp only [h2, if_true]; exact keep i hi
    · by_cases h3 : j = i
      · simp only [h3, if_true]
        by_cases h4 : i = k
        · exact absurd (h3.trans h4) h2
        · simp only [if_neg h4]; exact keep k hk
      · simp only [h2, h3, if_false]; exact keep j hj
  · simp only [swapF]
    by_cases h1 : a = k
    · subst h1
      rw [if_pos rfl, if_neg (Ne.symm hab)]
      by_cases h2 : b = i
      · subst h2; rw [if_pos rfl]; exact fun e => hab (by rcases Nat.decEq a b with h3 | h3; exact absurd e.symm (h.inj a b ha hb h3); exact h3)
      · rw [if_neg h2]; exact h.inj i b hi hb (Ne.symm h2)
    · rw [if_neg h1]
      by_cases h3 : a = i
      · subst h3
        rw [if_pos rfl]
        by_cases h2 : b = k
        · subst h2; rw [if_pos rfl]; exact h.inj b a hb ha (Ne.symm hab)
        · rw [if_neg h2, if_neg (Ne.symm hab)]; exact h.inj k b hk hb (Ne.symm h2)
      · rw [if_neg h3]
        by_cases h2 : b = k
        · subst h2; rw [if_pos rfl]; exact h.inj a i ha hi h3
        · rw [if_neg h2]
          by_cases h4 : b = i
          · subst h4; rw [if_pos rfl]; exact h.inj a k ha hk h1
          · rw [if_neg h4]; exact h.inj a b ha hb hab
end
end Go.Rk
