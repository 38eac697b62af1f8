/-
  A matrix of a call's own whose rows lie in memory that others own: append of a row that is part of another one. No program in sight.
-/
import Derived.Test.YtfocfgddlnjfmaaLib
import Derived.Test.YtfocfgddlnjfmaaMat
import Derived.Test.YtfocfgddlnjfmaaMatD
namespace Go.Rk
open Go.RowKit

/-- The outer slice is the call's own, laid since w0; the rows are as they were in w0. -/
structure AlM (w0 w : World) (T : TypeId) (a : Option Addr) (n cap : Nat) (M : List (List Int)) : Prop where
  len_eq : M.length = n
  own : ∃ vs : List Value, w.ownsRow w0.heap.size T 1 (.slice a n cap) n vs ∧ ∀ k, k < n → ∃ ar cr, vs[k]? = some (.slice ar (rowOf M k).length cr) ∧ RdI w0 ar (rowOf M k).length cr (rowOf M k)
  bel : Below w0.heap.size w0 w

section
variable {P : Program} {w0 w w' : World} {T TT E : TypeId} {a : Option Addr} {n cap : Nat} {M : List (List Int)}
theorem AlM.nil (T : TypeId) (h : Below w0.heap.size w0 w) : AlM w0 w T none 0 0 [] := ⟨rfl, ⟨[], World.ownsRow_nil w _ T 1, fun _ h => absurd h (Nat.not_lt_zero _)⟩, h⟩

theorem AlM.caps (h : AlM w0 w T a n cap M) : n ≤ cap ∧ cap ≤ maxLen := by
  obtain ⟨vs, ho, _⟩ := h.own
  rcases ho.2 with ⟨hv, h0⟩ | ⟨g, c, cur, hv, _, _, hc, hm, _⟩
  · injection hv with _ _ hc
    subst hc; subst h0
    exact ⟨Nat.le_refl _, Nat.zero_le _⟩
  · injection hv with _ _ hc'
    subst hc'
    exact ⟨hc, hm⟩

theorem AlM.rd (h : AlM w0 w T a n cap M) : RdM w a n cap M := by
  refine ⟨h.len_eq, h.caps.1, h.caps.2, fun k hk => ?_⟩
  obtain ⟨vs, ho, hr⟩ := h.own
  obtain ⟨g, c, hv, hb, hlt⟩ := ho.form (by omega)
  injection hv with ha _ hc
  subst ha; subst hc
  obtain ⟨ar, cr, hvs, hoi⟩ := hr k hk
  exact ⟨g, 0, ar, _, cr, rfl, by rw [Nat.zero_add, ho.cellAt k (by omega), hvs], hoi.below h.bel⟩

theorem AlM.below (h : AlM w0 w T a n cap M) (hb : Below w.heap.size w w') : AlM w0 w' T a n cap M := by
  obtain ⟨vs, ho, hr⟩ := h.own
  exact ⟨h.len_eq, ⟨vs, ho.kept (row := none) ⟨hb.os, hb.tape, hb.output, hb.size, fun k hk _ => hb.block k hk⟩ (by cases (Value.slice a n cap).ownBlock <;> simp), hr⟩, h.bel.trans (hb.mono h.bel.size)⟩
theorem AlM.alloc (h : AlM w0 w T a n cap M) (o : Obj) : AlM w0 (w.alloc o) T a n cap M := h.below ((Below.refl _ _).alloc (Nat.le_refl _) o)
theorem AlM.drew (h : AlM w0 w T a n cap M) : AlM w0 w.drew T a n cap M := h.below (Below.refl _ _).drew
theorem AlM.drewN (h : AlM w0 w T a n cap M) (k : Nat) : AlM w0 (w.drewN k) T a n cap M := h.below (below_drewN (Below.refl _ _) k)

/-- append(out, row): the row read in w0. -/
theorem wpList_push_alias (hT : MatTy P TT T E) {ops : Array Oper} {rest : List Oper} {o : Oper} {ac : Act} {Q : Exit → Act → World → Prop} (hgd : o.guard = none) (s x : Operand)
    (ho : o.op = .call { callee := .builtin .append, args := #[s, x], argTypes := #[TT, TT] })
    {ar : Option Addr} {blk_ c2 cr : Nat} {l : List Int} (hs : ac.eval s = .slice a n cap) (hx : ac.eval x = .slice (some ⟨blk_, 0, none⟩) 1 c2) (h : AlM w0 w T a n cap M)
    (hl : RdI w0 ar l.length cr l) (hc : w.cell? ⟨blk_, 0, none⟩ = some (.slice ar l.length cr)) (hn : (n + 1) * 24 ≤ 140737488355328)
    (hK : ∀ a' cap' w', AlM w0 w' T a' (n + 1) cap' (M ++ [l]) → wpList P ops Q rest (ac.put o.dst (.slice a' (n + 1) cap')) w') : wpList P ops Q (o :: rest) ac w := by
  obtain ⟨i, hi, hz, hs1, hby⟩ := hT.hi
  obtain ⟨vs', ho', hr'⟩ := h.own
  refine wpList_append_own w hgd s x TT ho w0.heap.size T i (.slice none 0 0) 1 24 hT.ht hi hz hs1 hby rfl (by decide) (.slice a n cap) n vs' hs ho' ⟨blk_, 0, none⟩ 1 c2 [.slice ar l.length cr] hx rfl (fun j u hu => ?_) (fun u hu => ?_) (by unfold maxLen; omega) hn h.bel.size fun v' w' h1 h2 _ => ?_
  · rcases j with _ | j
    · simp at hu
      subst hu
      have : (⟨blk_, 0, none⟩ : Addr).add 0 = ⟨blk_, 0, none⟩ := by simp [Addr.add]
      rw [this]; exact hc
    · simp at hu
  · simp at hu; subst hu; rfl
  · obtain ⟨a', cap', rfl⟩ : ∃ a' cap', v' = .slice a' (n + 1) cap' := by
      rcases h1.2 with ⟨e, h0⟩ | ⟨g, c, cur, e, _⟩
      · exact absurd h0 (by omega)
      · exact ⟨_, _, e⟩
    have hvl : vs'.length = n := by have := ho'.1; omega
    refine hK a' cap' w' ⟨by simp [h.len_eq], ⟨_, h1, fun k hk => ?_⟩, h.bel.trans ((Below.refl w0.heap.size w).grown h2 h.bel.size fun k hk => (ho'.lt k hk).1)⟩
    rcases Nat.lt_or_ge k n with h3 | h3
    · obtain ⟨ar1, cr1, e1, o1⟩ := hr' k h3
      rw [rowOf_append_left (by rw [h.len_eq]; exact h3)]
      exact ⟨ar1, cr1, by rw [List.getElem?_append_left (by omega)]; exact e1, o1⟩
    · obtain rfl : k = n := by omega
      have er : rowOf (M ++ [l]) k = l := by rw [rowOf_append_right (by rw [h.len_eq]; exact Nat.le_refl _), h.len_eq, Nat.sub_self]; rfl
      rw [er]
      exact ⟨ar, cr, by rw [List.getElem?_append_right (by omega), hvl]; simp, hl⟩

theorem rowOf_take {M : List (List Int)} {n k : Nat} (h : k < n) : rowOf (M.take n) k = rowOf M k := by
  unfold rowOf
  simp only [List.getD_eq_getElem?_getD, List.getElem?_take_of_lt h]
theorem RdM.take (h : RdM w a n cap M) {k : Nat} (hk : k ≤ n) : RdM w a k cap (M.take k) :=
  ⟨by have := h.len_eq; rw [List.length_take]; omega, Nat.le_trans hk h.le, h.max, fun j hj => by
    obtain ⟨b, off, ar, nr, cr, h1, h2, h3⟩ := h.row j (by omega)
    exact ⟨b, off, ar, nr, cr, h1, h2, by rw [rowOf_take hj]; exact h3⟩⟩
end
end Go.Rk
