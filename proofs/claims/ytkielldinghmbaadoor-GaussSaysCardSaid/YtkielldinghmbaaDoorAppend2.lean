/-
  append onto a slice of the call's own: where what comes of it lies: in the same block, or in a new one. No program in sight.
-/
import Derived.Test.YtkielldinghmbaaDoorLib
import Derived.Test.YtkielldinghmbaaDoorMat
import Derived.Test.YtkielldinghmbaaDoorMatD
namespace Go.Rk
open Go.RowKit

section
variable {P : Program} {T E : TypeId} {B : Nat} {w : World}
theorem run_push_fresh (hT : IntTy P T E) (ty : TypeId) {a : Option Addr} {n cap blk c2 : Nat} {l : List Int} {z : Int} (hown : OwI w B E a n cap l) (hc : w.cell? ⟨blk, 0, none⟩ = some (.int .i64 z)) (hc2 : 1 ≤ c2) (hm2 : c2 ≤ maxLen)
    (hn : (n + 1) * 8 ≤ 140737488355328) (hB : B ≤ w.heap.size) :
    ∃ a' cap' w', (Builtin.append_ #[T, T] ty #[.slice a n cap, .slice (some ⟨blk, 0, none⟩) 1 c2]).run P w = .ok (.slice a' (n + 1) cap') w' ∧ OwI w' B E a' (n + 1) cap' (l ++ [z]) ∧ w.grownBy w' (Value.slice a n cap).ownBlock ∧
      ∀ b, (Value.slice a' (n + 1) cap').ownBlock = some b → some b = (Value.slice a n cap).ownBlock ∨ w.heap.size ≤ b := by
  have hr := RdI.one hc hc2 hm2
  obtain ⟨a', cap', w', hrun, h2, h3⟩ := run_append_ints (ty := ty) hT hown hr hn hB
  refine ⟨a', cap', w', hrun, h2, h3, fun b hb => ?_⟩
  obtain ⟨i, hi, hz, hs, hby⟩ := hT.hi
  rcases hown.own.2 with ⟨hv, h0⟩ | ⟨g, c, cur, hv, _, hg, hnc, hcm, hcs, htake⟩
  · injection hv with v1 v2 v3
    subst v1; subst v2; subst v3
    obtain rfl : l = [] := List.eq_nil_of_length_eq_zero hown.len_eq
    obtain ⟨a2, cap2, w2, hrun2, h4, _⟩ := run_append_ints (ty := ty) (B := w.heap.size) hT (OwI.nil w w.heap.size E) hr hn (Nat.le_refl _)
    rw [hrun] at hrun2
    injection hrun2 with e1 e2
    injection e1 with e3 _ e4
    subst e3
    subst e4
    exact .inr (h4.own.lt b (by rw [← hb])).1
  · injection hv with v1 v2 v3
    subst v1; subst v3
    by_cases hroom : n + 1 ≤ cap
    · have h5 := run_append_room (P := P) w T ty E i hT.ht hi g n cap cur hg ⟨blk, 0, none⟩ 1 c2 [.int .i64 z] (by rw [hs]; rfl) (by simpa using rd_cells hr) (oneCell_ints [z]) hroom (by rw [hs, hcs]; simp; omega)
      rw [hrun] at h5
      injection h5 with e1 e2
      injection e1 with e3 _ _
      subst e3
      exact .inl hb.symm
    · have holds : ∀ j u, (l.map (Value.int .i64))[j]? = some u → w.cell? ((⟨g, 0, none⟩ : Addr).add j) = some u := hown.own.cells (g := g) rfl
      have h5 := run_append_grow (P := P) w T ty E i (.int .i64 0) hT.ht hi hz ⟨g, 0, none⟩ n cap (l.map (Value.int .i64)) (by rw [hs]; simp [hown.len_eq]) holds ⟨blk, 0, none⟩ 1 c2 [.int .i64 z] (by rw [hs]; rfl) (by simpa using rd_cells hr) (by omega) (by omega) (growslice_fits (by omega) (by rw [hby]; exact hn))
      rw [hrun] at h5
      injection h5 with e1 e2
      injection e1 with e3 _ _
      subst e3
      right
      injection hb with hb
      rw [← hb]
      exact Nat.le_refl _

/-- append(s, z), and where it lies. -/
theorem wpList_push_int2 (hT : IntTy P T E) {ops : Array Oper} {rest : List Oper} {o : Oper} {ac : Act} {Q : Exit → Act → World → Prop} (hgd : o.guard = none) (s x : Operand)
    (ho : o.op = .call { callee := .builtin .append, args := #[s, x], argTypes := #[T, T] })
    {a : Option Addr} {n cap blk c2 : Nat} {l : List Int} {z : Int} (hs : ac.eval s = .slice a n cap) (hx : ac.eval x = .slice (some ⟨blk, 0, none⟩) 1 c2) (hown : OwI w B E a n cap l)
    (hc : w.cell? ⟨blk, 0, none⟩ = some (.int .i64 z)) (hc2 : 1 ≤ c2) (hm2 : c2 ≤ maxLen) (hn : (n + 1) * 8 ≤ 140737488355328) (hB : B ≤ w.heap.size)
    (h : ∀ a' cap' w', OwI w' B E a' (n + 1) cap' (l ++ [z]) → w.grownBy w' (Value.slice a n cap).ownBlock → (∀ b, (Value.slice a' (n + 1) cap').ownBlock = some b → some b = (Value.slice a n cap).ownBlock ∨ w.heap.size ≤ b) → wpList P ops Q rest (ac.put o.dst (.slice a' (n + 1) cap')) w') : wpList P ops Q (o :: rest) ac w := by
  refine wpList_plain hgd fun K hK => ?_
  obtain ⟨a', cap', w', hrun, h2, h3, h4⟩ := run_push_fresh (ty := o.type) hT hown hc hc2 hm2 hn hB
  unfold Oper.wp execOp
  simp only [ho, resolve, invoke, builtin, Sem.run_bind, Sem.run_pure, Result.andThen_ok, List.map_toArray, List.map_cons, List.map_nil, hs, hx, hrun]
  exact hK _ _ (h a' cap' w' h2 h3 h4)
/-- The same as one step of a region that draws its order. -/
theorem step_push_int2 (hT : IntTy P T E) {ops : Array Oper} {o : Oper} {ac : Act} {K : Act → World → Prop} {Q : Exit → Act → World → Prop} {F : Prop} (hgd : o.guard = none) (s x : Operand)
    (ho : o.op = .call { callee := .builtin .append, args := #[s, x], argTypes := #[T, T] })
    {a : Option Addr} {n cap blk c2 : Nat} {l : List Int} {z : Int} (hs : ac.eval s = .slice a n cap) (hx : ac.eval x = .slice (some ⟨blk, 0, none⟩) 1 c2) (hown : OwI w B E a n cap l)
    (hc : w.cell? ⟨blk, 0, none⟩ = some (.int .i64 z)) (hc2 : 1 ≤ c2) (hm2 : c2 ≤ maxLen) (hn : (n + 1) * 8 ≤ 140737488355328) (hB : B ≤ w.heap.size)
    (h : ∀ a' cap' w', OwI w' B E a' (n + 1) cap' (l ++ [z]) → w.grownBy w' (Value.slice a n cap).ownBlock → (∀ b, (Value.slice a' (n + 1) cap').ownBlock = some b → some b = (Value.slice a n cap).ownBlock ∨ w.heap.size ≤ b) → K (ac.put o.dst (.slice a' (n + 1) cap')) w') :
    if Region.wanted o (yielded ops ac.tmps) = true then Oper.wp P o ac w K Q else F := by
  have hw : Region.wanted o (yielded ops ac.tmps) = true := by simp [Region.wanted, hgd]
  rw [if_pos hw]
  obtain ⟨a', cap', w', hrun, h2, h3, h4⟩ := run_push_fresh (ty := o.type) hT hown hc hc2 hm2 hn hB
  unfold Oper.wp execOp
  simp only [ho, resolve, invoke, builtin, Sem.run_bind, Sem.run_pure, Result.andThen_ok, List.map_toArray, List.map_cons, List.map_nil, hs, hx, hrun]
  exact h a' cap' w' h2 h3 h4
end
end Go.Rk
