/-
  mat.Turn walked: the transpose.
-/
import Derived.Test.YtkielldinghmbaaDoorRows
import Derived.Test.YtkielldinghmbaaDoorLib
import Derived.Test.YtkielldinghmbaaDoorNum
import Derived.Test.YtkielldinghmbaaDoorDetW
import Derived.Test.YtkielldinghmbaaDoorEach
import Derived.Test.YtkielldinghmbaaDoorRect
import Derived.Test.YtkielldinghmbaaDoorRound
import Derived.StillTailTactics
import Derived.Deep.QuietTactic
import Derived.BigQuiet
namespace Go.Proofs.YtkielldinghmbaaDoor
open Go.RowKit Go.Shelf Go.Rk
attribute [local go_sem] Oper.semAt_some

theorem Turn_err {a : Option Addr} {n ca : Nat} {A : List (List Int)} {w : World} {x : Int} (hA : RdM w a n ca A) (hq : groundsR 5 0 9972 A = some x) :
    Calls Tryd.prog 20 #[.slice a n ca] w fun e w' => e = .returned (.tuple #[.slice none 0 0, .iface 70 (.int .i64 x)]) ∧ w = w' := by
  have C := Lib.hid (mat_Check_is hA hq)
  clear hq
  go_enter Tryd.func20, Tryd.ntmps20
  go_wp2_with (go_at_call 18; refine C.out.mono ?_; rintro e w' ⟨rfl, rfl⟩; simp only [errV])
  go_ret2
  exact ⟨rfl, rfl⟩

set_option maxRecDepth 100000 in
set_option maxHeartbeats 4000000 in
theorem Turn_ok {a : Option Addr} {n ca c : Nat} {A : List (List Int)} {w : World} (hA : RdM w a n ca A) (hq : groundsR 5 0 9972 A = none) (dA : Dm n c A) (hn : 1 ≤ n ∧ n ≤ 5) (hc : 1 ≤ c ∧ c ≤ 5) :
    Calls Tryd.prog 20 #[.slice a n ca] w fun e w' => ∃ a' cap' P, e = .returned (.tuple #[.slice a' c cap', .nilIface]) ∧ OwM w' w.heap.size 32 3 a' c cap' P ∧ IsR c n P (fun i j => en A j i) ∧ Below w.heap.size w w' := by
  have HM := Lib.hid matTy
  have HDA := Lib.hid dA
  have C := Lib.hid (mat_Check_is hA hq)
  clear hq
  refine (callsIn_wide (n := 6)).1 ?_
  refine callsIn_of_wp_marks Tryd.func20 rfl trivial ?_ rfl
  simp only [Tryd.ntmps20, List.size_toArray, List.length_cons, List.length_nil, Nat.reduceAdd, Nat.reduceSub, Array.replicate_succ, Array.replicate_zero, List.push_toArray, List.append_toArray, List.nil_append, List.cons_append]
  refine wpIn_wide.2 ?_
  obtain ⟨bb, ob, D0, O0, C0, rfl, hbb, hD0, hGA⟩ := hA.grid dA (by omega) (by omega)
  have hc0 := hGA.hdr 0 (by omega)
  rw [Nat.add_zero] at hc0
  have b1 : (0 : Int) < (n : Int) := by omega
  have b2 : (1 : Int) ≤ (n : Int) := by omega
  go_wp2_with (first | (go_at_call 18; refine C.out.mono ?_; rintro e w' ⟨rfl, rfl⟩; simp only [errV]) | (go_at_call 64; refine (Grid_any c n _ (by omega) (by omega)).mono ?_; rintro e w3 ⟨a3, cap3, rfl, ho3, hb3⟩) | (go_at_call 65; fail))
  have k3 := hb3.alloc hb3.size (.cells #[.slice a3 c cap3] 22)
  obtain ⟨g, D, C, hz, hd3⟩ := ho3.named (by omega) fun r hr => by rw [(Dm.replicate c n 0).2 r hr]; omega
  cases hz
  have hd4 := hd3.alloc (.cells #[.slice (some ⟨g, 0, none⟩) c cap3] 22)
  have px : (w3.alloc (.cells #[.slice (some ⟨g, 0, none⟩) c cap3] 22)).cell? ⟨w3.heap.size, 0, none⟩ = some (.slice (some ⟨g, 0, none⟩) c cap3) := by simp
  clear hd3 ho3 hb3 hc0
  generalize (w3.alloc (.cells #[.slice (some ⟨g, 0, none⟩) c cap3] 22)) = W4 at *
  generalize w3.heap.size = PO at *
  refine (callsIn_wide.1 (each_in 0 (some ⟨bb, ob, none⟩) n ca W4)).mono ?_
  rintro e w' ⟨rfl, rfl⟩
  go_wp2_with fail
  refine (wpIn_wide (n := 6)).1 ?_
  have hd5 := hd4.alloc (.cells #[.slice (some ⟨bb, ob, none⟩) n ca] 22)
  have hBm : (W4.alloc (.cells #[.slice (some ⟨bb, ob, none⟩) n ca] 22)).cell? ⟨W4.heap.size, 0, none⟩ = some (.slice (some ⟨bb, ob, none⟩) n ca) := by simp
  have hBl : W4.heap.size < (W4.alloc (.cells #[.slice (some ⟨bb, ob, none⟩) n ca] 22)).heap.size := by simp
  have k5 := k3.alloc k3.size (.cells #[.slice (some ⟨bb, ob, none⟩) n ca] 22)
  have q5 := alloc_keep (o := .cells #[.slice (some ⟨bb, ob, none⟩) n ca] 22) px
  have h5w := k5.size
  have hG5 := hGA.below k5 hbb hD0
  clear px k3
  refine wpIn_rangeFunc_ownH rfl (by decide) (gf := 85) (lb := #[.pointer (some ⟨W4.heap.size, 0, none⟩)]) rfl trivial (enters_of Tryd.func85 (by kernel_rfl) rfl)
    (each_stops 5 (cap := ca) (by omega) (by omega) _ hBm hBl hG5 (Nat.lt_of_lt_of_le hbb h5w) (fun r hr => Nat.lt_of_lt_of_le (hD0 r hr) h5w)) (fun h h' g => h' (h g)) (fun W l o o' _ h1 h2 _ g => g.passes (grownBy_putObj' W l o') (fun r e => by cases e; exact ⟨o, h1, h2⟩)) (Below.refl _ _) (fun _ => rfl)
    (fun pre W => (∃ P, OwMD W w.heap.size 32 3 g D C c cap3 P ∧ Dm c n P ∧ ∀ p ∈ plcs pre, en P p.2 p.1 = en A p.1 p.2) ∧ W.cell? ⟨PO, 0, none⟩ = some (.slice (some ⟨g, 0, none⟩) c cap3) ∧ Below w.heap.size w W)
    (fun _ _ _ => False)
    (fun s X Y row hs hgr hr => ⟨let ⟨P, e1, e2, e3⟩ := hs.1; ⟨P, e1.passes hgr (fun r e => (hr r e).2), e2, e3⟩, cell_kept hs.2.1 hgr (fun r e => (hr r e).2), hs.2.2.grown hgr hs.2.2.size (fun r e => Nat.le_trans h5w (hr r e).1)⟩)
    (fun _ _ _ _ _ hs _ _ => hs)
    ⟨⟨_, hd5, Dm.replicate c n 0, fun p hp => by cases hp⟩, q5, k5⟩
    (fun x a' W => ∃ Bx, W.cell? ⟨Bx, 0, none⟩ = some (.int .i64 (x.1.1 : Int)) ∧ W.cell? ⟨Bx, 1, none⟩ = some (.int .i64 (x.1.2.1 : Int)) ∧ a' = { tmps := #[Value.slice (some { block := bb, off := ob }) n ca, undef, Value.slice none 0 0, Value.nilIface, Value.nilIface, Value.pointer (some { block := PO, off := 0 }), Value.pointer (some { block := Bx, off := 0 }), .int .i64 x.1.2.2, Value.slice (some { block := bb, off := ob }) n ca, Value.nilIface, Value.nilIface, Value.bool false, undef, Value.slice (some { block := bb, off := ob }) n ca, Value.pointer (some { block := bb, off := ob }), Value.slice (some { block := D0 0, off := O0 0 }) c (C0 0), Value.int IntKind.i64 ↑c, Value.slice (some { block := bb, off := ob }) n ca, Value.int IntKind.i64 ↑n, Value.slice (some { block := g, off := 0 }) c cap3, Value.slice (some { block := bb, off := ob }) n ca, Value.func (.func 85) #[] #[Value.pointer (some { block := W4.heap.size, off := 0 })], .agg #[.int .i64 (x.1.1 : Int), .int .i64 (x.1.2.1 : Int)], .int .i64 x.1.2.2, undef, undef, undef, undef, undef, undef, undef, undef, undef, undef], defers := [] })
    (fun x a' _ X Y row hs hgr hr => let ⟨Bx, e1, e2, e3⟩ := hs; ⟨Bx, cell_kept e1 hgr (fun r e => (hr r e).2), cell_kept e2 hgr (fun r e => (hr r e).2), e3⟩)
    ?assign ?body ?done ?stop
  case assign =>
    rintro l pre x W K ⟨⟨P, e1, e2, e3⟩, c3, hbW⟩ hK
    dsimp only [encP]
    gi_wp2
    exact hK _ _ ((KeepsOthers.alloc _ _).from _) (fun g => g.fresh ((Below.refl _ _).alloc (Nat.le_refl _) _)) ⟨⟨P, e1.alloc _, e2, e3⟩, alloc_keep c3, hbW.alloc hbW.size _⟩ ⟨W.heap.size, by simp, by simp, rfl⟩
  case body =>
    rintro l pre ⟨⟨i, j, v⟩, hi, hj, hv⟩ a' W hl ⟨r, hr⟩ ⟨⟨P, e1, e2, e3⟩, c3, hbW⟩ ⟨Bx, y1, y2, rfl⟩ hlt
    clear hBm hBl q5 hd4 hd5
    dsimp only at y1 y2 hi hj hv ⊢
    have a1 := e1.cellO hj
    have a2 := e1.cellI hj (j := i) (by rw [e2.2 j hj]; exact hi)
    have a3 := e1.frozenI hj (by rw [e2.2 j hj]; omega) i
    rw [e2.2 j hj] at a1
    have i1 : (i : Int) < (n : Int) := by omega
    have i2 : (j : Int) < (c : Int) := by omega
    gi_wp2
    refine region_round_tail 9 (by kernel_rfl) (by kernel_rfl) (fun ⟨_, _, h⟩ => h) (by kernel_rfl) ?_
    simp only [List.take_succ_cons, List.take_zero, List.drop_succ_cons, List.drop_zero]
    repeat still_step
    refine wpStill_nil ?_
    change wpList _ _ _ _ _ W.drew
    go_wp2
    refine ⟨((KeepsOthers.setCell _ _ _).trans (KeepsOthers.drew _)).from _, fun g => g.below (((Below.refl w.heap.size W).setCell (p := ⟨D j, i, none⟩) (e1.lowI hj).1 _).drew) hbb hD0, ⟨_, (e1.set matTy.ne hj _).drew, e2.setE _ _ _, fun p hp => ?_⟩, set_keepS c3 a2, (hbW.setCell (p := ⟨D j, i, none⟩) (e1.lowI hj).1 _).drew⟩
    rw [plcs_snoc] at hp
    have hpl : p.1 < n ∧ p.2 < c := by
      rcases List.mem_append.1 hp with h | h
      · exact plcs_in h
      · cases List.mem_singleton.1 h
        exact ⟨hi, hj⟩
    rw [e2.en_set _ hpl.2 hpl.1]
    split
    · next h => rw [← h.1, ← h.2]
    · next h =>
      rcases List.mem_append.1 hp with h2 | h2
      · exact e3 p h2
      · cases List.mem_singleton.1 h2
        exact absurd ⟨rfl, rfl⟩ h
  case done =>
    rintro Dd ys W hDd hS ⟨⟨P, e1, e2, e3⟩, c3, hbW⟩ hK
    go_wp2
    refine ⟨by simp, .inl ⟨_, _, rfl, run_takeDeferred hK, ?_⟩⟩
    have hgr := grownBy_putObj' W Dd (.deferred none)
    have hno : ∀ r, some Dd = some r → ∃ o : Obj, W.heap[r]? = some o ∧ o.isCells = false := fun r e => by cases e; exact ⟨_, hK, rfl⟩
    exact ⟨_, results_tmp2 rfl _ _ _, _, _, P, rfl, (e1.passes hgr hno).toM, ⟨e2, fun i j hi hj => e3 (j, i) (by rw [hS]; exact locs_mem hj hi)⟩, hbW.grown hgr hbW.size (fun r e => by cases e; exact Nat.le_trans h5w hDd)⟩
  case stop =>
    rintro D c pre W _ _ h _
    exact h.elim
end Go.Proofs.YtkielldinghmbaaDoor
