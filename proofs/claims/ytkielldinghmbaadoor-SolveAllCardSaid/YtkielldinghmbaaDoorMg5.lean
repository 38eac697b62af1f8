/-
  mat.Turn walked: the transpose.
  mat.mul walked: the product of two matrices that go together.
  num.First of two; mat.Add and mat.Mul walked.
  DetMul walked: the determinant of a product is the product; turned a matrix has the same.
-/
import Derived.Test.YtkielldinghmbaaDoorRows
import Derived.StillTailTactics
import Derived.Deep.QuietTactic
import Derived.BigQuiet
import Derived.Deep.RegionHeld3
import Derived.Test.YtkielldinghmbaaDoorMg0
import Derived.Test.YtkielldinghmbaaDoorMg1
import Derived.Test.YtkielldinghmbaaDoorMg2
import Derived.Test.YtkielldinghmbaaDoorMg3
import Derived.Test.YtkielldinghmbaaDoorMg4
namespace Go.Proofs.YtkielldinghmbaaDoor
open Go.RowKit Go.Shelf Go.Rk
attribute [local go_sem] Oper.semAt_some

theorem Turn_err {a : Option Addr} {n ca : Nat} {A : List (List Int)} {w : World} {x : Int} (hA : RdM w a n ca A) (hq : groundsR 5 0 9972 A = some x) :
    Calls Tryd.prog 20 #[.slice a n ca] w fun e w' => e = .returned (.tuple #[.slice none 0 0, .iface 70 (.int .i64 x)]) ∧ w = w' := by
  have C := Lib.hid (mat_Check_is hA hq)
  clear hq
  go_enter Tryd.func20, Tryd.ntmps20
  go_wp2_with (go_at_call 18; refine C.out.mono ?_; rintro e w' ⟨rfl, rfl⟩; simp only [errV])
  go_ret2
  exact ⟨rfl, rfl⟩

set_option maxRecDepth 100000 in
set_option maxHeartbeats 4000000 in
theorem Turn_ok {a : Option Addr} {n ca c : Nat} {A : List (List Int)} {w : World} (hA : RdM w a n ca A) (hq : groundsR 5 0 9972 A = none) (dA : Dm n c A) (hn : 1 ≤ n ∧ n ≤ 5) (hc : 1 ≤ c ∧ c ≤ 5) :
    Calls Tryd.prog 20 #[.slice a n ca] w fun e w' => ∃ a' cap' P, e = .returned (.tuple #[.slice a' c cap', .nilIface]) ∧ OwM w' w.heap.size 32 3 a' c cap' P ∧ IsR c n P (fun i j => en A j i) ∧ Below w.heap.size w w' := by
  have HM := Lib.hid matTy
  have HDA := Lib.hid dA
  have C := Lib.hid (mat_Check_is hA hq)
  clear hq
  refine (callsIn_wide (n := 6)).1 ?_
  refine callsIn_of_wp_marks Tryd.func20 rfl trivial ?_ rfl
  simp only [Tryd.ntmps20, List.size_toArray, List.length_cons, List.length_nil, Nat.reduceAdd, Nat.reduceSub, Array.replicate_succ, Array.replicate_zero, List.push_toArray, List.append_toArray, List.nil_append, List.cons_append]
  refine wpIn_wide.2 ?_
  obtain ⟨bb, ob, D0, O0, C0, rfl, hbb, hD0, hGA⟩ := hA.grid dA (by omega) (by omega)
  have hc0 := hGA.hdr 0 (by omega)
  rw [Nat.add_zero] at hc0
  have b1 : (0 : Int) < (n : Int) := by omega
  have b2 : (1 : Int) ≤ (n : Int) := by omega
  go_wp2_with (first | (go_at_call 18; refine C.out.mono ?_; rintro e w' ⟨rfl, rfl⟩; simp only [errV]) | (go_at_call 64; refine (Grid_any c n _ (by omega) (by omega)).mono ?_; rintro e w3 ⟨a3, cap3, rfl, ho3, hb3⟩) | (go_at_call 65; fail))
  have k3 := hb3.alloc hb3.size (.cells #[.slice a3 c cap3] 22)
  obtain ⟨g, D, C, hz, hd3⟩ := ho3.named (by omega) fun r hr => by rw [(Dm.replicate c n 0).2 r hr]; omega
  cases hz
  have hd4 := hd3.alloc (.cells #[.slice (some ⟨g, 0, none⟩) c cap3] 22)
  have px : (w3.alloc (.cells #[.slice (some ⟨g, 0, none⟩) c cap3] 22)).cell? ⟨w3.heap.size, 0, none⟩ = some (.slice (some ⟨g, 0, none⟩) c cap3) := by simp
  clear hd3 ho3 hb3 hc0
  generalize (w3.alloc (.cells #[.slice (some ⟨g, 0, none⟩) c cap3] 22)) = W4 at *
  generalize w3.heap.size = PO at *
  refine (callsIn_wide.1 (each_in 0 (some ⟨bb, ob, none⟩) n ca W4)).mono ?_
  rintro e w' ⟨rfl, rfl⟩
  go_wp2_with fail
  refine (wpIn_wide (n := 6)).1 ?_
  have hd5 := hd4.alloc (.cells #[.slice (some ⟨bb, ob, none⟩) n ca] 22)
  have hBm : (W4.alloc (.cells #[.slice (some ⟨bb, ob, none⟩) n ca] 22)).cell? ⟨W4.heap.size, 0, none⟩ = some (.slice (some ⟨bb, ob, none⟩) n ca) := by simp
  have hBl : W4.heap.size < (W4.alloc (.cells #[.slice (some ⟨bb, ob, none⟩) n ca] 22)).heap.size := by simp
  have k5 := k3.alloc k3.size (.cells #[.slice (some ⟨bb, ob, none⟩) n ca] 22)
  have q5 := alloc_keep (o := .cells #[.slice (some ⟨bb, ob, none⟩) n ca] 22) px
  have h5w := k5.size
  have hG5 := hGA.below k5 hbb hD0
  clear px k3
  refine wpIn_rangeFunc_ownH rfl (by decide) (gf := 85) (lb := #[.pointer (some ⟨W4.heap.size, 0, none⟩)]) rfl trivial (enters_of Tryd.func85 (by kernel_rfl) rfl)
    (each_stops 5 (cap := ca) (by omega) (by omega) _ hBm hBl hG5 (Nat.lt_of_lt_of_le hbb h5w) (fun r hr => Nat.lt_of_lt_of_le (hD0 r hr) h5w)) (fun h h' g => h' (h g)) (fun W l o o' _ h1 h2 _ g => g.passes (grownBy_putObj' W l o') (fun r e => by cases e; exact ⟨o, h1, h2⟩)) (Below.refl _ _) (fun _ => rfl)
    (fun pre W => (∃ P, OwMD W w.heap.size 32 3 g D C c cap3 P ∧ Dm c n P ∧ ∀ p ∈ plcs pre, en P p.2 p.1 = en A p.1 p.2) ∧ W.cell? ⟨PO, 0, none⟩ = some (.slice (some ⟨g, 0, none⟩) c cap3) ∧ Below w.heap.size w W)
    (fun _ _ _ => False)
    (fun s X Y row hs hgr hr => ⟨let ⟨P, e1, e2, e3⟩ := hs.1; ⟨P, e1.passes hgr (fun r e => (hr r e).2), e2, e3⟩, cell_kept hs.2.1 hgr (fun r e => (hr r e).2), hs.2.2.grown hgr hs.2.2.size (fun r e => Nat.le_trans h5w (hr r e).1)⟩)
    (fun _ _ _ _ _ hs _ _ => hs)
    ⟨⟨_, hd5, Dm.replicate c n 0, fun p hp => by cases hp⟩, q5, k5⟩
    (fun x a' W => ∃ Bx, W.cell? ⟨Bx, 0, none⟩ = some (.int .i64 (x.1.1 : Int)) ∧ W.cell? ⟨Bx, 1, none⟩ = some (.int .i64 (x.1.2.1 : Int)) ∧ a' = { tmps := #[Value.slice (some { block := bb, off := ob }) n ca, undef, Value.slice none 0 0, Value.nilIface, Value.nilIface, Value.pointer (some { block := PO, off := 0 }), Value.pointer (some { block := Bx, off := 0 }), .int .i64 x.1.2.2, Value.slice (some { block := bb, off := ob }) n ca, Value.nilIface, Value.nilIface, Value.bool false, undef, Value.slice (some { block := bb, off := ob }) n ca, Value.pointer (some { block := bb, off := ob }), Value.slice (some { block := D0 0, off := O0 0 }) c (C0 0), Value.int IntKind.i64 ↑c, Value.slice (some { block := bb, off := ob }) n ca, Value.int IntKind.i64 ↑n, Value.slice (some { block := g, off := 0 }) c cap3, Value.slice (some { block := bb, off := ob }) n ca, Value.func (.func 85) #[] #[Value.pointer (some { block := W4.heap.size, off := 0 })], .agg #[.int .i64 (x.1.1 : Int), .int .i64 (x.1.2.1 : Int)], .int .i64 x.1.2.2, undef, undef, undef, undef, undef, undef, undef, undef, undef, undef], defers := [] })
    (fun x a' _ X Y row hs hgr hr => let ⟨Bx, e1, e2, e3⟩ := hs; ⟨Bx, cell_kept e1 hgr (fun r e => (hr r e).2), cell_kept e2 hgr (fun r e => (hr r e).2), e3⟩)
    ?assign ?body ?done ?stop
  case assign =>
    rintro l pre x W K ⟨⟨P, e1, e2, e3⟩, c3, hbW⟩ hK
    dsimp only [encP]
    gi_wp2
    exact hK _ _ ((KeepsOthers.alloc _ _).from _) (fun g => g.fresh ((Below.refl _ _).alloc (Nat.le_refl _) _)) ⟨⟨P, e1.alloc _, e2, e3⟩, alloc_keep c3, hbW.alloc hbW.size _⟩ ⟨W.heap.size, by simp, by simp, rfl⟩
  case body =>
    rintro l pre ⟨⟨i, j, v⟩, hi, hj, hv⟩ a' W hl ⟨r, hr⟩ ⟨⟨P, e1, e2, e3⟩, c3, hbW⟩ ⟨Bx, y1, y2, rfl⟩ hlt
    clear hBm hBl q5 hd4 hd5
    dsimp only at y1 y2 hi hj hv ⊢
    have a1 := e1.cellO hj
    have a2 := e1.cellI hj (j := i) (by rw [e2.2 j hj]; exact hi)
    have a3 := e1.frozenI hj (by rw [e2.2 j hj]; omega) i
    rw [e2.2 j hj] at a1
    have i1 : (i : Int) < (n : Int) := by omega
    have i2 : (j : Int) < (c : Int) := by omega
    gi_wp2
    refine region_round_tail 9 (by kernel_rfl) (by kernel_rfl) (fun ⟨_, _, h⟩ => h) (by kernel_rfl) ?_
    simp only [List.take_succ_cons, List.take_zero, List.drop_succ_cons, List.drop_zero]
    repeat still_step
    refine wpStill_nil ?_
    change wpList _ _ _ _ _ W.drew
    go_wp2
    refine ⟨((KeepsOthers.setCell _ _ _).trans (KeepsOthers.drew _)).from _, fun g => g.below (((Below.refl w.heap.size W).setCell (p := ⟨D j, i, none⟩) (e1.lowI hj).1 _).drew) hbb hD0, ⟨_, (e1.set matTy.ne hj _).drew, e2.setE _ _ _, fun p hp => ?_⟩, set_keepS c3 a2, (hbW.setCell (p := ⟨D j, i, none⟩) (e1.lowI hj).1 _).drew⟩
    rw [plcs_snoc] at hp
    have hpl : p.1 < n ∧ p.2 < c := by
      rcases List.mem_append.1 hp with h | h
      · exact plcs_in h
      · cases List.mem_singleton.1 h
        exact ⟨hi, hj⟩
    rw [e2.en_set _ hpl.2 hpl.1]
    split
    · next h => rw [← h.1, ← h.2]
    · next h =>
      rcases List.mem_append.1 hp with h2 | h2
      · exact e3 p h2
      · cases List.mem_singleton.1 h2
        exact absurd ⟨rfl, rfl⟩ h
  case done =>
    rintro Dd ys W hDd hS ⟨⟨P, e1, e2, e3⟩, c3, hbW⟩ hK
    go_wp2
    refine ⟨by simp, .inl ⟨_, _, rfl, run_takeDeferred hK, ?_⟩⟩
    have hgr := grownBy_putObj' W Dd (.deferred none)
    have hno : ∀ r, some Dd = some r → ∃ o : Obj, W.heap[r]? = some o ∧ o.isCells = false := fun r e => by cases e; exact ⟨_, hK, rfl⟩
    exact ⟨_, results_tmp2 rfl _ _ _, _, _, P, rfl, (e1.passes hgr hno).toM, ⟨e2, fun i j hi hj => e3 (j, i) (by rw [hS]; exact locs_mem hj hi)⟩, hbW.grown hgr hbW.size (fun r e => by cases e; exact Nat.le_trans h5w hDd)⟩
  case stop =>
    rintro D c pre W _ _ h _
    exact h.elim
end Go.Proofs.YtkielldinghmbaaDoor
namespace Go.Proofs.YtkielldinghmbaaDoor
open Go.RowKit Go.Shelf Go.Rk
attribute [local go_sem] Oper.semAt_some

/-- An element of the product. -/
def mulE (A B : List (List Int)) (k i j : Nat) : Int := sumTo (fun t => en A i t * en B t j) k

theorem mulE_le {A B : List (List Int)} {n k c t i j : Nat} (eA : EntR 0 9972 n k A) (eB : EntR 0 9972 k c B) (ht : t ≤ k) (hi : i < n) (hj : j < c) : 0 ≤ mulE A B t i j ∧ mulE A B t i j ≤ 99440784 * t := by
  induction t with
  | zero => exact ⟨Int.le_refl _, Int.le_refl _⟩
  | succ t ih =>
    have h := ih (by omega)
    have m1 := eA i t hi (by omega)
    have m2 := eB t j (by omega) hj
    have m3 : 0 ≤ en A i t * en B t j ∧ en A i t * en B t j ≤ 9972 * 9972 := ⟨Int.mul_nonneg m1.1 m2.1, Int.mul_le_mul m1.2 m2.2 m2.1 (by omega)⟩
    unfold mulE at h ⊢
    rw [sumTo]
    omega

set_option maxRecDepth 100000 in
set_option maxHeartbeats 4000000 in
theorem mul_any {a b : Option Addr} {n k c ca cb : Nat} {A B : List (List Int)} {w : World} (hA : RdM w a n ca A) (hB : RdM w b k cb B) (dA : Dm n k A) (dB : Dm k c B) (eA : EntR 0 9972 n k A) (eB : EntR 0 9972 k c B)
    (hn : 1 ≤ n ∧ n ≤ 100) (hk : 1 ≤ k ∧ k ≤ 100) (hc : 1 ≤ c ∧ c ≤ 100) :
    Calls Tryd.prog 69 #[.slice a n ca, .slice b k cb] w fun e w' => ∃ a' cap' P, e = .returned (.slice a' n cap') ∧ OwM w' w.heap.size 32 3 a' n cap' P ∧ IsR n c P (fun i j => mulE A B k i j % 9973) ∧ Below w.heap.size w w' := by
  have HM := Lib.hid matTy
  have HDA := Lib.hid dA
  have HDB := Lib.hid dB
  have HEA := Lib.hid eA
  have HEB := Lib.hid eB
  clear dA dB eA eB
  refine (callsIn_wide (n := 6)).1 ?_
  refine callsIn_of_wp_marks Tryd.func69 rfl trivial ?_ rfl
  simp only [Tryd.ntmps69, List.size_toArray, List.length_cons, List.length_nil, Nat.reduceAdd, Nat.reduceSub, Array.replicate_succ, Array.replicate_zero, List.push_toArray, List.append_toArray, List.nil_append, List.cons_append]
  refine wpIn_wide.2 ?_
  go_wp2
  have k2 : Below w.heap.size w ((w.alloc (.cells #[.slice a n ca] 22)).alloc (.cells #[.slice b k cb] 22)) := ((Below.refl _ w).alloc (Nat.le_refl _) _).alloc (by simp) _
  have s2 : ((w.alloc (.cells #[.slice a n ca] 22)).alloc (.cells #[.slice b k cb] 22)).heap.size = w.heap.size + 2 := by simp
  have p1 : ((w.alloc (.cells #[.slice a n ca] 22)).alloc (.cells #[.slice b k cb] 22)).cell? ⟨w.heap.size, 0, none⟩ = some (.slice a n ca) := by simp
  have p2 : ((w.alloc (.cells #[.slice a n ca] 22)).alloc (.cells #[.slice b k cb] 22)).cell? ⟨w.heap.size + 1, 0, none⟩ = some (.slice b k cb) := by simp
  generalize ((w.alloc (.cells #[.slice a n ca] 22)).alloc (.cells #[.slice b k cb] 22)) = w2 at *
  have s3 : w.heap.size + 1 < w2.heap.size := by omega
  have S2 := Lib.hid s2
  clear s2
  have hA2 := hA.below k2
  have hB2 := hB.below k2
  obtain ⟨bb, ob, rfl, hbb, hrb⟩ := hB2.at (k := 0) (by omega)
  obtain ⟨ar, cr, hc0, _⟩ := hrb 0 (by omega)
  rw [HDB.out.2 0 (by omega), Nat.add_zero] at hc0
  have b1 : (0 : Int) < (k : Int) := by omega
  have b2 : (1 : Int) ≤ (k : Int) := by omega
  have b3 : 0 < k := by omega
  go_region_held3 (fun w' => w'.cell? ⟨w.heap.size, 0, none⟩ = some (.slice a n ca) ∧ w'.cell? ⟨w.heap.size + 1, 0, none⟩ = some (.slice (some ⟨bb, ob, none⟩) k cb) ∧ w'.cell? ⟨bb, ob, none⟩ = some (.slice ar c cr))
    (((try go_split_ands); (try dsimp only); (repeat' (apply And.intro)); all_goals (first | assumption | (refine alloc_keep ?_; assumption) | (refine hb3.keep ?_ ?_ <;> (first | assumption | (refine alloc_keep ?_; assumption) | (simp; omega))) | (refine alloc_keep ?_; refine hb3.keep ?_ ?_ <;> (first | assumption | (refine alloc_keep ?_; assumption) | (simp; omega))) | (refine set_keep ?_ ?_; (first | assumption | (refine hb3.keep ?_ ?_ <;> (first | assumption | (refine alloc_keep ?_; assumption) | (simp; omega)))); (first | (simp; omega) | omega)) | (go_keep; done))))
    (first | (go_at_call 64; refine (Grid_any n c _ (by omega) (by omega)).mono ?_; rintro e w3 ⟨a3, cap3, rfl, ho3, hb3⟩; try (refine keepBox hb3 ?_; intro x1 x2 x3 x4)))
  focus
    obtain ⟨g, D, C, hz, hd3⟩ := ho3.named (by omega) fun r hr => by rw [(Dm.replicate n c 0).2 r hr]; omega
    cases hz
    have k3 : Below w2.heap.size w2 (w3.alloc (.cells #[.slice (some ⟨g, 0, none⟩) n cap3] 22)) := (((Below.refl _ w2).drew).trans (hb3.mono (Nat.le_refl _))).alloc hb3.size _
    have hd4 := (hd3.mono (B' := w2.heap.size) (by simp)).alloc (.cells #[.slice (some ⟨g, 0, none⟩) n cap3] 22)
    have px : (w3.alloc (.cells #[.slice (some ⟨g, 0, none⟩) n cap3] 22)).cell? ⟨w3.heap.size, 0, none⟩ = some (.slice (some ⟨g, 0, none⟩) n cap3) := by simp
    clear hd3 ho3 hb3
    generalize (w3.alloc (.cells #[.slice (some ⟨g, 0, none⟩) n cap3] 22)) = W4 at *
    generalize w3.heap.size = PO at *
  rotate_left
  focus
    obtain ⟨g, D, C, hz, hd3⟩ := ho3.named (by omega) fun r hr => by rw [(Dm.replicate n c 0).2 r hr]; omega
    cases hz
    have k3 : Below w2.heap.size w2 (w3.setCell ⟨w2.heap.size, 0, none⟩ (.slice (some ⟨g, 0, none⟩) n cap3)) := ((((Below.refl _ w2).alloc (Nat.le_refl _) (.cells #[.slice none 0 0] 22)).drew).trans (hb3.mono (by simp))).setCell (p := ⟨w2.heap.size, 0, none⟩) (Nat.le_refl _) _
    have px : (w3.setCell ⟨w2.heap.size, 0, none⟩ (.slice (some ⟨g, 0, none⟩) n cap3)).cell? ⟨w2.heap.size, 0, none⟩ = some (.slice (some ⟨g, 0, none⟩) n cap3) := World.cell?_setCell_same _ _ _ x1
    have hd4 := (hd3.setElse (p := ⟨w2.heap.size, 0, none⟩) (fun e => by have := hd3.lowO.1; simp at this e; omega) (fun r hr e => by have := (hd3.lowI hr).1; simp at this e; omega) (.slice (some ⟨g, 0, none⟩) n cap3)).mono (B' := w2.heap.size) (by simp)
    clear x1 x2 x3 x4 hd3 ho3 hb3
    generalize (w3.setCell ⟨w2.heap.size, 0, none⟩ (.slice (some ⟨g, 0, none⟩) n cap3)) = W4 at *
    obtain ⟨PO, hPO⟩ : ∃ PO, PO = w2.heap.size := ⟨_, rfl⟩
    rw [← hPO] at px ⊢
    clear hPO
  all_goals
    clear hc0
    have q1 := (k3.cell (p := ⟨w.heap.size, 0, none⟩) (by simp; omega)).trans p1
    have q2 := (k3.cell (p := ⟨w.heap.size + 1, 0, none⟩) s3).trans p2
    have k4 := k2.trans (k3.mono k2.size)
    have kB4 : W4.heap.size ≥ w2.heap.size := k3.size
    clear p1 p2 hA2 hB2 k3
    go_wp2_with (go_at_call 65; refine (callsIn_wide.1 (each_in 0 (some ⟨g, 0, none⟩) n cap3 W4)).mono ?_; rintro e w' ⟨rfl, rfl⟩)
    refine (wpIn_wide (n := 6)).1 ?_
    have hd5 := hd4.alloc (.cells #[.slice (some ⟨g, 0, none⟩) n cap3] 22)
    have hG : Grid n c g 0 D (fun _ => 0) C (fun _ _ _ => True) (W4.alloc (.cells #[.slice (some ⟨g, 0, none⟩) n cap3] 22)) := hd5.grid (Dm.replicate n c 0) fun _ _ _ _ => trivial
    have hBm : (W4.alloc (.cells #[.slice (some ⟨g, 0, none⟩) n cap3] 22)).cell? ⟨W4.heap.size, 0, none⟩ = some (.slice (some ⟨g, 0, none⟩) n cap3) := by simp
    have k5 := k4.alloc (Nat.le_trans k2.size kB4) (.cells #[.slice (some ⟨g, 0, none⟩) n cap3] 22)
    have q3 := alloc_keep (o := .cells #[.slice (some ⟨g, 0, none⟩) n cap3] 22) q1
    have q4 := alloc_keep (o := .cells #[.slice (some ⟨g, 0, none⟩) n cap3] 22) q2
    have q5 := alloc_keep (o := .cells #[.slice (some ⟨g, 0, none⟩) n cap3] 22) px
    have hBl : W4.heap.size < (W4.alloc (.cells #[.slice (some ⟨g, 0, none⟩) n cap3] 22)).heap.size := by simp
    have hbl : g < (W4.alloc (.cells #[.slice (some ⟨g, 0, none⟩) n cap3] 22)).heap.size := hd5.lowO.2
    have hDl : ∀ r, r < n → D r < (W4.alloc (.cells #[.slice (some ⟨g, 0, none⟩) n cap3] 22)).heap.size := fun r hr => (hd5.lowI hr).2
    have h5w : w.heap.size ≤ (W4.alloc (.cells #[.slice (some ⟨g, 0, none⟩) n cap3] 22)).heap.size := k5.size
    clear q1 q2 px k4
    refine wpIn_rangeFunc_ownH rfl (by decide) (gf := 85) (lb := #[.pointer (some ⟨W4.heap.size, 0, none⟩)]) rfl trivial (enters_of Tryd.func85 (by kernel_rfl) rfl)
      (each_stops 5 (cap := cap3) (by omega) (by omega) _ hBm hBl hG hbl hDl) (fun h h' g => h' (h g)) (fun W l o o' _ h1 h2 _ g => g.passes (grownBy_putObj' W l o') (fun r e => by cases e; exact ⟨o, h1, h2⟩)) (Below.refl _ _) (fun _ => rfl)
      (fun pre W => (∃ P, OwMD W w2.heap.size 32 3 g D C n cap3 P ∧ Dm n c P ∧ ∀ p ∈ plcs pre, en P p.1 p.2 = mulE A B k p.1 p.2 % 9973) ∧ W.cell? ⟨w.heap.size, 0, none⟩ = some (.slice a n ca) ∧ W.cell? ⟨w.heap.size + 1, 0, none⟩ = some (.slice (some ⟨bb, ob, none⟩) k cb) ∧ W.cell? ⟨PO, 0, none⟩ = some (.slice (some ⟨g, 0, none⟩) n cap3) ∧ Below w.heap.size w W)
      (fun _ _ _ => False)
      (fun s X Y row hs hgr hr => ⟨let ⟨P, e1, e2, e3⟩ := hs.1; ⟨P, e1.passes hgr (fun r e => (hr r e).2), e2, e3⟩, cell_kept hs.2.1 hgr (fun r e => (hr r e).2), cell_kept hs.2.2.1 hgr (fun r e => (hr r e).2), cell_kept hs.2.2.2.1 hgr (fun r e => (hr r e).2), hs.2.2.2.2.grown hgr hs.2.2.2.2.size (fun r e => Nat.le_trans h5w (hr r e).1)⟩)
      (fun _ _ _ _ _ hs _ _ => hs)
      ⟨⟨_, hd5, Dm.replicate n c 0, fun p hp => by cases hp⟩, q3, q4, q5, k5⟩
      (fun x a' W => ∃ Bx, W.cell? ⟨Bx, 0, none⟩ = some (.int .i64 (x.1.1 : Int)) ∧ W.cell? ⟨Bx, 1, none⟩ = some (.int .i64 (x.1.2.1 : Int)) ∧ a' = { tmps := #[Value.slice a n ca, Value.slice (some { block := bb, off := ob }) k cb, Value.pointer (some { block := w.heap.size, off := 0 }), Value.pointer (some { block := w.heap.size + 1, off := 0 }), Value.slice none 0 0, Value.pointer (some { block := PO, off := 0 }), Value.pointer (some { block := Bx, off := 0 }), undef, undef, Value.slice a n ca, Value.int IntKind.i64 ↑n, Value.slice (some { block := bb, off := ob }) k cb, Value.pointer (some { block := bb, off := ob }), Value.slice ar c cr, Value.int IntKind.i64 ↑c, Value.slice (some { block := g, off := 0 }) n cap3, Value.slice (some { block := g, off := 0 }) n cap3, Value.func (.func 85) #[] #[.pointer (some ⟨W4.heap.size, 0, none⟩)], .agg #[.int .i64 (x.1.1 : Int), .int .i64 (x.1.2.1 : Int)], .int .i64 x.1.2.2, undef, undef, undef, undef, undef, undef, undef, undef, undef, undef, undef, undef, undef, undef, undef, undef, undef, undef, undef, undef, undef, undef, undef, undef, undef, undef, undef, undef, undef, undef, undef, undef, undef, undef, undef, undef], defers := [] })
      (fun x a' _ X Y row hs hgr hr => let ⟨Bx, e1, e2, e3⟩ := hs; ⟨Bx, cell_kept e1 hgr (fun r e => (hr r e).2), cell_kept e2 hgr (fun r e => (hr r e).2), e3⟩)
      ?assign ?body ?done ?stop
    case assign =>
      rintro l pre x W K ⟨⟨P, e1, e2, e3⟩, c1, c2, c3, hbW⟩ hK
      dsimp only [encP]
      gi_wp2
      exact hK _ _ ((KeepsOthers.alloc _ _).from _) (fun g => g.fresh ((Below.refl _ _).alloc (Nat.le_refl _) _)) ⟨⟨P, e1.alloc _, e2, e3⟩, alloc_keep c1, alloc_keep c2, alloc_keep c3, hbW.alloc hbW.size _⟩ ⟨W.heap.size, by simp, by simp, rfl⟩
    case body =>
      rintro l pre ⟨⟨i, j, v⟩, hi, hj, _⟩ a' W hl ⟨r, hr⟩ ⟨⟨P, e1, e2, e3⟩, c1, c2, c3, hbW⟩ ⟨Bx, y1, y2, rfl⟩ hlt
      clear hG hBm hBl hbl hDl q3 q4 q5 hd4 hd5
      dsimp only at y1 y2 hi hj ⊢
      gi_wp2
      gi_loopw [7, 22] (fun s t wr => ∃ (t' q : Nat) (S : Int), t' ≤ k ∧ t = .int .i64 t' ∧ s = .int .i64 S ∧ Hid (S = mulE A B t' i j) ∧ Hid (wr = W.drewN q)) (fun _ t _ => k - (intOf t).toNat)
      case atStart => exact ⟨0, 0, 0, Nat.zero_le _, rfl, rfl, rfl, (World.drewN_zero _).symm⟩
      case round =>
        obtain ⟨t', q, S, ht, rfl, rfl, HS, HQ⟩ := hrel
        have kq : Below W.heap.size W wr := by rw [HQ.out]; exact below_drewN (Below.refl _ _) q
        have kw : Below w.heap.size w wr := by rw [HQ.out]; exact below_drewN hbW q
        have c1 := kq.keep (World.block_lt_of_cell? W _ c1) c1
        have c2 := kq.keep (World.block_lt_of_cell? W _ c2) c2
        have c3 := kq.keep (World.block_lt_of_cell? W _ c3) c3
        have y1 := kq.keep (World.block_lt_of_cell? W _ y1) y1
        have y2 := kq.keep (World.block_lt_of_cell? W _ y2) y2
        have hS := mulE_le HEA.out HEB.out ht hi hj
        rw [← HS.out] at hS
        by_cases htk : t' < k
        · obtain ⟨ba, oa, hz, hba, hra⟩ := (hA.below kw).at hi
          subst hz
          obtain ⟨ai, ci, a1, hai⟩ := hra i hi
          rw [HDA.out.2 i hi] at a1 hai
          obtain ⟨pa, qa, hz, hpa, hca⟩ := hai.at htk
          subst hz
          have a2 := hca t' htk
          obtain ⟨bb', ob', hz, hbb, hrb⟩ := (hB.below kw).at htk
          cases hz
          obtain ⟨bi, di, b1, hbi⟩ := hrb t' htk
          rw [HDB.out.2 t' htk] at b1 hbi
          obtain ⟨pb, qb, hz, hpb, hcb⟩ := hbi.at hj
          subst hz
          have b2 := hcb j hj
          change World.cell? _ _ = some (.int .i64 (en A i t')) at a2
          change World.cell? _ _ = some (.int .i64 (en B t' j)) at b2
          have m1 := HEA.out i t' hi htk
          have m2 := HEB.out t' j htk hj
          have m3 : 0 ≤ en A i t' * en B t' j ∧ en A i t' * en B t' j ≤ 9972 * 9972 := ⟨Int.mul_nonneg m1.1 m2.1, Int.mul_le_mul m1.2 m2.2 m2.1 (by omega)⟩
          obtain ⟨T, hT⟩ : ∃ T : Int, T = en A i t' * en B t' j := ⟨_, rfl⟩
          rw [← hT] at m3
          have u1 : IntKind.i64.wrap (en A i t' * en B t' j) = T := by rw [hT]; exact Go.IntWalk.i64_in _ (by omega)
          have u2 : IntKind.i64.wrap (S + T) = S + T := Go.IntWalk.i64_in _ (by omega)
          have HT := Lib.hid hT
          have i1 : (i : Int) < (n : Int) := by omega
          have i2 : (j : Int) < (c : Int) := by omega
          have i3 : (t' : Int) < (k : Int) := by omega
          clear hT hca hcb hra hrb hai hbi
          gi_wp2
          refine region_round_quiet (by kernel_rfl) (by kernel_rfl) (fun ⟨_, _, h⟩ => h) (by kernel_rfl) ?_
          repeat (go_big_quiet_step (fail))
          refine wpQuiet_nil ?_
          rintro _ ⟨nq, rfl⟩
          gi_wp2
          go_roundw
          case rel => exact ⟨t' + 1, _, _, by omega, by go_num, rfl, by unfold Hid mulE; rw [sumTo, HT.out, HS.out]; rfl, by unfold Hid; rw [HQ.out, World.drewN_drewN]⟩
          case measure => simp [intOf]; omega
        · obtain rfl : t' = k := by omega
          have hP := e1.below kq
          have a1 := hP.cellO hi
          have a2 := hP.cellI hi (j := j) (by rw [e2.2 i hi]; exact hj)
          have a3 := hP.frozenI hi (by rw [e2.2 i hi]; omega) j
          rw [e2.2 i hi] at a1
          have i1 : (i : Int) < (n : Int) := by omega
          have i2 : (j : Int) < (c : Int) := by omega
          gi_wp2
          refine region_round_tail 10 (by kernel_rfl) (by kernel_rfl) (fun ⟨_, _, h⟩ => h) (by kernel_rfl) ?_
          simp only [List.take_succ_cons, List.take_zero, List.drop_succ_cons, List.drop_zero]
          repeat still_step
          still_call (stillW (Field_any _ _))
          repeat still_step
          refine wpStill_nil ?_
          change wpList _ _ _ _ _ wr.drew
          go_wp2
          refine ⟨(((HQ.out ▸ keepsOthers_drewN W q : KeepsOthers W wr).trans (KeepsOthers.setCell _ _ _)).trans (KeepsOthers.drew _)).from _, fun g => ((g.fresh kq).setInt a2 fun _ _ _ _ => trivial).fresh (Below.refl _ _).drew, ⟨_, (hP.set matTy.ne hi _).drew, e2.setE _ _ _, fun p hp => ?_⟩, set_keepS c1 a2, set_keepS c2 a2, set_keepS c3 a2, (kw.setCell (p := ⟨D i, j, none⟩) (Nat.le_trans k2.size (hP.lowI hi).1) _).drew⟩
          rw [plcs_snoc] at hp
          have hpl : p.1 < n ∧ p.2 < c := by
            rcases List.mem_append.1 hp with h | h
            · exact plcs_in h
            · cases List.mem_singleton.1 h
              exact ⟨hi, hj⟩
          rw [e2.en_set _ hpl.1 hpl.2]
          split
          · next h => rw [← h.1, ← h.2, HS.out]
          · next h =>
            rcases List.mem_append.1 hp with h2 | h2
            · exact e3 p h2
            · cases List.mem_singleton.1 h2
              exact absurd ⟨rfl, rfl⟩ h
    case done =>
      rintro Dd ys W hDd hS ⟨⟨P, e1, e2, e3⟩, c1, c2, c3, hbW⟩ hK
      go_wp2
      refine ⟨by simp, .inl ⟨_, _, rfl, run_takeDeferred hK, ?_⟩⟩
      have hgr := grownBy_putObj' W Dd (.deferred none)
      have hno : ∀ r, some Dd = some r → ∃ o : Obj, W.heap[r]? = some o ∧ o.isCells = false := fun r e => by cases e; exact ⟨_, hK, rfl⟩
      exact ⟨_, results_tmp rfl _ _ _, _, _, P, rfl, ((e1.passes hgr hno).mono k2.size).toM, ⟨e2, fun i j hi hj => e3 (i, j) (by rw [hS]; exact locs_mem hi hj)⟩, hbW.grown hgr hbW.size (fun r e => by cases e; exact Nat.le_trans h5w hDd)⟩
    case stop =>
      rintro D c pre W _ _ h _
      exact h.elim
end Go.Proofs.YtkielldinghmbaaDoor
namespace Go.Proofs.YtkielldinghmbaaDoor
open Go.RowKit Go.Shelf Go.Rk

def firstO (a b : Option Int) : Option Int := match a with | some x => some x | none => b

set_option maxHeartbeats 1000000 in
theorem First_any {x y : Option Int} {b : Nat} {w : World} (h0 : w.cell? ⟨b, 0, none⟩ = some (errV x)) (h1 : w.cell? ⟨b, 1, none⟩ = some (errV y)) :
    Calls Tryd.prog 66 #[.slice (some ⟨b, 0, none⟩) 2 2] w fun e w' => e = .returned (errV (firstO x y)) ∧ w = w' := by
  go_enter Tryd.func66, Tryd.ntmps66
  go_wp2
  go_loop [7] (fun i => ∃ k : Nat, k ≤ 2 ∧ i = .int .i64 k ∧ Hid (1 ≤ k → x = none) ∧ Hid (2 ≤ k → y = none)) (fun i => 2 - (intOf i).toNat)
  case atStart => exact ⟨0, by omega, rfl, fun h => absurd h (by omega), fun h => absurd h (by omega)⟩
  case round =>
    obtain ⟨k, hk, rfl, q1, q2⟩ := hrel
    rcases (show k = 0 ∨ k = 1 ∨ k = 2 by omega) with rfl | rfl | rfl
    · rcases x with _ | x
      · simp only [errV] at h0
        go_wp2
        go_round
        case rel => exact ⟨1, by omega, by go_num, fun _ => by first | rfl | trivial, fun h => absurd h (by omega)⟩
        case measure => simp [intOf]
      · simp only [errV] at h0
        go_wp2
        go_ret
        exact ⟨rfl, rfl⟩
    · have e := q1.out (by omega)
      subst e
      rcases y with _ | y
      · simp only [errV] at h1
        go_wp2
        go_round
        case rel => exact ⟨2, by omega, by go_num, fun _ => by first | rfl | trivial, fun _ => by first | rfl | trivial⟩
        case measure => simp [intOf]
      · simp only [errV] at h1
        go_wp2
        go_ret
        exact ⟨rfl, rfl⟩
    · have e := q1.out (by omega)
      have e2 := q2.out (by omega)
      subst e; subst e2
      go_wp2
      go_ret
      exact ⟨rfl, rfl⟩

/-- What is wrong with two matrices' product. -/
def mulErr (A B : List (List Int)) : Option Int :=
  match firstO (groundsR 5 0 9972 A) (groundsR 5 0 9972 B) with
  | some x => some x
  | none => if (rowOf A 0).length = B.length then none else some 3
def addErr (A B : List (List Int)) : Option Int :=
  match firstO (groundsR 5 0 9972 A) (groundsR 5 0 9972 B) with
  | some x => some x
  | none => if A.length = B.length ∧ (rowOf A 0).length = (rowOf B 0).length then none else some 3

theorem firstO_none {a b : Option Int} (h : firstO a b = none) : a = none ∧ b = none := by
  cases a with
  | none => exact ⟨rfl, h⟩
  | some x => cases h

section
variable {a b : Option Addr} {n k ca cb : Nat} {A B : List (List Int)} {w : World}
set_option maxRecDepth 100000 in
set_option maxHeartbeats 2000000 in
theorem Mul_err {x : Int} (hA : RdM w a n ca A) (hB : RdM w b k cb B) (hq : mulErr A B = some x) :
    Calls Tryd.prog 25 #[.slice a n ca, .slice b k cb] w fun e w' => e = .returned (.tuple #[.slice none 0 0, .iface 70 (.int .i64 x)]) ∧ Below w.heap.size w w' := by
  unfold mulErr at hq
  obtain ⟨ga, hga⟩ : ∃ ga, groundsR 5 0 9972 A = ga := ⟨_, rfl⟩
  obtain ⟨gb, hgb⟩ : ∃ gb, groundsR 5 0 9972 B = gb := ⟨_, rfl⟩
  have C1 := Lib.hid (mat_Check_is hA hga)
  have C2 := Lib.hid (mat_Check_is hB hgb)
  rw [hga, hgb] at hq
  have kB := (Below.refl w.heap.size w).alloc (Nat.le_refl _) (.cells #[errV ga, errV gb] 26)
  rcases hf : firstO ga gb with _ | y
  · rw [hf] at hq
    have HF := Lib.hid hf
    obtain ⟨rfl, rfl⟩ := firstO_none hf
    obtain ⟨l1, l2, l3, l4, l5⟩ := groundsR_none hga
    have e1 := hA.len_eq
    have e2 := hB.len_eq
    rw [e1] at l1
    dsimp only at hq
    split at hq
    · cases hq
    · next hne =>
      injection hq with hq
      subst hq
      rw [e2] at hne
      have z : (((rowOf A 0).length : Int) != (k : Int)) = true := bne_iff_ne.2 (by omega)
      obtain ⟨ba, oa, rfl, hba, hra⟩ := (hA.below kB).at l1
      obtain ⟨ai, ci, hc0, _⟩ := hra 0 l1
      rw [Nat.add_zero] at hc0
      simp only [errV] at hc0 kB
      have b1 : (0 : Int) < (n : Int) := by omega
      have b2 : (1 : Int) ≤ (n : Int) := by omega
      clear hf hga hgb hra l2 l3 l4 l5 e1 e2 hne
      go_enter Tryd.func25, Tryd.ntmps25
      go_wp2_with (first | (go_at_call 18; first | ((with_reducible refine C1.out.mono ?_); clear C1; rintro e w' ⟨rfl, rfl⟩; simp only [errV]) | ((with_reducible refine C2.out.mono ?_); rintro e w' ⟨rfl, rfl⟩; simp only [errV])) | (go_at_call 66; refine (First_any (x := none) (y := none) (by simp [errV]) (by simp [errV])).mono ?_; rintro e w' ⟨rfl, rfl⟩; rw [HF.out]; simp only [errV]))
      go_ret2
      exact ⟨rfl, kB⟩
  · rw [hf] at hq
    have HF := Lib.hid hf
    dsimp only at hq
    injection hq with hq
    subst hq
    clear hf hga hgb
    rcases ga with _ | ga <;> rcases gb with _ | gb
    · cases HF.out
    · simp only [errV] at kB
      go_enter Tryd.func25, Tryd.ntmps25
      go_wp2_with (first | (go_at_call 18; first | ((with_reducible refine C1.out.mono ?_); clear C1; rintro e w' ⟨rfl, rfl⟩; simp only [errV]) | ((with_reducible refine C2.out.mono ?_); rintro e w' ⟨rfl, rfl⟩; simp only [errV])) | (go_at_call 66; refine (First_any (x := none) (y := (some gb)) (by simp [errV]) (by simp [errV])).mono ?_; rintro e w' ⟨rfl, rfl⟩; rw [HF.out]; simp only [errV]))
      go_ret2
      exact ⟨rfl, kB⟩
    · simp only [errV] at kB
      go_enter Tryd.func25, Tryd.ntmps25
      go_wp2_with (first | (go_at_call 18; first | ((with_reducible refine C1.out.mono ?_); clear C1; rintro e w' ⟨rfl, rfl⟩; simp only [errV]) | ((with_reducible refine C2.out.mono ?_); rintro e w' ⟨rfl, rfl⟩; simp only [errV])) | (go_at_call 66; refine (First_any (x := (some ga)) (y := none) (by simp [errV]) (by simp [errV])).mono ?_; rintro e w' ⟨rfl, rfl⟩; rw [HF.out]; simp only [errV]))
      go_ret2
      exact ⟨rfl, kB⟩
    · simp only [errV] at kB
      go_enter Tryd.func25, Tryd.ntmps25
      go_wp2_with (first | (go_at_call 18; first | ((with_reducible refine C1.out.mono ?_); clear C1; rintro e w' ⟨rfl, rfl⟩; simp only [errV]) | ((with_reducible refine C2.out.mono ?_); rintro e w' ⟨rfl, rfl⟩; simp only [errV])) | (go_at_call 66; refine (First_any (x := (some ga)) (y := (some gb)) (by simp [errV]) (by simp [errV])).mono ?_; rintro e w' ⟨rfl, rfl⟩; rw [HF.out]; simp only [errV]))
      go_ret2
      exact ⟨rfl, kB⟩

theorem grounds_dm (e : A.length = n) (g : groundsR 5 0 9972 A = none) : (1 ≤ n ∧ n ≤ 5) ∧ (1 ≤ (rowOf A 0).length ∧ (rowOf A 0).length ≤ 5) ∧ Dm n (rowOf A 0).length A ∧ EntR 0 9972 n (rowOf A 0).length A := by
  obtain ⟨l1, l2, l3, l4, l5⟩ := groundsR_none g
  rw [e] at l1 l3 l5
  exact ⟨⟨l1, by omega⟩, ⟨l2, by omega⟩, ⟨e, fun i hi => (l5 i hi).1⟩, fun i j hi hj => (l5 i hi).2 j (by rw [(l5 i hi).1]; exact hj)⟩

theorem mulErr_none (h : mulErr A B = none) : groundsR 5 0 9972 A = none ∧ groundsR 5 0 9972 B = none ∧ (rowOf A 0).length = B.length := by
  unfold mulErr at h
  split at h
  · cases h
  · next h1 =>
    split at h
    · next h2 => exact ⟨(firstO_none h1).1, (firstO_none h1).2, h2⟩
    · cases h
theorem addErr_none (h : addErr A B = none) : groundsR 5 0 9972 A = none ∧ groundsR 5 0 9972 B = none ∧ A.length = B.length ∧ (rowOf A 0).length = (rowOf B 0).length := by
  unfold addErr at h
  split at h
  · cases h
  · next h1 =>
    split at h
    · next h2 => exact ⟨(firstO_none h1).1, (firstO_none h1).2, h2⟩
    · cases h

set_option maxRecDepth 100000 in
set_option maxHeartbeats 2000000 in
theorem Mul_ok (hA : RdM w a n ca A) (hB : RdM w b k cb B) (hq : mulErr A B = none) :
    Calls Tryd.prog 25 #[.slice a n ca, .slice b k cb] w fun e w' => ∃ a' cap' P, e = .returned (.tuple #[.slice a' n cap', .nilIface]) ∧ OwM w' w.heap.size 32 3 a' n cap' P ∧ IsR n (rowOf B 0).length P (fun i j => mulE A B k i j % 9973) ∧ Below w.heap.size w w' := by
  obtain ⟨g1, g2, g3⟩ := mulErr_none hq
  have C1 := Lib.hid (mat_Check_is hA g1)
  have C2 := Lib.hid (mat_Check_is hB g2)
  obtain ⟨n1, n2, dA, eA⟩ := grounds_dm hA.len_eq g1
  obtain ⟨m1, m2, dB, eB⟩ := grounds_dm hB.len_eq g2
  rw [hB.len_eq] at g3
  rw [g3] at dA eA
  have kB := (Below.refl w.heap.size w).alloc (Nat.le_refl _) (.cells #[.nilIface, .nilIface] 26)
  have C3 := Lib.hid (mul_any (hA.below kB) (hB.below kB) dA dB eA eB ⟨n1.1, by omega⟩ ⟨m1.1, by omega⟩ ⟨m2.1, by omega⟩)
  have z : ((k : Int) != (k : Int)) = false := bne_eq_false_iff_eq.2 rfl
  obtain ⟨ba, oa, rfl, hba, hra⟩ := (hA.below kB).at (k := 0) (by omega)
  obtain ⟨ai, ci, hc0, _⟩ := hra 0 (by omega)
  rw [Nat.add_zero, g3] at hc0
  have b1 : (0 : Int) < (n : Int) := by omega
  have b2 : (1 : Int) ≤ (n : Int) := by omega
  have HF : Hid (firstO none none = none) := rfl
  clear hq g1 g2 g3 hra dA dB eA eB m1 m2
  go_enter Tryd.func25, Tryd.ntmps25
  go_wp2_with (first | (go_at_call 18; first | ((with_reducible refine C1.out.mono ?_); clear C1; rintro e w' ⟨rfl, rfl⟩; simp only [errV]) | ((with_reducible refine C2.out.mono ?_); rintro e w' ⟨rfl, rfl⟩; simp only [errV])) | (go_at_call 66; refine (First_any (x := none) (y := none) (by simp [errV]) (by simp [errV])).mono ?_; rintro e w' ⟨rfl, rfl⟩; rw [HF.out]; simp only [errV]) | (go_at_call 69; (with_reducible refine C3.out.mono ?_); rintro e w3 ⟨a3, cap3, P, rfl, ho3, hi3, hb3⟩))
  go_ret2
  exact ⟨a3, cap3, P, rfl, ho3.mono kB.size, hi3, kB.trans (hb3.mono kB.size)⟩

set_option maxRecDepth 100000 in
set_option maxHeartbeats 2000000 in
theorem Add_err {x : Int} (hA : RdM w a n ca A) (hB : RdM w b k cb B) (hq : addErr A B = some x) :
    Calls Tryd.prog 23 #[.slice a n ca, .slice b k cb] w fun e w' => e = .returned (.tuple #[.slice none 0 0, .iface 70 (.int .i64 x)]) ∧ Below w.heap.size w w' := by
  unfold addErr at hq
  obtain ⟨ga, hga⟩ : ∃ ga, groundsR 5 0 9972 A = ga := ⟨_, rfl⟩
  obtain ⟨gb, hgb⟩ : ∃ gb, groundsR 5 0 9972 B = gb := ⟨_, rfl⟩
  have C1 := Lib.hid (mat_Check_is hA hga)
  have C2 := Lib.hid (mat_Check_is hB hgb)
  rw [hga, hgb] at hq
  have kB := (Below.refl w.heap.size w).alloc (Nat.le_refl _) (.cells #[errV ga, errV gb] 26)
  rcases hf : firstO ga gb with _ | y
  · rw [hf] at hq
    have HF := Lib.hid hf
    obtain ⟨rfl, rfl⟩ := firstO_none hf
    have e1 := hA.len_eq
    have e2 := hB.len_eq
    obtain ⟨n1, _⟩ := grounds_dm hA.len_eq hga
    obtain ⟨m1, _⟩ := grounds_dm hB.len_eq hgb
    dsimp only at hq
    split at hq
    · cases hq
    · next hne =>
      injection hq with hq
      subst hq
      rw [e1, e2] at hne
      simp only [errV] at kB
      by_cases hnk : n = k
      · have z1 : ((n : Int) != (k : Int)) = false := bne_eq_false_iff_eq.2 (by omega)
        have z2 : (((rowOf A 0).length : Int) != ((rowOf B 0).length : Int)) = true := bne_iff_ne.2 (by omega)
        obtain ⟨wB, hwB⟩ : ∃ wB, w.alloc (.cells #[.nilIface, .nilIface] 26) = wB := ⟨_, rfl⟩
        have HWB := Lib.hid hwB
        have kB2 := kB
        rw [hwB] at kB2
        obtain ⟨ba, oa, rfl, hba, hra⟩ := (hA.below kB2).at n1.1
        obtain ⟨ai, ci, hc0, _⟩ := hra 0 n1.1
        rw [Nat.add_zero] at hc0
        obtain ⟨bb, ob, rfl, hbb, hrb⟩ := (hB.below kB2).at m1.1
        obtain ⟨bi, di, hd0, _⟩ := hrb 0 m1.1
        rw [Nat.add_zero] at hd0
        have b1 : (0 : Int) < (n : Int) := by omega
        have b2 : (1 : Int) ≤ (n : Int) := by omega
        have b3 : (0 : Int) < (k : Int) := by omega
        have b4 : (1 : Int) ≤ (k : Int) := by omega
        clear hf hga hgb hra hrb e1 e2 hne hwB hnk
        go_enter Tryd.func23, Tryd.ntmps23
        go_wp2_with (first | (go_at_call 18; first | ((with_reducible refine C1.out.mono ?_); clear C1; rintro e w' ⟨rfl, rfl⟩; simp only [errV]) | ((with_reducible refine C2.out.mono ?_); rintro e w' ⟨rfl, rfl⟩; simp only [errV])) | (go_at_call 66; refine (First_any (x := none) (y := none) (by simp [errV]) (by simp [errV])).mono ?_; rintro e w' ⟨rfl, rfl⟩; rw [HF.out]; simp only [errV]; rw [HWB.out]))
        go_quiet (fail)
        go_wp2
        go_ret2
        exact ⟨rfl, below_drewN kB2 nq⟩
      · have z1 : ((n : Int) != (k : Int)) = true := bne_iff_ne.2 (by omega)
        obtain ⟨wB, hwB⟩ : ∃ wB, w.alloc (.cells #[.nilIface, .nilIface] 26) = wB := ⟨_, rfl⟩
        have HWB := Lib.hid hwB
        have kB2 := kB
        rw [hwB] at kB2
        clear hf hga hgb e1 e2 hne hwB hnk
        go_enter Tryd.func23, Tryd.ntmps23
        go_wp2_with (first | (go_at_call 18; first | ((with_reducible refine C1.out.mono ?_); clear C1; rintro e w' ⟨rfl, rfl⟩; simp only [errV]) | ((with_reducible refine C2.out.mono ?_); rintro e w' ⟨rfl, rfl⟩; simp only [errV])) | (go_at_call 66; refine (First_any (x := none) (y := none) (by simp [errV]) (by simp [errV])).mono ?_; rintro e w' ⟨rfl, rfl⟩; rw [HF.out]; simp only [errV]; rw [HWB.out]))
        go_quiet (fail)
        go_wp2
        go_ret2
        exact ⟨rfl, below_drewN kB2 nq⟩
  · rw [hf] at hq
    have HF := Lib.hid hf
    dsimp only at hq
    injection hq with hq
    subst hq
    clear hf hga hgb
    rcases ga with _ | ga <;> rcases gb with _ | gb
    · cases HF.out
    · simp only [errV] at kB
      go_enter Tryd.func23, Tryd.ntmps23
      go_wp2_with (first | (go_at_call 18; first | ((with_reducible refine C1.out.mono ?_); clear C1; rintro e w' ⟨rfl, rfl⟩; simp only [errV]) | ((with_reducible refine C2.out.mono ?_); rintro e w' ⟨rfl, rfl⟩; simp only [errV])) | (go_at_call 66; refine (First_any (x := none) (y := (some gb)) (by simp [errV]) (by simp [errV])).mono ?_; rintro e w' ⟨rfl, rfl⟩; rw [HF.out]; simp only [errV]))
      go_ret2
      exact ⟨rfl, kB⟩
    · simp only [errV] at kB
      go_enter Tryd.func23, Tryd.ntmps23
      go_wp2_with (first | (go_at_call 18; first | ((with_reducible refine C1.out.mono ?_); clear C1; rintro e w' ⟨rfl, rfl⟩; simp only [errV]) | ((with_reducible refine C2.out.mono ?_); rintro e w' ⟨rfl, rfl⟩; simp only [errV])) | (go_at_call 66; refine (First_any (x := (some ga)) (y := none) (by simp [errV]) (by simp [errV])).mono ?_; rintro e w' ⟨rfl, rfl⟩; rw [HF.out]; simp only [errV]))
      go_ret2
      exact ⟨rfl, kB⟩
    · simp only [errV] at kB
      go_enter Tryd.func23, Tryd.ntmps23
      go_wp2_with (first | (go_at_call 18; first | ((with_reducible refine C1.out.mono ?_); clear C1; rintro e w' ⟨rfl, rfl⟩; simp only [errV]) | ((with_reducible refine C2.out.mono ?_); rintro e w' ⟨rfl, rfl⟩; simp only [errV])) | (go_at_call 66; refine (First_any (x := (some ga)) (y := (some gb)) (by simp [errV]) (by simp [errV])).mono ?_; rintro e w' ⟨rfl, rfl⟩; rw [HF.out]; simp only [errV]))
      go_ret2
      exact ⟨rfl, kB⟩
end
end Go.Proofs.YtkielldinghmbaaDoor
namespace Go.Proofs.YtkielldinghmbaaDoor
open Go.RowKit Go.Rk

theorem squareR_grounds {most lo hi : Int} {M : List (List Int)} (h : squareR most lo hi M = none) : groundsR most lo hi M = none ∧ (rowOf M 0).length = M.length := by
  unfold squareR at h
  split at h
  · next h1 =>
    split at h
    · next h2 => exact ⟨h1, h2.symm⟩
    · cases h
  · next h1 => exact absurd h h1

/-- The determinant of the product, by the prime. -/
theorem det_prod {n : Nat} {A B P : List (List Int)} (h : IsR n n P (fun i j => mulE A B n i j % 9973)) : det n (mx P) % 9973 = (det n (mx A) % 9973) * (det n (mx B) % 9973) % 9973 := by
  have e : Eqm (det n (mx P)) (det n (mulM n (mx A) (mx B))) := det_eqm fun i j hi hj => by
    show Eqm (en P i j) _
    rw [h.2 i j hi hj]
    exact Int.emod_emod_of_dvd _ (Int.dvd_refl _)
  rw [det_mul] at e
  rw [e, Int.mul_emod]

theorem det_turned {n : Nat} {A P : List (List Int)} (h : IsR n n P (fun i j => en A j i)) : det n (mx P) = det n (mx A) := by
  rw [← det_tr (mx A)]
  exact det_congr fun i j hi hj => h.2 i j hi hj

end Go.Proofs.YtkielldinghmbaaDoor
