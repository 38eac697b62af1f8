/-
  mat.mul walked: the product of two matrices that go together.
  num.First of two; mat.Add and mat.Mul walked.
  DetMul walked: the determinant of a product is the product; turned a matrix has the same.
  mat.one, mat.One and mat.Pow walked.
  What goes together, for the statements on matrices.
  mat.Pow where something is wrong; the closed fact of the statements on matrices.
  A row of a matrix, read at once. No program in sight.
  Polynomials as functions of an integer: their factors, and the determinant of a matrix whose numbers are of the first power. Plain Lean, no program in sight.
-/
import Derived.Test.YtoahegjjffggaaaDoorRows
import Derived.StillTailTactics
import Derived.Deep.QuietTactic
import Derived.BigQuiet
import Derived.Deep.RegionHeld3
import Derived.Test.YtoahegjjffggaaaDoorMg0
import Derived.Test.YtoahegjjffggaaaDoorMg1
import Derived.Test.YtoahegjjffggaaaDoorMg2
import Derived.Test.YtoahegjjffggaaaDoorMg3
import Derived.Test.YtoahegjjffggaaaDoorMg4
import Derived.Test.YtoahegjjffggaaaDoorMg5
namespace Go.Proofs.YtoahegjjffggaaaDoor
open Go.RowKit Go.Shelf Go.Rk
attribute [local go_sem] Oper.semAt_some

/-- An element of the product. -/
def mulE (A B : List (List Int)) (k i j : Nat) : Int := sumTo (fun t => en A i t * en B t j) k

theorem mulE_le {A B : List (List Int)} {n k c t i j : Nat} (eA : EntR 0 9972 n k A) (eB : EntR 0 9972 k c B) (ht : t ≤ k) (hi : i < n) (hj : j < c) : 0 ≤ mulE A B t i j ∧ mulE A B t i j ≤ 99440784 * t := by
  induction t with
  | zero => exact ⟨Int.le_refl _, Int.le_refl _⟩
  | succ t ih =>
    have h := ih (by omega)
    have m1 := eA i t hi (by omega)
    have m2 := eB t j (by omega) hj
    have m3 : 0 ≤ en A i t * en B t j ∧ en A i t * en B t j ≤ 9972 * 9972 := ⟨Int.mul_nonneg m1.1 m2.1, Int.mul_le_mul m1.2 m2.2 m2.1 (by omega)⟩
    unfold mulE at h ⊢
    rw [sumTo]
    omega

set_option maxRecDepth 100000 in
set_option maxHeartbeats 4000000 in
theorem mul_any {a b : Option Addr} {n k c ca cb : Nat} {A B : List (List Int)} {w : World} (hA : RdM w a n ca A) (hB : RdM w b k cb B) (dA : Dm n k A) (dB : Dm k c B) (eA : EntR 0 9972 n k A) (eB : EntR 0 9972 k c B)
    (hn : 1 ≤ n ∧ n ≤ 100) (hk : 1 ≤ k ∧ k ≤ 100) (hc : 1 ≤ c ∧ c ≤ 100) :
    Calls Tryd.prog 38 #[.slice a n ca, .slice b k cb] w fun e w' => ∃ a' cap' P, e = .returned (.slice a' n cap') ∧ OwM w' w.heap.size 24 3 a' n cap' P ∧ IsR n c P (fun i j => mulE A B k i j % 9973) ∧ Below w.heap.size w w' := by
  have HM := Lib.hid matTy
  have HDA := Lib.hid dA
  have HDB := Lib.hid dB
  have HEA := Lib.hid eA
  have HEB := Lib.hid eB
  clear dA dB eA eB
  refine (callsIn_wide (n := 6)).1 ?_
  refine callsIn_of_wp_marks Tryd.func38 rfl trivial ?_ rfl
  simp only [Tryd.ntmps38, List.size_toArray, List.length_cons, List.length_nil, Nat.reduceAdd, Nat.reduceSub, Array.replicate_succ, Array.replicate_zero, List.push_toArray, List.append_toArray, List.nil_append, List.cons_append]
  refine wpIn_wide.2 ?_
  go_wp2
  have k2 : Below w.heap.size w ((w.alloc (.cells #[.slice a n ca] 22)).alloc (.cells #[.slice b k cb] 22)) := ((Below.refl _ w).alloc (Nat.le_refl _) _).alloc (by simp) _
  have s2 : ((w.alloc (.cells #[.slice a n ca] 22)).alloc (.cells #[.slice b k cb] 22)).heap.size = w.heap.size + 2 := by simp
  have p1 : ((w.alloc (.cells #[.slice a n ca] 22)).alloc (.cells #[.slice b k cb] 22)).cell? ⟨w.heap.size, 0, none⟩ = some (.slice a n ca) := by simp
  have p2 : ((w.alloc (.cells #[.slice a n ca] 22)).alloc (.cells #[.slice b k cb] 22)).cell? ⟨w.heap.size + 1, 0, none⟩ = some (.slice b k cb) := by simp
  generalize ((w.alloc (.cells #[.slice a n ca] 22)).alloc (.cells #[.slice b k cb] 22)) = w2 at *
  have s3 : w.heap.size + 1 < w2.heap.size := by omega
  have S2 := Lib.hid s2
  clear s2
  have hA2 := hA.below k2
  have hB2 := hB.below k2
  obtain ⟨bb, ob, rfl, hbb, hrb⟩ := hB2.at (k := 0) (by omega)
  obtain ⟨ar, cr, hc0, _⟩ := hrb 0 (by omega)
  rw [HDB.out.2 0 (by omega), Nat.add_zero] at hc0
  have b1 : (0 : Int) < (k : Int) := by omega
  have b2 : (1 : Int) ≤ (k : Int) := by omega
  have b3 : 0 < k := by omega
  go_region_held3 (fun w' => w'.cell? ⟨w.heap.size, 0, none⟩ = some (.slice a n ca) ∧ w'.cell? ⟨w.heap.size + 1, 0, none⟩ = some (.slice (some ⟨bb, ob, none⟩) k cb) ∧ w'.cell? ⟨bb, ob, none⟩ = some (.slice ar c cr))
    (((try go_split_ands); (try dsimp only); (repeat' (apply And.intro)); all_goals (first | assumption | (refine alloc_keep ?_; assumption) | (refine hb3.keep ?_ ?_ <;> (first | assumption | (refine alloc_keep ?_; assumption) | (simp; omega))) | (refine alloc_keep ?_; refine hb3.keep ?_ ?_ <;> (first | assumption | (refine alloc_keep ?_; assumption) | (simp; omega))) | (refine set_keep ?_ ?_; (first | assumption | (refine hb3.keep ?_ ?_ <;> (first | assumption | (refine alloc_keep ?_; assumption) | (simp; omega)))); (first | (simp; omega) | omega)) | (go_keep; done))))
    (first | (go_at_call 61; refine (Grid_any n c _ (by omega) (by omega)).mono ?_; rintro e w3 ⟨a3, cap3, rfl, ho3, hb3⟩; try (refine keepBox hb3 ?_; intro x1 x2 x3 x4)))
  focus
    obtain ⟨g, D, C, hz, hd3⟩ := ho3.named (by omega) fun r hr => by rw [(Dm.replicate n c 0).2 r hr]; omega
    cases hz
    have k3 : Below w2.heap.size w2 (w3.alloc (.cells #[.slice (some ⟨g, 0, none⟩) n cap3] 22)) := (((Below.refl _ w2).drew).trans (hb3.mono (Nat.le_refl _))).alloc hb3.size _
    have hd4 := (hd3.mono (B' := w2.heap.size) (by simp)).alloc (.cells #[.slice (some ⟨g, 0, none⟩) n cap3] 22)
    have px : (w3.alloc (.cells #[.slice (some ⟨g, 0, none⟩) n cap3] 22)).cell? ⟨w3.heap.size, 0, none⟩ = some (.slice (some ⟨g, 0, none⟩) n cap3) := by simp
    clear hd3 ho3 hb3
    generalize (w3.alloc (.cells #[.slice (some ⟨g, 0, none⟩) n cap3] 22)) = W4 at *
    generalize w3.heap.size = PO at *
  rotate_left
  focus
    obtain ⟨g, D, C, hz, hd3⟩ := ho3.named (by omega) fun r hr => by rw [(Dm.replicate n c 0).2 r hr]; omega
    cases hz
    have k3 : Below w2.heap.size w2 (w3.setCell ⟨w2.heap.size, 0, none⟩ (.slice (some ⟨g, 0, none⟩) n cap3)) := ((((Below.refl _ w2).alloc (Nat.le_refl _) (.cells #[.slice none 0 0] 22)).drew).trans (hb3.mono (by simp))).setCell (p := ⟨w2.heap.size, 0, none⟩) (Nat.le_refl _) _
    have px : (w3.setCell ⟨w2.heap.size, 0, none⟩ (.slice (some ⟨g, 0, none⟩) n cap3)).cell? ⟨w2.heap.size, 0, none⟩ = some (.slice (some ⟨g, 0, none⟩) n cap3) := World.cell?_setCell_same _ _ _ x1
    have hd4 := (hd3.setElse (p := ⟨w2.heap.size, 0, none⟩) (fun e => by have := hd3.lowO.1; simp at this e; omega) (fun r hr e => by have := (hd3.lowI hr).1; simp at this e; omega) (.slice (some ⟨g, 0, none⟩) n cap3)).mono (B' := w2.heap.size) (by simp)
    clear x1 x2 x3 x4 hd3 ho3 hb3
    generalize (w3.setCell ⟨w2.heap.size, 0, none⟩ (.slice (some ⟨g, 0, none⟩) n cap3)) = W4 at *
    obtain ⟨PO, hPO⟩ : ∃ PO, PO = w2.heap.size := ⟨_, rfl⟩
    rw [← hPO] at px ⊢
    clear hPO
  all_goals
    clear hc0
    have q1 := (k3.cell (p := ⟨w.heap.size, 0, none⟩) (by simp; omega)).trans p1
    have q2 := (k3.cell (p := ⟨w.heap.size + 1, 0, none⟩) s3).trans p2
    have k4 := k2.trans (k3.mono k2.size)
    have kB4 : W4.heap.size ≥ w2.heap.size := k3.size
    clear p1 p2 hA2 hB2 k3
    go_wp2_with (go_at_call 41; refine (callsIn_wide.1 (each_in 0 (some ⟨g, 0, none⟩) n cap3 W4)).mono ?_; rintro e w' ⟨rfl, rfl⟩)
    refine (wpIn_wide (n := 6)).1 ?_
    have hd5 := hd4.alloc (.cells #[.slice (some ⟨g, 0, none⟩) n cap3] 22)
    have hG : Grid n c g 0 D (fun _ => 0) C (fun _ _ _ => True) (W4.alloc (.cells #[.slice (some ⟨g, 0, none⟩) n cap3] 22)) := hd5.grid (Dm.replicate n c 0) fun _ _ _ _ => trivial
    have hBm : (W4.alloc (.cells #[.slice (some ⟨g, 0, none⟩) n cap3] 22)).cell? ⟨W4.heap.size, 0, none⟩ = some (.slice (some ⟨g, 0, none⟩) n cap3) := by simp
    have k5 := k4.alloc (Nat.le_trans k2.size kB4) (.cells #[.slice (some ⟨g, 0, none⟩) n cap3] 22)
    have q3 := alloc_keep (o := .cells #[.slice (some ⟨g, 0, none⟩) n cap3] 22) q1
    have q4 := alloc_keep (o := .cells #[.slice (some ⟨g, 0, none⟩) n cap3] 22) q2
    have q5 := alloc_keep (o := .cells #[.slice (some ⟨g, 0, none⟩) n cap3] 22) px
    have hBl : W4.heap.size < (W4.alloc (.cells #[.slice (some ⟨g, 0, none⟩) n cap3] 22)).heap.size := by simp
    have hbl : g < (W4.alloc (.cells #[.slice (some ⟨g, 0, none⟩) n cap3] 22)).heap.size := hd5.lowO.2
    have hDl : ∀ r, r < n → D r < (W4.alloc (.cells #[.slice (some ⟨g, 0, none⟩) n cap3] 22)).heap.size := fun r hr => (hd5.lowI hr).2
    have h5w : w.heap.size ≤ (W4.alloc (.cells #[.slice (some ⟨g, 0, none⟩) n cap3] 22)).heap.size := k5.size
    clear q1 q2 px k4
    refine wpIn_rangeFunc_ownH rfl (by decide) (gf := 64) (lb := #[.pointer (some ⟨W4.heap.size, 0, none⟩)]) rfl trivial (enters_of Tryd.func64 (by kernel_rfl) rfl)
      (each_stops 5 (cap := cap3) (by omega) (by omega) _ hBm hBl hG hbl hDl) (fun h h' g => h' (h g)) (fun W l o o' _ h1 h2 _ g => g.passes (grownBy_putObj' W l o') (fun r e => by cases e; exact ⟨o, h1, h2⟩)) (Below.refl _ _) (fun _ => rfl)
      (fun pre W => (∃ P, OwMD W w2.heap.size 24 3 g D C n cap3 P ∧ Dm n c P ∧ ∀ p ∈ plcs pre, en P p.1 p.2 = mulE A B k p.1 p.2 % 9973) ∧ W.cell? ⟨w.heap.size, 0, none⟩ = some (.slice a n ca) ∧ W.cell? ⟨w.heap.size + 1, 0, none⟩ = some (.slice (some ⟨bb, ob, none⟩) k cb) ∧ W.cell? ⟨PO, 0, none⟩ = some (.slice (some ⟨g, 0, none⟩) n cap3) ∧ Below w.heap.size w W)
      (fun _ _ _ => False)
      (fun s X Y row hs hgr hr => ⟨let ⟨P, e1, e2, e3⟩ := hs.1; ⟨P, e1.passes hgr (fun r e => (hr r e).2), e2, e3⟩, cell_kept hs.2.1 hgr (fun r e => (hr r e).2), cell_kept hs.2.2.1 hgr (fun r e => (hr r e).2), cell_kept hs.2.2.2.1 hgr (fun r e => (hr r e).2), hs.2.2.2.2.grown hgr hs.2.2.2.2.size (fun r e => Nat.le_trans h5w (hr r e).1)⟩)
      (fun _ _ _ _ _ hs _ _ => hs)
      ⟨⟨_, hd5, Dm.replicate n c 0, fun p hp => by cases hp⟩, q3, q4, q5, k5⟩
      (fun x a' W => ∃ Bx, W.cell? ⟨Bx, 0, none⟩ = some (.int .i64 (x.1.1 : Int)) ∧ W.cell? ⟨Bx, 1, none⟩ = some (.int .i64 (x.1.2.1 : Int)) ∧ a' = { tmps := #[Value.slice a n ca, Value.slice (some { block := bb, off := ob }) k cb, Value.pointer (some { block := w.heap.size, off := 0 }), Value.pointer (some { block := w.heap.size + 1, off := 0 }), Value.slice none 0 0, Value.pointer (some { block := PO, off := 0 }), Value.pointer (some { block := Bx, off := 0 }), undef, undef, Value.slice a n ca, Value.int IntKind.i64 ↑n, Value.slice (some { block := bb, off := ob }) k cb, Value.pointer (some { block := bb, off := ob }), Value.slice ar c cr, Value.int IntKind.i64 ↑c, Value.slice (some { block := g, off := 0 }) n cap3, Value.slice (some { block := g, off := 0 }) n cap3, Value.func (.func 64) #[] #[.pointer (some ⟨W4.heap.size, 0, none⟩)], .agg #[.int .i64 (x.1.1 : Int), .int .i64 (x.1.2.1 : Int)], .int .i64 x.1.2.2, undef, undef, undef, undef, undef, undef, undef, undef, undef, undef, undef, undef, undef, undef, undef, undef, undef, undef, undef, undef, undef, undef, undef, undef, undef, undef, undef, undef, undef, undef, undef, undef, undef, undef, undef, undef], defers := [] })
      (fun x a' _ X Y row hs hgr hr => let ⟨Bx, e1, e2, e3⟩ := hs; ⟨Bx, cell_kept e1 hgr (fun r e => (hr r e).2), cell_kept e2 hgr (fun r e => (hr r e).2), e3⟩)
      ?assign ?body ?done ?stop
    case assign =>
      rintro l pre x W K ⟨⟨P, e1, e2, e3⟩, c1, c2, c3, hbW⟩ hK
      dsimp only [encP]
      gi_wp2
      exact hK _ _ ((KeepsOthers.alloc _ _).from _) (fun g => g.fresh ((Below.refl _ _).alloc (Nat.le_refl _) _)) ⟨⟨P, e1.alloc _, e2, e3⟩, alloc_keep c1, alloc_keep c2, alloc_keep c3, hbW.alloc hbW.size _⟩ ⟨W.heap.size, by simp, by simp, rfl⟩
    case body =>
      rintro l pre ⟨⟨i, j, v⟩, hi, hj, _⟩ a' W hl ⟨r, hr⟩ ⟨⟨P, e1, e2, e3⟩, c1, c2, c3, hbW⟩ ⟨Bx, y1, y2, rfl⟩ hlt
      clear hG hBm hBl hbl hDl q3 q4 q5 hd4 hd5
      dsimp only at y1 y2 hi hj ⊢
      gi_wp2
      gi_loopw [7, 22] (fun s t wr => ∃ (t' q : Nat) (S : Int), t' ≤ k ∧ t = .int .i64 t' ∧ s = .int .i64 S ∧ Hid (S = mulE A B t' i j) ∧ Hid (wr = W.drewN q)) (fun _ t _ => k - (intOf t).toNat)
      case atStart => exact ⟨0, 0, 0, Nat.zero_le _, rfl, rfl, rfl, (World.drewN_zero _).symm⟩
      case round =>
        obtain ⟨t', q, S, ht, rfl, rfl, HS, HQ⟩ := hrel
        have kq : Below W.heap.size W wr := by rw [HQ.out]; exact below_drewN (Below.refl _ _) q
        have kw : Below w.heap.size w wr := by rw [HQ.out]; exact below_drewN hbW q
        have c1 := kq.keep (World.block_lt_of_cell? W _ c1) c1
        have c2 := kq.keep (World.block_lt_of_cell? W _ c2) c2
        have c3 := kq.keep (World.block_lt_of_cell? W _ c3) c3
        have y1 := kq.keep (World.block_lt_of_cell? W _ y1) y1
        have y2 := kq.keep (World.block_lt_of_cell? W _ y2) y2
        have hS := mulE_le HEA.out HEB.out ht hi hj
        rw [← HS.out] at hS
        by_cases htk : t' < k
        · obtain ⟨ba, oa, hz, hba, hra⟩ := (hA.below kw).at hi
          subst hz
          obtain ⟨ai, ci, a1, hai⟩ := hra i hi
          rw [HDA.out.2 i hi] at a1 hai
          obtain ⟨pa, qa, hz, hpa, hca⟩ := hai.at htk
          subst hz
          have a2 := hca t' htk
          obtain ⟨bb', ob', hz, hbb, hrb⟩ := (hB.below kw).at htk
          cases hz
          obtain ⟨bi, di, b1, hbi⟩ := hrb t' htk
          rw [HDB.out.2 t' htk] at b1 hbi
          obtain ⟨pb, qb, hz, hpb, hcb⟩ := hbi.at hj
          subst hz
          have b2 := hcb j hj
          change World.cell? _ _ = some (.int .i64 (en A i t')) at a2
          change World.cell? _ _ = some (.int .i64 (en B t' j)) at b2
          have m1 := HEA.out i t' hi htk
          have m2 := HEB.out t' j htk hj
          have m3 : 0 ≤ en A i t' * en B t' j ∧ en A i t' * en B t' j ≤ 9972 * 9972 := ⟨Int.mul_nonneg m1.1 m2.1, Int.mul_le_mul m1.2 m2.2 m2.1 (by omega)⟩
          obtain ⟨T, hT⟩ : ∃ T : Int, T = en A i t' * en B t' j := ⟨_, rfl⟩
          rw [← hT] at m3
          have u1 : IntKind.i64.wrap (en A i t' * en B t' j) = T := by rw [hT]; exact Go.IntWalk.i64_in _ (by omega)
          have u2 : IntKind.i64.wrap (S + T) = S + T := Go.IntWalk.i64_in _ (by omega)
          have HT := Lib.hid hT
          have i1 : (i : Int) < (n : Int) := by omega
          have i2 : (j : Int) < (c : Int) := by omega
          have i3 : (t' : Int) < (k : Int) := by omega
          clear hT hca hcb hra hrb hai hbi
          gi_wp2
          refine region_round_quiet (by kernel_rfl) (by kernel_rfl) (fun ⟨_, _, h⟩ => h) (by kernel_rfl) ?_
          repeat (go_big_quiet_step (fail))
          refine wpQuiet_nil ?_
          rintro _ ⟨nq, rfl⟩
          gi_wp2
          go_roundw
          case rel => exact ⟨t' + 1, _, _, by omega, by go_num, rfl, by unfold Hid mulE; rw [sumTo, HT.out, HS.out]; rfl, by unfold Hid; rw [HQ.out, World.drewN_drewN]⟩
          case measure => simp [intOf]; omega
        · obtain rfl : t' = k := by omega
          have hP := e1.below kq
          have a1 := hP.cellO hi
          have a2 := hP.cellI hi (j := j) (by rw [e2.2 i hi]; exact hj)
          have a3 := hP.frozenI hi (by rw [e2.2 i hi]; omega) j
          rw [e2.2 i hi] at a1
          have i1 : (i : Int) < (n : Int) := by omega
          have i2 : (j : Int) < (c : Int) := by omega
          gi_wp2
          refine region_round_tail 10 (by kernel_rfl) (by kernel_rfl) (fun ⟨_, _, h⟩ => h) (by kernel_rfl) ?_
          simp only [List.take_succ_cons, List.take_zero, List.drop_succ_cons, List.drop_zero]
          repeat still_step
          still_call (stillW (Field_any _ _))
          repeat still_step
          refine wpStill_nil ?_
          change wpList _ _ _ _ _ wr.drew
          go_wp2
          refine ⟨(((HQ.out ▸ keepsOthers_drewN W q : KeepsOthers W wr).trans (KeepsOthers.setCell _ _ _)).trans (KeepsOthers.drew _)).from _, fun g => ((g.fresh kq).setInt a2 fun _ _ _ _ => trivial).fresh (Below.refl _ _).drew, ⟨_, (hP.set matTy.ne hi _).drew, e2.setE _ _ _, fun p hp => ?_⟩, set_keepS c1 a2, set_keepS c2 a2, set_keepS c3 a2, (kw.setCell (p := ⟨D i, j, none⟩) (Nat.le_trans k2.size (hP.lowI hi).1) _).drew⟩
          rw [plcs_snoc] at hp
          have hpl : p.1 < n ∧ p.2 < c := by
            rcases List.mem_append.1 hp with h | h
            · exact plcs_in h
            · cases List.mem_singleton.1 h
              exact ⟨hi, hj⟩
          rw [e2.en_set _ hpl.1 hpl.2]
          split
          · next h => rw [← h.1, ← h.2, HS.out]
          · next h =>
            rcases List.mem_append.1 hp with h2 | h2
            · exact e3 p h2
            · cases List.mem_singleton.1 h2
              exact absurd ⟨rfl, rfl⟩ h
    case done =>
      rintro Dd ys W hDd hS ⟨⟨P, e1, e2, e3⟩, c1, c2, c3, hbW⟩ hK
      go_wp2
      refine ⟨by simp, .inl ⟨_, _, rfl, run_takeDeferred hK, ?_⟩⟩
      have hgr := grownBy_putObj' W Dd (.deferred none)
      have hno : ∀ r, some Dd = some r → ∃ o : Obj, W.heap[r]? = some o ∧ o.isCells = false := fun r e => by cases e; exact ⟨_, hK, rfl⟩
      exact ⟨_, results_tmp rfl _ _ _, _, _, P, rfl, ((e1.passes hgr hno).mono k2.size).toM, ⟨e2, fun i j hi hj => e3 (i, j) (by rw [hS]; exact locs_mem hi hj)⟩, hbW.grown hgr hbW.size (fun r e => by cases e; exact Nat.le_trans h5w hDd)⟩
    case stop =>
      rintro D c pre W _ _ h _
      exact h.elim
end Go.Proofs.YtoahegjjffggaaaDoor
namespace Go.Proofs.YtoahegjjffggaaaDoor
open Go.RowKit Go.Shelf Go.Rk

def firstO (a b : Option Int) : Option Int := match a with | some x => some x | none => b

set_option maxHeartbeats 1000000 in
theorem First_any {x y : Option Int} {b : Nat} {w : World} (h0 : w.cell? ⟨b, 0, none⟩ = some (errV x)) (h1 : w.cell? ⟨b, 1, none⟩ = some (errV y)) :
    Calls Tryd.prog 36 #[.slice (some ⟨b, 0, none⟩) 2 2] w fun e w' => e = .returned (errV (firstO x y)) ∧ w = w' := by
  go_enter Tryd.func36, Tryd.ntmps36
  go_wp2
  go_loop [7] (fun i => ∃ k : Nat, k ≤ 2 ∧ i = .int .i64 k ∧ Hid (1 ≤ k → x = none) ∧ Hid (2 ≤ k → y = none)) (fun i => 2 - (intOf i).toNat)
  case atStart => exact ⟨0, by omega, rfl, fun h => absurd h (by omega), fun h => absurd h (by omega)⟩
  case round =>
    obtain ⟨k, hk, rfl, q1, q2⟩ := hrel
    rcases (show k = 0 ∨ k = 1 ∨ k = 2 by omega) with rfl | rfl | rfl
    · rcases x with _ | x
      · simp only [errV] at h0
        go_wp2
        go_round
        case rel => exact ⟨1, by omega, by go_num, fun _ => by first | rfl | trivial, fun h => absurd h (by omega)⟩
        case measure => simp [intOf]
      · simp only [errV] at h0
        go_wp2
        go_ret
        exact ⟨rfl, rfl⟩
    · have e := q1.out (by omega)
      subst e
      rcases y with _ | y
      · simp only [errV] at h1
        go_wp2
        go_round
        case rel => exact ⟨2, by omega, by go_num, fun _ => by first | rfl | trivial, fun _ => by first | rfl | trivial⟩
        case measure => simp [intOf]
      · simp only [errV] at h1
        go_wp2
        go_ret
        exact ⟨rfl, rfl⟩
    · have e := q1.out (by omega)
      have e2 := q2.out (by omega)
      subst e; subst e2
      go_wp2
      go_ret
      exact ⟨rfl, rfl⟩

/-- What is wrong with two matrices' product. -/
def mulErr (A B : List (List Int)) : Option Int :=
  match firstO (groundsR 5 0 9972 A) (groundsR 5 0 9972 B) with
  | some x => some x
  | none => if (rowOf A 0).length = B.length then none else some 3
def addErr (A B : List (List Int)) : Option Int :=
  match firstO (groundsR 5 0 9972 A) (groundsR 5 0 9972 B) with
  | some x => some x
  | none => if A.length = B.length ∧ (rowOf A 0).length = (rowOf B 0).length then none else some 3

theorem firstO_none {a b : Option Int} (h : firstO a b = none) : a = none ∧ b = none := by
  cases a with
  | none => exact ⟨rfl, h⟩
  | some x => cases h

section
variable {a b : Option Addr} {n k ca cb : Nat} {A B : List (List Int)} {w : World}
set_option maxRecDepth 100000 in
set_option maxHeartbeats 2000000 in
theorem Mul_err {x : Int} (hA : RdM w a n ca A) (hB : RdM w b k cb B) (hq : mulErr A B = some x) :
    Calls Tryd.prog 14 #[.slice a n ca, .slice b k cb] w fun e w' => e = .returned (.tuple #[.slice none 0 0, .iface 52 (.int .i64 x)]) ∧ Below w.heap.size w w' := by
  unfold mulErr at hq
  obtain ⟨ga, hga⟩ : ∃ ga, groundsR 5 0 9972 A = ga := ⟨_, rfl⟩
  obtain ⟨gb, hgb⟩ : ∃ gb, groundsR 5 0 9972 B = gb := ⟨_, rfl⟩
  have C1 := Lib.hid (mat_Check_is hA hga)
  have C2 := Lib.hid (mat_Check_is hB hgb)
  rw [hga, hgb] at hq
  have kB := (Below.refl w.heap.size w).alloc (Nat.le_refl _) (.cells #[errV ga, errV gb] 28)
  rcases hf : firstO ga gb with _ | y
  · rw [hf] at hq
    have HF := Lib.hid hf
    obtain ⟨rfl, rfl⟩ := firstO_none hf
    obtain ⟨l1, l2, l3, l4, l5⟩ := groundsR_none hga
    have e1 := hA.len_eq
    have e2 := hB.len_eq
    rw [e1] at l1
    dsimp only at hq
    split at hq
    · cases hq
    · next hne =>
      injection hq with hq
      subst hq
      rw [e2] at hne
      have z : (((rowOf A 0).length : Int) != (k : Int)) = true := bne_iff_ne.2 (by omega)
      obtain ⟨ba, oa, rfl, hba, hra⟩ := (hA.below kB).at l1
      obtain ⟨ai, ci, hc0, _⟩ := hra 0 l1
      rw [Nat.add_zero] at hc0
      simp only [errV] at hc0 kB
      have b1 : (0 : Int) < (n : Int) := by omega
      have b2 : (1 : Int) ≤ (n : Int) := by omega
      clear hf hga hgb hra l2 l3 l4 l5 e1 e2 hne
      go_enter Tryd.func14, Tryd.ntmps14
      go_wp2_with (first | (go_at_call 37; first | ((with_reducible refine C1.out.mono ?_); clear C1; rintro e w' ⟨rfl, rfl⟩; simp only [errV]) | ((with_reducible refine C2.out.mono ?_); rintro e w' ⟨rfl, rfl⟩; simp only [errV])) | (go_at_call 36; refine (First_any (x := none) (y := none) (by simp [errV]) (by simp [errV])).mono ?_; rintro e w' ⟨rfl, rfl⟩; rw [HF.out]; simp only [errV]))
      go_ret2
      exact ⟨rfl, kB⟩
  · rw [hf] at hq
    have HF := Lib.hid hf
    dsimp only at hq
    injection hq with hq
    subst hq
    clear hf hga hgb
    rcases ga with _ | ga <;> rcases gb with _ | gb
    · cases HF.out
    · simp only [errV] at kB
      go_enter Tryd.func14, Tryd.ntmps14
      go_wp2_with (first | (go_at_call 37; first | ((with_reducible refine C1.out.mono ?_); clear C1; rintro e w' ⟨rfl, rfl⟩; simp only [errV]) | ((with_reducible refine C2.out.mono ?_); rintro e w' ⟨rfl, rfl⟩; simp only [errV])) | (go_at_call 36; refine (First_any (x := none) (y := (some gb)) (by simp [errV]) (by simp [errV])).mono ?_; rintro e w' ⟨rfl, rfl⟩; rw [HF.out]; simp only [errV]))
      go_ret2
      exact ⟨rfl, kB⟩
    · simp only [errV] at kB
      go_enter Tryd.func14, Tryd.ntmps14
      go_wp2_with (first | (go_at_call 37; first | ((with_reducible refine C1.out.mono ?_); clear C1; rintro e w' ⟨rfl, rfl⟩; simp only [errV]) | ((with_reducible refine C2.out.mono ?_); rintro e w' ⟨rfl, rfl⟩; simp only [errV])) | (go_at_call 36; refine (First_any (x := (some ga)) (y := none) (by simp [errV]) (by simp [errV])).mono ?_; rintro e w' ⟨rfl, rfl⟩; rw [HF.out]; simp only [errV]))
      go_ret2
      exact ⟨rfl, kB⟩
    · simp only [errV] at kB
      go_enter Tryd.func14, Tryd.ntmps14
      go_wp2_with (first | (go_at_call 37; first | ((with_reducible refine C1.out.mono ?_); clear C1; rintro e w' ⟨rfl, rfl⟩; simp only [errV]) | ((with_reducible refine C2.out.mono ?_); rintro e w' ⟨rfl, rfl⟩; simp only [errV])) | (go_at_call 36; refine (First_any (x := (some ga)) (y := (some gb)) (by simp [errV]) (by simp [errV])).mono ?_; rintro e w' ⟨rfl, rfl⟩; rw [HF.out]; simp only [errV]))
      go_ret2
      exact ⟨rfl, kB⟩

theorem grounds_dm (e : A.length = n) (g : groundsR 5 0 9972 A = none) : (1 ≤ n ∧ n ≤ 5) ∧ (1 ≤ (rowOf A 0).length ∧ (rowOf A 0).length ≤ 5) ∧ Dm n (rowOf A 0).length A ∧ EntR 0 9972 n (rowOf A 0).length A := by
  obtain ⟨l1, l2, l3, l4, l5⟩ := groundsR_none g
  rw [e] at l1 l3 l5
  exact ⟨⟨l1, by omega⟩, ⟨l2, by omega⟩, ⟨e, fun i hi => (l5 i hi).1⟩, fun i j hi hj => (l5 i hi).2 j (by rw [(l5 i hi).1]; exact hj)⟩

theorem mulErr_none (h : mulErr A B = none) : groundsR 5 0 9972 A = none ∧ groundsR 5 0 9972 B = none ∧ (rowOf A 0).length = B.length := by
  unfold mulErr at h
  split at h
  · cases h
  · next h1 =>
    split at h
    · next h2 => exact ⟨(firstO_none h1).1, (firstO_none h1).2, h2⟩
    · cases h
theorem addErr_none (h : addErr A B = none) : groundsR 5 0 9972 A = none ∧ groundsR 5 0 9972 B = none ∧ A.length = B.length ∧ (rowOf A 0).length = (rowOf B 0).length := by
  unfold addErr at h
  split at h
  · cases h
  · next h1 =>
    split at h
    · next h2 => exact ⟨(firstO_none h1).1, (firstO_none h1).2, h2⟩
    · cases h

set_option maxRecDepth 100000 in
set_option maxHeartbeats 2000000 in
theorem Mul_ok (hA : RdM w a n ca A) (hB : RdM w b k cb B) (hq : mulErr A B = none) :
    Calls Tryd.prog 14 #[.slice a n ca, .slice b k cb] w fun e w' => ∃ a' cap' P, e = .returned (.tuple #[.slice a' n cap', .nilIface]) ∧ OwM w' w.heap.size 24 3 a' n cap' P ∧ IsR n (rowOf B 0).length P (fun i j => mulE A B k i j % 9973) ∧ Below w.heap.size w w' := by
  obtain ⟨g1, g2, g3⟩ := mulErr_none hq
  have C1 := Lib.hid (mat_Check_is hA g1)
  have C2 := Lib.hid (mat_Check_is hB g2)
  obtain ⟨n1, n2, dA, eA⟩ := grounds_dm hA.len_eq g1
  obtain ⟨m1, m2, dB, eB⟩ := grounds_dm hB.len_eq g2
  rw [hB.len_eq] at g3
  rw [g3] at dA eA
  have kB := (Below.refl w.heap.size w).alloc (Nat.le_refl _) (.cells #[.nilIface, .nilIface] 28)
  have C3 := Lib.hid (mul_any (hA.below kB) (hB.below kB) dA dB eA eB ⟨n1.1, by omega⟩ ⟨m1.1, by omega⟩ ⟨m2.1, by omega⟩)
  have z : ((k : Int) != (k : Int)) = false := bne_eq_false_iff_eq.2 rfl
  obtain ⟨ba, oa, rfl, hba, hra⟩ := (hA.below kB).at (k := 0) (by omega)
  obtain ⟨ai, ci, hc0, _⟩ := hra 0 (by omega)
  rw [Nat.add_zero, g3] at hc0
  have b1 : (0 : Int) < (n : Int) := by omega
  have b2 : (1 : Int) ≤ (n : Int) := by omega
  have HF : Hid (firstO none none = none) := rfl
  clear hq g1 g2 g3 hra dA dB eA eB m1 m2
  go_enter Tryd.func14, Tryd.ntmps14
  go_wp2_with (first | (go_at_call 37; first | ((with_reducible refine C1.out.mono ?_); clear C1; rintro e w' ⟨rfl, rfl⟩; simp only [errV]) | ((with_reducible refine C2.out.mono ?_); rintro e w' ⟨rfl, rfl⟩; simp only [errV])) | (go_at_call 36; refine (First_any (x := none) (y := none) (by simp [errV]) (by simp [errV])).mono ?_; rintro e w' ⟨rfl, rfl⟩; rw [HF.out]; simp only [errV]) | (go_at_call 38; (with_reducible refine C3.out.mono ?_); rintro e w3 ⟨a3, cap3, P, rfl, ho3, hi3, hb3⟩))
  go_ret2
  exact ⟨a3, cap3, P, rfl, ho3.mono kB.size, hi3, kB.trans (hb3.mono kB.size)⟩

end
end Go.Proofs.YtoahegjjffggaaaDoor
namespace Go.Proofs.YtoahegjjffggaaaDoor
open Go.RowKit Go.Rk

theorem squareR_grounds {most lo hi : Int} {M : List (List Int)} (h : squareR most lo hi M = none) : groundsR most lo hi M = none ∧ (rowOf M 0).length = M.length := by
  unfold squareR at h
  split at h
  · next h1 =>
    split at h
    · next h2 => exact ⟨h1, h2.symm⟩
    · cases h
  · next h1 => exact absurd h h1

/-- The determinant of the product, by the prime. -/
theorem det_prod {n : Nat} {A B P : List (List Int)} (h : IsR n n P (fun i j => mulE A B n i j % 9973)) : det n (mx P) % 9973 = (det n (mx A) % 9973) * (det n (mx B) % 9973) % 9973 := by
  have e : Eqm (det n (mx P)) (det n (mulM n (mx A) (mx B))) := det_eqm fun i j hi hj => by
    show Eqm (en P i j) _
    rw [h.2 i j hi hj]
    exact Int.emod_emod_of_dvd _ (Int.dvd_refl _)
  rw [det_mul] at e
  rw [e, Int.mul_emod]

theorem det_turned {n : Nat} {A P : List (List Int)} (h : IsR n n P (fun i j => en A j i)) : det n (mx P) = det n (mx A) := by
  rw [← det_tr (mx A)]
  exact det_congr fun i j hi hj => h.2 i j hi hj

end Go.Proofs.YtoahegjjffggaaaDoor
namespace Go.Proofs.YtoahegjjffggaaaDoor
open Go.RowKit Go.Rk

set_option maxHeartbeats 1000000 in
theorem one_any (n : Nat) (w : World) (h1 : 1 ≤ n) (h2 : n ≤ 1000) :
    Calls Tryd.prog 57 #[.int .i64 n] w fun e w' => ∃ a' cap' P, e = .returned (.slice a' n cap') ∧ OwM w' w.heap.size 24 3 a' n cap' P ∧ IsR n n P oneM ∧ Below w.heap.size w w' := by
  go_enter Tryd.func57, Tryd.ntmps57
  go_wp2_with (go_at_call 61; refine (Grid_any n n _ (by omega) (by omega)).mono ?_; rintro e w3 ⟨a3, cap3, rfl, ho3, hb3⟩)
  obtain ⟨g, D, C, hz, hd3⟩ := ho3.named (by omega) fun r hr => by rw [(Dm.replicate n n 0).2 r hr]; omega
  cases hz
  have h0 : ∀ i j, i < n → j < n → en (List.replicate n (List.replicate n (0 : Int))) i j = 0 := fun i j hi hj => by
    unfold en
    rw [rowOf_lt (by simp; exact hi), ix_lt (by simp; exact hj)]
    simp
  clear ho3
  go_loopw [10] (fun v wr => ∃ (k : Nat) (P : List (List Int)), k ≤ n ∧ v = .int .i64 k ∧ OwMD wr w.heap.size 24 3 g D C n cap3 P ∧ Hid (IsR n n P (fun i j => if i = j ∧ i < k then 1 else 0)) ∧ Below w.heap.size w wr) (fun v _ => n - (intOf v).toNat)
  case atStart => exact ⟨0, _, Nat.zero_le _, rfl, hd3, ⟨Dm.replicate n n 0, fun i j hi hj => by rw [h0 i j hi hj]; simp⟩, hb3⟩
  case round =>
    obtain ⟨k, P, hk, rfl, hd, hi, hb⟩ := hrel
    by_cases hlt : k < n
    · have a1 := hd.cellO hlt
      have a2 := hd.cellI hlt (j := k) (by rw [hi.out.1.2 k hlt]; exact hlt)
      have a3 := hd.frozenI hlt (by rw [hi.out.1.2 k hlt]; omega) k
      rw [hi.out.1.2 k hlt] at a1
      have b1 : (k : Int) < (n : Int) := by omega
      go_wp2
      go_roundw
      case rel => exact ⟨k + 1, _, by omega, by go_num, hd.set matTy.ne hlt 1, ⟨hi.out.1.setE _ _ _, fun i j h3 h4 => by
        rw [hi.out.1.en_set _ h3 h4]
        by_cases e : k = i ∧ k = j
        · rw [if_pos e]; dsimp only; rw [if_pos ⟨by omega, by omega⟩]
        · rw [if_neg e, hi.out.2 i j h3 h4]; dsimp only
          by_cases e2 : i = j ∧ i < k
          · rw [if_pos e2, if_pos ⟨e2.1, by omega⟩]
          · rw [if_neg e2, if_neg fun e3 => by omega]⟩, hb.setCell (p := ⟨D k, k, none⟩) (hd.lowI hlt).1 _⟩
      case measure => simp [intOf]; omega
    · obtain rfl : k = n := by omega
      go_wp2
      go_ret
      exact ⟨_, cap3, P, rfl, hd.toM, hi.out.congr fun i j h3 h4 => by
        unfold oneM
        by_cases e : i = j
        · simp only [e, if_true]; rw [if_pos ⟨trivial, by omega⟩]
        · simp [e], hb⟩

theorem One_any (n : Nat) (w : World) (h1 : 1 ≤ n) (h2 : n ≤ 5) :
    Calls Tryd.prog 33 #[.int .i64 n] w fun e w' => ∃ a' cap' P, e = .returned (.tuple #[.slice a' n cap', .nilIface]) ∧ OwM w' w.heap.size 24 3 a' n cap' P ∧ IsR n n P oneM ∧ Below w.heap.size w w' := by
  have HO : Hid (outB (n : Int) 1 5 = false) := by unfold Hid outB; simp; omega
  go_enter Tryd.func33, Tryd.ntmps33
  go_wp2_with (first | (go_at_call 53; refine (out_any _ _ _ _).mono ?_; rintro e w' ⟨rfl, rfl⟩; rw [HO.out]) | (go_at_call 57; refine (one_any n _ h1 (by omega)).mono ?_; rintro e w3 ⟨a3, cap3, P, rfl, ho3, hi3, hb3⟩))
  go_ret2
  exact ⟨a3, cap3, P, rfl, ho3, hi3, hb3⟩

theorem mulE_sq {n : Nat} {X Y P : List (List Int)} (h : IsR n n P (fun i j => mulE X Y n i j % 9973)) : (Dm n n P ∧ EntR 0 9972 n n P) ∧ EqM n n (mx P) (mulM n (mx X) (mx Y)) :=
  ⟨⟨h.1, fun i j hi hj => by rw [h.2 i j hi hj]; dsimp only; omega⟩, fun i j hi hj => by
    show Eqm (en P i j) _
    rw [h.2 i j hi hj]
    exact Eqm.mod _⟩

/-- What is wrong with a power. -/
def powErr (A : List (List Int)) (e : Int) : Option Int :=
  match squareR 5 0 9972 A with
  | some x => some x
  | none => if outB e 0 1000 then some 1 else none

end Go.Proofs.YtoahegjjffggaaaDoor
namespace Go.Proofs.YtoahegjjffggaaaDoor
open Go.RowKit Go.Rk

theorem grounds_of {n c : Nat} {M : List (List Int)} (hn : 1 ≤ n ∧ n ≤ 5) (hc : 1 ≤ c ∧ c ≤ 5) (hd : Dm n c M) (he : EntR 0 9972 n c M) : groundsR 5 0 9972 M = none := by
  have hr0 := hd.2 0 (by omega)
  unfold groundsR
  rw [if_neg (by rw [hd.1, hr0]; omega), if_neg (by rw [hd.1, hr0]; omega)]
  refine rowsErr_of fun l hl => ?_
  obtain ⟨k, hk, rfl⟩ := List.mem_iff_getElem.1 hl
  rw [← rowOf_lt hk, hr0]
  rw [hd.1] at hk
  refine ⟨hd.2 k hk, any_of_in fun j hj => ?_⟩
  rw [hd.2 k hk] at hj
  exact he k j hk hj

theorem mulErr_of {A B : List (List Int)} (g1 : groundsR 5 0 9972 A = none) (g2 : groundsR 5 0 9972 B = none) (h : (rowOf A 0).length = B.length) : mulErr A B = none := by
  unfold mulErr
  rw [g1, g2]
  show (if _ then _ else _) = _
  rw [if_pos h]
theorem addErr_of {A B : List (List Int)} (g1 : groundsR 5 0 9972 A = none) (g2 : groundsR 5 0 9972 B = none) (h : A.length = B.length) (h2 : (rowOf A 0).length = (rowOf B 0).length) : addErr A B = none := by
  unfold addErr
  rw [g1, g2]
  show (if _ then _ else _) = _
  rw [if_pos ⟨h, h2⟩]

/-- A matrix that passes, of n rows of c numbers. -/
structure Good (n c : Nat) (M : List (List Int)) : Prop where
  n1 : 1 ≤ n ∧ n ≤ 5
  c1 : 1 ≤ c ∧ c ≤ 5
  dm : Dm n c M
  ent : EntR 0 9972 n c M
theorem Good.gr {n c : Nat} {M : List (List Int)} (h : Good n c M) : groundsR 5 0 9972 M = none := grounds_of h.n1 h.c1 h.dm h.ent
theorem Good.of {n : Nat} {M : List (List Int)} (e : M.length = n) (g : groundsR 5 0 9972 M = none) : Good n (rowOf M 0).length M :=
  let ⟨a, b, c, d⟩ := grounds_dm e g
  ⟨a, b, c, d⟩
theorem Good.r0 {n c : Nat} {M : List (List Int)} (h : Good n c M) : (rowOf M 0).length = c := h.dm.2 0 (by have := h.n1; omega)
theorem Good.mulOk {n k c : Nat} {A B : List (List Int)} (h : Good n k A) (g : Good k c B) : mulErr A B = none := mulErr_of h.gr g.gr (by rw [h.r0, g.dm.1])
theorem Good.addOk {n c : Nat} {A B : List (List Int)} (h : Good n c A) (g : Good n c B) : addErr A B = none := addErr_of h.gr g.gr (by rw [h.dm.1, g.dm.1]) (by rw [h.r0, g.r0])
/-- The product passes, and is the product by the prime. -/
theorem Good.prod {n k c : Nat} {A B P : List (List Int)} (h : Good n k A) (g : Good k c B) (hp : IsR n c P (fun i j => mulE A B k i j % 9973)) : Good n c P ∧ EqM n c (mx P) (mulM k (mx A) (mx B)) :=
  ⟨⟨h.n1, g.c1, hp.1, fun i j hi hj => by rw [hp.2 i j hi hj]; dsimp only; omega⟩, fun i j hi hj => by
    show Eqm (en P i j) _
    rw [hp.2 i j hi hj]
    exact Eqm.mod _⟩
theorem Good.sum {n c : Nat} {A B P : List (List Int)} (h : Good n c A) (_ : Good n c B) (hp : IsR n c P (fun i j => (en A i j + en B i j) % 9973)) : Good n c P ∧ EqM n c (mx P) (fun i j => mx A i j + mx B i j) :=
  ⟨⟨h.n1, h.c1, hp.1, fun i j hi hj => by rw [hp.2 i j hi hj]; dsimp only; omega⟩, fun i j hi hj => by
    show Eqm (en P i j) _
    rw [hp.2 i j hi hj]
    exact Eqm.mod _⟩
theorem Good.tr {n c : Nat} {A P : List (List Int)} (h : Good n c A) (hp : IsR c n P (fun i j => en A j i)) : Good c n P ∧ EqM c n (mx P) (trM (mx A)) :=
  ⟨⟨h.c1, h.n1, hp.1, fun i j hi hj => by rw [hp.2 i j hi hj]; exact h.ent j i hj hi⟩, fun i j hi hj => Eqm.of_eq (hp.2 i j hi hj)⟩
/-- Two that pass and are one by the prime are one. -/
theorem Good.same {n c : Nat} {A B : List (List Int)} (h : Good n c A) (g : Good n c B) (e : EqM n c (mx A) (mx B)) : A = B :=
  h.dm.ext g.dm fun i j hi hj => by
    have h1 := h.ent i j hi hj
    have h2 := g.ent i j hi hj
    have h3 : en A i j % 9973 = en B i j % 9973 := e i j hi hj
    omega
end Go.Proofs.YtoahegjjffggaaaDoor
namespace Go.Proofs.YtoahegjjffggaaaDoor
open Go.RowKit Go.Rk

end Go.Proofs.YtoahegjjffggaaaDoor
namespace Go.Rk
open Go.RowKit

/-- A row of a matrix, read at once. -/
theorem RdM.rowIn {w : World} {a : Option Addr} {n c cap : Nat} {M : List (List Int)} (h : RdM w a n cap M) (d : Dm n c M) {k : Nat} (hk : k < n) :
    ∃ b off, a = some ⟨b, off, none⟩ ∧ ∃ ar cr, w.cell? ⟨b, off + k, none⟩ = some (.slice ar c cr) ∧ RdI w ar c cr (rowOf M k) := by
  obtain ⟨b, off, rfl, _, hr⟩ := h.at hk
  obtain ⟨ar, cr, hc, hrd⟩ := hr k hk
  rw [d.2 k hk] at hc hrd
  exact ⟨b, off, rfl, ar, cr, hc, hrd⟩

end Go.Rk
namespace Go.Rk

/-- What factors come to. -/
def pv (c : Nat → Int) (d : Nat) (x : Int) : Int := sumTo (fun k => c k * x ^ k) d

theorem pv_succ_left (c : Nat → Int) (d : Nat) (x : Int) : pv c (d + 1) x = c 0 + x * pv (fun k => c (k + 1)) d x := by
  unfold pv
  rw [sumTo_succ_left, Int.pow_zero, Int.mul_one, ← sumTo_mul]
  congr 1
  exact sumTo_congr fun k _ => by rw [Int.pow_succ]; grind
theorem pv_congr {c e : Nat → Int} {d : Nat} (h : ∀ k, k < d → c k = e k) (x : Int) : pv c d x = pv e d x := sumTo_congr fun k hk => by rw [h k hk]
theorem pv_add (c e : Nat → Int) (d : Nat) (x : Int) : pv (fun k => c k + e k) d x = pv c d x + pv e d x := by
  unfold pv
  rw [← sumTo_add]
  exact sumTo_congr fun k _ => Int.add_mul _ _ _
theorem pv_mul (a : Int) (c : Nat → Int) (d : Nat) (x : Int) : pv (fun k => a * c k) d x = a * pv c d x := by
  unfold pv
  rw [← sumTo_mul]
  exact sumTo_congr fun k _ => Int.mul_assoc _ _ _
theorem pv_zero_at (c : Nat → Int) (d : Nat) : pv c (d + 1) 0 = c 0 := by rw [pv_succ_left, Int.zero_mul, Int.add_zero]
/-- A factor of 0 more. -/
theorem pv_more (c : Nat → Int) {d e : Nat} (h : d ≤ e) (x : Int) : pv (fun k => if k < d then c k else 0) e x = pv c d x := by
  obtain ⟨t, rfl⟩ : ∃ t, e = d + t := ⟨e - d, by omega⟩
  induction t with
  | zero => exact pv_congr (fun k hk => if_pos (by omega)) x
  | succ t ih =>
    have := ih (by omega)
    unfold pv at this ⊢
    rw [← Nat.add_assoc, sumTo, this]
    show _ + (if d + t < d then c (d + t) else 0) * _ = _
    rw [if_neg (by omega), Int.zero_mul, Int.add_zero]

/-- Factors that come to 0 from some number on are 0. -/
theorem pv_null {c : Nat → Int} {d : Nat} (N : Int) (h : ∀ x, N ≤ x → pv c d x = 0) : ∀ k, k < d → c k = 0 := by
  induction d generalizing c N with
  | zero => intro k hk; exact absurd hk (Nat.not_lt_zero _)
  | succ d ih =>
    have h0 : c 0 = 0 := by
      have := h (max N (c 0).natAbs + 1) (by omega)
      rw [pv_succ_left] at this
      generalize hx : max N (c 0).natAbs + 1 = x at this
      have hd : x ∣ c 0 := ⟨-pv (fun k => c (k + 1)) d x, by rw [Int.mul_neg]; omega⟩
      exact Int.eq_zero_of_dvd_of_natAbs_lt_natAbs hd (by omega)
    intro k hk
    rcases k with _ | k
    · exact h0
    · refine ih (c := fun k => c (k + 1)) (max N 1) (fun x hx => ?_) k (by omega)
      have := h x (by omega)
      rw [pv_succ_left, h0, Int.zero_add] at this
      rcases Int.mul_eq_zero.1 this with e | e
      · omega
      · exact e
theorem pv_same {c e : Nat → Int} {d : Nat} (N : Int) (h : ∀ x, N ≤ x → pv c d x = pv e d x) : ∀ k, k < d → c k = e k := by
  intro k hk
  have := pv_null (c := fun k => c k + -1 * e k) N (fun x hx => by rw [pv_add, pv_mul, h x hx]; omega) k hk
  omega

/-- A polynomial of that power or less, whose factor there is l. -/
def DL (d : Nat) (l : Int) (f : Int → Int) : Prop := ∃ c : Nat → Int, c d = l ∧ ∀ x, f x = pv c (d + 1) x
def DF (d : Nat) (f : Int → Int) : Prop := ∃ c : Nat → Int, ∀ x, f x = pv c (d + 1) x

theorem DL.df {d : Nat} {l : Int} {f : Int → Int} (h : DL d l f) : DF d f := let ⟨c, _, e⟩ := h; ⟨c, e⟩
theorem DF.dl {d : Nat} {f : Int → Int} (h : DF d f) : ∃ l, DL d l f := let ⟨c, e⟩ := h; ⟨c d, c, rfl, e⟩
theorem DL.congr {d : Nat} {l : Int} {f g : Int → Int} (h : DL d l f) (e : ∀ x, f x = g x) : DL d l g := let ⟨c, e1, e2⟩ := h; ⟨c, e1, fun x => (e x).symm.trans (e2 x)⟩
theorem DF.congr {d : Nat} {f g : Int → Int} (h : DF d f) (e : ∀ x, f x = g x) : DF d g := let ⟨c, e2⟩ := h; ⟨c, fun x => (e x).symm.trans (e2 x)⟩
theorem DL.const (a : Int) : DL 0 a fun _ => a := ⟨fun _ => a, rfl, fun x => by rw [pv_succ_left]; simp [pv, sumTo]⟩
theorem DL.lin (a b : Int) : DL 1 a fun x => x * a + b := ⟨fun k => if k = 0 then b else a, rfl, fun x => by
  rw [pv_succ_left, pv_succ_left]; simp [pv, sumTo]; omega⟩
theorem DL.add {d : Nat} {l m : Int} {f g : Int → Int} (h : DL d l f) (k : DL d m g) : DL d (l + m) fun x => f x + g x := by
  obtain ⟨c, e1, e2⟩ := h
  obtain ⟨b, e3, e4⟩ := k
  exact ⟨fun k => c k + b k, by rw [← e1, ← e3], fun x => by rw [pv_add, ← e2, ← e4]⟩
theorem DL.smul {d : Nat} {l : Int} {f : Int → Int} (a : Int) (h : DL d l f) : DL d (a * l) fun x => a * f x := by
  obtain ⟨c, e1, e2⟩ := h
  exact ⟨fun k => a * c k, by rw [← e1], fun x => by rw [pv_mul, ← e2]⟩
theorem DL.times {d : Nat} {l : Int} {f : Int → Int} (h : DL d l f) : DL (d + 1) l fun x => x * f x := by
  obtain ⟨c, e1, e2⟩ := h
  refine ⟨fun k => if k = 0 then 0 else c (k - 1), by show (if d + 1 = 0 then 0 else c (d + 1 - 1)) = l; rw [if_neg (by omega)]; exact e1, fun x => ?_⟩
  rw [pv_succ_left, if_pos rfl, Int.zero_add]
  show x * f x = _
  rw [e2]
  congr 1
theorem DL.up {d : Nat} {l : Int} {f : Int → Int} (h : DL d l f) : DL (d + 1) 0 f := by
  obtain ⟨c, e1, e2⟩ := h
  exact ⟨fun k => if k < d + 1 then c k else 0, if_neg (by omega), fun x => by rw [pv_more c (by omega), e2]⟩
theorem DL.zero (d : Nat) : DL d 0 fun _ => 0 := ⟨fun _ => 0, rfl, fun x => by
  unfold pv
  rw [sumTo_congr (h := fun _ => 0) fun k _ => Int.zero_mul _, sumTo_zero]⟩
theorem DL.mul {a b : Nat} {l m : Int} {f g : Int → Int} (h : DL a l f) (k : DL b m g) : DL (a + b) (l * m) fun x => f x * g x := by
  induction a generalizing l f with
  | zero =>
    obtain ⟨c, e1, e2⟩ := h
    rw [Nat.zero_add]
    refine (k.smul l).congr fun x => ?_
    rw [e2, pv_succ_left, e1]
    simp [pv, sumTo]
  | succ a ih =>
    obtain ⟨c, e1, e2⟩ := h
    have h1 : DL a l fun x => pv (fun k => c (k + 1)) (a + 1) x := ⟨fun k => c (k + 1), e1, fun x => rfl⟩
    have h2 := (ih h1).times
    have h3 : DL (a + 1 + b) 0 fun x => c 0 * g x := by
      have : DL b (c 0 * m) fun x => c 0 * g x := k.smul (c 0)
      have up : ∀ t, ∃ l', DL (b + t) l' fun x => c 0 * g x := by
        intro t
        induction t with
        | zero => exact ⟨_, this⟩
        | succ t ih => obtain ⟨l', hl⟩ := ih; exact ⟨0, hl.up⟩
      obtain ⟨l', hl⟩ := up a
      have := hl.up
      rwa [show b + a + 1 = a + 1 + b by omega] at this
    rw [show a + b + 1 = a + 1 + b by omega] at h2
    have h4 := h3.add h2
    rw [Int.zero_add] at h4
    refine h4.congr fun x => ?_
    rw [e2, pv_succ_left c (a + 1) x]
    grind
theorem DL.sum {d : Nat} {l : Nat → Int} {f : Nat → Int → Int} {n : Nat} (h : ∀ i, i < n → DL d (l i) (f i)) : DL d (sumTo l n) fun x => sumTo (fun i => f i x) n := by
  induction n with
  | zero => exact DL.zero d
  | succ n ih => exact (ih fun i hi => h i (by omega)).add (h n (by omega))

theorem DF.ups {d e : Nat} {f : Int → Int} (h : DF d f) (k : d ≤ e) : DF e f := by
  obtain ⟨c, hc⟩ := h
  exact ⟨fun k => if k < d + 1 then c k else 0, fun x => by rw [pv_more c (by omega), hc]⟩
theorem DF.add {d : Nat} {f g : Int → Int} (h : DF d f) (k : DF d g) : DF d fun x => f x + g x := let ⟨_, h⟩ := h.dl; let ⟨_, k⟩ := k.dl; (h.add k).df
theorem DF.smul {d : Nat} {f : Int → Int} (a : Int) (h : DF d f) : DF d fun x => a * f x := let ⟨_, h⟩ := h.dl; (h.smul a).df
theorem DF.mul {a b : Nat} {f g : Int → Int} (h : DF a f) (k : DF b g) : DF (a + b) fun x => f x * g x := let ⟨_, h⟩ := h.dl; let ⟨_, k⟩ := k.dl; (h.mul k).df
theorem DF.const (a : Int) : DF 0 fun _ => a := (DL.const a).df
theorem DF.lin (a b : Int) : DF 1 fun x => x * a + b := (DL.lin a b).df
theorem DF.sum {d : Nat} {f : Nat → Int → Int} {n : Nat} (h : ∀ i, i < n → DF d (f i)) : DF d fun x => sumTo (fun i => f i x) n := by
  induction n with
  | zero => exact (DL.zero d).df
  | succ n ih => exact (ih fun i hi => h i (by omega)).add (h n (by omega))

/-- One that is 0 from some number on is 0. -/
theorem DF.null {d : Nat} {f : Int → Int} (h : DF d f) (N : Int) (z : ∀ x, N ≤ x → f x = 0) (x : Int) : f x = 0 := by
  obtain ⟨c, hc⟩ := h
  have := pv_null (c := c) N (fun y hy => by rw [← hc]; exact z y hy)
  rw [hc, pv_congr (e := fun _ => 0) fun k hk => this k hk]
  unfold pv
  rw [sumTo_congr (h := fun _ => 0) fun k _ => Int.zero_mul _, sumTo_zero]
/-- Two that are the same from some number on. -/
theorem DF.same {d e : Nat} {f g : Int → Int} (h : DF d f) (k : DF e g) (N : Int) (z : ∀ x, N ≤ x → f x = g x) (x : Int) : f x = g x := by
  have h1 := (h.ups (Nat.le_max_left d e)).add ((k.ups (Nat.le_max_right d e)).smul (-1))
  have := h1.null N (fun y hy => by rw [z y hy]; omega) x
  omega
/-- One whose highest factor is not 0 is not 0 from some number on. -/
theorem DL.past {d : Nat} {l : Int} {f : Int → Int} (h : DL d l f) (hl : l ≠ 0) : ∃ N : Int, ∀ x, N ≤ x → f x ≠ 0 := by
  induction d generalizing f with
  | zero =>
    obtain ⟨c, e1, e2⟩ := h
    refine ⟨0, fun x _ => ?_⟩
    rw [e2, pv_succ_left, e1]
    simpa [pv, sumTo] using hl
  | succ d ih =>
    obtain ⟨c, e1, e2⟩ := h
    obtain ⟨N, hN⟩ := ih (f := fun x => pv (fun k => c (k + 1)) (d + 1) x) ⟨fun k => c (k + 1), e1, fun x => rfl⟩
    refine ⟨max N ((c 0).natAbs + 1), fun x hx e => ?_⟩
    rw [e2, pv_succ_left c (d + 1) x] at e
    have h1 := hN x (by omega)
    generalize pv (fun k => c (k + 1)) (d + 1) x = y at e h1
    have hd : x ∣ c 0 := ⟨-y, by rw [Int.mul_neg]; omega⟩
    have h0 := Int.eq_zero_of_dvd_of_natAbs_lt_natAbs hd (by omega)
    rw [h0, Int.zero_add] at e
    rcases Int.mul_eq_zero.1 e with e | e
    · omega
    · exact h1 e
/-- Times one whose highest factor is not 0. -/
theorem DF.cancel {a d e : Nat} {l : Int} {p f g : Int → Int} (hp : DL a l p) (hl : l ≠ 0) (h : DF d f) (k : DF e g) (z : ∀ x, p x * f x = p x * g x) (x : Int) : f x = g x := by
  obtain ⟨N, hN⟩ := hp.past hl
  exact h.same k N (fun y hy => Int.eq_of_mul_eq_mul_left (hN y hy) (z y)) x

/-- A matrix whose numbers are of the first power. -/
def linM (P Q : Mx) (x : Int) : Mx := fun i j => x * P i j + Q i j
theorem det_lin (n : Nat) : ∀ (P Q : Mx), DL n (det n P) fun x => det n (linM P Q x) := by
  induction n with
  | zero => exact fun _ _ => DL.const 1
  | succ n ih =>
    intro P Q
    refine DL.sum (f := fun j x => sg j * linM P Q x 0 j * det n (minor (linM P Q x) 0 j)) fun j _ => ?_
    have h1 := ((DL.lin (P 0 j) (Q 0 j)).smul (sg j)).mul (ih (minor P 0 j) (minor Q 0 j))
    rw [Nat.add_comm 1 n] at h1
    exact h1.congr fun x => rfl
end Go.Rk
