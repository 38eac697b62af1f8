/-
  A region in a round of a range over a function: what is walked of a region elsewhere holds in a round too, if none of its operations is a defer statement. No program in sight.
  mat.mul walked: the product of two matrices that go together.
  num.First of two; mat.Add and mat.Mul walked.
  When nothing is wrong with a matrix; determinants of matrices with a row changed, modulo 9973. Plain Lean on the words of the walks.
  What goes together, for the statements on matrices.
  Matrices by a rule, row by row. No program in sight.
  Two rows of factors as one matrix (Sylvester); what is wrong with two rows. Plain Lean on the words of the walks.
-/
import Derived.RangeFuncNested
import Derived.RangeFuncCalls
import Derived.OrdersIn
import Derived.TacticsIn
import Derived.Deep.Quiet
import Derived.StillTail
import Derived.Test.YtoahegjjffggaaaRows
import Derived.StillTailTactics
import Derived.Deep.QuietTactic
import Derived.BigQuiet
import Derived.Deep.RegionHeld3
import Derived.RowKit
import Derived.Test.YtoahegjjffggaaaMg0
import Derived.Test.YtoahegjjffggaaaMg1
import Derived.Test.YtoahegjjffggaaaMg2
import Derived.Test.YtoahegjjffggaaaMg3
import Derived.Test.YtoahegjjffggaaaMg4
namespace Go.Rk
open Go.RowKit

def noDefer (ops : Array Oper) : Bool := ops.all fun o => match o.op with | .defer _ => false | _ => true
theorem noDefer_at {ops : Array Oper} (h : noDefer ops = true) {i : Nat} {o : Oper} (ho : ops[i]? = some o) : ∀ c, o.op ≠ .defer c := by
  intro c e
  obtain ⟨hi, rfl⟩ := Array.getElem?_eq_some_iff.1 ho
  have := Array.all_eq_true.1 h i hi
  rw [e] at this
  cases this

section
variable {l n : Nat} {P : Program} {ops : Array Oper} {Q : Exit → Act → World → Prop} {md : Region.Mode}

theorem rowsIn_of {row : String} {args : Array Value} {w : World} {R : Value → World → Prop} (h : Rows P row args w R) : RowsIn (Fence.wide.inRound l) n P row args w R :=
  fun c cs _ => let ⟨v, w', r, s⟩ := h c cs; ⟨v, w', r, stepsIn_wide.2 s⟩

theorem op_round {o : Oper} {a : Act} {w : World} {K : Act → World → Prop} (hnd : ∀ c, o.op ≠ .defer c) (h : o.wp P a w K Q) : o.wpIn (Fence.wide.inRound l) n P a w K Q := by
  refine ⟨fun _ _ => trivial, ?_⟩
  rw [show (Fence.wide.inRound l).round = some l from rfl, Oper.semAt_some l _ _ hnd]
  unfold Oper.wp at h
  generalize (execOp a.eval o).run P w = r at h ⊢
  cases r with
  | ok x w' =>
    cases x <;> simp only [Oper.upon, Oper.uponIn] at h ⊢ <;>
      first
        | exact h
        | exact ⟨fun e => by simp [Fence.wide] at e, callsIn_wide.2 h⟩
        | exact ⟨fun e => by simp [Fence.wide] at e, rowsIn_of h⟩
  | halt x w' => cases x <;> simp only [Oper.upon, Oper.uponIn] at h ⊢ <;> exact h

theorem wpOp_round {i : Nat} {K K' : Act → World → Prop} {a : Act} {w : World} (hnd : noDefer ops = true) (hL : ¬ LetsOut Q) (hK : ∀ a w, K a w → K' a w) (h : wpOp P ops Q i K a w) : wpOpIn (Fence.wide.inRound l) n P ops Q i K' a w := by
  unfold wpOp at h
  unfold wpOpIn
  cases ho : ops[i]? with
  | none => rw [ho] at h; exact hK _ _ h
  | some o =>
    rw [ho] at h
    dsimp only at h ⊢
    split
    · next hw =>
      rw [if_pos hw] at h
      rcases h with h | h
      · exact op_round (noDefer_at hnd ho) (Oper.wp_mono hK h)
      · exact absurd h.2 hL
    · next hw =>
      rw [if_neg hw] at h
      exact ⟨fun _ _ => trivial, hK _ _ h⟩

theorem wpAny_round (hnd : noDefer ops = true) (hL : ¬ LetsOut Q) : ∀ (fuel : Nat) (listed : Array Bool) (a : Act) (w : World), wpAny P md ops Q fuel listed a w → wpAnyIn (Fence.wide.inRound l) n P md ops Q fuel listed a w
  | 0, _, _, _, h => h
  | fuel + 1, _, _, _, h => ⟨h.1, fun i hi => wpOp_round hnd hL (wpAny_round hnd hL fuel _) (h.2 i hi)⟩

theorem region_round {id : Nat} {a : Act} {w : World} (hm : P.follows .mixedOrders = true) (hnd : noDefer ops = true) (hL : ¬ LetsOut Q)
    (h : wpAny P .any ops Q ops.size (Array.replicate ops.size false) a { w with drawn := w.drawn + 1 }) : (Code.region id ops true).wpIn (Fence.wide.inRound l) n P Q a w :=
  wpIn_region_any hm (wpAny_round hnd hL _ _ _ _ h)

/-- A region of reads, arithmetic and quiet calls that draws its order, in a round. -/
theorem region_round_quiet {id : Nat} {a : Act} {w : World} {os : List Oper} (hm : P.follows .mixedOrders = true) (hnd : noDefer os.toArray = true) (hL : ¬ LetsOut Q) (hB : Region.lexB .any os.toArray = true)
    (h : wpQuiet P os.toArray (fun w' => ∃ k, w' = w.drewN k) (fun a' => ∀ w', (∃ k, w' = w.drewN k) → Q .normal a' w') os a) : (Code.region id os.toArray true).wpIn (Fence.wide.inRound l) n P Q a w := by
  obtain ⟨b1, b2⟩ : Region.noSelect os.toArray = true ∧ _ := by simpa only [Region.lexB, Bool.and_eq_true] using hB
  have q := wpAnyQ_lex (md := .any) b1 os 0 (Array.replicate os.toArray.size false) a (by simp) (by simpa using b2) h
  exact region_round hm hnd hL (wpAny_of_quiet (C := fun w' => ∃ k, w' = w.drewN k) (Q := fun a' => ∀ w', (∃ k, w' = w.drewN k) → Q .normal a' w') (fun _ w' hw' h => h w' hw') _ _ _ _ ⟨1, rfl⟩ (by simpa using q))

/-- The same, and at its end, in order, what writes. -/
theorem region_round_tail {id : Nat} {a : Act} {w : World} {os : List Oper} (m : Nat) (hm : P.follows .mixedOrders = true) (hnd : noDefer os.toArray = true) (hL : ¬ LetsOut Q) (hB : Region.lexTailB .any os.toArray m = true)
    (h : wpStill P os.toArray w.drew (fun a' => wpList P os.toArray Q (os.drop m) a' w.drew) (os.take m) a) : (Code.region id os.toArray true).wpIn (Fence.wide.inRound l) n P Q a w := by
  simp only [Region.lexTailB, Bool.and_eq_true, decide_eq_true_eq] at hB
  have t1 : (os.take m).length = m := by have := hB.1.1.1.2; simp at this ⊢; omega
  have t2 : (os.drop m).length = os.toArray.size - m := by simp
  have i0 : HeadInv .any os.toArray m (Array.replicate os.toArray.size false) :=
    ⟨by simp, fun j _ _ (e : _ = true) => (by rw [getD_replicate_false] at e; cases e), fun t _ ht => getD_in (by simpa using ht) (getD_replicate_false _ _)⟩
  have q := wpAnyL_lex (md := .any) (g := os.toArray.size - m) hB.1.1.1.1 hB.1.1.2 hB.1.2 hB.1.1.1.2 (os.take m) 0 _ a (fun j hj => by rw [t1] at hj; simp [hj]) (by simpa using t1) i0 (by rw [t1]; exact hB.2) h
  have q2 := wpAny_of_head (Q' := Q) (g := os.toArray.size - m) (fun listed a' e => by
    have := wpAny_of_seq (md := .any) (Q' := Q) (os.drop m) m listed a' w.drew (fun j => by simp [List.getElem?_drop]) (by rw [t2]; exact e.1) e.2
    rwa [t2] at this) _ _ _ q
  rw [t1, show m + (os.toArray.size - m) = os.toArray.size by have := hB.1.1.1.2; omega] at q2
  exact region_round hm hnd hL q2

end
end Go.Rk
namespace Go.Proofs.Ytoahegjjffggaaa
open Go.RowKit Go.Shelf Go.Rk
attribute [local go_sem] Oper.semAt_some

/-- An element of the product. -/
def mulE (A B : List (List Int)) (k i j : Nat) : Int := sumTo (fun t => en A i t * en B t j) k

theorem mulE_le {A B : List (List Int)} {n k c t i j : Nat} (eA : EntR 0 9972 n k A) (eB : EntR 0 9972 k c B) (ht : t ≤ k) (hi : i < n) (hj : j < c) : 0 ≤ mulE A B t i j ∧ mulE A B t i j ≤ 99440784 * t := by
  induction t with
  | zero => exact ⟨Int.le_refl _, Int.le_refl _⟩
  | succ t ih =>
    have h := ih (by omega)
    have m1 := eA i t hi (by omega)
    have m2 := eB t j (by omega) hj
    have m3 : 0 ≤ en A i t * en B t j ∧ en A i t * en B t j ≤ 9972 * 9972 := ⟨Int.mul_nonneg m1.1 m2.1, Int.mul_le_mul m1.2 m2.2 m2.1 (by omega)⟩
    unfold mulE at h ⊢
    rw [sumTo]
    omega

set_option maxRecDepth 100000 in
set_option maxHeartbeats 4000000 in
theorem mul_any {a b : Option Addr} {n k c ca cb : Nat} {A B : List (List Int)} {w : World} (hA : RdM w a n ca A) (hB : RdM w b k cb B) (dA : Dm n k A) (dB : Dm k c B) (eA : EntR 0 9972 n k A) (eB : EntR 0 9972 k c B)
    (hn : 1 ≤ n ∧ n ≤ 100) (hk : 1 ≤ k ∧ k ≤ 100) (hc : 1 ≤ c ∧ c ≤ 100) :
    Calls Try.prog 79 #[.slice a n ca, .slice b k cb] w fun e w' => ∃ a' cap' P, e = .returned (.slice a' n cap') ∧ OwM w' w.heap.size 22 3 a' n cap' P ∧ IsR n c P (fun i j => mulE A B k i j % 9973) ∧ Below w.heap.size w w' := by
  have HM := Lib.hid matTy
  have HDA := Lib.hid dA
  have HDB := Lib.hid dB
  have HEA := Lib.hid eA
  have HEB := Lib.hid eB
  clear dA dB eA eB
  refine (callsIn_wide (n := 6)).1 ?_
  refine callsIn_of_wp_marks Try.func79 rfl trivial ?_ rfl
  simp only [Try.ntmps79, List.size_toArray, List.length_cons, List.length_nil, Nat.reduceAdd, Nat.reduceSub, Array.replicate_succ, Array.replicate_zero, List.push_toArray, List.append_toArray, List.nil_append, List.cons_append]
  refine wpIn_wide.2 ?_
  go_wp2
  have k2 : Below w.heap.size w ((w.alloc (.cells #[.slice a n ca] 43)).alloc (.cells #[.slice b k cb] 43)) := ((Below.refl _ w).alloc (Nat.le_refl _) _).alloc (by simp) _
  have s2 : ((w.alloc (.cells #[.slice a n ca] 43)).alloc (.cells #[.slice b k cb] 43)).heap.size = w.heap.size + 2 := by simp
  have p1 : ((w.alloc (.cells #[.slice a n ca] 43)).alloc (.cells #[.slice b k cb] 43)).cell? ⟨w.heap.size, 0, none⟩ = some (.slice a n ca) := by simp
  have p2 : ((w.alloc (.cells #[.slice a n ca] 43)).alloc (.cells #[.slice b k cb] 43)).cell? ⟨w.heap.size + 1, 0, none⟩ = some (.slice b k cb) := by simp
  generalize ((w.alloc (.cells #[.slice a n ca] 43)).alloc (.cells #[.slice b k cb] 43)) = w2 at *
  have s3 : w.heap.size + 1 < w2.heap.size := by omega
  have S2 := Lib.hid s2
  clear s2
  have hA2 := hA.below k2
  have hB2 := hB.below k2
  obtain ⟨bb, ob, rfl, hbb, hrb⟩ := hB2.at (k := 0) (by omega)
  obtain ⟨ar, cr, hc0, _⟩ := hrb 0 (by omega)
  rw [HDB.out.2 0 (by omega), Nat.add_zero] at hc0
  have b1 : (0 : Int) < (k : Int) := by omega
  have b2 : (1 : Int) ≤ (k : Int) := by omega
  have b3 : 0 < k := by omega
  go_region_held3 (fun w' => w'.cell? ⟨w.heap.size, 0, none⟩ = some (.slice a n ca) ∧ w'.cell? ⟨w.heap.size + 1, 0, none⟩ = some (.slice (some ⟨bb, ob, none⟩) k cb) ∧ w'.cell? ⟨bb, ob, none⟩ = some (.slice ar c cr))
    (((try go_split_ands); (try dsimp only); (repeat' (apply And.intro)); all_goals (first | assumption | (refine alloc_keep ?_; assumption) | (refine hb3.keep ?_ ?_ <;> (first | assumption | (refine alloc_keep ?_; assumption) | (simp; omega))) | (refine alloc_keep ?_; refine hb3.keep ?_ ?_ <;> (first | assumption | (refine alloc_keep ?_; assumption) | (simp; omega))) | (refine set_keep ?_ ?_; (first | assumption | (refine hb3.keep ?_ ?_ <;> (first | assumption | (refine alloc_keep ?_; assumption) | (simp; omega)))); (first | (simp; omega) | omega)) | (go_keep; done))))
    (first | (go_at_call 64; refine (Grid_any n c _ (by omega) (by omega)).mono ?_; rintro e w3 ⟨a3, cap3, rfl, ho3, hb3⟩; try (refine keepBox hb3 ?_; intro x1 x2 x3 x4)))
  focus
    obtain ⟨g, D, C, hz, hd3⟩ := ho3.named (by omega) fun r hr => by rw [(Dm.replicate n c 0).2 r hr]; omega
    cases hz
    have k3 : Below w2.heap.size w2 (w3.alloc (.cells #[.slice (some ⟨g, 0, none⟩) n cap3] 43)) := (((Below.refl _ w2).drew).trans (hb3.mono (Nat.le_refl _))).alloc hb3.size _
    have hd4 := (hd3.mono (B' := w2.heap.size) (by simp)).alloc (.cells #[.slice (some ⟨g, 0, none⟩) n cap3] 43)
    have px : (w3.alloc (.cells #[.slice (some ⟨g, 0, none⟩) n cap3] 43)).cell? ⟨w3.heap.size, 0, none⟩ = some (.slice (some ⟨g, 0, none⟩) n cap3) := by simp
    clear hd3 ho3 hb3
    generalize (w3.alloc (.cells #[.slice (some ⟨g, 0, none⟩) n cap3] 43)) = W4 at *
    generalize w3.heap.size = PO at *
  rotate_left
  focus
    obtain ⟨g, D, C, hz, hd3⟩ := ho3.named (by omega) fun r hr => by rw [(Dm.replicate n c 0).2 r hr]; omega
    cases hz
    have k3 : Below w2.heap.size w2 (w3.setCell ⟨w2.heap.size, 0, none⟩ (.slice (some ⟨g, 0, none⟩) n cap3)) := ((((Below.refl _ w2).alloc (Nat.le_refl _) (.cells #[.slice none 0 0] 43)).drew).trans (hb3.mono (by simp))).setCell (p := ⟨w2.heap.size, 0, none⟩) (Nat.le_refl _) _
    have px : (w3.setCell ⟨w2.heap.size, 0, none⟩ (.slice (some ⟨g, 0, none⟩) n cap3)).cell? ⟨w2.heap.size, 0, none⟩ = some (.slice (some ⟨g, 0, none⟩) n cap3) := World.cell?_setCell_same _ _ _ x1
    have hd4 := (hd3.setElse (p := ⟨w2.heap.size, 0, none⟩) (fun e => by have := hd3.lowO.1; simp at this e; omega) (fun r hr e => by have := (hd3.lowI hr).1; simp at this e; omega) (.slice (some ⟨g, 0, none⟩) n cap3)).mono (B' := w2.heap.size) (by simp)
    clear x1 x2 x3 x4 hd3 ho3 hb3
    generalize (w3.setCell ⟨w2.heap.size, 0, none⟩ (.slice (some ⟨g, 0, none⟩) n cap3)) = W4 at *
    obtain ⟨PO, hPO⟩ : ∃ PO, PO = w2.heap.size := ⟨_, rfl⟩
    rw [← hPO] at px ⊢
    clear hPO
  all_goals
    clear hc0
    have q1 := (k3.cell (p := ⟨w.heap.size, 0, none⟩) (by simp; omega)).trans p1
    have q2 := (k3.cell (p := ⟨w.heap.size + 1, 0, none⟩) s3).trans p2
    have k4 := k2.trans (k3.mono k2.size)
    have kB4 : W4.heap.size ≥ w2.heap.size := k3.size
    clear p1 p2 hA2 hB2 k3
    go_wp2_with (go_at_call 65; refine (callsIn_wide.1 (each_in 0 (some ⟨g, 0, none⟩) n cap3 W4)).mono ?_; rintro e w' ⟨rfl, rfl⟩)
    refine (wpIn_wide (n := 6)).1 ?_
    have hd5 := hd4.alloc (.cells #[.slice (some ⟨g, 0, none⟩) n cap3] 43)
    have hG : Grid n c g 0 D (fun _ => 0) C (fun _ _ _ => True) (W4.alloc (.cells #[.slice (some ⟨g, 0, none⟩) n cap3] 43)) := hd5.grid (Dm.replicate n c 0) fun _ _ _ _ => trivial
    have hBm : (W4.alloc (.cells #[.slice (some ⟨g, 0, none⟩) n cap3] 43)).cell? ⟨W4.heap.size, 0, none⟩ = some (.slice (some ⟨g, 0, none⟩) n cap3) := by simp
    have k5 := k4.alloc (Nat.le_trans k2.size kB4) (.cells #[.slice (some ⟨g, 0, none⟩) n cap3] 43)
    have q3 := alloc_keep (o := .cells #[.slice (some ⟨g, 0, none⟩) n cap3] 43) q1
    have q4 := alloc_keep (o := .cells #[.slice (some ⟨g, 0, none⟩) n cap3] 43) q2
    have q5 := alloc_keep (o := .cells #[.slice (some ⟨g, 0, none⟩) n cap3] 43) px
    have hBl : W4.heap.size < (W4.alloc (.cells #[.slice (some ⟨g, 0, none⟩) n cap3] 43)).heap.size := by simp
    have hbl : g < (W4.alloc (.cells #[.slice (some ⟨g, 0, none⟩) n cap3] 43)).heap.size := hd5.lowO.2
    have hDl : ∀ r, r < n → D r < (W4.alloc (.cells #[.slice (some ⟨g, 0, none⟩) n cap3] 43)).heap.size := fun r hr => (hd5.lowI hr).2
    have h5w : w.heap.size ≤ (W4.alloc (.cells #[.slice (some ⟨g, 0, none⟩) n cap3] 43)).heap.size := k5.size
    clear q1 q2 px k4
    refine wpIn_rangeFunc_ownH rfl (by decide) (gf := 88) (lb := #[.pointer (some ⟨W4.heap.size, 0, none⟩)]) rfl trivial (enters_of Try.func88 (by kernel_rfl) rfl)
      (each_stops 5 (cap := cap3) (by omega) (by omega) _ hBm hBl hG hbl hDl) (fun h h' g => h' (h g)) (fun W l o o' _ h1 h2 _ g => g.passes (grownBy_putObj' W l o') (fun r e => by cases e; exact ⟨o, h1, h2⟩)) (Below.refl _ _) (fun _ => rfl)
      (fun pre W => (∃ P, OwMD W w2.heap.size 22 3 g D C n cap3 P ∧ Dm n c P ∧ ∀ p ∈ plcs pre, en P p.1 p.2 = mulE A B k p.1 p.2 % 9973) ∧ W.cell? ⟨w.heap.size, 0, none⟩ = some (.slice a n ca) ∧ W.cell? ⟨w.heap.size + 1, 0, none⟩ = some (.slice (some ⟨bb, ob, none⟩) k cb) ∧ W.cell? ⟨PO, 0, none⟩ = some (.slice (some ⟨g, 0, none⟩) n cap3) ∧ Below w.heap.size w W)
      (fun _ _ _ => False)
      (fun s X Y row hs hgr hr => ⟨let ⟨P, e1, e2, e3⟩ := hs.1; ⟨P, e1.passes hgr (fun r e => (hr r e).2), e2, e3⟩, cell_kept hs.2.1 hgr (fun r e => (hr r e).2), cell_kept hs.2.2.1 hgr (fun r e => (hr r e).2), cell_kept hs.2.2.2.1 hgr (fun r e => (hr r e).2), hs.2.2.2.2.grown hgr hs.2.2.2.2.size (fun r e => Nat.le_trans h5w (hr r e).1)⟩)
      (fun _ _ _ _ _ hs _ _ => hs)
      ⟨⟨_, hd5, Dm.replicate n c 0, fun p hp => by cases hp⟩, q3, q4, q5, k5⟩
      (fun x a' W => ∃ Bx, W.cell? ⟨Bx, 0, none⟩ = some (.int .i64 (x.1.1 : Int)) ∧ W.cell? ⟨Bx, 1, none⟩ = some (.int .i64 (x.1.2.1 : Int)) ∧ a' = { tmps := #[Value.slice a n ca, Value.slice (some { block := bb, off := ob }) k cb, Value.pointer (some { block := w.heap.size, off := 0 }), Value.pointer (some { block := w.heap.size + 1, off := 0 }), Value.slice none 0 0, Value.pointer (some { block := PO, off := 0 }), Value.pointer (some { block := Bx, off := 0 }), undef, undef, Value.slice a n ca, Value.int IntKind.i64 ↑n, Value.slice (some { block := bb, off := ob }) k cb, Value.pointer (some { block := bb, off := ob }), Value.slice ar c cr, Value.int IntKind.i64 ↑c, Value.slice (some { block := g, off := 0 }) n cap3, Value.slice (some { block := g, off := 0 }) n cap3, Value.func (.func 88) #[] #[.pointer (some ⟨W4.heap.size, 0, none⟩)], .agg #[.int .i64 (x.1.1 : Int), .int .i64 (x.1.2.1 : Int)], .int .i64 x.1.2.2, undef, undef, undef, undef, undef, undef, undef, undef, undef, undef, undef, undef, undef, undef, undef, undef, undef, undef, undef, undef, undef, undef, undef, undef, undef, undef, undef, undef, undef, undef, undef, undef, undef, undef, undef, undef], defers := [] })
      (fun x a' _ X Y row hs hgr hr => let ⟨Bx, e1, e2, e3⟩ := hs; ⟨Bx, cell_kept e1 hgr (fun r e => (hr r e).2), cell_kept e2 hgr (fun r e => (hr r e).2), e3⟩)
      ?assign ?body ?done ?stop
    case assign =>
      rintro l pre x W K ⟨⟨P, e1, e2, e3⟩, c1, c2, c3, hbW⟩ hK
      dsimp only [encP]
      gi_wp2
      exact hK _ _ ((KeepsOthers.alloc _ _).from _) (fun g => g.fresh ((Below.refl _ _).alloc (Nat.le_refl _) _)) ⟨⟨P, e1.alloc _, e2, e3⟩, alloc_keep c1, alloc_keep c2, alloc_keep c3, hbW.alloc hbW.size _⟩ ⟨W.heap.size, by simp, by simp, rfl⟩
    case body =>
      rintro l pre ⟨⟨i, j, v⟩, hi, hj, _⟩ a' W hl ⟨r, hr⟩ ⟨⟨P, e1, e2, e3⟩, c1, c2, c3, hbW⟩ ⟨Bx, y1, y2, rfl⟩ hlt
      clear hG hBm hBl hbl hDl q3 q4 q5 hd4 hd5
      dsimp only at y1 y2 hi hj ⊢
      gi_wp2
      gi_loopw [7, 22] (fun s t wr => ∃ (t' q : Nat) (S : Int), t' ≤ k ∧ t = .int .i64 t' ∧ s = .int .i64 S ∧ Hid (S = mulE A B t' i j) ∧ Hid (wr = W.drewN q)) (fun _ t _ => k - (intOf t).toNat)
      case atStart => exact ⟨0, 0, 0, Nat.zero_le _, rfl, rfl, rfl, (World.drewN_zero _).symm⟩
      case round =>
        obtain ⟨t', q, S, ht, rfl, rfl, HS, HQ⟩ := hrel
        have kq : Below W.heap.size W wr := by rw [HQ.out]; exact below_drewN (Below.refl _ _) q
        have kw : Below w.heap.size w wr := by rw [HQ.out]; exact below_drewN hbW q
        have c1 := kq.keep (World.block_lt_of_cell? W _ c1) c1
        have c2 := kq.keep (World.block_lt_of_cell? W _ c2) c2
        have c3 := kq.keep (World.block_lt_of_cell? W _ c3) c3
        have y1 := kq.keep (World.block_lt_of_cell? W _ y1) y1
        have y2 := kq.keep (World.block_lt_of_cell? W _ y2) y2
        have hS := mulE_le HEA.out HEB.out ht hi hj
        rw [← HS.out] at hS
        by_cases htk : t' < k
        · obtain ⟨ba, oa, hz, hba, hra⟩ := (hA.below kw).at hi
          subst hz
          obtain ⟨ai, ci, a1, hai⟩ := hra i hi
          rw [HDA.out.2 i hi] at a1 hai
          obtain ⟨pa, qa, hz, hpa, hca⟩ := hai.at htk
          subst hz
          have a2 := hca t' htk
          obtain ⟨bb', ob', hz, hbb, hrb⟩ := (hB.below kw).at htk
          cases hz
          obtain ⟨bi, di, b1, hbi⟩ := hrb t' htk
          rw [HDB.out.2 t' htk] at b1 hbi
          obtain ⟨pb, qb, hz, hpb, hcb⟩ := hbi.at hj
          subst hz
          have b2 := hcb j hj
          change World.cell? _ _ = some (.int .i64 (en A i t')) at a2
          change World.cell? _ _ = some (.int .i64 (en B t' j)) at b2
          have m1 := HEA.out i t' hi htk
          have m2 := HEB.out t' j htk hj
          have m3 : 0 ≤ en A i t' * en B t' j ∧ en A i t' * en B t' j ≤ 9972 * 9972 := ⟨Int.mul_nonneg m1.1 m2.1, Int.mul_le_mul m1.2 m2.2 m2.1 (by omega)⟩
          obtain ⟨T, hT⟩ : ∃ T : Int, T = en A i t' * en B t' j := ⟨_, rfl⟩
          rw [← hT] at m3
          have u1 : IntKind.i64.wrap (en A i t' * en B t' j) = T := by rw [hT]; exact Go.IntWalk.i64_in _ (by omega)
          have u2 : IntKind.i64.wrap (S + T) = S + T := Go.IntWalk.i64_in _ (by omega)
          have HT := Lib.hid hT
          have i1 : (i : Int) < (n : Int) := by omega
          have i2 : (j : Int) < (c : Int) := by omega
          have i3 : (t' : Int) < (k : Int) := by omega
          clear hT hca hcb hra hrb hai hbi
          gi_wp2
          refine region_round_quiet (by kernel_rfl) (by kernel_rfl) (fun ⟨_, _, h⟩ => h) (by kernel_rfl) ?_
          repeat (go_big_quiet_step (fail))
          refine wpQuiet_nil ?_
          rintro _ ⟨nq, rfl⟩
          gi_wp2
          go_roundw
          case rel => exact ⟨t' + 1, _, _, by omega, by go_num, rfl, by unfold Hid mulE; rw [sumTo, HT.out, HS.out]; rfl, by unfold Hid; rw [HQ.out, World.drewN_drewN]⟩
          case measure => simp [intOf]; omega
        · obtain rfl : t' = k := by omega
          have hP := e1.below kq
          have a1 := hP.cellO hi
          have a2 := hP.cellI hi (j := j) (by rw [e2.2 i hi]; exact hj)
          have a3 := hP.frozenI hi (by rw [e2.2 i hi]; omega) j
          rw [e2.2 i hi] at a1
          have i1 : (i : Int) < (n : Int) := by omega
          have i2 : (j : Int) < (c : Int) := by omega
          gi_wp2
          refine region_round_tail 10 (by kernel_rfl) (by kernel_rfl) (fun ⟨_, _, h⟩ => h) (by kernel_rfl) ?_
          simp only [List.take_succ_cons, List.take_zero, List.drop_succ_cons, List.drop_zero]
          repeat still_step
          still_call (stillW (Field_any _ _))
          repeat still_step
          refine wpStill_nil ?_
          change wpList _ _ _ _ _ wr.drew
          go_wp2
          refine ⟨(((HQ.out ▸ keepsOthers_drewN W q : KeepsOthers W wr).trans (KeepsOthers.setCell _ _ _)).trans (KeepsOthers.drew _)).from _, fun g => ((g.fresh kq).setInt a2 fun _ _ _ _ => trivial).fresh (Below.refl _ _).drew, ⟨_, (hP.set matTy.ne hi _).drew, e2.setE _ _ _, fun p hp => ?_⟩, set_keepS c1 a2, set_keepS c2 a2, set_keepS c3 a2, (kw.setCell (p := ⟨D i, j, none⟩) (Nat.le_trans k2.size (hP.lowI hi).1) _).drew⟩
          rw [plcs_snoc] at hp
          have hpl : p.1 < n ∧ p.2 < c := by
            rcases List.mem_append.1 hp with h | h
            · exact plcs_in h
            · cases List.mem_singleton.1 h
              exact ⟨hi, hj⟩
          rw [e2.en_set _ hpl.1 hpl.2]
          split
          · next h => rw [← h.1, ← h.2, HS.out]
          · next h =>
            rcases List.mem_append.1 hp with h2 | h2
            · exact e3 p h2
            · cases List.mem_singleton.1 h2
              exact absurd ⟨rfl, rfl⟩ h
    case done =>
      rintro Dd ys W hDd hS ⟨⟨P, e1, e2, e3⟩, c1, c2, c3, hbW⟩ hK
      go_wp2
      refine ⟨by simp, .inl ⟨_, _, rfl, run_takeDeferred hK, ?_⟩⟩
      have hgr := grownBy_putObj' W Dd (.deferred none)
      have hno : ∀ r, some Dd = some r → ∃ o : Obj, W.heap[r]? = some o ∧ o.isCells = false := fun r e => by cases e; exact ⟨_, hK, rfl⟩
      exact ⟨_, results_tmp rfl _ _ _, _, _, P, rfl, ((e1.passes hgr hno).mono k2.size).toM, ⟨e2, fun i j hi hj => e3 (i, j) (by rw [hS]; exact locs_mem hi hj)⟩, hbW.grown hgr hbW.size (fun r e => by cases e; exact Nat.le_trans h5w hDd)⟩
    case stop =>
      rintro D c pre W _ _ h _
      exact h.elim
end Go.Proofs.Ytoahegjjffggaaa
namespace Go.Proofs.Ytoahegjjffggaaa
open Go.RowKit Go.Shelf Go.Rk

def firstO (a b : Option Int) : Option Int := match a with | some x => some x | none => b

set_option maxHeartbeats 1000000 in
theorem First_any {x y : Option Int} {b : Nat} {w : World} (h0 : w.cell? ⟨b, 0, none⟩ = some (errV x)) (h1 : w.cell? ⟨b, 1, none⟩ = some (errV y)) :
    Calls Try.prog 82 #[.slice (some ⟨b, 0, none⟩) 2 2] w fun e w' => e = .returned (errV (firstO x y)) ∧ w = w' := by
  go_enter Try.func82, Try.ntmps82
  go_wp2
  go_loop [7] (fun i => ∃ k : Nat, k ≤ 2 ∧ i = .int .i64 k ∧ Hid (1 ≤ k → x = none) ∧ Hid (2 ≤ k → y = none)) (fun i => 2 - (intOf i).toNat)
  case atStart => exact ⟨0, by omega, rfl, fun h => absurd h (by omega), fun h => absurd h (by omega)⟩
  case round =>
    obtain ⟨k, hk, rfl, q1, q2⟩ := hrel
    rcases (show k = 0 ∨ k = 1 ∨ k = 2 by omega) with rfl | rfl | rfl
    · rcases x with _ | x
      · simp only [errV] at h0
        go_wp2
        go_round
        case rel => exact ⟨1, by omega, by go_num, fun _ => by first | rfl | trivial, fun h => absurd h (by omega)⟩
        case measure => simp [intOf]
      · simp only [errV] at h0
        go_wp2
        go_ret
        exact ⟨rfl, rfl⟩
    · have e := q1.out (by omega)
      subst e
      rcases y with _ | y
      · simp only [errV] at h1
        go_wp2
        go_round
        case rel => exact ⟨2, by omega, by go_num, fun _ => by first | rfl | trivial, fun _ => by first | rfl | trivial⟩
        case measure => simp [intOf]
      · simp only [errV] at h1
        go_wp2
        go_ret
        exact ⟨rfl, rfl⟩
    · have e := q1.out (by omega)
      have e2 := q2.out (by omega)
      subst e; subst e2
      go_wp2
      go_ret
      exact ⟨rfl, rfl⟩

/-- What is wrong with two matrices' product. -/
def mulErr (A B : List (List Int)) : Option Int :=
  match firstO (groundsR 5 0 9972 A) (groundsR 5 0 9972 B) with
  | some x => some x
  | none => if (rowOf A 0).length = B.length then none else some 3
def addErr (A B : List (List Int)) : Option Int :=
  match firstO (groundsR 5 0 9972 A) (groundsR 5 0 9972 B) with
  | some x => some x
  | none => if A.length = B.length ∧ (rowOf A 0).length = (rowOf B 0).length then none else some 3

theorem firstO_none {a b : Option Int} (h : firstO a b = none) : a = none ∧ b = none := by
  cases a with
  | none => exact ⟨rfl, h⟩
  | some x => cases h

section
variable {a b : Option Addr} {n k ca cb : Nat} {A B : List (List Int)} {w : World}
set_option maxRecDepth 100000 in
set_option maxHeartbeats 2000000 in
theorem Mul_err {x : Int} (hA : RdM w a n ca A) (hB : RdM w b k cb B) (hq : mulErr A B = some x) :
    Calls Try.prog 75 #[.slice a n ca, .slice b k cb] w fun e w' => e = .returned (.tuple #[.slice none 0 0, .iface 59 (.int .i64 x)]) ∧ Below w.heap.size w w' := by
  unfold mulErr at hq
  obtain ⟨ga, hga⟩ : ∃ ga, groundsR 5 0 9972 A = ga := ⟨_, rfl⟩
  obtain ⟨gb, hgb⟩ : ∃ gb, groundsR 5 0 9972 B = gb := ⟨_, rfl⟩
  have C1 := Lib.hid (mat_Check_is hA hga)
  have C2 := Lib.hid (mat_Check_is hB hgb)
  rw [hga, hgb] at hq
  have kB := (Below.refl w.heap.size w).alloc (Nat.le_refl _) (.cells #[errV ga, errV gb] 25)
  rcases hf : firstO ga gb with _ | y
  · rw [hf] at hq
    have HF := Lib.hid hf
    obtain ⟨rfl, rfl⟩ := firstO_none hf
    obtain ⟨l1, l2, l3, l4, l5⟩ := groundsR_none hga
    have e1 := hA.len_eq
    have e2 := hB.len_eq
    rw [e1] at l1
    dsimp only at hq
    split at hq
    · cases hq
    · next hne =>
      injection hq with hq
      subst hq
      rw [e2] at hne
      have z : (((rowOf A 0).length : Int) != (k : Int)) = true := bne_iff_ne.2 (by omega)
      obtain ⟨ba, oa, rfl, hba, hra⟩ := (hA.below kB).at l1
      obtain ⟨ai, ci, hc0, _⟩ := hra 0 l1
      rw [Nat.add_zero] at hc0
      simp only [errV] at hc0 kB
      have b1 : (0 : Int) < (n : Int) := by omega
      have b2 : (1 : Int) ≤ (n : Int) := by omega
      clear hf hga hgb hra l2 l3 l4 l5 e1 e2 hne
      go_enter Try.func75, Try.ntmps75
      go_wp2_with (first | (go_at_call 67; first | ((with_reducible refine C1.out.mono ?_); clear C1; rintro e w' ⟨rfl, rfl⟩; simp only [errV]) | ((with_reducible refine C2.out.mono ?_); rintro e w' ⟨rfl, rfl⟩; simp only [errV])) | (go_at_call 82; refine (First_any (x := none) (y := none) (by simp [errV]) (by simp [errV])).mono ?_; rintro e w' ⟨rfl, rfl⟩; rw [HF.out]; simp only [errV]))
      go_ret2
      exact ⟨rfl, kB⟩
  · rw [hf] at hq
    have HF := Lib.hid hf
    dsimp only at hq
    injection hq with hq
    subst hq
    clear hf hga hgb
    rcases ga with _ | ga <;> rcases gb with _ | gb
    · cases HF.out
    · simp only [errV] at kB
      go_enter Try.func75, Try.ntmps75
      go_wp2_with (first | (go_at_call 67; first | ((with_reducible refine C1.out.mono ?_); clear C1; rintro e w' ⟨rfl, rfl⟩; simp only [errV]) | ((with_reducible refine C2.out.mono ?_); rintro e w' ⟨rfl, rfl⟩; simp only [errV])) | (go_at_call 82; refine (First_any (x := none) (y := (some gb)) (by simp [errV]) (by simp [errV])).mono ?_; rintro e w' ⟨rfl, rfl⟩; rw [HF.out]; simp only [errV]))
      go_ret2
      exact ⟨rfl, kB⟩
    · simp only [errV] at kB
      go_enter Try.func75, Try.ntmps75
      go_wp2_with (first | (go_at_call 67; first | ((with_reducible refine C1.out.mono ?_); clear C1; rintro e w' ⟨rfl, rfl⟩; simp only [errV]) | ((with_reducible refine C2.out.mono ?_); rintro e w' ⟨rfl, rfl⟩; simp only [errV])) | (go_at_call 82; refine (First_any (x := (some ga)) (y := none) (by simp [errV]) (by simp [errV])).mono ?_; rintro e w' ⟨rfl, rfl⟩; rw [HF.out]; simp only [errV]))
      go_ret2
      exact ⟨rfl, kB⟩
    · simp only [errV] at kB
      go_enter Try.func75, Try.ntmps75
      go_wp2_with (first | (go_at_call 67; first | ((with_reducible refine C1.out.mono ?_); clear C1; rintro e w' ⟨rfl, rfl⟩; simp only [errV]) | ((with_reducible refine C2.out.mono ?_); rintro e w' ⟨rfl, rfl⟩; simp only [errV])) | (go_at_call 82; refine (First_any (x := (some ga)) (y := (some gb)) (by simp [errV]) (by simp [errV])).mono ?_; rintro e w' ⟨rfl, rfl⟩; rw [HF.out]; simp only [errV]))
      go_ret2
      exact ⟨rfl, kB⟩

theorem grounds_dm (e : A.length = n) (g : groundsR 5 0 9972 A = none) : (1 ≤ n ∧ n ≤ 5) ∧ (1 ≤ (rowOf A 0).length ∧ (rowOf A 0).length ≤ 5) ∧ Dm n (rowOf A 0).length A ∧ EntR 0 9972 n (rowOf A 0).length A := by
  obtain ⟨l1, l2, l3, l4, l5⟩ := groundsR_none g
  rw [e] at l1 l3 l5
  exact ⟨⟨l1, by omega⟩, ⟨l2, by omega⟩, ⟨e, fun i hi => (l5 i hi).1⟩, fun i j hi hj => (l5 i hi).2 j (by rw [(l5 i hi).1]; exact hj)⟩

theorem mulErr_none (h : mulErr A B = none) : groundsR 5 0 9972 A = none ∧ groundsR 5 0 9972 B = none ∧ (rowOf A 0).length = B.length := by
  unfold mulErr at h
  split at h
  · cases h
  · next h1 =>
    split at h
    · next h2 => exact ⟨(firstO_none h1).1, (firstO_none h1).2, h2⟩
    · cases h
theorem addErr_none (h : addErr A B = none) : groundsR 5 0 9972 A = none ∧ groundsR 5 0 9972 B = none ∧ A.length = B.length ∧ (rowOf A 0).length = (rowOf B 0).length := by
  unfold addErr at h
  split at h
  · cases h
  · next h1 =>
    split at h
    · next h2 => exact ⟨(firstO_none h1).1, (firstO_none h1).2, h2⟩
    · cases h

set_option maxRecDepth 100000 in
set_option maxHeartbeats 2000000 in
theorem Mul_ok (hA : RdM w a n ca A) (hB : RdM w b k cb B) (hq : mulErr A B = none) :
    Calls Try.prog 75 #[.slice a n ca, .slice b k cb] w fun e w' => ∃ a' cap' P, e = .returned (.tuple #[.slice a' n cap', .nilIface]) ∧ OwM w' w.heap.size 22 3 a' n cap' P ∧ IsR n (rowOf B 0).length P (fun i j => mulE A B k i j % 9973) ∧ Below w.heap.size w w' := by
  obtain ⟨g1, g2, g3⟩ := mulErr_none hq
  have C1 := Lib.hid (mat_Check_is hA g1)
  have C2 := Lib.hid (mat_Check_is hB g2)
  obtain ⟨n1, n2, dA, eA⟩ := grounds_dm hA.len_eq g1
  obtain ⟨m1, m2, dB, eB⟩ := grounds_dm hB.len_eq g2
  rw [hB.len_eq] at g3
  rw [g3] at dA eA
  have kB := (Below.refl w.heap.size w).alloc (Nat.le_refl _) (.cells #[.nilIface, .nilIface] 25)
  have C3 := Lib.hid (mul_any (hA.below kB) (hB.below kB) dA dB eA eB ⟨n1.1, by omega⟩ ⟨m1.1, by omega⟩ ⟨m2.1, by omega⟩)
  have z : ((k : Int) != (k : Int)) = false := bne_eq_false_iff_eq.2 rfl
  obtain ⟨ba, oa, rfl, hba, hra⟩ := (hA.below kB).at (k := 0) (by omega)
  obtain ⟨ai, ci, hc0, _⟩ := hra 0 (by omega)
  rw [Nat.add_zero, g3] at hc0
  have b1 : (0 : Int) < (n : Int) := by omega
  have b2 : (1 : Int) ≤ (n : Int) := by omega
  have HF : Hid (firstO none none = none) := rfl
  clear hq g1 g2 g3 hra dA dB eA eB m1 m2
  go_enter Try.func75, Try.ntmps75
  go_wp2_with (first | (go_at_call 67; first | ((with_reducible refine C1.out.mono ?_); clear C1; rintro e w' ⟨rfl, rfl⟩; simp only [errV]) | ((with_reducible refine C2.out.mono ?_); rintro e w' ⟨rfl, rfl⟩; simp only [errV])) | (go_at_call 82; refine (First_any (x := none) (y := none) (by simp [errV]) (by simp [errV])).mono ?_; rintro e w' ⟨rfl, rfl⟩; rw [HF.out]; simp only [errV]) | (go_at_call 79; (with_reducible refine C3.out.mono ?_); rintro e w3 ⟨a3, cap3, P, rfl, ho3, hi3, hb3⟩))
  go_ret2
  exact ⟨a3, cap3, P, rfl, ho3.mono kB.size, hi3, kB.trans (hb3.mono kB.size)⟩

end
end Go.Proofs.Ytoahegjjffggaaa
namespace Go.Proofs.Ytoahegjjffggaaa
open Go.Rk

theorem rowsErr_of {lo hi : Int} {m : Nat} {M : List (List Int)} (h : ∀ l ∈ M, l.length = m ∧ anyB lo hi l = false) : rowsErr lo hi m M = none := by
  unfold rowsErr
  induction M with
  | nil => rfl
  | cons l M ih =>
    obtain ⟨h1, h2⟩ := h l (by simp)
    have e : rowErr1 lo hi m l = none := by unfold rowErr1; rw [if_neg (by simp [h1]), h2]; simp
    rw [List.foldl_cons]
    show List.foldl _ (rowErr1 lo hi m l) M = none
    rw [e]
    exact ih fun l' hl' => h l' (by simp [hl'])

theorem squareR_of {most lo hi : Int} {M : List (List Int)} {n : Nat} (h1 : 1 ≤ n) (h2 : (n : Int) ≤ most) (hd : Dim n M) (he : Ent lo hi n M) : squareR most lo hi M = none := by
  have hr0 := hd.2 0 (by omega)
  have hg : groundsR most lo hi M = none := by
    unfold groundsR
    rw [if_neg (by rw [hd.1, hr0]; omega), if_neg (by rw [hd.1, hr0]; omega)]
    refine rowsErr_of fun l hl => ?_
    obtain ⟨k, hk, rfl⟩ := List.mem_iff_getElem.1 hl
    rw [← rowOf_lt hk, hr0]
    rw [hd.1] at hk
    refine ⟨hd.2 k hk, any_of_in fun j hj => ?_⟩
    rw [hd.2 k hk] at hj
    exact he k j hk hj
  unfold squareR
  rw [if_pos hg, if_pos (by rw [hd.1, hr0])]

theorem en_set {M : List (List Int)} {n i : Nat} (hd : Dim n M) (hi : i < n) (l : List Int) (r s : Nat) : en (M.set i l) r s = if r = i then ix l s else en M r s := by
  unfold en
  rw [rowOf_set]
  by_cases h : i = r
  · rw [if_pos ⟨h, by rw [← h, hd.1]; exact hi⟩, if_pos h.symm]
  · rw [if_neg fun e => h e.1, if_neg fun e => h e.symm]

theorem Dim.set {M : List (List Int)} {n i : Nat} (hd : Dim n M) {l : List Int} (hl : l.length = n) : Dim n (M.set i l) := by
  refine ⟨by rw [List.length_set]; exact hd.1, fun r hr => ?_⟩
  rw [rowOf_set]
  split
  · exact hl
  · exact hd.2 r hr

theorem Ent.setL {lo hi : Int} {M : List (List Int)} {n i : Nat} (hd : Dim n M) (he : Ent lo hi n M) (hi' : i < n) {l : List Int} (hl : l.length = n) (hln : In lo hi l) : Ent lo hi n (M.set i l) := by
  intro r s hr hs
  rw [en_set hd hi']
  split
  · exact hln s (by rw [hl]; exact hs)
  · exact he r s hr hs

theorem det_set {n : Nat} {M : List (List Int)} (hd : Dim n M) {i : Nat} (hi : i < n) (l : List Int) : det n (mx (M.set i l)) = det n (setRow (mx M) i (ix l)) :=
  det_congr fun r s _ _ => by
    show en (M.set i l) r s = _
    rw [en_set hd hi]
    rfl

theorem det_row_sum {n : Nat} {M B : List (List Int)} (hd : Dim n M) {i : Nat} (hi : i < n) (l : List Int) (hB : Is n B (fun r s => if r = i then (en M i s + ix l s) % 9973 else en M r s)) :
    det n (mx B) % 9973 = (det n (mx M) % 9973 + det n (mx (M.set i l)) % 9973) % 9973 := by
  have h1 : Eqm (det n (mx B)) (det n (setRow (mx M) i fun c => mx M i c + ix l c)) := det_eqm fun r s hr hs => by
    show Eqm (en B r s) _
    rw [hB.2 r s hr hs]
    simp only [setRow]
    by_cases h : r = i
    · rw [if_pos h, if_pos h]; exact Eqm.mod _
    · rw [if_neg h, if_neg h]; exact Eqm.refl _
  rw [det_row_add _ _ hi, Go.Rk.setRow_self, ← det_set hd hi] at h1
  have h2 := (Eqm.mod (det n (mx M))).add (Eqm.mod (det n (mx (M.set i l))))
  unfold Eqm at h1 h2
  omega

/-- Two rows exchanged. -/
theorem det_exch {n : Nat} {M : List (List Int)} (hd : Dim n M) {i j : Nat} (hij : i ≠ j) (hi : i < n) (hj : j < n) :
    det n (mx ((M.set i (rowOf M j)).set j (rowOf M i))) % 9973 = (-(det n (mx M) % 9973)) % 9973 := by
  have h1 : det n (mx ((M.set i (rowOf M j)).set j (rowOf M i))) = -det n (mx M) := by
    rw [← (det_alt n).swap (mx M) hij hi hj]
    refine det_congr fun r s _ _ => ?_
    show en (swapL M i j) r s = _
    rw [en_swapL hd hi hj]
    simp only [swapM, Go.Rk.setRow]
    rfl
  rw [h1]
  omega

/-- So many times one row added to another one. -/
theorem det_added {n : Nat} {M B : List (List Int)} {i j : Nat} (hij : i ≠ j) (hi : i < n) (hj : j < n) (k : Int) (hB : Is n B (fun r s => if r = i then (en M i s + k * en M j s) % 9973 else en M r s)) :
    det n (mx B) % 9973 = det n (mx M) % 9973 := by
  have h1 : Eqm (det n (mx B)) (det n (Go.Rk.setRow (mx M) i fun c => mx M i c + k * mx M j c)) := det_eqm fun r s hr hs => by
    show Eqm (en B r s) _
    rw [hB.2 r s hr hs]
    simp only [Go.Rk.setRow]
    by_cases h : r = i
    · rw [if_pos h, if_pos h]; exact Eqm.mod _
    · rw [if_neg h, if_neg h]; exact Eqm.refl _
  rw [(det_alt n).add_row (mx M) hij hi hj] at h1
  exact h1

/-- One row so many times. -/
theorem det_scaled {n : Nat} {M B : List (List Int)} {i : Nat} (hi : i < n) (k : Int) (hB : Is n B (fun r s => if r = i then (k * en M i s) % 9973 else en M r s)) :
    det n (mx B) % 9973 = (k * (det n (mx M) % 9973)) % 9973 := by
  have h1 : Eqm (det n (mx B)) (det n (Go.Rk.setRow (mx M) i fun c => k * mx M i c)) := det_eqm fun r s hr hs => by
    show Eqm (en B r s) _
    rw [hB.2 r s hr hs]
    simp only [Go.Rk.setRow]
    by_cases h : r = i
    · rw [if_pos h, if_pos h]; exact Eqm.mod _
    · rw [if_neg h, if_neg h]; exact Eqm.refl _
  rw [det_row_mul _ _ hi, Go.Rk.setRow_self] at h1
  exact h1.trans ((Eqm.refl k).mul (Eqm.mod _).symm)
end Go.Proofs.Ytoahegjjffggaaa
namespace Go.Proofs.Ytoahegjjffggaaa
open Go.RowKit Go.Rk

theorem grounds_of {n c : Nat} {M : List (List Int)} (hn : 1 ≤ n ∧ n ≤ 5) (hc : 1 ≤ c ∧ c ≤ 5) (hd : Dm n c M) (he : EntR 0 9972 n c M) : groundsR 5 0 9972 M = none := by
  have hr0 := hd.2 0 (by omega)
  unfold groundsR
  rw [if_neg (by rw [hd.1, hr0]; omega), if_neg (by rw [hd.1, hr0]; omega)]
  refine rowsErr_of fun l hl => ?_
  obtain ⟨k, hk, rfl⟩ := List.mem_iff_getElem.1 hl
  rw [← rowOf_lt hk, hr0]
  rw [hd.1] at hk
  refine ⟨hd.2 k hk, any_of_in fun j hj => ?_⟩
  rw [hd.2 k hk] at hj
  exact he k j hk hj

theorem mulErr_of {A B : List (List Int)} (g1 : groundsR 5 0 9972 A = none) (g2 : groundsR 5 0 9972 B = none) (h : (rowOf A 0).length = B.length) : mulErr A B = none := by
  unfold mulErr
  rw [g1, g2]
  show (if _ then _ else _) = _
  rw [if_pos h]
theorem addErr_of {A B : List (List Int)} (g1 : groundsR 5 0 9972 A = none) (g2 : groundsR 5 0 9972 B = none) (h : A.length = B.length) (h2 : (rowOf A 0).length = (rowOf B 0).length) : addErr A B = none := by
  unfold addErr
  rw [g1, g2]
  show (if _ then _ else _) = _
  rw [if_pos ⟨h, h2⟩]

/-- A matrix that passes, of n rows of c numbers. -/
structure Good (n c : Nat) (M : List (List Int)) : Prop where
  n1 : 1 ≤ n ∧ n ≤ 5
  c1 : 1 ≤ c ∧ c ≤ 5
  dm : Dm n c M
  ent : EntR 0 9972 n c M
theorem Good.gr {n c : Nat} {M : List (List Int)} (h : Good n c M) : groundsR 5 0 9972 M = none := grounds_of h.n1 h.c1 h.dm h.ent
theorem Good.of {n : Nat} {M : List (List Int)} (e : M.length = n) (g : groundsR 5 0 9972 M = none) : Good n (rowOf M 0).length M :=
  let ⟨a, b, c, d⟩ := grounds_dm e g
  ⟨a, b, c, d⟩
theorem Good.r0 {n c : Nat} {M : List (List Int)} (h : Good n c M) : (rowOf M 0).length = c := h.dm.2 0 (by have := h.n1; omega)
theorem Good.mulOk {n k c : Nat} {A B : List (List Int)} (h : Good n k A) (g : Good k c B) : mulErr A B = none := mulErr_of h.gr g.gr (by rw [h.r0, g.dm.1])
theorem Good.addOk {n c : Nat} {A B : List (List Int)} (h : Good n c A) (g : Good n c B) : addErr A B = none := addErr_of h.gr g.gr (by rw [h.dm.1, g.dm.1]) (by rw [h.r0, g.r0])
/-- The product passes, and is the product by the prime. -/
theorem Good.prod {n k c : Nat} {A B P : List (List Int)} (h : Good n k A) (g : Good k c B) (hp : IsR n c P (fun i j => mulE A B k i j % 9973)) : Good n c P ∧ EqM n c (mx P) (mulM k (mx A) (mx B)) :=
  ⟨⟨h.n1, g.c1, hp.1, fun i j hi hj => by rw [hp.2 i j hi hj]; dsimp only; omega⟩, fun i j hi hj => by
    show Eqm (en P i j) _
    rw [hp.2 i j hi hj]
    exact Eqm.mod _⟩
theorem Good.sum {n c : Nat} {A B P : List (List Int)} (h : Good n c A) (_ : Good n c B) (hp : IsR n c P (fun i j => (en A i j + en B i j) % 9973)) : Good n c P ∧ EqM n c (mx P) (fun i j => mx A i j + mx B i j) :=
  ⟨⟨h.n1, h.c1, hp.1, fun i j hi hj => by rw [hp.2 i j hi hj]; dsimp only; omega⟩, fun i j hi hj => by
    show Eqm (en P i j) _
    rw [hp.2 i j hi hj]
    exact Eqm.mod _⟩
theorem Good.tr {n c : Nat} {A P : List (List Int)} (h : Good n c A) (hp : IsR c n P (fun i j => en A j i)) : Good c n P ∧ EqM c n (mx P) (trM (mx A)) :=
  ⟨⟨h.c1, h.n1, hp.1, fun i j hi hj => by rw [hp.2 i j hi hj]; exact h.ent j i hj hi⟩, fun i j hi hj => Eqm.of_eq (hp.2 i j hi hj)⟩
/-- Two that pass and are one by the prime are one. -/
theorem Good.same {n c : Nat} {A B : List (List Int)} (h : Good n c A) (g : Good n c B) (e : EqM n c (mx A) (mx B)) : A = B :=
  h.dm.ext g.dm fun i j hi hj => by
    have h1 := h.ent i j hi hj
    have h2 := g.ent i j hi hj
    have h3 : en A i j % 9973 = en B i j % 9973 := e i j hi hj
    omega
end Go.Proofs.Ytoahegjjffggaaa
namespace Go.Rk

def rowF (f : Nat → Int) (c : Nat) : List Int := (List.range c).map f
def rowsF (F : Nat → Nat → Int) (c n : Nat) : List (List Int) := (List.range n).map fun i => rowF (F i) c
theorem rowF_succ (f : Nat → Int) (c : Nat) : rowF f (c + 1) = rowF f c ++ [f c] := by simp [rowF, List.range_succ]
theorem rowF_len (f : Nat → Int) (c : Nat) : (rowF f c).length = c := by simp [rowF]
theorem rowF_ix {f : Nat → Int} {c k : Nat} (h : k < c) : ix (rowF f c) k = f k := by
  rw [ix_lt (by rw [rowF_len]; exact h)]; simp [rowF]
theorem rowsF_succ (F : Nat → Nat → Int) (c n : Nat) : rowsF F c (n + 1) = rowsF F c n ++ [rowF (F n) c] := by simp [rowsF, List.range_succ]
theorem rowsF_row {F : Nat → Nat → Int} {c n i : Nat} (h : i < n) : rowOf (rowsF F c n) i = rowF (F i) c := by
  rw [rowOf_lt (by simp [rowsF]; exact h)]; simp [rowsF]
theorem rowsF_is (F : Nat → Nat → Int) (c n : Nat) : IsR n c (rowsF F c n) F :=
  ⟨⟨by simp [rowsF], fun i hi => by rw [rowsF_row hi, rowF_len]⟩, fun i j hi hj => by unfold en; rw [rowsF_row hi, rowF_ix hj]⟩
theorem IsR.same {n c : Nat} {F : Nat → Nat → Int} {P Q : List (List Int)} (h : IsR n c P F) (k : IsR n c Q F) : P = Q := h.1.ext k.1 fun i j hi hj => by rw [h.2 i j hi hj, k.2 i j hi hj]
end Go.Rk
namespace Go.Proofs.Ytoahegjjffggaaa
open Go.RowKit Go.Rk

def twoR (f g : List Int) : Option Int :=
  if f.length = 0 ∨ g.length = 0 then some 5 else if anyB 0 9972 f || anyB 0 9972 g then some 1 else
    if ix f (f.length - 1) = 0 ∨ ix g (g.length - 1) = 0 then some 3 else if outB ((f.length : Int) + g.length - 2) 1 5 then some 4 else none
theorem twoR_nz {f g : List Int} {c : Int} (h : twoR f g = some c) : c ≠ 0 := by
  unfold twoR at h
  (repeat' split at h) <;> first | (injection h with h; subst h; decide) | cases h
theorem twoR_none {f g : List Int} (h : twoR f g = none) : 1 ≤ f.length ∧ 1 ≤ g.length ∧ In 0 9972 f ∧ In 0 9972 g ∧ ix f (f.length - 1) ≠ 0 ∧ ix g (g.length - 1) ≠ 0 ∧ 3 ≤ f.length + g.length ∧ f.length + g.length ≤ 7 := by
  unfold twoR at h
  split at h
  · cases h
  split at h
  · cases h
  split at h
  · cases h
  split at h
  · cases h
  next h1 h2 h3 h4 =>
    simp at h2
    simp [outB] at h4
    exact ⟨by omega, by omega, in_of_any h2.1, in_of_any h2.2, fun e => h3 (.inl e), fun e => h3 (.inr e), by omega, by omega⟩
theorem twoR_of {f g : List Int} (h1 : 1 ≤ f.length) (h2 : 1 ≤ g.length) (h3 : In 0 9972 f) (h4 : In 0 9972 g) (h5 : ix f (f.length - 1) ≠ 0) (h6 : ix g (g.length - 1) ≠ 0) (h7 : 3 ≤ f.length + g.length) (h8 : f.length + g.length ≤ 7) : twoR f g = none := by
  unfold twoR
  rw [if_neg (by omega), any_of_in h3, any_of_in h4, if_neg (by simp), if_neg (fun e => e.elim h5 h6), if_neg]
  simp [outB]
  omega

theorem wrap_two {p q : Nat} (h1 : 1 ≤ p) (h2 : 1 ≤ q) (h3 : p ≤ 9223372036854775807) (h4 : q ≤ 9223372036854775807) : outB (wrap64 (wrap64 ((p : Int) + (q : Int)) - 2)) 1 5 = outB ((p : Int) + q - 2) 1 5 := by
  rcases Nat.lt_or_ge (p + q) 9223372036854775808 with h | h
  · have e : wrap64 (wrap64 ((p : Int) + (q : Int)) - 2) = (p : Int) + q - 2 := by unfold wrap64; omega
    rw [e]
  · have a : wrap64 (wrap64 ((p : Int) + (q : Int)) - 2) < 1 ∨ 5 < wrap64 (wrap64 ((p : Int) + (q : Int)) - 2) := by unfold wrap64; omega
    have b : (5 : Int) < (p : Int) + q - 2 := by omega
    unfold outB
    rw [decide_eq_true b, Bool.or_true]
    rcases a with a | a
    · rw [decide_eq_true a]; rfl
    · rw [decide_eq_true a, Bool.or_true]

/-- A row of factors, highest first, from a place on. -/
def sylR (l : List Int) (at_ j : Nat) : Int := if at_ ≤ j ∧ j < at_ + l.length then ix l (l.length - 1 - (j - at_)) else 0
def sylM (f g : List Int) (i j : Nat) : Int := if i < g.length - 1 then sylR f i j else sylR g (i - (g.length - 1)) j
theorem sylR_in {l : List Int} (h : In 0 9972 l) (at_ j : Nat) : 0 ≤ sylR l at_ j ∧ sylR l at_ j ≤ 9972 := by
  unfold sylR
  split
  · exact h _ (by omega)
  · omega
theorem sylM_in {f g : List Int} (h : In 0 9972 f) (k : In 0 9972 g) (i j : Nat) : 0 ≤ sylM f g i j ∧ sylM f g i j ≤ 9972 := by
  unfold sylM
  split
  · exact sylR_in h _ _
  · exact sylR_in k _ _

/-- A matrix with a row of factors laid into some of its rows: the first i of them, and of the next the last k places. -/
def putQ (l : List Int) (fr : Nat) (P : List (List Int)) (i k r j : Nat) : Int :=
  if fr ≤ r ∧ ((r - fr < i ∧ r - fr ≤ j ∧ j < (r - fr) + l.length) ∨ (r - fr = i ∧ i + (l.length - k) ≤ j ∧ j < i + l.length)) then ix l (l.length - 1 - (j - (r - fr))) else en P r j
theorem put_syl {f g : List Int} {P P1 P2 : List (List Int)} {n : Nat} (hf : 1 ≤ f.length) (hg : 1 ≤ g.length) (hn : n + 2 = f.length + g.length) (h0 : IsR n n P (fun _ _ => 0)) (h1 : IsR n n P1 (putQ f 0 P (g.length - 1) 0)) (h2 : IsR n n P2 (putQ g (g.length - 1) P1 (f.length - 1) 0)) : IsR n n P2 (sylM f g) := by
  refine h2.congr fun i j hi hj => ?_
  unfold putQ sylM
  by_cases e : i < g.length - 1
  · rw [if_neg (by omega), if_pos e, h1.2 i j hi hj]
    unfold putQ sylR
    by_cases c : i ≤ j ∧ j < i + f.length
    · rw [if_pos (by omega), if_pos c]; rfl
    · rw [if_neg (by omega), if_neg c, h0.2 i j hi hj]
  · rw [if_neg e]
    unfold sylR
    by_cases c : i - (g.length - 1) ≤ j ∧ j < i - (g.length - 1) + g.length
    · rw [if_pos (by omega), if_pos c]
    · rw [if_neg (by omega), if_neg c, h1.2 i j hi hj]
      unfold putQ
      rw [if_neg (by omega), h0.2 i j hi hj]
end Go.Proofs.Ytoahegjjffggaaa
