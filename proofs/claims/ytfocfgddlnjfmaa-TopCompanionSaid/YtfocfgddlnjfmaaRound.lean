/-
  A region in a round of a range over a function: what is walked of a region elsewhere holds in a round too, if none of its operations is a defer statement. No program in sight.
-/
import Derived.RangeFuncNested
import Derived.RangeFuncCalls
import Derived.OrdersIn
import Derived.TacticsIn
import Derived.Deep.Quiet
import Derived.StillTail
namespace Go.Rk
open Go.RowKit

def noDefer (ops : Array Oper) : Bool := ops.all fun o => match o.op with | .defer _ => false | _ => true
theorem noDefer_at {ops : Array Oper} (h : noDefer ops = true) {i : Nat} {o : Oper} (ho : ops[i]? = some o) : ∀ c, o.op ≠ .defer c := by
  intro c e
  obtain ⟨hi, rfl⟩ := Array.getElem?_eq_some_iff.1 ho
  have := Array.all_eq_true.1 h i hi
  rw [e] at this
  cases this

section
variable {l n : Nat} {P : Program} {ops : Array Oper} {Q : Exit → Act → World → Prop} {md : Region.Mode}

theorem rowsIn_of {row : String} {args : Array Value} {w : World} {R : Value → World → Prop} (h : Rows P row args w R) : RowsIn (Fence.wide.inRound l) n P row args w R :=
  fun c cs _ => let ⟨v, w', r, s⟩ := h c cs; ⟨v, w', r, stepsIn_wide.2 s⟩

theorem op_round {o : Oper} {a : Act} {w : World} {K : Act → World → Prop} (hnd : ∀ c, o.op ≠ .defer c) (h : o.wp P a w K Q) : o.wpIn (Fence.wide.inRound l) n P a w K Q := by
  refine ⟨fun _ _ => trivial, ?_⟩
  rw [show (Fence.wide.inRound l).round = some l from rfl, Oper.semAt_some l _ _ hnd]
  unfold Oper.wp at h
  generalize (execOp a.eval o).run P w = r at h ⊢
  cases r with
  | ok x w' =>
    cases x <;> simp only [Oper.upon, Oper.uponIn] at h ⊢ <;>
      first
        | exact h
        | exact ⟨fun e => by simp [Fence.wide] at e, callsIn_wide.2 h⟩
        | exact ⟨fun e => by simp [Fence.wide] at e, rowsIn_of h⟩
  | halt x w' => cases x <;> simp only [Oper.upon, Oper.uponIn] at h ⊢ <;> exact h

theorem wpOp_round {i : Nat} {K K' : Act → World → Prop} {a : Act} {w : World} (hnd : noDefer ops = true) (hL : ¬ LetsOut Q) (hK : ∀ a w, K a w → K' a w) (h : wpOp P ops Q i K a w) : wpOpIn (Fence.wide.inRound l) n P ops Q i K' a w := by
  unfold wpOp at h
  unfold wpOpIn
  cases ho : ops[i]? with
  | none => rw [ho] at h; exact hK _ _ h
  | some o =>
    rw [ho] at h
    dsimp only at h ⊢
    split
    · next hw =>
      rw [if_pos hw] at h
      rcases h with h | h
      · exact op_round (noDefer_at hnd ho) (Oper.wp_mono hK h)
      · exact absurd h.2 hL
    · next hw =>
      rw [if_neg hw] at h
      exact ⟨fun _ _ => trivial, hK _ _ h⟩

theorem wpAny_round (hnd : noDefer ops = true) (hL : ¬ LetsOut Q) : ∀ (fuel : Nat) (listed : Array Bool) (a : Act) (w : World), wpAny P md ops Q fuel listed a w → wpAnyIn (Fence.wide.inRound l) n P md ops Q fuel listed a w
  | 0, _, _, _, h => h
  | fuel + 1, _, _, _, h => ⟨h.1, fun i hi => wpOp_round hnd hL (wpAny_round hnd hL fuel _) (h.2 i hi)⟩

theorem region_round {id : Nat} {a : Act} {w : World} (hm : P.follows .mixedOrders = true) (hnd : noDefer ops = true) (hL : ¬ LetsOut Q)
    (h : wpAny P .any ops Q ops.size (Array.replicate ops.size false) a { w with drawn := w.drawn + 1 }) : (Code.region id ops true).wpIn (Fence.wide.inRound l) n P Q a w :=
  wpIn_region_any hm (wpAny_round hnd hL _ _ _ _ h)

/-- A region of reads, arithmetic and quiet calls that draws its order, in a round. -/
theorem region_round_quiet {id : Nat} {a : Act} {w : World} {os : List Oper} (hm : P.follows .mixedOrders = true) (hnd : noDefer os.toArray = true) (hL : ¬ LetsOut Q) (hB : Region.lexB .any os.toArray = true)
    (h : wpQuiet P os.toArray (fun w' => ∃ k, w' = w.drewN k) (fun a' => ∀ w', (∃ k, w' = w.drewN k) → Q .normal a' w') os a) : (Code.region id os.toArray true).wpIn (Fence.wide.inRound l) n P Q a w := by
  obtain ⟨b1, b2⟩ : Region.noSelect os.toArray = true ∧ _ := by simpa only [Region.lexB, Bool.and_eq_true] using hB
  have q := wpAnyQ_lex (md := .any) b1 os 0 (Array.replicate os.toArray.size false) a (by simp) (by simpa using b2) h
  exact region_round hm hnd hL (wpAny_of_quiet (C := fun w' => ∃ k, w' = w.drewN k) (Q := fun a' => ∀ w', (∃ k, w' = w.drewN k) → Q .normal a' w') (fun _ w' hw' h => h w' hw') _ _ _ _ ⟨1, rfl⟩ (by simpa using q))

/-- The same, and at its end, in order, what writes. -/
theorem region_round_tail {id : Nat} {a : Act} {w : World} {os : List Oper} (m : Nat) (hm : P.follows .mixedOrders = true) (hnd : noDefer os.toArray = true) (hL : ¬ LetsOut Q) (hB : Region.lexTailB .any os.toArray m = true)
    (h : wpStill P os.toArray w.drew (fun a' => wpList P os.toArray Q (os.drop m) a' w.drew) (os.take m) a) : (Code.region id os.toArray true).wpIn (Fence.wide.inRound l) n P Q a w := by
  simp only [Region.lexTailB, Bool.and_eq_true, decide_eq_true_eq] at hB
  have t1 : (os.take m).length = m := by have := hB.1.1.1.2; simp at this ⊢; omega
  have t2 : (os.drop m).length = os.toArray.size - m := by simp
  have i0 : HeadInv .any os.toArray m (Array.replicate os.toArray.size false) :=
    ⟨by simp, fun j _ _ (e : _ = true) => (by rw [getD_replicate_false] at e; cases e), fun t _ ht => getD_in (by simpa using ht) (getD_replicate_false _ _)⟩
  have q := wpAnyL_lex (md := .any) (g := os.toArray.size - m) hB.1.1.1.1 hB.1.1.2 hB.1.2 hB.1.1.1.2 (os.take m) 0 _ a (fun j hj => by rw [t1] at hj; simp [hj]) (by simpa using t1) i0 (by rw [t1]; exact hB.2) h
  have q2 := wpAny_of_head (Q' := Q) (g := os.toArray.size - m) (fun listed a' e => by
    have := wpAny_of_seq (md := .any) (Q' := Q) (os.drop m) m listed a' w.drew (fun j => by simp [List.getElem?_drop]) (by rw [t2]; exact e.1) e.2
    rwa [t2] at this) _ _ _ q
  rw [t1, show m + (os.toArray.size - m) = os.toArray.size by have := hB.1.1.1.2; omega] at q2
  exact region_round hm hnd hL q2

end
end Go.Rk
