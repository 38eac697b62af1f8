/-
  plain.Told and the same package's Error, by errors.As.
-/
import Derived.Test.YtcohkjppfalckaaDoorRows
import Derived.Test.YtcohkjppfalckaaDoorLib
import Derived.Test.YtcohkjppfalckaaDoorNum
import Derived.Test.YtcohkjppfalckaaDoorErrAs
namespace Go.Proofs.YtcohkjppfalckaaDoor
open Go.RowKit Go.Rk

/-- The number of an error that is none, or a number. -/
theorem Told_any {x : Option Int} {w : World} (hg : ErrT w) : Calls Tryd.prog 13 #[errV x] w fun e w' => e = .returned (.int .i64 (x.getD 0)) ∧ Below w.heap.size w w' := by
  cases x with
  | none =>
    go_enter Tryd.func13, Tryd.ntmps13
    simp only [errV]
    go_wp2
    go_ret
    exact ⟨rfl, Below.refl _ _⟩
  | some c =>
    have hb := (Below.refl w.heap.size w).alloc (Nat.le_refl _) (.cells #[.int .i64 0] 37)
    have C := Lib.hid (as_hit c ⟨w.heap.size, 0, none⟩ (.int .i64 0) _ (hg.below hb) (by simp) (by simp))
    go_enter Tryd.func13, Tryd.ntmps13
    simp only [errV]
    go_wp2_with (first | (go_at_call 19; (with_reducible refine C.out.mono ?_); rintro e w' ⟨rfl, w2, hb2, hc2, rfl⟩; have hc3 := World.cell?_setCell_same w2 ⟨w.heap.size, 0, none⟩ (.int .i64 c) hc2))
    go_ret
    exact ⟨rfl, (hb.trans (hb2.mono hb.size)).setCell (p := ⟨w.heap.size, 0, none⟩) (Nat.le_refl _) _⟩

theorem E_Error_any {x : Option Int} {e : Int} {w : World} (hg : ErrT w) : Calls Tryd.prog 5 #[errV x, .int .i64 e] w fun ev w' => ev = .returned (.bool (x.getD 0 == e)) ∧ Below w.heap.size w w' := by
  have C := Lib.hid (Told_any (x := x) hg)
  go_enter Tryd.func5, Tryd.ntmps5
  go_wp2_with (first | (go_at_call 13; (with_reducible refine C.out.mono ?_); rintro e w' ⟨rfl, hb⟩))
  go_ret
  exact ⟨rfl, hb⟩
/-- No error, a number; an error, a number; an error and its own number. -/
theorem E_nil {e : Int} {w : World} (hg : ErrT w) : Calls Tryd.prog 5 #[.nilIface, .int .i64 e] w fun ev w' => ev = .returned (.bool (0 == e)) ∧ Below w.heap.size w w' := E_Error_any (x := none) hg
theorem E_nil0 {w : World} (hg : ErrT w) : Calls Tryd.prog 5 #[.nilIface, .int .i64 0] w fun ev w' => ev = .returned (.bool true) ∧ Below w.heap.size w w' := E_Error_any (x := none) hg
theorem E_some {c e : Int} {w : World} (hg : ErrT w) : Calls Tryd.prog 5 #[.iface 37 (.int .i64 c), .int .i64 e] w fun ev w' => ev = .returned (.bool (c == e)) ∧ Below w.heap.size w w' := E_Error_any (x := some c) hg
theorem E_same {c : Int} {w : World} (hg : ErrT w) : Calls Tryd.prog 5 #[.iface 37 (.int .i64 c), .int .i64 c] w fun ev w' => ev = .returned (.bool true) ∧ Below w.heap.size w w' := by
  have := E_Error_any (x := some c) (e := c) hg
  rw [show ((some c).getD 0 == c) = true from beq_iff_eq.2 rfl] at this
  exact this
end Go.Proofs.YtcohkjppfalckaaDoor
