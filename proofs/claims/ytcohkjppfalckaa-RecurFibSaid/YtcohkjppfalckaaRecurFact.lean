/-
  The closed fact of the statements on recurrences.
-/
import Derived.Test.YtcohkjppfalckaaRows
import Derived.Test.YtcohkjppfalckaaLib
import Derived.Test.YtcohkjppfalckaaRef
import Derived.Test.YtcohkjppfalckaaRecur
namespace Go.Proofs.Ytcohkjppfalckaa
open Go.RowKit Go.Rk

set_option maxHeartbeats 1000000 in
theorem recurFact_any (w : World) : Calls Try.prog 6 #[] w fun e w' => e = .returned (.bool true) ∧ Below w.heap.size w w' := by
  go_enter Try.func6, Try.ntmps6
  have R1 : Hid (RdI ((w.alloc (.cells #[.int .i64 1, .int .i64 1] 3)).alloc (.cells #[.int .i64 0, .int .i64 1] 3)) (some ⟨w.heap.size, 0, none⟩) 2 2 [1, 1]) := (RdI.lit w [1, 1] 3 (by decide)).alloc _
  have R2 : Hid (RdI ((w.alloc (.cells #[.int .i64 1, .int .i64 1] 3)).alloc (.cells #[.int .i64 0, .int .i64 1] 3)) (some ⟨w.heap.size + 1, 0, none⟩) 2 2 [0, 1]) := RdI.lit' _ [0, 1] 3 (by decide) (by simp)
  have b0 : Below w.heap.size w ((w.alloc (.cells #[.int .i64 1, .int .i64 1] 3)).alloc (.cells #[.int .i64 0, .int .i64 1] 3)) := ((Below.refl _ _).alloc (Nat.le_refl _) _).alloc (by simp) _
  have C1 := Lib.hid (Row_ok (f := [1, 1]) (s := [0, 1]) (many := 8) R1.out R2.out (by decide))
  go_wp2_with (go_at_call 7; (with_reducible refine C1.out.mono ?_); rintro e w1 ⟨a, cap, rfl, ho, hb⟩)
  have b1 := b0.trans (hb.mono (by simp; omega))
  have Q1 : Hid (RdI ((w1.alloc (.cells #[.int .i64 1, .int .i64 1] 3)).alloc (.cells #[.int .i64 0, .int .i64 1] 3)) (some ⟨w1.heap.size, 0, none⟩) 2 2 [1, 1]) := (RdI.lit w1 [1, 1] 3 (by decide)).alloc _
  have Q2 : Hid (RdI ((w1.alloc (.cells #[.int .i64 1, .int .i64 1] 3)).alloc (.cells #[.int .i64 0, .int .i64 1] 3)) (some ⟨w1.heap.size + 1, 0, none⟩) 2 2 [0, 1]) := RdI.lit' _ [0, 1] 3 (by decide) (by simp)
  have C2 := Lib.hid (Term_ok (f := [1, 1]) (s := [0, 1]) (many := 20) Q1.out Q2.out (by decide))
  (with_reducible refine C2.out.mono ?_)
  rintro e w2 ⟨rfl, hb2⟩
  have b2 := b1.trans (((Below.refl w.heap.size w1).alloc b1.size (.cells #[.int .i64 1, .int .i64 1] 3)).alloc (by have := b1.size; simp; omega) (.cells #[.int .i64 0, .int .i64 1] 3) |>.trans (hb2.mono (by have := b1.size; simp; omega)))
  have S1 : Hid (RdI (w2.alloc (.cells #[.int .i64 0, .int .i64 1, .int .i64 1, .int .i64 2, .int .i64 3, .int .i64 5, .int .i64 8, .int .i64 13] 3)) a 8 cap [0, 1, 1, 2, 3, 5, 8, 13]) :=
    ((((RdI.alloc ho _).alloc _).below hb2).alloc _)
  have S2 : Hid (RdI (w2.alloc (.cells #[.int .i64 0, .int .i64 1, .int .i64 1, .int .i64 2, .int .i64 3, .int .i64 5, .int .i64 8, .int .i64 13] 3)) (some ⟨w2.heap.size, 0, none⟩) 8 8 [0, 1, 1, 2, 3, 5, 8, 13]) :=
    RdI.lit w2 [0, 1, 1, 2, 3, 5, 8, 13] 3 (by decide)
  have C3 := Lib.hid (Ints_any S1.out S2.out)
  go_wp2_with (go_at_call 11; (with_reducible refine C3.out.mono ?_); rintro e w3 ⟨rfl, hb3⟩)
  go_ret
  refine ⟨congrArg (fun b => Ending.returned (Value.bool b)) (by decide +kernel), ?_⟩
  exact b2.trans (((Below.refl w.heap.size w2).alloc b2.size _).trans (hb3.mono (by have := b2.size; simp; omega)))
end Go.Proofs.Ytcohkjppfalckaa
