/-
  The closed fact of the statements on determinants of whole numbers.
-/
import Derived.Test.YtflojkifbdklnaaRows
import Derived.Test.YtflojkifbdklnaaLib
import Derived.Test.YtflojkifbdklnaaRef
import Derived.Test.YtflojkifbdklnaaTr
import Derived.Test.YtflojkifbdklnaaDetOf
import Derived.Test.YtflojkifbdklnaaBareissOf
namespace Go.Proofs.Ytflojkifbdklnaa
open Go.RowKit Go.Rk

set_option maxHeartbeats 1000000 in
set_option maxRecDepth 100000 in
theorem bareissFact_any (w : World) : Calls Try.prog 25 #[] w fun e w' => e = .returned (.bool true) ∧ Below w.heap.size w w' := by
  have S1 := (RdI.lit w [0, 2] 3 (by decide)).alloc (.cells #[.int .i64 (-3), .int .i64 4] 3)
  have S2 := RdI.lit' (w.alloc (.cells #[.int .i64 0, .int .i64 2] 3)) (b := w.heap.size + 1) [-3, 4] 3 (by decide) (by simp)
  have S3 := RdM.two (w := ((w.alloc (.cells #[.int .i64 0, .int .i64 2] 3)).alloc (.cells #[.int .i64 (-3), .int .i64 4] 3)).alloc (.cells #[.slice (some ⟨w.heap.size, 0, none⟩) 2 2, .slice (some ⟨w.heap.size + 1, 0, none⟩) 2 2] 22))
    (b := w.heap.size + 1 + 1) (by rw [World.cell?_alloc_at _ _ _ _ (by simp)]; rfl) (S1.alloc _) (by rw [World.cell?_alloc_at _ _ _ _ (by simp)]; rfl) (S2.alloc _)
  have b3 : Below w.heap.size w (((w.alloc (.cells #[.int .i64 0, .int .i64 2] 3)).alloc (.cells #[.int .i64 (-3), .int .i64 4] 3)).alloc (.cells #[.slice (some ⟨w.heap.size, 0, none⟩) 2 2, .slice (some ⟨w.heap.size + 1, 0, none⟩) 2 2] 22)) := (((Below.refl _ _).alloc (Nat.le_refl _) _).alloc (by simp) _).alloc (by simp; omega) _
  have C0 := bareiss_Of_ok S3 (by decide)
  rw [show det 2 (mx [[0, 2], [-3, 4]]) = 6 by decide] at C0
  have C1 := Lib.hid C0
  clear S1 S2 S3 C0
  go_enter Try.func25, Try.ntmps25
  go_wp2_with fail
  (with_reducible refine C1.out.mono ?_)
  rintro e w1 ⟨rfl, hb1⟩
  have b1 := b3.trans (hb1.mono b3.size)
  clear C1 b3 hb1
  have T1 := (RdI.lit w1 [2, 1] 3 (by decide)).alloc (.cells #[.int .i64 1, .int .i64 2] 3)
  have T2 := RdI.lit' (w1.alloc (.cells #[.int .i64 2, .int .i64 1] 3)) (b := w1.heap.size + 1) [1, 2] 3 (by decide) (by simp)
  have T3 := RdM.two (w := ((w1.alloc (.cells #[.int .i64 2, .int .i64 1] 3)).alloc (.cells #[.int .i64 1, .int .i64 2] 3)).alloc (.cells #[.slice (some ⟨w1.heap.size, 0, none⟩) 2 2, .slice (some ⟨w1.heap.size + 1, 0, none⟩) 2 2] 22))
    (b := w1.heap.size + 1 + 1) (by rw [World.cell?_alloc_at _ _ _ _ (by simp)]; rfl) (T1.alloc _) (by rw [World.cell?_alloc_at _ _ _ _ (by simp)]; rfl) (T2.alloc _)
  have b4 : Below w1.heap.size w1 (((w1.alloc (.cells #[.int .i64 2, .int .i64 1] 3)).alloc (.cells #[.int .i64 1, .int .i64 2] 3)).alloc (.cells #[.slice (some ⟨w1.heap.size, 0, none⟩) 2 2, .slice (some ⟨w1.heap.size + 1, 0, none⟩) 2 2] 22)) := (((Below.refl _ _).alloc (Nat.le_refl _) _).alloc (by simp) _).alloc (by simp; omega) _
  have C0 := bareiss_Leading_ok T3 (by decide)
  rw [show leadN [[2, 1], [1, 2]] 2 = [2, 3] by decide] at C0
  have C1 := Lib.hid C0
  clear T1 T2 T3 C0
  go_wp2_with fail
  (with_reducible refine C1.out.mono ?_)
  rintro e w2 ⟨a', cap', rfl, ho, hb2⟩
  have b2 := b1.trans ((b4.trans (hb2.mono b4.size)).mono b1.size)
  have h2 := ho.rd
  clear C1 b4 hb2 b1 ho
  have R2 : RdI (w2.alloc (.cells #[.int .i64 2, .int .i64 3] 3)) (some ⟨w2.heap.size, 0, none⟩) 2 2 [2, 3] := RdI.lit w2 [2, 3] 3 (by decide)
  have C := Lib.hid (Ints_any (h2.alloc (.cells #[.int .i64 2, .int .i64 3] 3)) R2)
  rw [show decide (([2, 3] : List Int) = [2, 3]) = true by decide] at C
  clear h2 R2
  go_wp2_with (first | (go_at_call 38; (with_reducible refine C.out.mono ?_); rintro e w3 ⟨rfl, hb3⟩))
  go_ret
  exact ⟨rfl, b2.trans ((((Below.refl w2.heap.size w2).alloc (Nat.le_refl _) _).trans (hb3.mono (by simp))).mono b2.size)⟩
end Go.Proofs.Ytflojkifbdklnaa
