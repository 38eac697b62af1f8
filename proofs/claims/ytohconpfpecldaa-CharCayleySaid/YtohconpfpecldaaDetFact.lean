/-
  The closed fact of the statements on determinants.
-/
import Derived.Test.YtohconpfpecldaaRows
import Derived.Test.YtohconpfpecldaaLib
import Derived.Test.YtohconpfpecldaaDetOf
import Derived.Test.YtohconpfpecldaaSign
namespace Go.Proofs.Ytohconpfpecldaa
open Go.RowKit Go.Rk

set_option maxHeartbeats 1000000 in
set_option maxRecDepth 100000 in
theorem detFact_any (w : World) : Calls Try.prog 44 #[] w fun e w' => e = .returned (.bool true) ∧ Below w.heap.size w w' := by
  have S1 := (RdI.lit w [1, 2] 3 (by decide)).alloc (.cells #[.int .i64 3, .int .i64 4] 3)
  have S2 := RdI.lit' (w.alloc (.cells #[.int .i64 1, .int .i64 2] 3)) (b := w.heap.size + 1) [3, 4] 3 (by decide) (by simp)
  have S3 := RdM.two (w := ((w.alloc (.cells #[.int .i64 1, .int .i64 2] 3)).alloc (.cells #[.int .i64 3, .int .i64 4] 3)).alloc (.cells #[.slice (some ⟨w.heap.size, 0, none⟩) 2 2, .slice (some ⟨w.heap.size + 1, 0, none⟩) 2 2] 22))
    (b := w.heap.size + 1 + 1) (by rw [World.cell?_alloc_at _ _ _ _ (by simp)]; rfl) (S1.alloc _) (by rw [World.cell?_alloc_at _ _ _ _ (by simp)]; rfl) (S2.alloc _)
  have b3 : Below w.heap.size w (((w.alloc (.cells #[.int .i64 1, .int .i64 2] 3)).alloc (.cells #[.int .i64 3, .int .i64 4] 3)).alloc (.cells #[.slice (some ⟨w.heap.size, 0, none⟩) 2 2, .slice (some ⟨w.heap.size + 1, 0, none⟩) 2 2] 22)) := (((Below.refl _ _).alloc (Nat.le_refl _) _).alloc (by simp) _).alloc (by simp; omega) _
  have C0 := det_Of_ok S3 (by decide)
  have ed : det 2 (mx [[1, 2], [3, 4]]) % 9973 = 9971 := by decide
  rw [ed] at C0
  have C1 := Lib.hid C0
  clear S1 S2 S3 C0 ed
  go_enter Try.func44, Try.ntmps44
  go_wp2_with fail
  (with_reducible refine C1.out.mono ?_)
  rintro e w1 ⟨rfl, hb1⟩
  have b1 := b3.trans (hb1.mono b3.size)
  clear C1 b3 hb1
  have R1 : RdI (w1.alloc (.cells #[.int .i64 1, .int .i64 0] 3)) (some ⟨w1.heap.size, 0, none⟩) 2 2 [1, 0] := RdI.lit w1 [1, 0] 3 (by decide)
  have C2 := Sign_any R1 (by decide)
  have es : signC [1, 0] = -1 := by decide
  rw [es] at C2
  have HC2 := Lib.hid C2
  clear C2 es R1
  go_wp2_with fail
  (with_reducible refine HC2.out.mono ?_)
  rintro e w2 ⟨rfl, hb2⟩
  have b2 := b1.trans ((((Below.refl w1.heap.size w1).alloc (Nat.le_refl _) _).trans (hb2.mono (by simp))).mono b1.size)
  clear hb2 b1 HC2
  have R2 : RdI (w2.alloc (.cells #[.int .i64 1, .int .i64 1] 3)) (some ⟨w2.heap.size, 0, none⟩) 2 2 [1, 1] := RdI.lit w2 [1, 1] 3 (by decide)
  have C3 := Sign_any R2 (by decide)
  have es : signC [1, 1] = 0 := by decide
  rw [es] at C3
  have HC3 := Lib.hid C3
  clear C3 es R2
  go_wp2_with fail
  (with_reducible refine HC3.out.mono ?_)
  rintro e w3 ⟨rfl, hb3⟩
  have b4 := b2.trans ((((Below.refl w2.heap.size w2).alloc (Nat.le_refl _) _).trans (hb3.mono (by simp))).mono b2.size)
  clear hb3 b2 HC3
  go_wp2
  go_ret
  exact ⟨rfl, b4⟩
end Go.Proofs.Ytohconpfpecldaa
