/-
  The closed fact of the statements on bands.
-/
import Derived.Test.YtohconpfpecldaaRows
import Derived.Test.YtohconpfpecldaaLib
import Derived.Test.YtohconpfpecldaaRef
import Derived.Test.YtohconpfpecldaaBand
namespace Go.Proofs.Ytohconpfpecldaa
open Go.RowKit Go.Rk

set_option maxHeartbeats 1000000 in
set_option maxRecDepth 100000 in
theorem bandFact_any (w : World) : Calls Try.prog 31 #[] w fun e w' => e = .returned (.bool true) ∧ Below w.heap.size w w' := by
  obtain ⟨a1, ha1⟩ : ∃ o : Obj, o = .cells #[.int .i64 2, .int .i64 2, .int .i64 2] 3 := ⟨_, rfl⟩
  obtain ⟨a2, ha2⟩ : ∃ o : Obj, o = .cells #[.int .i64 9972, .int .i64 9972] 3 := ⟨_, rfl⟩
  have R1 : Hid (RdI (((w.alloc a1).alloc a2).alloc a2) (some ⟨w.heap.size, 0, none⟩) 3 3 [2, 2, 2]) := by rw [ha1]; exact ((RdI.lit w [2, 2, 2] 3 (by decide)).alloc _).alloc _
  have R2 : Hid (RdI (((w.alloc a1).alloc a2).alloc a2) (some ⟨w.heap.size + 1, 0, none⟩) 2 2 [9972, 9972]) := by have := (RdI.lit' (w.alloc a1) (b := w.heap.size + 1) [9972, 9972] 3 (by decide) (by simp)).alloc a2; rw [ha2] at this ⊢; exact this
  have R3 : Hid (RdI (((w.alloc a1).alloc a2).alloc a2) (some ⟨w.heap.size + 1 + 1, 0, none⟩) 2 2 [9972, 9972]) := by have := RdI.lit' ((w.alloc a1).alloc a2) (b := w.heap.size + 1 + 1) [9972, 9972] 3 (by decide) (by simp); rw [ha2] at this ⊢; exact this
  have b0 : Below w.heap.size w (((w.alloc a1).alloc a2).alloc a2) := (((Below.refl _ _).alloc (Nat.le_refl _) _).alloc (by simp) _).alloc (by simp; omega) _
  have C1 := Lib.hid (band_Det_ok R1.out R2.out R3.out (by decide))
  subst ha1
  subst ha2
  go_enter Try.func31, Try.ntmps31
  go_wp2_with fail
  (with_reducible refine C1.out.mono ?_)
  rintro e w1 ⟨rfl, hb1⟩
  have b1 := b0.trans (hb1.mono b0.size)
  clear R1 R2 R3 C1 hb1 b0
  obtain ⟨a1, ha1⟩ : ∃ o : Obj, o = .cells #[.int .i64 1, .int .i64 2] 3 := ⟨_, rfl⟩
  obtain ⟨a2, ha2⟩ : ∃ o : Obj, o = .cells #[.int .i64 3] 3 := ⟨_, rfl⟩
  obtain ⟨a3, ha3⟩ : ∃ o : Obj, o = .cells #[.int .i64 4] 3 := ⟨_, rfl⟩
  have R1 : Hid (RdI (((w1.alloc a1).alloc a2).alloc a3) (some ⟨w1.heap.size, 0, none⟩) 2 2 [1, 2]) := by rw [ha1]; exact ((RdI.lit w1 [1, 2] 3 (by decide)).alloc _).alloc _
  have R2 : Hid (RdI (((w1.alloc a1).alloc a2).alloc a3) (some ⟨w1.heap.size + 1, 0, none⟩) 1 1 [3]) := by have := (RdI.lit' (w1.alloc a1) (b := w1.heap.size + 1) [3] 3 (by decide) (by simp)).alloc a3; rw [ha2]; exact this
  have R3 : Hid (RdI (((w1.alloc a1).alloc a2).alloc a3) (some ⟨w1.heap.size + 1 + 1, 0, none⟩) 1 1 [4]) := by have := RdI.lit' ((w1.alloc a1).alloc a2) (b := w1.heap.size + 1 + 1) [4] 3 (by decide) (by simp); rw [ha3]; exact this
  have b0 : Below w1.heap.size w1 (((w1.alloc a1).alloc a2).alloc a3) := (((Below.refl _ _).alloc (Nat.le_refl _) _).alloc (by simp) _).alloc (by simp; omega) _
  have C1 := Lib.hid (band_Full_ok R1.out R2.out R3.out (by decide) (by decide))
  subst ha1
  subst ha2
  subst ha3
  go_wp2_with fail
  (with_reducible refine C1.out.mono ?_)
  rintro e w2 ⟨z, cz, rfl, ho, hb2⟩
  have b2 := b1.trans ((b0.trans (hb2.mono b0.size)).mono b1.size)
  clear R1 R2 R3 C1 hb2 b0 b1
  go_wp2_with fail
  have S1 := (RdI.lit w2 [1, 3] 3 (by decide)).alloc (.cells #[.int .i64 4, .int .i64 2] 3)
  have S2 := RdI.lit' (w2.alloc (.cells #[.int .i64 1, .int .i64 3] 3)) (b := w2.heap.size + 1) [4, 2] 3 (by decide) (by simp)
  have S3 := RdM.two (w := ((w2.alloc (.cells #[.int .i64 1, .int .i64 3] 3)).alloc (.cells #[.int .i64 4, .int .i64 2] 3)).alloc (.cells #[.slice (some ⟨w2.heap.size, 0, none⟩) 2 2, .slice (some ⟨w2.heap.size + 1, 0, none⟩) 2 2] 22))
    (b := w2.heap.size + 1 + 1) (by rw [World.cell?_alloc_at _ _ _ _ (by simp)]; rfl) (S1.alloc _) (by rw [World.cell?_alloc_at _ _ _ _ (by simp)]; rfl) (S2.alloc _)
  have b3 : Below w2.heap.size w2 (((w2.alloc (.cells #[.int .i64 1, .int .i64 3] 3)).alloc (.cells #[.int .i64 4, .int .i64 2] 3)).alloc (.cells #[.slice (some ⟨w2.heap.size, 0, none⟩) 2 2, .slice (some ⟨w2.heap.size + 1, 0, none⟩) 2 2] 22)) := (((Below.refl _ _).alloc (Nat.le_refl _) _).alloc (by simp) _).alloc (by simp; omega) _
  have C2 := Rows_any (((ho.rd.below ((((Below.refl _ _).alloc (Nat.le_refl _) _).alloc (by simp) _).alloc (by simp; omega) _)))) S3
  (with_reducible refine C2.mono ?_)
  rintro e w3 ⟨rfl, hb3⟩
  have b4 := b2.trans ((b3.trans (hb3.mono b3.size)).mono b2.size)
  clear S1 S2 S3 C2 b3 hb3 ho b2
  go_wp2
  go_ret
  exact ⟨congrArg (fun b => Ending.returned (Value.bool b)) (by decide), b4⟩
end Go.Proofs.Ytohconpfpecldaa
