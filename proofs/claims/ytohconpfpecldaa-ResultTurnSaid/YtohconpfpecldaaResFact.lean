/-
  The closed fact of the statements on resultants.
-/
import Derived.Test.YtohconpfpecldaaRows
import Derived.Test.YtohconpfpecldaaLib
import Derived.Test.YtohconpfpecldaaResW
import Derived.Test.YtohconpfpecldaaResTurn
namespace Go.Proofs.Ytohconpfpecldaa
open Go.RowKit Go.Rk

theorem twoR_turn {f g : List Int} (h : twoR f g = none) : twoR g f = none := by
  obtain ⟨g1, g2, g3, g4, g5, g6, g7, g8⟩ := twoR_none h
  exact twoR_of g2 g1 g4 g3 g6 g5 (by omega) (by omega)
theorem resV_turn {f g : List Int} (h : twoR f g = none) : resV g f = (if (f.length - 1) % 2 = 1 ∧ (g.length - 1) % 2 = 1 then -resV f g else resV f g) % 9973 := by
  obtain ⟨g1, g2, _, _, _, _, g7, _⟩ := twoR_none h
  unfold resV
  rw [syl_turn g1 g2 g7]
  split
  · generalize det (f.length + g.length - 2) (sylM f g) = D
    omega
  · generalize det (f.length + g.length - 2) (sylM f g) = D
    omega
theorem resV_in (f g : List Int) : 0 ≤ resV f g ∧ resV f g ≤ 9972 := by unfold resV; omega

set_option maxHeartbeats 2000000 in
set_option maxRecDepth 100000 in
theorem resultFact_any (w : World) : Calls Try.prog 15 #[] w fun e w' => e = .returned (.bool true) ∧ Below w.heap.size w w' := by
  obtain ⟨a1, ha1⟩ : ∃ o : Obj, o = .cells #[.int .i64 1, .int .i64 1] 3 := ⟨_, rfl⟩
  obtain ⟨a2, ha2⟩ : ∃ o : Obj, o = .cells #[.int .i64 2, .int .i64 0, .int .i64 1] 3 := ⟨_, rfl⟩
  have R1 : Hid (RdI ((w.alloc a1).alloc a2) (some ⟨w.heap.size, 0, none⟩) 2 2 [1, 1]) := by rw [ha1]; exact (RdI.lit w [1, 1] 3 (by decide)).alloc _
  have R2 : Hid (RdI ((w.alloc a1).alloc a2) (some ⟨w.heap.size + 1, 0, none⟩) 3 3 [2, 0, 1]) := by have := RdI.lit' (w.alloc a1) (b := w.heap.size + 1) [2, 0, 1] 3 (by decide) (by simp); rw [ha2]; exact this
  have b0 : Below w.heap.size w ((w.alloc a1).alloc a2) := ((Below.refl _ _).alloc (Nat.le_refl _) _).alloc (by simp) _
  have C1 := result_Of_ok R1.out R2.out (by decide)
  rw [show resV [1, 1] [2, 0, 1] = 3 from by decide +kernel] at C1
  have C1 := Lib.hid C1
  subst ha1
  subst ha2
  go_enter Try.func15, Try.ntmps15
  go_wp2_with fail
  (with_reducible refine C1.out.mono ?_)
  rintro e w1 ⟨rfl, hb1⟩
  have b1 := b0.trans (hb1.mono b0.size)
  go_wp2
  go_ret
  exact ⟨rfl, b1⟩
end Go.Proofs.Ytohconpfpecldaa
