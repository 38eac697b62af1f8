/-
  The closed fact of the statements on shortest recurrences.
-/
import Derived.Test.YtenfhjpaiaehjaaDoorRows
import Derived.Test.YtenfhjpaiaehjaaDoorLib
import Derived.Test.YtenfhjpaiaehjaaDoorRef
import Derived.Test.YtenfhjpaiaehjaaDoorTr
import Derived.Test.YtenfhjpaiaehjaaDoorOwn1
import Derived.Test.YtenfhjpaiaehjaaDoorMasseyP
import Derived.Test.YtenfhjpaiaehjaaDoorMasseyG
namespace Go.Proofs.YtenfhjpaiaehjaaDoor
open Go.RowKit Go.Rk

theorem fib_two {F : List Int} {L : Nat} (h : BM (ix [0, 1, 1, 2, 3, 5]) 6 (ix F) L) : L = 2 := by
  have h1 : L ≤ 2 := h.low 2 (ix [1, 1]) fun t h1 h2 => by
    rcases (show t = 2 ∨ t = 3 ∨ t = 4 ∨ t = 5 by omega) with rfl | rfl | rfl | rfl <;> (show (_ : Int) % 9973 = _ % 9973; decide)
  rcases (show L = 0 ∨ L = 1 ∨ L = 2 by omega) with rfl | rfl | rfl
  · have := h.gen 1 (by omega) (by omega)
    have this : Rz (ix [0, 1, 1, 2, 3, 5]) (ix F) 0 1 % 9973 = 0 % 9973 := this
    unfold Rz at this
    simp only [sumTo] at this
    exact absurd this (by decide)
  · have h2 := h.gen 1 (by omega) (by omega)
    have h3 : Rz (ix [0, 1, 1, 2, 3, 5]) (ix F) 1 1 = 1 := by
      unfold Rz; simp only [sumTo]
      rw [show ix [0, 1, 1, 2, 3, 5] (1 - 1 - 0) = 0 by decide, show ix [0, 1, 1, 2, 3, 5] 1 = 1 by decide]
      omega
    rw [h3] at h2
    have h2 : (1 : Int) % 9973 = 0 % 9973 := h2
    exact absurd h2 (by decide)
  · rfl
theorem fib_one {F : List Int} (h : BM (ix [0, 1, 1, 2, 3, 5]) 6 (ix F) 2) (hl : F.length = 2) (hi : In 0 9972 F) : F = [1, 1] := by
  have a2 := h.gen 2 (by omega) (by omega)
  have a3 := h.gen 3 (by omega) (by omega)
  have b0 := hi 0 (by omega)
  have b1 := hi 1 (by omega)
  have c2 : Rz (ix [0, 1, 1, 2, 3, 5]) (ix F) 2 2 = 1 - ix F 0 := by
    unfold Rz; simp only [sumTo]
    rw [show ix [0, 1, 1, 2, 3, 5] (2 - 1 - 0) = 1 by decide, show ix [0, 1, 1, 2, 3, 5] (2 - 1 - 1) = 0 by decide, show ix [0, 1, 1, 2, 3, 5] 2 = 1 by decide]
    omega
  have c3 : Rz (ix [0, 1, 1, 2, 3, 5]) (ix F) 2 3 = 2 - ix F 0 - ix F 1 := by
    unfold Rz; simp only [sumTo]
    rw [show ix [0, 1, 1, 2, 3, 5] (3 - 1 - 0) = 1 by decide, show ix [0, 1, 1, 2, 3, 5] (3 - 1 - 1) = 1 by decide, show ix [0, 1, 1, 2, 3, 5] 3 = 2 by decide]
    omega
  have d2 : (1 - ix F 0) % 9973 = 0 % 9973 := by rw [← c2]; exact a2
  have d3 : (2 - ix F 0 - ix F 1) % 9973 = 0 % 9973 := by rw [← c3]; exact a3
  refine ix_ext (by rw [hl]; rfl) fun k hk => ?_
  rw [hl] at hk
  rcases (show k = 0 ∨ k = 1 by omega) with rfl | rfl
  · show ix F 0 = 1
    omega
  · show ix F 1 = 1
    omega

set_option maxHeartbeats 1000000 in
set_option maxRecDepth 100000 in
theorem masseyFact_any (w : World) : Calls Tryd.prog 48 #[] w fun e w' => e = .returned (.bool true) ∧ Below w.heap.size w w' := by
  have R1 : RdI (w.alloc (.cells #[.int .i64 0, .int .i64 1, .int .i64 1, .int .i64 2, .int .i64 3, .int .i64 5] 3)) (some ⟨w.heap.size, 0, none⟩) 6 6 [0, 1, 1, 2, 3, 5] := RdI.lit w [0, 1, 1, 2, 3, 5] 3 (by decide)
  have C := Lib.hid (Fewest_ok R1 (by decide))
  have b0 := below_al (Below.refl w.heap.size w) (.cells #[.int .i64 0, .int .i64 1, .int .i64 1, .int .i64 2, .int .i64 3, .int .i64 5] 3)
  clear R1
  go_enter Tryd.func48, Tryd.ntmps48
  go_wp2_with fail
  (with_reducible refine C.out.mono ?_)
  clear C
  rintro e w1 ⟨L, F, rfl, hB, _, _, hb⟩
  obtain rfl := fib_two hB
  have k1 := below_tr b0 hb
  clear hB hb b0
  have R1 : RdI (w1.alloc (.cells #[.int .i64 0, .int .i64 1, .int .i64 1, .int .i64 2, .int .i64 3, .int .i64 5] 3)) (some ⟨w1.heap.size, 0, none⟩) 6 6 [0, 1, 1, 2, 3, 5] := RdI.lit w1 [0, 1, 1, 2, 3, 5] 3 (by decide)
  have C := Lib.hid (Factors_ok R1 (by decide))
  have b0 := below_al (Below.refl w1.heap.size w1) (.cells #[.int .i64 0, .int .i64 1, .int .i64 1, .int .i64 2, .int .i64 3, .int .i64 5] 3)
  clear R1
  go_wp2_with fail
  (with_reducible refine C.out.mono ?_)
  clear C
  rintro e w2 ⟨L, F2, hB, hl2, hi2, hb, hor⟩
  obtain rfl := fib_two hB
  obtain rfl := fib_one hB hl2 hi2
  obtain ⟨_, a2, c2, rfl, hF⟩ : 2 * 2 ≤ 6 ∧ ∃ a' c', e = .returned (.tuple #[.slice a' 2 c', .nilIface]) ∧ RdI w2 a' 2 c' [1, 1] := hor.resolve_right fun h => by omega
  have k2 := below_tr k1 (below_tr b0 hb)
  clear hB hb b0 hor hl2 hi2 k1
  have b0 := below_al (below_al (Below.refl w2.heap.size w2) (.cells #[.int .i64 1, .int .i64 2, .int .i64 4] 3)) (.cells #[.int .i64 2] 3)
  have R1 : RdI ((w2.alloc (.cells #[.int .i64 1, .int .i64 2, .int .i64 4] 3)).alloc (.cells #[.int .i64 2] 3)) (some ⟨w2.heap.size, 0, none⟩) 3 3 [1, 2, 4] := (RdI.lit w2 [1, 2, 4] 3 (by decide)).alloc _
  have R2 : RdI ((w2.alloc (.cells #[.int .i64 1, .int .i64 2, .int .i64 4] 3)).alloc (.cells #[.int .i64 2] 3)) (some ⟨w2.heap.size + 1, 0, none⟩) 1 1 [2] := RdI.lit' (w2.alloc (.cells #[.int .i64 1, .int .i64 2, .int .i64 4] 3)) (b := w2.heap.size + 1) [2] 3 (by decide) (by simp)
  have C := Goes_ok R1 R2 (by decide) (by decide)
  rw [show goB [1, 2, 4] [2] = true by decide] at C
  have C := Lib.hid C
  clear R1 R2
  go_wp2_with fail
  (with_reducible refine C.out.mono ?_)
  clear C
  rintro e w3 ⟨rfl, hb⟩
  have k3 := below_tr k2 (below_tr b0 hb)
  have hF3 := hF.below (b0.trans (hb.mono b0.size))
  clear hF b0 hb k2
  have R2 : RdI (w3.alloc (.cells #[.int .i64 1, .int .i64 1] 3)) (some ⟨w3.heap.size, 0, none⟩) 2 2 [1, 1] := RdI.lit w3 [1, 1] 3 (by decide)
  have C := Ints_any (hF3.alloc (.cells #[.int .i64 1, .int .i64 1] 3)) R2
  rw [show decide (([1, 1] : List Int) = [1, 1]) = true by decide] at C
  have C := Lib.hid C
  have b0 := below_al (Below.refl w3.heap.size w3) (.cells #[.int .i64 1, .int .i64 1] 3)
  clear R2 hF3
  go_wp2_with (first | (go_at_call 22; (with_reducible refine C.out.mono ?_); rintro e w4 ⟨rfl, hb⟩))
  go_ret
  exact ⟨rfl, below_tr k3 (below_tr b0 hb)⟩
end Go.Proofs.YtenfhjpaiaehjaaDoor
