/-
  The closed fact of the statements on decomposing.
-/
import Derived.Test.YtdgpeliinnmflaaRows
import Derived.Test.YtdgpeliinnmflaaLib
import Derived.Test.YtdgpeliinnmflaaRef
import Derived.Test.YtdgpeliinnmflaaLuW
import Derived.Test.YtdgpeliinnmflaaMatFact
namespace Go.Proofs.Ytdgpeliinnmflaa
open Go.RowKit Go.Rk

theorem half (x : Int) (h : (0 : Int) % 9973 = (x*2 + 1*0) % 9973) (b: 0 ≤ x ∧ x ≤ 9972): x = 0 := by
  have h2 : x * 2 % 9973 = 0 := by simpa using h.symm
  have h3 : x * 2 * 4987 % 9973 = 0 := by rw [Int.mul_emod, h2]; rfl
  rw [show x * 2 * 4987 = x + 9973 * x by omega, Int.add_mul_emod_self_left, Int.emod_eq_of_lt b.1 (by omega)] at h3
  exact h3

theorem luLit {U L : List (List Int)} {o : List Int} (h : LFin 2 [[0, 1], [2, 4]] U L o) : o = [1, 0] ∧ L = [[1, 0], [0, 1]] ∧ U = [[2, 4], [0, 1]] := by
  have sm : ∀ i j, mulM 2 (mx L) (mx U) i j = en L i 0 * en U 0 j + en L i 1 * en U 1 j := fun i j => by
    show sumTo _ 2 = _
    show 0 + en L i 0 * en U 0 j + en L i 1 * en U 1 j = _
    omega
  have r := fun i j (hi : i < 2) (hj : j < 2) => h.rel i j hi hj
  have r00 := r 0 0 (by omega) (by omega)
  have r01 := r 0 1 (by omega) (by omega)
  have r10 := r 1 0 (by omega) (by omega)
  have r11 := r 1 1 (by omega) (by omega)
  rw [sm] at r00 r01 r10 r11
  rw [h.one 0 (by omega), h.zL 0 1 (by omega) (by omega) (by omega)] at r00 r01
  rw [h.one 1 (by omega), h.zU 1 0 (by omega) (by omega)] at r10
  rw [h.one 1 (by omega)] at r11
  have u00 := h.eU 0 0 (by omega) (by omega)
  have u01 := h.eU 0 1 (by omega) (by omega)
  have u11 := h.eU 1 1 (by omega) (by omega)
  have l10 := h.eL 1 0 (by omega) (by omega)
  have o0 := h.oo.lt 0 (by omega)
  have o1 := h.oo.lt 1 (by omega)
  have p0 := h.op 0 (by omega)
  have p1 := h.op 1 (by omega)
  have ne : natsOf o 0 ≠ natsOf o 1 := fun e => by have := h.oo.inj 0 1 (by omega) (by omega) e; omega
  have n0 : (natsOf o 0 : Int) = ix o 0 := by unfold natsOf; omega
  have n1 : (natsOf o 1 : Int) = ix o 1 := by unfold natsOf; omega
  generalize natsOf o 0 = s at *
  generalize natsOf o 1 = t at *
  have a00 : en [[0, 1], [2, 4]] 0 0 = 0 := rfl
  have a01 : en [[0, 1], [2, 4]] 0 1 = 1 := rfl
  have a10 : en [[0, 1], [2, 4]] 1 0 = 2 := rfl
  have a11 : en [[0, 1], [2, 4]] 1 1 = 4 := rfl
  unfold Eqm at r00 r01 r10 r11
  rcases (show s = 0 ∧ t = 1 ∨ s = 1 ∧ t = 0 by omega) with ⟨rfl, rfl⟩ | ⟨rfl, rfl⟩
  · exfalso
    rw [a00] at r00
    have z : en U 0 0 = 0 := by omega
    rw [z, a10] at r10
    revert r10; simp
  · rw [a10] at r00
    rw [a11] at r01
    have z0 : en U 0 0 = 2 := by omega
    have z1 : en U 0 1 = 4 := by omega
    rw [z0, a00] at r10
    have z2 : en L 1 0 = 0 := half _ r10 l10
    rw [z1, z2, a01] at r11
    have z3 : en U 1 1 = 1 := by
      generalize en U 1 1 = x at r11 u11
      clear r01 r10
      omega
    have two : ∀ {P : Nat → Nat → Prop}, P 0 0 → P 0 1 → P 1 0 → P 1 1 → ∀ i j, i < 2 → j < 2 → P i j := by
      intro P h0 h1 h2 h3 i j hi hj
      rcases (show i = 0 ∨ i = 1 by omega) with rfl | rfl <;> rcases (show j = 0 ∨ j = 1 by omega) with rfl | rfl <;> assumption
    have dl : ∀ a b c d : Int, Dm 2 2 [[a, b], [c, d]] := fun a b c d => ⟨rfl, fun i hi => by rcases (show i = 0 ∨ i = 1 by omega) with rfl | rfl <;> rfl⟩
    refine ⟨ix_ext (by rw [h.ol]; rfl) fun i hi => ?_, h.dL.ext (dl _ _ _ _) (two (h.one 0 (by omega)) (h.zL 0 1 (by omega) (by omega) (by omega)) z2 (h.one 1 (by omega))), h.dU.ext (dl _ _ _ _) (two z0 z1 (h.zU 1 0 (by omega) (by omega)) z3)⟩
    rw [h.ol] at hi
    rcases (show i = 0 ∨ i = 1 by omega) with rfl | rfl
    · rw [show ix [1, 0] 0 = 1 from rfl]; omega
    · rw [show ix [1, 0] 1 = 0 from rfl]; omega

set_option maxHeartbeats 4000000 in
set_option maxRecDepth 100000 in
theorem luFact_any (w : World) : Calls Try.prog 36 #[] w fun e w' => e = .returned (.bool true) ∧ Below w.heap.size w w' := by
  go_enter Try.func36, Try.ntmps36
  go_wp2_with fail
  refine (Split_ok (n := 2) (M := [[0, 1], [2, 4]]) (rd22 (p := w.heap.size) (q := w.heap.size + 1) ?_ ?_ ?_ ?_ ?_ ?_) (Good.of (n := 2) (M := [[0, 1], [2, 4]]) rfl (by decide))).mono ?main
  case main =>
    rintro e w1 ⟨ao, co, al, cl, au, cu, U, L, o, rfl, ho, hl, hu, hi, hb⟩
    obtain ⟨rfl, rfl, rfl⟩ := luLit hi
    have b1 := below_tr (below_al (below_al (below_al (Below.refl _ w) _) _) _) hb
    have h1 := ho.rd
    have h2 := hl.rd
    have h3 := hu.rd
    clear ho hl hu hi hb
    have C := Lib.hid (Ints_any (h1.alloc (.cells #[.int .i64 1, .int .i64 0] 3)) (RdI.lit w1 [1, 0] 3 (by decide)))
    go_wp2_with fail
    refine C.out.mono ?_
    rintro e w2 ⟨rfl, hb⟩
    clear C
    have k2 := below_tr (below_al (Below.refl _ w1) (.cells #[.int .i64 1, .int .i64 0] 3)) hb
    have b2 := below_tr b1 k2
    have h2 := h2.below k2
    have h3 := h3.below k2
    clear b1 h1 k2 hb
    go_wp2_with fail
    refine (Rows_any (l := [[1, 0], [0, 1]]) (m := [[1, 0], [0, 1]]) (h2.below (below_al (below_al (below_al (Below.refl _ w2) _) _) _)) (rd22 (p := w2.heap.size) (q := w2.heap.size + 1) ?_ ?_ ?_ ?_ ?_ ?_)).mono ?main
    case main =>
      rintro e w3 ⟨rfl, hb⟩
      have k3 := below_tr (below_al (below_al (below_al (Below.refl _ w2) _) _) _) hb
      have b3 := below_tr b2 k3
      have h3 := h3.below k3
      clear hb b2 h2 k3
      go_wp2_with fail
      refine (Rows_any (l := [[2, 4], [0, 1]]) (m := [[2, 4], [0, 1]]) (h3.below (below_al (below_al (below_al (Below.refl _ w3) _) _) _)) (rd22 (p := w3.heap.size) (q := w3.heap.size + 1) ?_ ?_ ?_ ?_ ?_ ?_)).mono ?main
      case main =>
        rintro e w4 ⟨rfl, hb⟩
        have b4 := below_tr b3 (below_tr (below_al (below_al (below_al (Below.refl _ w3) _) _) _) hb)
        clear hb b3 h3
        go_wp2
        go_ret
        exact ⟨rfl, b4⟩
      all_goals simp [go_sem]
    all_goals simp [go_sem]
  all_goals simp [go_sem]
end Go.Proofs.Ytdgpeliinnmflaa
