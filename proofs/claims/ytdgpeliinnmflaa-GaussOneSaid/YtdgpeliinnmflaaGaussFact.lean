/-
  The closed fact of the statements on steps; and that steps are one form.
-/
import Derived.Test.YtdgpeliinnmflaaRows
import Derived.Test.YtdgpeliinnmflaaLib
import Derived.Test.YtdgpeliinnmflaaRef
import Derived.Test.YtdgpeliinnmflaaGaussS
import Derived.Test.YtdgpeliinnmflaaMatFact
namespace Go.Proofs.Ytdgpeliinnmflaa
open Go.RowKit Go.Rk

theorem _root_.Go.Rk.GInv.good {n c q : Nat} {A : Mx} {M : List (List Int)} {ps : List Int} (h : GInv n c A q M ps) (hn : 1 ≤ n ∧ n ≤ 5) (hc : 1 ≤ c ∧ c ≤ 5) : Good n c M := ⟨hn, hc, h.dm, h.ent⟩
theorem _root_.Go.Rk.GInv.fac {n c : Nat} {A : Mx} {M : List (List Int)} {ps : List Int} (h : GInv n c A c M ps) : Fac n c ps.length A := h.st.fac h.back
theorem _root_.Go.Rk.GInv.least {n c s : Nat} {A : Mx} {M : List (List Int)} {ps : List Int} (h : GInv n c A c M ps) (f : Fac n c s A) : ps.length ≤ s := h.st.no_less h.made f
theorem _root_.Go.Rk.GInv.same {n c : Nat} {A A' : Mx} {M M' : List (List Int)} {ps ps' : List Int} (h : GInv n c A c M ps) (g : GInv n c A' c M' ps') (m : Made n c A A') (m' : Made n c A' A) : M = M' ∧ ps = ps' := by
  obtain ⟨e1, e2, e3⟩ := h.st.unique g.st (h.back.trans (m.trans g.made)) (g.back.trans (m'.trans h.made))
  refine ⟨h.dm.ext g.dm fun i j hi hj => ?_, ix_ext e1 fun i hi => ?_⟩
  · have h1 := h.ent i j hi hj
    have h2 := g.ent i j hi hj
    have h3 : en M i j % 9973 = en M' i j % 9973 := e3 i j hi hj
    omega
  · have h1 := h.pos i hi
    have h2 := g.pos i (by omega)
    have h3 := e2 i hi
    omega

theorem gaussLit : Go.Rk.GInv 2 2 (mx [[0, 2], [0, 4]]) 2 [[0, 1], [0, 0]] [1] := by
  have two : ∀ {P : Nat → Nat → Prop}, P 0 0 → P 0 1 → P 1 0 → P 1 1 → ∀ i j, i < 2 → j < 2 → P i j := by
    intro P h0 h1 h2 h3 i j hi hj
    rcases (show i = 0 ∨ i = 1 by omega) with rfl | rfl <;> rcases (show j = 0 ∨ j = 1 by omega) with rfl | rfl <;> assumption
  refine ⟨⟨rfl, fun i hi => ?_⟩, two (by decide) (by decide) (by decide) (by decide), ⟨mx [[4987, 0], [-2, 1]], two (by unfold Eqm; decide) (by unfold Eqm; decide) (by unfold Eqm; decide) (by unfold Eqm; decide)⟩, ⟨mx [[2, 0], [4, 0]], two (by unfold Eqm; decide) (by unfold Eqm; decide) (by unfold Eqm; decide) (by unfold Eqm; decide)⟩,
    ⟨by decide, fun i hi => ?_, fun i j h1 h2 => ?_, fun i j h1 h2 => ?_, fun i s h1 h2 h3 => ?_, fun i s h1 h2 => ?_⟩, fun i hi => ?_⟩
  · rcases (show i = 0 ∨ i = 1 by omega) with rfl | rfl <;> rfl
  · obtain rfl : i = 0 := by simp at hi; omega
    decide
  · simp at h2; omega
  · obtain rfl : j = 0 := by simp at h2; omega
    rcases (show i = 0 ∨ i = 1 by omega) with rfl | rfl <;> (unfold Eqm; decide)
  · obtain rfl : i = 1 := by simp at h1; omega
    rcases (show s = 0 ∨ s = 1 by omega) with rfl | rfl <;> (unfold Eqm; decide)
  · obtain rfl : i = 0 := by simp at h1; omega
    have : (ix [1] 0).toNat = 1 := by decide
    rw [this] at h2
    obtain rfl : s = 0 := by omega
    unfold Eqm; decide
  · obtain rfl : i = 0 := by simp at hi; omega
    decide

set_option maxHeartbeats 4000000 in
set_option maxRecDepth 100000 in
theorem gaussFact_any (w : World) : Calls Try.prog 30 #[] w fun e w' => e = .returned (.bool true) ∧ Below w.heap.size w w' := by
  go_enter Try.func30, Try.ntmps30
  go_wp2_with fail
  refine (Steps_ok (n := 2) (c := 2) (M := [[0, 2], [0, 4]]) (rd22 (p := w.heap.size) (q := w.heap.size + 1) ?_ ?_ ?_ ?_ ?_ ?_) (Good.of (n := 2) (M := [[0, 2], [0, 4]]) rfl (by decide))).mono ?main
  case main =>
    rintro e w1 ⟨ao, co, ap, cp, P, ps, rfl, ho, hp, hi, hb⟩
    obtain ⟨rfl, rfl⟩ := hi.same gaussLit (Made.refl _ _ _) (Made.refl _ _ _)
    have b1 := below_tr (below_al (below_al (below_al (Below.refl _ w) _) _) _) hb
    have h1 := ho.rd
    have h2 := hp.rd
    clear ho hp hi hb
    go_wp2_with fail
    refine (Rows_any (l := [[0, 1], [0, 0]]) (m := [[0, 1], [0, 0]]) (h1.below (below_al (below_al (below_al (Below.refl _ w1) _) _) _)) (rd22 (p := w1.heap.size) (q := w1.heap.size + 1) ?_ ?_ ?_ ?_ ?_ ?_)).mono ?main
    case main =>
      rintro e w2 ⟨rfl, hb⟩
      have b2 := below_tr b1 (below_tr (below_al (below_al (below_al (Below.refl _ w1) _) _) _) hb)
      have h2 := h2.below (below_tr (below_al (below_al (below_al (Below.refl _ w1) _) _) _) hb)
      clear hb b1 h1
      have C := Lib.hid (Ints_any (h2.alloc (.cells #[.int .i64 1] 3)) (RdI.lit w2 [1] 3 (by decide)))
      go_wp2_with fail
      refine C.out.mono ?_
      rintro e w3 ⟨rfl, hb⟩
      have b3 := below_tr b2 (below_tr (below_al (Below.refl _ w2) _) hb)
      go_wp2
      go_ret
      exact ⟨rfl, b3⟩
    all_goals simp [go_sem]
  all_goals simp [go_sem]
end Go.Proofs.Ytdgpeliinnmflaa
