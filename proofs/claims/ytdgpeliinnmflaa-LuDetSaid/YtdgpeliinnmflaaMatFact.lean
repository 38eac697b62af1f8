/-
  mat.Pow where something is wrong; the closed fact of the statements on matrices.
-/
import Derived.Test.YtdgpeliinnmflaaRows
import Derived.Test.YtdgpeliinnmflaaLib
import Derived.Test.YtdgpeliinnmflaaRef
import Derived.Test.YtdgpeliinnmflaaMatOne
import Derived.Test.YtdgpeliinnmflaaMatBin
namespace Go.Proofs.Ytdgpeliinnmflaa
open Go.RowKit Go.Rk

set_option maxHeartbeats 1000000 in
theorem Pow_err {a : Option Addr} {n ca : Nat} {e : Int} {A : List (List Int)} {w : World} {x : Int} (hA : RdM w a n ca A) (hq : powErr A e = some x) :
    Calls Try.prog 17 #[.slice a n ca, .int .i64 e] w fun r w' => r = .returned (.tuple #[.slice none 0 0, .iface 53 (.int .i64 x)]) ∧ Below w.heap.size w w' := by
  rcases hg : groundsR 5 0 9972 A with _ | y
  · have C1 := Lib.hid (mat_Check_is hA hg)
    have e1 := hA.len_eq
    obtain ⟨n1, n2, dA, _⟩ := grounds_dm e1 hg
    obtain ⟨ba, oa, hz, _, hra⟩ := hA.at (k := 0) (by omega)
    subst hz
    obtain ⟨ai, ci, hc0, _⟩ := hra 0 (by omega)
    rw [Nat.add_zero] at hc0
    have b1 : (0 : Int) < (n : Int) := by omega
    have b2 : (1 : Int) ≤ (n : Int) := by omega
    by_cases hs : n = (rowOf A 0).length
    · have hq2 : squareR 5 0 9972 A = none := by unfold squareR; rw [if_pos hg, if_pos (by rw [e1]; exact hs)]
      unfold powErr at hq
      rw [hq2] at hq
      dsimp only at hq
      split at hq
      · next ho =>
        injection hq with hq
        subst hq
        rw [← hs] at hc0
        have z1 : ((n : Int) != (n : Int)) = false := bne_eq_false_iff_eq.2 rfl
        have HO := Lib.hid ho
        clear ho hg hq2 hra dA hs
        go_enter Try.func17, Try.ntmps17
        go_wp2_with (first | (go_at_call 38; (with_reducible refine C1.out.mono ?_); rintro e w' ⟨rfl, rfl⟩; simp only [errV]) | (go_at_call 39; refine (out_any _ _ _ _).mono ?_; rintro e w' ⟨rfl, rfl⟩; rw [HO.out]))
        go_ret2
        exact ⟨rfl, Below.refl _ _⟩
      · cases hq
    · have hq2 : squareR 5 0 9972 A = some 3 := by unfold squareR; rw [if_pos hg, if_neg (by rw [e1]; exact hs)]
      unfold powErr at hq
      rw [hq2] at hq
      dsimp only at hq
      injection hq with hq
      subst hq
      have z1 : ((n : Int) != ((rowOf A 0).length : Int)) = true := bne_iff_ne.2 (by omega)
      clear hg hq2 hra dA hs
      go_enter Try.func17, Try.ntmps17
      go_wp2_with (first | (go_at_call 38; (with_reducible refine C1.out.mono ?_); rintro e w' ⟨rfl, rfl⟩; simp only [errV]))
      go_ret2
      exact ⟨rfl, Below.refl _ _⟩
  · have hq2 : squareR 5 0 9972 A = some y := by unfold squareR; rw [hg]; rfl
    unfold powErr at hq
    rw [hq2] at hq
    dsimp only at hq
    injection hq with hq
    subst hq
    have C1 := Lib.hid (mat_Check_is hA hg)
    clear hg hq2
    go_enter Try.func17, Try.ntmps17
    go_wp2_with (first | (go_at_call 38; (with_reducible refine C1.out.mono ?_); rintro e w' ⟨rfl, rfl⟩; simp only [errV]))
    go_ret2
    exact ⟨rfl, Below.refl _ _⟩

theorem rd2 {w : World} {b : Nat} {x y : Int} (h0 : w.cell? ⟨b, 0, none⟩ = some (.int .i64 x)) (h1 : w.cell? ⟨b, 1, none⟩ = some (.int .i64 y)) : RdI w (some ⟨b, 0, none⟩) 2 2 [x, y] := by
  refine ⟨rfl, Nat.le_refl _, by decide, fun k hk => ⟨b, 0, rfl, ?_⟩⟩
  rcases k with _ | k
  · exact h0
  · obtain rfl : k = 0 := by omega
    exact h1
/-- A written matrix of two rows of two numbers. -/
theorem rd22 {w : World} {b p q : Nat} {x y z u : Int} (h0 : w.cell? ⟨b, 0, none⟩ = some (.slice (some ⟨p, 0, none⟩) 2 2)) (h1 : w.cell? ⟨b, 1, none⟩ = some (.slice (some ⟨q, 0, none⟩) 2 2))
    (c0 : w.cell? ⟨p, 0, none⟩ = some (.int .i64 x)) (c1 : w.cell? ⟨p, 1, none⟩ = some (.int .i64 y)) (c2 : w.cell? ⟨q, 0, none⟩ = some (.int .i64 z)) (c3 : w.cell? ⟨q, 1, none⟩ = some (.int .i64 u)) :
    RdM w (some ⟨b, 0, none⟩) 2 2 [[x, y], [z, u]] := RdM.two h0 (rd2 c0 c1) h1 (rd2 c2 c3)

theorem below_al {w w' : World} (h : Below w.heap.size w w') (o : Obj) : Below w.heap.size w (w'.alloc o) := h.alloc h.size o
theorem below_tr {w w' w2 : World} (h : Below w.heap.size w w') (k : Below w'.heap.size w' w2) : Below w.heap.size w w2 := h.trans (k.mono h.size)

set_option maxHeartbeats 4000000 in
set_option maxRecDepth 100000 in
theorem matFact_any (w : World) : Calls Try.prog 15 #[] w fun e w' => e = .returned (.bool true) ∧ Below w.heap.size w w' := by
  go_enter Try.func15, Try.ntmps15
  go_wp2_with fail
  refine (Mul_ok (A := [[1, 2], [3, 4]]) (B := [[0, 1], [1, 0]]) (rd22 (p := w.heap.size) (q := w.heap.size + 1) ?_ ?_ ?_ ?_ ?_ ?_) (rd22 (p := w.heap.size + 1 + 1 + 1) (q := w.heap.size + 1 + 1 + 1 + 1) ?_ ?_ ?_ ?_ ?_ ?_) (by decide)).mono ?main
  case main =>
    rintro e w1 ⟨a1, cap1, P, rfl, ho1, hi1, hb1⟩
    have hP : P = [[2, 1], [4, 3]] := hi1.eq.trans (by decide)
    subst hP
    have b1 := below_tr (below_al (below_al (below_al (below_al (below_al (below_al (Below.refl _ w) _) _) _) _) _) _) hb1
    have hr1 := ho1.rd
    clear hi1 ho1 hb1
    go_wp2_with fail
    refine (Pow_ok (A := [[1, 1], [0, 1]]) (e := 7) (rd22 (p := w1.heap.size) (q := w1.heap.size + 1) ?_ ?_ ?_ ?_ ?_ ?_) (by decide) (by decide)).mono ?main
    case main =>
      rintro e w2 ⟨a2, cap2, Q, rfl, ho2, hi2, hb2⟩
      have hQ : Q = [[1, 7], [0, 1]] := hi2.eq.trans (by decide +kernel)
      subst hQ
      have b2 := below_tr b1 (below_tr (below_al (below_al (below_al (Below.refl _ w1) _) _) _) hb2)
      have hr1 := hr1.below (below_tr (below_al (below_al (below_al (Below.refl _ w1) _) _) _) hb2)
      have hr2 := ho2.rd
      clear hi2 ho2 hb2 b1
      go_wp2_with fail
      refine (Rows_any (l := [[2, 1], [4, 3]]) (m := [[2, 1], [4, 3]]) (hr1.below (below_al (below_al (below_al (Below.refl _ w2) _) _) _)) (rd22 (p := w2.heap.size) (q := w2.heap.size + 1) ?_ ?_ ?_ ?_ ?_ ?_)).mono ?main
      case main =>
        rintro e w3 ⟨rfl, hb3⟩
        have b3 := below_tr b2 (below_tr (below_al (below_al (below_al (Below.refl _ w2) _) _) _) hb3)
        have hr2 := hr2.below (below_tr (below_al (below_al (below_al (Below.refl _ w2) _) _) _) hb3)
        clear hb3 b2 hr1
        go_wp2_with fail
        refine (Rows_any (l := [[1, 7], [0, 1]]) (m := [[1, 7], [0, 1]]) (hr2.below (below_al (below_al (below_al (Below.refl _ w3) _) _) _)) (rd22 (p := w3.heap.size) (q := w3.heap.size + 1) ?_ ?_ ?_ ?_ ?_ ?_)).mono ?main
        case main =>
          rintro e w4 ⟨rfl, hb4⟩
          have b4 := below_tr b3 (below_tr (below_al (below_al (below_al (Below.refl _ w3) _) _) _) hb4)
          go_wp2
          go_ret
          exact ⟨rfl, b4⟩
        all_goals simp [go_sem]
      all_goals simp [go_sem]
    all_goals simp [go_sem]
  all_goals simp [go_sem]
end Go.Proofs.Ytdgpeliinnmflaa
