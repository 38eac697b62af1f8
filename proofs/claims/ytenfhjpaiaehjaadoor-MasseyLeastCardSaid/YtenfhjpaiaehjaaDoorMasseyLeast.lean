/-
  MasseyLeast walked: the factors found generate the sequence, and no shorter list does.
-/
import Derived.Test.YtenfhjpaiaehjaaDoorRows
import Derived.Test.YtenfhjpaiaehjaaDoorLib
import Derived.Test.YtenfhjpaiaehjaaDoorNum
import Derived.Test.YtenfhjpaiaehjaaDoorRef
import Derived.Test.YtenfhjpaiaehjaaDoorTr
import Derived.Test.YtenfhjpaiaehjaaDoorOpen
import Derived.Test.YtenfhjpaiaehjaaDoorErrTold
import Derived.Test.YtenfhjpaiaehjaaDoorMasseyP
import Derived.Test.YtenfhjpaiaehjaaDoorMasseyG
import Derived.Test.YtenfhjpaiaehjaaDoorMasseyFact
namespace Go.Proofs.YtenfhjpaiaehjaaDoor
open Go.RowKit Go.Rk

theorem seqR_of {l : List Int} (h : l.length ≤ 16) (hi : In 0 9972 l) : seqR l = none := by
  unfold seqR
  rw [if_neg (by omega), any_of_in hi]
  rfl

set_option maxHeartbeats 2000000 in
set_option maxRecDepth 100000 in
theorem masseyLeast_walk {a b : Option Addr} {n ca m cb : Nat} {l f : List Int} {w : World} (hg : ErrT w) (h : RdI w a n ca l) (_ : Fit l) (hf : RdI w b m cb f) (_ : Fit f) :
    Calls Tryd.prog 8 #[.slice a n ca, .slice b m cb] w fun e w' => e = .returned (.bool true) ∧ Below w.heap.size w w' := by
  have hL := Lib.hid h.len_eq
  have hF := Lib.hid hf.len_eq
  go_enter Tryd.func8, Tryd.ntmps8
  go_wp2_with (first | (go_at_call 48; refine (masseyFact_any _).mono ?_; rintro e w1 ⟨rfl, k1⟩) | (go_at_call 44; fail))
  rcases hq : seqR l with _ | c
  · have C := Lib.hid (Fewest_ok (h.below k1) hq)
    have HQ := Lib.hid hq
    obtain ⟨g1, _⟩ := seqR_none hq
    rw [hL.out] at g1
    clear hq
    (with_reducible refine C.out.mono ?_)
    clear C
    rintro e w2 ⟨L, F, rfl, hB, _, _, hb2⟩
    have k2 := below_tr k1 hb2
    have HB := Lib.hid hB
    have hLn := hB.le
    have CI := L3_in_any L 0 n
    rw [show inB (L : Int) 0 (n : Int) = true by unfold inB; simp; omega] at CI
    have CI := Lib.hid CI
    have C := Lib.hid (Factors_ok (h.below k2) HQ.out)
    clear hb2 k1 hB
    go_wp2_with (first | (go_at_call 49; (with_reducible refine (CI.out _).mono ?_); rintro e w' ⟨rfl, rfl⟩) | (go_at_call 45; fail))
    (with_reducible refine C.out.mono ?_)
    clear C CI
    rintro e w3 ⟨L', F2, hB2, hl2, hi2, hb3, hor⟩
    obtain rfl : L' = L := hB2.same HB.out fun _ _ => Eqm.refl _
    have k3 := below_tr k2 hb3
    clear hb3 k2
    have hgo : goB l F2 = true := goB_iff.2 (by rw [hl2, hL.out]; exact hB2.gen)
    have hsF : seqR F2 = none := seqR_of (by rw [hl2]; omega) hi2
    clear hB2 hl2 hi2
    rcases hor with ⟨h2, a4, c4, rfl, hF4⟩ | ⟨h2, rfl⟩
    · have C := Goes_ok (h.below k3) hF4 HQ.out hsF
      rw [hgo] at C
      have C := Lib.hid C
      have z5 : ((L' : Int) != (L' : Int)) = false := bne_eq_false_iff_eq.2 rfl
      clear hgo hsF
      go_wp2_with (first | (go_at_call 46; (with_reducible refine C.out.mono ?_); rintro e w4 ⟨rfl, hb4⟩))
      clear C
      have k4 := below_tr k3 hb4
      clear hb4 k3 hF4
      rcases hfe : firstE (seqR l) (seqR f) with _ | c2
      · have hsf : seqR f = none := by
          rw [HQ.out] at hfe
          exact hfe
        have C := Lib.hid (Goes_ok (h.below k4) (hf.below k4) HQ.out hsf)
        clear hfe hsf
        rcases hgo : goB l f with _ | _
        · rw [hgo] at C
          clear hgo
          go_wp2_with (first | (go_at_call 46; (with_reducible refine C.out.mono ?_); rintro e w9 ⟨rfl, hb9⟩))
          go_ret
          exact ⟨rfl, below_tr k4 hb9⟩
        · have hge := HB.out.low f.length (ix f) (by have := goB_iff.1 hgo; rw [hL.out] at this; exact this)
          rw [hF.out] at hge
          have i9 : (L' : Int) ≤ (m : Int) := by omega
          rw [hgo] at C
          clear hgo hge
          go_wp2_with (first | (go_at_call 46; (with_reducible refine C.out.mono ?_); rintro e w9 ⟨rfl, hb9⟩))
          go_ret
          exact ⟨rfl, below_tr k4 hb9⟩
      · have C := Lib.hid (Goes_err (h.below k4) (hf.below k4) hfe)
        clear hfe
        go_wp2_with (first | (go_at_call 46; (with_reducible refine C.out.mono ?_); rintro e w9 ⟨rfl, hb9⟩))
        go_ret
        exact ⟨rfl, below_tr k4 hb9⟩
    · clear hgo hsF
      have i2 : ¬ 2 * (L' : Int) ≤ (n : Int) := by omega
      have u2 : IntKind.i64.wrap (2 * (L' : Int)) = 2 * (L' : Int) := Go.IntWalk.i64_in _ (by omega)
      go_wp2_with (first | (go_at_call 14; refine (E_same (hg.below k3)).mono ?_; rintro e w4 ⟨rfl, hb4⟩) | (go_at_call 46; fail))
      have k4 := below_tr k3 hb4
      clear hb4 k3
      rcases hfe : firstE (seqR l) (seqR f) with _ | c2
      · have hsf : seqR f = none := by
          rw [HQ.out] at hfe
          exact hfe
        have C := Lib.hid (Goes_ok (h.below k4) (hf.below k4) HQ.out hsf)
        clear hfe hsf
        rcases hgo : goB l f with _ | _
        · rw [hgo] at C
          clear hgo
          go_wp2_with (first | (go_at_call 46; (with_reducible refine C.out.mono ?_); rintro e w9 ⟨rfl, hb9⟩))
          go_ret
          exact ⟨rfl, below_tr k4 hb9⟩
        · have hge := HB.out.low f.length (ix f) (by have := goB_iff.1 hgo; rw [hL.out] at this; exact this)
          rw [hF.out] at hge
          have i9 : (L' : Int) ≤ (m : Int) := by omega
          rw [hgo] at C
          clear hgo hge
          go_wp2_with (first | (go_at_call 46; (with_reducible refine C.out.mono ?_); rintro e w9 ⟨rfl, hb9⟩))
          go_ret
          exact ⟨rfl, below_tr k4 hb9⟩
      · have C := Lib.hid (Goes_err (h.below k4) (hf.below k4) hfe)
        clear hfe
        go_wp2_with (first | (go_at_call 46; (with_reducible refine C.out.mono ?_); rintro e w9 ⟨rfl, hb9⟩))
        go_ret
        exact ⟨rfl, below_tr k4 hb9⟩
  · have C := Lib.hid (Fewest_err (h.below k1) hq)
    clear hq
    (with_reducible refine C.out.mono ?_)
    clear C
    rintro e w2 ⟨rfl, rfl⟩
    go_wp2
    go_ret
    exact ⟨rfl, k1⟩
end Go.Proofs.YtenfhjpaiaehjaaDoor
