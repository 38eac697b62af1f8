/-
  MatTurn walked: turned twice a matrix is as it was; turned, a product is the other way round.
-/
import Derived.Test.YtdgpeliinnmflaaRows
import Derived.Test.YtdgpeliinnmflaaLib
import Derived.Test.YtdgpeliinnmflaaRef
import Derived.Test.YtdgpeliinnmflaaTurnW
import Derived.Test.YtdgpeliinnmflaaMatLaw
import Derived.Test.YtdgpeliinnmflaaMatFact
namespace Go.Proofs.Ytdgpeliinnmflaa
open Go.RowKit Go.Rk

set_option maxHeartbeats 4000000 in
set_option maxRecDepth 100000 in
theorem matTurn_walk {a b : Option Addr} {n k ca cb : Nat} {A B : List (List Int)} {w : World} (hA : RdM w a n ca A) (_ : ∀ r ∈ A, Fit r) (hB : RdM w b k cb B) (_ : ∀ r ∈ B, Fit r) :
    Calls Try.prog 4 #[.slice a n ca, .slice b k cb] w fun e w' => e = .returned (.bool true) ∧ Below w.heap.size w w' := by
  rcases hq : groundsR 5 0 9972 A with _ | x
  · have GA := Lib.hid (Good.of hA.len_eq hq)
    obtain ⟨c, hc⟩ : ∃ c, (rowOf A 0).length = c := ⟨_, rfl⟩
    rw [hc] at GA
    have HQ := Lib.hid hq
    clear hq
    go_enter Try.func4, Try.ntmps4
    go_wp2_with (first | (go_at_call 15; refine (matFact_any _).mono ?_; rintro e w1 ⟨rfl, hb1⟩) | (go_at_call 20; fail))
    have C2 := Lib.hid (Turn_ok (hA.below hb1) HQ.out GA.out.dm GA.out.n1 GA.out.c1)
    (with_reducible refine C2.out.mono ?_)
    clear C2
    rintro e w2 ⟨a2, cap2, T, rfl, ho2, hi2, hb2⟩
    have k2 := below_tr hb1 hb2
    have GT := Lib.hid (GA.out.tr hi2)
    have hT := ho2.rd
    clear hb1 hb2 ho2 hi2
    have C3 := Lib.hid (Turn_ok hT GT.out.1.gr GT.out.1.dm GT.out.1.n1 GT.out.1.c1)
    go_wp2_with (first | (go_at_call 20; fail))
    (with_reducible refine C3.out.mono ?_)
    clear C3
    rintro e w3 ⟨a3, cap3, U, rfl, ho3, hi3, hb3⟩
    have k3 := below_tr k2 hb3
    have GU := Lib.hid (GT.out.1.tr hi3)
    have hT := hT.below hb3
    have HUA : Hid (U = A) := GU.out.1.same GA.out fun i j hi hj => (GU.out.2 i j hi hj).trans (GT.out.2 j i hj hi)
    have C4 := Lib.hid (Rows_any ho3.rd (hA.below k3))
    clear ho3 hi3 hb3 k2
    go_wp2_with (first | (go_at_call 19; fail))
    (with_reducible refine C4.out.mono ?_)
    clear C4
    rintro e w4 ⟨rfl, hb4⟩
    rw [decide_eq_true HUA.out]
    have k4 := below_tr k3 hb4
    have hT := hT.below hb4
    clear hb4 HUA GU k3
    rcases hm : mulErr A B with _ | x
    · obtain ⟨g1, g2, g3⟩ := mulErr_none hm
      have GB0 := Good.of hB.len_eq g2
      obtain ⟨d, hd⟩ : ∃ d, (rowOf B 0).length = d := ⟨_, rfl⟩
      rw [hd] at GB0
      have hck : c = k := by rw [← hc, g3, hB.len_eq]
      subst hck
      have GB := Lib.hid GB0
      have C5 := Lib.hid (Mul_ok (hA.below k4) (hB.below k4) hm)
      rw [hd] at C5
      clear g1 g2 g3 GB0 hm hd hc
      go_wp2_with (first | (go_at_call 18; fail))
      (with_reducible refine C5.out.mono ?_)
      clear C5
      rintro e w5 ⟨a5, cap5, P, rfl, ho5, hi5, hb5⟩
      have k5 := below_tr k4 hb5
      have GP := Lib.hid (GA.out.prod GB.out hi5)
      have hP := ho5.rd
      have hT := hT.below hb5
      clear ho5 hi5 hb5 k4
      have C6 := Lib.hid (Turn_ok (hB.below k5) GB.out.gr GB.out.dm GB.out.n1 GB.out.c1)
      go_wp2_with (first | (go_at_call 20; fail))
      (with_reducible refine C6.out.mono ?_)
      clear C6
      rintro e w6 ⟨a6, cap6, S, rfl, ho6, hi6, hb6⟩
      have k6 := below_tr k5 hb6
      have GS := Lib.hid (GB.out.tr hi6)
      have hP := hP.below hb6
      have hT := hT.below hb6
      have hS := ho6.rd
      clear ho6 hi6 hb6 k5
      have C7 := Lib.hid (Turn_ok hP GP.out.1.gr GP.out.1.dm GP.out.1.n1 GP.out.1.c1)
      go_wp2_with (first | (go_at_call 20; fail))
      (with_reducible refine C7.out.mono ?_)
      clear C7
      rintro e w7 ⟨a7, cap7, Q, rfl, ho7, hi7, hb7⟩
      have k7 := below_tr k6 hb7
      have GQ := Lib.hid (GP.out.1.tr hi7)
      have hT := hT.below hb7
      have hS := hS.below hb7
      have hQ := ho7.rd
      clear ho7 hi7 hb7 k6 hP
      have C8 := Lib.hid (Mul_ok hS hT (GS.out.1.mulOk GT.out.1))
      rw [GT.out.1.r0] at C8
      go_wp2_with (first | (go_at_call 18; fail))
      (with_reducible refine C8.out.mono ?_)
      clear C8
      rintro e w8 ⟨a8, cap8, R, rfl, ho8, hi8, hb8⟩
      have k8 := below_tr k7 hb8
      have GR := Lib.hid (GS.out.1.prod GT.out.1 hi8)
      have HQR : Hid (Q = R) := GQ.out.1.same GR.out.1 (GQ.out.2.trans (EqM.trans (fun i j hi hj => GP.out.2 j i hj hi) (EqM.trans (by show EqM d n (trM (mulM c (mx A) (mx B))) _; rw [mulM_tr]; exact (EqM.mul GS.out.2 GT.out.2).symm) GR.out.2.symm)))
      have C9 := Lib.hid (Rows_any (hQ.below hb8) ho8.rd)
      clear hb8 ho8 hi8 k7 hQ hS hT
      go_wp2_with (first | (go_at_call 19; fail))
      (with_reducible refine C9.out.mono ?_)
      clear C9
      rintro e w9 ⟨rfl, hb9⟩
      rw [decide_eq_true HQR.out]
      go_wp2
      go_ret
      exact ⟨rfl, below_tr k8 hb9⟩
    · have C5 := Lib.hid (Mul_err (hA.below k4) (hB.below k4) hm)
      clear hm hc
      go_wp2_with (first | (go_at_call 18; fail))
      (with_reducible refine C5.out.mono ?_)
      clear C5
      rintro e w5 ⟨rfl, hb5⟩
      go_wp2
      go_ret
      exact ⟨rfl, below_tr k4 hb5⟩
  · have HQ := Lib.hid hq
    clear hq
    go_enter Try.func4, Try.ntmps4
    go_wp2_with (first | (go_at_call 15; refine (matFact_any _).mono ?_; rintro e w1 ⟨rfl, hb1⟩) | (go_at_call 20; fail))
    refine (Turn_err (hA.below hb1) HQ.out).mono ?_
    rintro e w2 ⟨rfl, rfl⟩
    go_wp2
    go_ret
    exact ⟨rfl, hb1⟩
end Go.Proofs.Ytdgpeliinnmflaa
