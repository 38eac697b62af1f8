/-
  MatRing walked: products of matrices go together in any way, and over sums; the one that changes nothing changes nothing.
-/
import Derived.Test.YtdgpeliinnmflaaRows
import Derived.Test.YtdgpeliinnmflaaLib
import Derived.Test.YtdgpeliinnmflaaRef
import Derived.Test.YtdgpeliinnmflaaMatLaw
import Derived.Test.YtdgpeliinnmflaaMatFact
import Derived.Test.YtdgpeliinnmflaaMatAdd
namespace Go.Proofs.Ytdgpeliinnmflaa
open Go.RowKit Go.Rk

/-- A product that passes. -/
theorem mulErr_good {n k : Nat} {A B : List (List Int)} (e1 : A.length = n) (e2 : B.length = k) (h : mulErr A B = none) : ∃ c, (rowOf B 0).length = c ∧ Good n k A ∧ Good k c B := by
  obtain ⟨g1, g2, g3⟩ := mulErr_none h
  have h1 := Good.of e1 g1
  rw [g3, e2] at h1
  exact ⟨_, rfl, h1, Good.of e2 g2⟩

set_option maxHeartbeats 4000000 in
set_option maxRecDepth 100000 in
theorem matRing_walk {a b c d : Option Addr} {n k m l ca cb cc cd : Nat} {A B C_ D : List (List Int)} {w : World} (hA : RdM w a n ca A) (_ : ∀ r ∈ A, Fit r) (hB : RdM w b k cb B) (_ : ∀ r ∈ B, Fit r) (hC : RdM w c m cc C_) (_ : ∀ r ∈ C_, Fit r) (hD : RdM w d l cd D) (_ : ∀ r ∈ D, Fit r) :
    Calls Try.prog 5 #[.slice a n ca, .slice b k cb, .slice c m cc, .slice d l cd] w fun e w' => e = .returned (.bool true) ∧ Below w.heap.size w w' := by
  have eA := hA.len_eq
  have eB := hB.len_eq
  have eC := hC.len_eq
  have eD := hD.len_eq
  have lA := hA.len_max
  go_enter Try.func5, Try.ntmps5
  go_wp2_with (first | (go_at_call 15; refine (matFact_any _).mono ?_; rintro e w1 ⟨rfl, k1⟩) | (go_at_call 18; fail))
  rcases hm : mulErr A B with _ | x
  · obtain ⟨p, hp, GA0, GB0⟩ := mulErr_good eA eB hm
    have GA := Lib.hid GA0
    have GB := Lib.hid GB0
    have z0 : ((n : Int) == 0) = false := beq_eq_false_iff_ne.2 (by have := GA0.n1; omega)
    clear GA0 GB0
    have C := Lib.hid (Mul_ok (hA.below k1) (hB.below k1) hm)
    rw [hp] at C
    clear hm
    (with_reducible refine C.out.mono ?_)
    clear C
    rintro e w2 ⟨a2, cap2, X, rfl, ho, hi, hb⟩
    have k2 := below_tr k1 hb
    have GX := Lib.hid (GA.out.prod GB.out hi)
    have hX := ho.rd
    clear ho hi hb k1
    rcases hm : mulErr B C_ with _ | x
    · obtain ⟨q, hq, GB1, GC0⟩ := mulErr_good eB eC hm
      have hpm : p = m := by rw [← hp]; exact GB1.r0
      subst hpm
      have GC := Lib.hid GC0
      clear GC0 GB1
      have C := Lib.hid (Mul_ok (hB.below k2) (hC.below k2) hm)
      rw [hq] at C
      clear hm
      go_wp2_with (first | (go_at_call 18; fail))
      (with_reducible refine C.out.mono ?_)
      clear C
      rintro e w3 ⟨a3, cap3, Y, rfl, ho, hi, hb⟩
      have k3 := below_tr k2 hb
      have GY := Lib.hid (GB.out.prod GC.out hi)
      have hY := ho.rd
      have hX := hX.below hb
      clear ho hi hb k2
      have C := Lib.hid (Mul_ok hX (hC.below k3) (GX.out.1.mulOk GC.out))
      rw [hq] at C
      go_wp2_with (first | (go_at_call 18; fail))
      (with_reducible refine C.out.mono ?_)
      clear C
      rintro e w4 ⟨a4, cap4, U, rfl, ho, hi, hb⟩
      have k4 := below_tr k3 hb
      have GU := Lib.hid (GX.out.1.prod GC.out hi)
      have hU := ho.rd
      have hX := hX.below hb
      have hY := hY.below hb
      clear ho hi hb k3
      have C := Lib.hid (Mul_ok (hA.below k4) hY (GA.out.mulOk GY.out.1))
      rw [GY.out.1.r0] at C
      go_wp2_with (first | (go_at_call 18; fail))
      (with_reducible refine C.out.mono ?_)
      clear C
      rintro e w5 ⟨a5, cap5, V, rfl, ho, hi, hb⟩
      have k5 := below_tr k4 hb
      have GV := Lib.hid (GA.out.prod GY.out.1 hi)
      have hUV : Hid (U = V) := GU.out.1.same GV.out.1 (GU.out.2.trans ((EqM.mul GX.out.2 (EqM.refl _ _ _)).trans (EqM.trans (by rw [mulM_go]; exact EqM.mul (EqM.refl _ _ _) GY.out.2.symm) GV.out.2.symm)))
      have hV := ho.rd
      have hU := hU.below hb
      have hX := hX.below hb
      clear ho hi hb k4 hY
      have C := Lib.hid (Rows_any hU hV)
      go_wp2_with (first | (go_at_call 19; fail))
      (with_reducible refine C.out.mono ?_)
      clear C
      rintro e w6 ⟨rfl, hb⟩
      have k6 := below_tr k5 hb
      rw [decide_eq_true hUV.out]
      have hX := hX.below hb
      clear hb k5 hU hV hUV GU GV GY
      have C := Lib.hid (One_any n w6 GA.out.n1.1 GA.out.n1.2)
      go_wp2_with (first | (go_at_call 21; fail))
      (with_reducible refine C.out.mono ?_)
      clear C
      rintro e w7 ⟨a7, cap7, O, rfl, ho, hi, hb⟩
      have k7 := below_tr k6 hb
      have GO : Hid (Good n n O ∧ EqM n n (mx O) oneM) := ⟨⟨GA.out.n1, GA.out.n1, hi.1, fun i j h1 h2 => by rw [hi.2 i j h1 h2]; unfold oneM; split <;> omega⟩, fun i j h1 h2 => Eqm.of_eq (hi.2 i j h1 h2)⟩
      have hO := ho.rd
      have hX := hX.below hb
      clear ho hi hb k6
      have C := Lib.hid (Mul_ok hO (hA.below k7) (GO.out.1.mulOk GA.out))
      rw [GA.out.r0] at C
      go_wp2_with (first | (go_at_call 18; fail))
      (with_reducible refine C.out.mono ?_)
      clear C
      rintro e w8 ⟨a8, cap8, Z, rfl, ho, hi, hb⟩
      have k8 := below_tr k7 hb
      have GZ := Lib.hid (GO.out.1.prod GA.out hi)
      have hZA : Hid (Z = A) := GZ.out.1.same GA.out (GZ.out.2.trans ((EqM.mul GO.out.2 (EqM.refl _ _ _)).trans fun i j h1 _ => Eqm.of_eq (one_mulM _ h1 j)))
      have hZ := ho.rd
      have hX := hX.below hb
      clear ho hi hb k7 hO GO GZ
      have C := Lib.hid (Rows_any hZ (hA.below k8))
      go_wp2_with (first | (go_at_call 19; fail))
      (with_reducible refine C.out.mono ?_)
      clear C
      rintro e w9 ⟨rfl, hb⟩
      have k9 := below_tr k8 hb
      rw [decide_eq_true hZA.out]
      have hX := hX.below hb
      clear hb k8 hZ hZA
      rcases hm : addErr B D with _ | x
      · obtain ⟨f1, f2, f3, f4⟩ := addErr_none hm
        have hkl : k = l := by omega
        subst hkl
        have GD0 := Good.of eD f2
        rw [← f4, hp] at GD0
        have GD := Lib.hid GD0
        clear GD0 f1 f2 f3 f4
        have C := Lib.hid (Add_ok (hB.below k9) (hD.below k9) hm)
        rw [hp] at C
        clear hm
        go_wp2_with (first | (go_at_call 22; fail))
        (with_reducible refine C.out.mono ?_)
        clear C
        rintro e w10 ⟨a10, cap10, S, rfl, ho, hi, hb⟩
        have k10 := below_tr k9 hb
        have GS := Lib.hid (GB.out.sum GD.out hi)
        have hS := ho.rd
        have hX := hX.below hb
        clear ho hi hb k9
        have C := Lib.hid (Mul_ok (hA.below k10) (hD.below k10) (GA.out.mulOk GD.out))
        rw [GD.out.r0] at C
        go_wp2_with (first | (go_at_call 18; fail))
        (with_reducible refine C.out.mono ?_)
        clear C
        rintro e w11 ⟨a11, cap11, AD, rfl, ho, hi, hb⟩
        have k11 := below_tr k10 hb
        have GAD := Lib.hid (GA.out.prod GD.out hi)
        have hAD := ho.rd
        have hX := hX.below hb
        have hS := hS.below hb
        clear ho hi hb k10
        have C := Lib.hid (Mul_ok (hA.below k11) hS (GA.out.mulOk GS.out.1))
        rw [GS.out.1.r0] at C
        go_wp2_with (first | (go_at_call 18; fail))
        (with_reducible refine C.out.mono ?_)
        clear C
        rintro e w12 ⟨a12, cap12, AS, rfl, ho, hi, hb⟩
        have k12 := below_tr k11 hb
        have GAS := Lib.hid (GA.out.prod GS.out.1 hi)
        have hAS := ho.rd
        have hX := hX.below hb
        have hAD := hAD.below hb
        clear ho hi hb k11 hS
        have C := Lib.hid (Add_ok hX hAD (GX.out.1.addOk GAD.out.1))
        rw [GX.out.1.r0] at C
        go_wp2_with (first | (go_at_call 22; fail))
        (with_reducible refine C.out.mono ?_)
        clear C
        rintro e w13 ⟨a13, cap13, R, rfl, ho, hi, hb⟩
        have k13 := below_tr k12 hb
        have GR := Lib.hid (GX.out.1.sum GAD.out.1 hi)
        have hSR : Hid (AS = R) := GAS.out.1.same GR.out.1 (GAS.out.2.trans ((EqM.mul (EqM.refl _ _ _) GS.out.2).trans (EqM.trans (by rw [mulM_add]; exact fun i j h1 h2 => Eqm.add (GX.out.2 i j h1 h2).symm (GAD.out.2 i j h1 h2).symm) GR.out.2.symm)))
        have hR := ho.rd
        have hAS := hAS.below hb
        clear ho hi hb k12 hX hAD
        have C := Lib.hid (Rows_any hAS hR)
        go_wp2_with (first | (go_at_call 19; fail))
        (with_reducible refine C.out.mono ?_)
        clear C
        rintro e w14 ⟨rfl, hb⟩
        have k14 := below_tr k13 hb
        rw [decide_eq_true hSR.out]
        go_wp2
        go_ret
        exact ⟨rfl, k14⟩
      · have C := Lib.hid (Add_err (hB.below k9) (hD.below k9) hm)
        clear hm
        go_wp2_with (first | (go_at_call 22; fail))
        (with_reducible refine C.out.mono ?_)
        rintro e w10 ⟨rfl, hb⟩
        go_wp2
        go_ret
        exact ⟨rfl, below_tr k9 hb⟩
    · have C := Lib.hid (Mul_err (hB.below k2) (hC.below k2) hm)
      clear hm
      go_wp2_with (first | (go_at_call 18; fail))
      (with_reducible refine C.out.mono ?_)
      rintro e w3 ⟨rfl, hb⟩
      go_wp2
      go_ret
      exact ⟨rfl, below_tr k2 hb⟩
  · have C1 := Lib.hid (Mul_err (hA.below k1) (hB.below k1) hm)
    clear hm
    (with_reducible refine C1.out.mono ?_)
    rintro e w2 ⟨rfl, hb2⟩
    have k2 := below_tr k1 hb2
    rcases hm : mulErr B C_ with _ | x
    · have C := Lib.hid (Mul_ok (hB.below k2) (hC.below k2) hm)
      clear hm
      go_wp2_with (first | (go_at_call 18; fail))
      (with_reducible refine C.out.mono ?_)
      rintro e w3 ⟨a3, cap3, Y, rfl, _, _, hb⟩
      go_wp2
      go_ret
      exact ⟨rfl, below_tr k2 hb⟩
    · have C := Lib.hid (Mul_err (hB.below k2) (hC.below k2) hm)
      clear hm
      go_wp2_with (first | (go_at_call 18; fail))
      (with_reducible refine C.out.mono ?_)
      rintro e w3 ⟨rfl, hb⟩
      go_wp2
      go_ret
      exact ⟨rfl, below_tr k2 hb⟩
end Go.Proofs.Ytdgpeliinnmflaa
