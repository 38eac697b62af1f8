/-
  GaussOne walked: steps are one form; of steps they are the same; and of a matrix to which one that can be undone was done, too.
-/
import Derived.Test.YtdgpeliinnmflaaRows
import Derived.Test.YtdgpeliinnmflaaLib
import Derived.Test.YtdgpeliinnmflaaRef
import Derived.Test.YtdgpeliinnmflaaMatLaw
import Derived.Test.YtdgpeliinnmflaaMatAdd
import Derived.Test.YtdgpeliinnmflaaTurnW
import Derived.Test.YtdgpeliinnmflaaGaussFact
import Derived.Test.YtdgpeliinnmflaaRDet
namespace Go.Proofs.Ytdgpeliinnmflaa
open Go.RowKit Go.Rk

theorem Eqm.zero_of {a : Int} (h : a % 9973 = 0) : Eqm a 0 := by unfold Eqm; rw [h]; rfl

set_option maxHeartbeats 4000000 in
set_option maxRecDepth 100000 in
theorem gaussOne_walk {a b : Option Addr} {n l ca cb : Nat} {A B : List (List Int)} {w : World} (hA : RdM w a n ca A) (_ : ∀ r ∈ A, Fit r) (hB : RdM w b l cb B) (_ : ∀ r ∈ B, Fit r) :
    Calls Try.prog 11 #[.slice a n ca, .slice b l cb] w fun e w' => e = .returned (.bool true) ∧ Below w.heap.size w w' := by
  have hmB := hB.len_max
  have eB := hB.len_eq
  go_enter Try.func11, Try.ntmps11
  go_wp2_with (first | (go_at_call 30; refine (gaussFact_any _).mono ?_; rintro e w1 ⟨rfl, k1⟩) | (go_at_call 32; fail))
  rcases hq : groundsR 5 0 9972 A with _ | x
  · have GA0 := Good.of hA.len_eq hq
    obtain ⟨c, hc⟩ : ∃ c, (rowOf A 0).length = c := ⟨_, rfl⟩
    rw [hc] at GA0
    have GA := Lib.hid GA0
    clear GA0 hq hc
    have C := Lib.hid (Steps_ok (hA.below k1) GA.out)
    (with_reducible refine C.out.mono ?_)
    clear C
    rintro e w2 ⟨ao, co, ap, cp, P, ps, rfl, ho, hp, hi, hb⟩
    have k2 := below_tr k1 hb
    have HI := Lib.hid hi
    have GP := Lib.hid (hi.good GA.out.n1 GA.out.c1)
    have hP := ho.rd
    have hps := hp.rd
    clear ho hp hi hb k1
    have C := Lib.hid (Steps_ok hP GP.out)
    go_wp2_with (first | (go_at_call 32; fail))
    (with_reducible refine C.out.mono ?_)
    clear C
    rintro e w3 ⟨ao3, co3, ap3, cp3, Q, qs, rfl, ho, hp, hi, hb⟩
    have k3 := below_tr k2 hb
    have HE := Lib.hid (HI.out.same hi HI.out.made HI.out.back)
    have hQ := ho.rd
    have hqs := hp.rd
    have hP := hP.below hb
    have hps := hps.below hb
    clear ho hp hi hb k2
    have C := Lib.hid (Rows_any hP hQ)
    go_wp2_with (first | (go_at_call 19; fail))
    (with_reducible refine C.out.mono ?_)
    clear C
    rintro e w4 ⟨rfl, hb⟩
    have k4 := below_tr k3 hb
    rw [decide_eq_true HE.out.1]
    have hP := hP.below hb
    have hps := hps.below hb
    have hqs := hqs.below hb
    clear hb k3 hQ
    have C := Lib.hid (Ints_any hps hqs)
    go_wp2_with (first | (go_at_call 33; fail))
    (with_reducible refine C.out.mono ?_)
    clear C
    rintro e w5 ⟨rfl, hb⟩
    have k5 := below_tr k4 hb
    rw [decide_eq_true HE.out.2]
    have hP := hP.below hb
    have hps := hps.below hb
    clear hb k4 hqs HE
    have CS := R_Square_any 5 0 9972 (hB.below k5)
    rcases hq : squareR 5 0 9972 B with _ | x
    · rw [hq] at CS
      have C := Lib.hid CS
      obtain ⟨g1, g2⟩ := squareR_grounds hq
      have GB0 := Good.of hB.len_eq g1
      rw [g2, hB.len_eq] at GB0
      have GB := Lib.hid GB0
      clear CS GB0 g1 g2 hq
      go_wp2_with (first | (go_at_call 34; fail))
      (with_reducible refine C.out.mono ?_)
      clear C
      rintro e w6 ⟨rfl, hb⟩
      have k6 := below_tr k5 hb
      have hP := hP.below hb
      have hps := hps.below hb
      clear hb k5
      simp only [numV, Option.getD_none]
      by_cases hnl : l = n
      · subst hnl
        have z1 : ((l : Int) != (l : Int)) = false := bne_eq_false_iff_eq.2 rfl
        have C := Lib.hid (R_DetMod_any l (hB.below k6) GB.out.dm GB.out.ent GB.out.n1.2)
        go_wp2_with (first | (go_at_call 35; fail))
        (with_reducible refine C.out.mono ?_)
        clear C
        rintro e w7 ⟨rfl, hb⟩
        have k7 := below_tr k6 hb
        have hP := hP.below hb
        have hps := hps.below hb
        clear hb k6
        obtain ⟨d, hd⟩ : ∃ d, d = det l (mx B) % 9973 := ⟨_, rfl⟩
        rw [← hd]
        have HD := Lib.hid hd
        clear hd
        by_cases h0 : d = 0
        · have z2 : (d == 0) = true := beq_iff_eq.2 h0
          clear h0
          go_wp2
          go_ret
          exact ⟨rfl, k7⟩
        · have z2 : (d == 0) = false := beq_eq_false_iff_ne.2 h0
          have hne : Hid (¬ Eqm (det l (mx B)) 0) := fun e => h0 (by rw [HD.out]; exact e)
          clear h0
          have C := Lib.hid (Mul_ok (hB.below k7) (hA.below k7) (GB.out.mulOk GA.out))
          rw [GA.out.r0] at C
          go_wp2_with (first | (go_at_call 18; fail))
          (with_reducible refine C.out.mono ?_)
          clear C
          rintro e w8 ⟨a8, cap8, KM, rfl, ho, hi, hb⟩
          have k8 := below_tr k7 hb
          have GK := Lib.hid (GB.out.prod GA.out hi)
          have hKM := ho.rd
          have hP := hP.below hb
          have hps := hps.below hb
          clear ho hi hb k7
          have C := Lib.hid (Steps_ok hKM GK.out.1)
          go_wp2_with (first | (go_at_call 32; fail))
          (with_reducible refine C.out.mono ?_)
          clear C
          rintro e w9 ⟨ao9, co9, ap9, cp9, Q, qs, rfl, ho, hp, hi, hb⟩
          have k9 := below_tr k8 hb
          have HE := Lib.hid (HI.out.same hi ⟨mx B, GK.out.2⟩ ((Made.eqm GK.out.2).trans (Made.undo hne.out)))
          have hQ := ho.rd
          have hqs := hp.rd
          have hP := hP.below hb
          have hps := hps.below hb
          clear ho hp hi hb k8 hKM
          have C := Lib.hid (Rows_any hP hQ)
          go_wp2_with (first | (go_at_call 19; fail))
          (with_reducible refine C.out.mono ?_)
          clear C
          rintro e w10 ⟨rfl, hb⟩
          have k10 := below_tr k9 hb
          rw [decide_eq_true HE.out.1]
          have hps := hps.below hb
          have hqs := hqs.below hb
          clear hb k9 hQ hP
          have C := Lib.hid (Ints_any hps hqs)
          go_wp2_with (first | (go_at_call 33; fail))
          (with_reducible refine C.out.mono ?_)
          clear C
          rintro e w11 ⟨rfl, hb⟩
          have k11 := below_tr k10 hb
          rw [decide_eq_true HE.out.2]
          go_wp2
          go_ret
          exact ⟨rfl, k11⟩
      · have z1 : ((l : Int) != (n : Int)) = true := bne_iff_ne.2 (by omega)
        clear hnl
        go_wp2
        go_ret
        exact ⟨rfl, k6⟩
    · rw [hq] at CS
      have C := Lib.hid CS
      have hx : x ≠ 0 := fun e => by subst e; exact squareR_ne0 hq
      have z1 : (x != 0) = true := bne_iff_ne.2 hx
      clear CS hq hx
      go_wp2_with (first | (go_at_call 34; fail))
      (with_reducible refine C.out.mono ?_)
      clear C
      rintro e w6 ⟨rfl, hb⟩
      simp only [numV, Option.getD_some]
      go_wp2
      go_ret
      exact ⟨rfl, below_tr k5 hb⟩
  · have C := Lib.hid (Steps_err (hA.below k1) hq)
    clear hq
    (with_reducible refine C.out.mono ?_)
    rintro e w2 ⟨rfl, rfl⟩
    go_wp2
    go_ret
    exact ⟨rfl, k1⟩
end Go.Proofs.Ytdgpeliinnmflaa
