/-
  GaussRank walked: turned, a matrix has as many steps; a product has no more than either, and no fewer than both together, less what they have in common.
-/
import Derived.Test.YtdgpeliinnmflaaRows
import Derived.Test.YtdgpeliinnmflaaLib
import Derived.Test.YtdgpeliinnmflaaRef
import Derived.Test.YtdgpeliinnmflaaMatLaw
import Derived.Test.YtdgpeliinnmflaaMatAdd
import Derived.Test.YtdgpeliinnmflaaTurnW
import Derived.Test.YtdgpeliinnmflaaGaussFact
namespace Go.Proofs.Ytdgpeliinnmflaa
open Go.RowKit Go.Rk

set_option maxHeartbeats 4000000 in
set_option maxRecDepth 100000 in
theorem gaussRank_walk {a b : Option Addr} {n k ca cb : Nat} {A B : List (List Int)} {w : World} (hA : RdM w a n ca A) (_ : ∀ r ∈ A, Fit r) (hB : RdM w b k cb B) (_ : ∀ r ∈ B, Fit r) :
    Calls Try.prog 12 #[.slice a n ca, .slice b k cb] w fun e w' => e = .returned (.bool true) ∧ Below w.heap.size w w' := by
  go_enter Try.func12, Try.ntmps12
  go_wp2_with (first | (go_at_call 30; refine (gaussFact_any _).mono ?_; rintro e w1 ⟨rfl, k1⟩) | (go_at_call 31; fail))
  rcases hq : groundsR 5 0 9972 A with _ | x
  · have GA0 := Good.of hA.len_eq hq
    obtain ⟨c, hc⟩ : ∃ c, (rowOf A 0).length = c := ⟨_, rfl⟩
    rw [hc] at GA0
    have GA := Lib.hid GA0
    clear GA0 hq
    have C := Lib.hid (Rank_ok (hA.below k1) GA.out)
    (with_reducible refine C.out.mono ?_)
    clear C
    rintro e w2 ⟨PA, pa, rfl, ha, hb⟩
    have k2 := below_tr k1 hb
    have HA := Lib.hid ha
    clear ha hb k1
    have C := Lib.hid (Turn_ok (hA.below k2) GA.out.gr GA.out.dm GA.out.n1 GA.out.c1)
    go_wp2_with (first | (go_at_call 20; fail))
    (with_reducible refine C.out.mono ?_)
    clear C
    rintro e w3 ⟨a3, cap3, T, rfl, ho, hi, hb⟩
    have k3 := below_tr k2 hb
    have GT := Lib.hid (GA.out.tr hi)
    have hT := ho.rd
    clear ho hi hb k2
    have C := Lib.hid (Rank_ok hT GT.out.1)
    go_wp2_with (first | (go_at_call 31; fail))
    (with_reducible refine C.out.mono ?_)
    clear C
    rintro e w4 ⟨PT, pt, rfl, ha, hb⟩
    have k4 := below_tr k3 hb
    have HT := Lib.hid ha
    have q1 : pa.length = pt.length := Nat.le_antisymm (HA.out.least (HT.out.fac.tr.congr fun i j hi hj => GT.out.2 j i hj hi)) (HT.out.least (HA.out.fac.tr.congr GT.out.2.symm))
    have la := HA.out.st.le
    have n5 := GA.out.n1
    have z1 : ((pt.length : Int) != (pa.length : Int)) = false := bne_eq_false_iff_eq.2 (by omega)
    clear ha hb k3 hT
    rcases hm : mulErr A B with _ | x
    · obtain ⟨f1, f2, f3⟩ := mulErr_none hm
      have GB0 := Good.of hB.len_eq f2
      obtain ⟨d, hd⟩ : ∃ d, (rowOf B 0).length = d := ⟨_, rfl⟩
      rw [hd] at GB0
      have hck : c = k := by rw [← hc, f3, hB.len_eq]
      subst hck
      have GB := Lib.hid GB0
      clear GB0 f1 f2 f3 hc
      have C := Lib.hid (Mul_ok (hA.below k4) (hB.below k4) hm)
      rw [hd] at C
      clear hm hd
      go_wp2_with (first | (go_at_call 18; fail))
      (with_reducible refine C.out.mono ?_)
      clear C
      rintro e w5 ⟨a5, cap5, P, rfl, ho, hi, hb⟩
      have k5 := below_tr k4 hb
      have GP := Lib.hid (GA.out.prod GB.out hi)
      have hP := ho.rd
      clear ho hi hb k4
      have C := Lib.hid (Rank_ok hP GP.out.1)
      go_wp2_with (first | (go_at_call 31; fail))
      (with_reducible refine C.out.mono ?_)
      clear C
      rintro e w6 ⟨PP, pp, rfl, ha, hb⟩
      have k6 := below_tr k5 hb
      have HP := Lib.hid ha
      clear ha hb k5 hP
      have C := Lib.hid (Rank_ok (hB.below k6) GB.out)
      go_wp2_with (first | (go_at_call 31; fail))
      (with_reducible refine C.out.mono ?_)
      clear C
      rintro e w7 ⟨PB, pb, rfl, ha, hb⟩
      have k7 := below_tr k6 hb
      have HB := Lib.hid ha
      have r1 : pp.length ≤ pa.length := HP.out.least ((HA.out.fac.mulL (mx B)).congr GP.out.2.symm)
      have r2 : pp.length ≤ pb.length := HP.out.least ((HB.out.fac.mulR (mx A)).congr GP.out.2.symm)
      obtain ⟨r3, r4⟩ := HA.out.st.sylvester HA.out.made (HP.out.fac.congr GP.out.2)
      have r5 : pb.length ≤ pp.length + (c - pa.length) := HB.out.least r4
      have lb := HB.out.st.le
      have c5 := GB.out.n1
      have e2 : c ≤ 5 := c5.2
      have r6 : (pt.length : Int) + (pb.length : Int) - (c : Int) ≤ (pp.length : Int) := by omega
      clear ha hb k6 r4
      go_wp2
      go_ret
      exact ⟨rfl, k7⟩
    · have C := Lib.hid (Mul_err (hA.below k4) (hB.below k4) hm)
      clear hm
      go_wp2_with (first | (go_at_call 18; fail))
      (with_reducible refine C.out.mono ?_)
      rintro e w5 ⟨rfl, hb⟩
      go_wp2
      go_ret
      exact ⟨rfl, below_tr k4 hb⟩
  · have C := Lib.hid (Rank_err (hA.below k1) hq)
    clear hq
    (with_reducible refine C.out.mono ?_)
    rintro e w2 ⟨rfl, rfl⟩
    go_wp2
    go_ret
    exact ⟨rfl, k1⟩
end Go.Proofs.Ytdgpeliinnmflaa
