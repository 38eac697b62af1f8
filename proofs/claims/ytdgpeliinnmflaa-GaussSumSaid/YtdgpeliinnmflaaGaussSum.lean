/-
  GaussSum walked: a sum has no more steps than both together.
-/
import Derived.Test.YtdgpeliinnmflaaRows
import Derived.Test.YtdgpeliinnmflaaLib
import Derived.Test.YtdgpeliinnmflaaRef
import Derived.Test.YtdgpeliinnmflaaMatLaw
import Derived.Test.YtdgpeliinnmflaaMatAdd
import Derived.Test.YtdgpeliinnmflaaTurnW
import Derived.Test.YtdgpeliinnmflaaGaussFact
namespace Go.Proofs.Ytdgpeliinnmflaa
open Go.RowKit Go.Rk

set_option maxHeartbeats 4000000 in
set_option maxRecDepth 100000 in
theorem gaussSum_walk {a b : Option Addr} {n k ca cb : Nat} {A B : List (List Int)} {w : World} (hA : RdM w a n ca A) (_ : ∀ r ∈ A, Fit r) (hB : RdM w b k cb B) (_ : ∀ r ∈ B, Fit r) :
    Calls Try.prog 10 #[.slice a n ca, .slice b k cb] w fun e w' => e = .returned (.bool true) ∧ Below w.heap.size w w' := by
  go_enter Try.func10, Try.ntmps10
  go_wp2_with (first | (go_at_call 30; refine (gaussFact_any _).mono ?_; rintro e w1 ⟨rfl, k1⟩) | (go_at_call 22; fail))
  rcases hq : addErr A B with _ | x
  · obtain ⟨f1, f2, f3, f4⟩ := addErr_none hq
    have hnk : n = k := by rw [← hA.len_eq, ← hB.len_eq, f3]
    subst hnk
    have GA0 := Good.of hA.len_eq f1
    have GB0 := Good.of hB.len_eq f2
    rw [← f4] at GB0
    obtain ⟨c, hc⟩ : ∃ c, (rowOf A 0).length = c := ⟨_, rfl⟩
    rw [hc] at GA0 GB0
    have GA := Lib.hid GA0
    have GB := Lib.hid GB0
    clear GA0 GB0 f1 f2 f3 f4
    have C := Lib.hid (Add_ok (hA.below k1) (hB.below k1) hq)
    rw [hc] at C
    clear hq hc
    (with_reducible refine C.out.mono ?_)
    clear C
    rintro e w2 ⟨a2, cap2, S, rfl, ho, hi, hb⟩
    have k2 := below_tr k1 hb
    have GS := Lib.hid (GA.out.sum GB.out hi)
    have hS := ho.rd
    clear ho hi hb k1
    have C := Lib.hid (Rank_ok (hA.below k2) GA.out)
    go_wp2_with (first | (go_at_call 31; fail))
    (with_reducible refine C.out.mono ?_)
    clear C
    rintro e w3 ⟨PA, pa, rfl, ha, hb⟩
    have k3 := below_tr k2 hb
    have HA := Lib.hid ha
    have hS := hS.below hb
    clear ha hb k2
    have C := Lib.hid (Rank_ok (hB.below k3) GB.out)
    go_wp2_with (first | (go_at_call 31; fail))
    (with_reducible refine C.out.mono ?_)
    clear C
    rintro e w4 ⟨PB, pb, rfl, ha, hb⟩
    have k4 := below_tr k3 hb
    have HB := Lib.hid ha
    have hS := hS.below hb
    clear ha hb k3
    have C := Lib.hid (Rank_ok hS GS.out.1)
    go_wp2_with (first | (go_at_call 31; fail))
    (with_reducible refine C.out.mono ?_)
    clear C
    rintro e w5 ⟨PS, ps, rfl, ha, hb⟩
    have k5 := below_tr k4 hb
    have HS := Lib.hid ha
    have fa := HA.out.fac
    have fb := HB.out.fac
    have fs := HS.out.fac
    have la := HA.out.st.le
    have lb := HB.out.st.le
    have ls := HS.out.st.le
    have n5 := GA.out.n1
    have q1 : ps.length ≤ pa.length + pb.length := HS.out.least ((fa.add fb).congr GS.out.2.symm)
    have q2 : pa.length ≤ ps.length + pb.length := HA.out.least ((fs.add fb.neg).congr fun i j hi hj => by
      have := Eqm.add (GS.out.2 i j hi hj) (Eqm.refl (-(mx B i j)))
      exact this.trans (Eqm.of_eq (by dsimp only; omega)))
    have q3 : pb.length ≤ ps.length + pa.length := HB.out.least ((fs.add fa.neg).congr fun i j hi hj => by
      have := Eqm.add (GS.out.2 i j hi hj) (Eqm.refl (-(mx A i j)))
      exact this.trans (Eqm.of_eq (by dsimp only; omega)))
    have s1 : (ps.length : Int) ≤ (pa.length : Int) + (pb.length : Int) := by omega
    have s2 : (pa.length : Int) ≤ (ps.length : Int) + (pb.length : Int) := by omega
    have s3 : (pb.length : Int) ≤ (ps.length : Int) + (pa.length : Int) := by omega
    clear ha hb k4 hS fa fb fs
    go_wp2
    go_ret
    exact ⟨rfl, k5⟩
  · have C := Lib.hid (Add_err (hA.below k1) (hB.below k1) hq)
    clear hq
    (with_reducible refine C.out.mono ?_)
    rintro e w2 ⟨rfl, hb⟩
    go_wp2
    go_ret
    exact ⟨rfl, below_tr k1 hb⟩
end Go.Proofs.Ytdgpeliinnmflaa
