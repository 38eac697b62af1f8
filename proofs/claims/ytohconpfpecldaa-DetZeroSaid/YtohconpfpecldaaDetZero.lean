/-
  DetZero walked: the determinant is 0 just if the rank is not full, and just if something is taken to noughts.
-/
import Derived.Test.YtohconpfpecldaaRows
import Derived.Test.YtohconpfpecldaaLib
import Derived.Test.YtohconpfpecldaaRef
import Derived.Test.YtohconpfpecldaaDetOf
import Derived.Test.YtohconpfpecldaaDetFact
import Derived.Test.YtohconpfpecldaaDetMul
import Derived.Test.YtohconpfpecldaaNullW
namespace Go.Proofs.Ytohconpfpecldaa
open Go.RowKit Go.Rk

set_option maxHeartbeats 4000000 in
set_option maxRecDepth 100000 in
theorem detZero_walk {a : Option Addr} {n ca : Nat} {A : List (List Int)} {w : World} (hA : RdM w a n ca A) (_ : ∀ r ∈ A, Fit r) :
    Calls Try.prog 12 #[.slice a n ca] w fun e w' => e = .returned (.bool true) ∧ Below w.heap.size w w' := by
  go_enter Try.func12, Try.ntmps12
  go_wp2_with (first | (go_at_call 44; refine (detFact_any _).mono ?_; rintro e w1 ⟨rfl, k1⟩) | (go_at_call 27; fail))
  rcases hq : squareR 5 0 9972 A with _ | x
  · obtain ⟨g1, g2⟩ := squareR_grounds hq
    have GA0 := Good.of hA.len_eq g1
    rw [g2, hA.len_eq] at GA0
    have GA := Lib.hid GA0
    have n1 := GA0.n1
    have HQ := Lib.hid hq
    clear GA0 g1 g2 hq
    have C := Lib.hid (det_Of_ok (hA.below k1) HQ.out)
    obtain ⟨d, hd⟩ : ∃ d, det n (mx A) % 9973 = d := ⟨_, rfl⟩
    rw [hd] at C
    have HD := Lib.hid hd
    clear hd HQ
    (with_reducible refine C.out.mono ?_)
    clear C
    rintro e w2 ⟨rfl, hb⟩
    have k2 := below_tr k1 hb
    clear hb k1
    have C := Lib.hid (Rank_ok (hA.below k2) GA.out)
    go_wp2_with (first | (go_at_call 45; fail))
    (with_reducible refine C.out.mono ?_)
    clear C
    rintro e w3 ⟨P, ps, rfl, hi, hb⟩
    have k3 := below_tr k2 hb
    have HI := Lib.hid hi
    clear hb k2 hi
    have C := Lib.hid (Null_ok (hA.below k3) GA.out)
    go_wp2_with (first | (go_at_call 46; fail))
    (with_reducible refine C.out.mono ?_)
    clear C
    rintro e w4 ⟨al, cl, L, P', ps', rfl, ho, hi, hN, hb⟩
    have k4 := below_tr k3 hb
    have hs := (hi.same HI.out (Made.refl _ _ _) (Made.refl _ _ _)).2
    have hc := free_count hi.st hi.pos
    rw [hs] at hc
    rw [hN.len, hs]
    have hle := HI.out.st.le
    have hf := HI.out.st.full HI.out.made HI.out.back
    obtain ⟨m, hm⟩ : ∃ m, (freeN ps n).length = m := ⟨_, rfl⟩
    rw [hm] at hc ⊢
    clear ho hb k3 hN hi hm hs
    by_cases h0 : d = 0
    · have hr : ps.length ≠ n := fun e => (hf.1 e) (by unfold Eqm; rw [HD.out, h0]; rfl)
      have z1 : (ps.length : Int) < (n : Int) := by omega
      have z2 : (0 : Int) < (m : Int) := by omega
      have z3 : (d == 0) = true := beq_iff_eq.2 h0
      clear hf h0 hr hc hle
      go_wp2
      go_ret
      exact ⟨congrArg (fun b => Ending.returned (.bool b)) (by simp; omega), k4⟩
    · have hr : ps.length = n := hf.2 fun e => h0 (by rw [← HD.out]; exact e)
      have z1 : ¬ (ps.length : Int) < (n : Int) := by omega
      have z2 : ¬ (0 : Int) < (m : Int) := by omega
      have z3 : (d == 0) = false := beq_eq_false_iff_ne.2 h0
      clear hf h0 hr hc hle
      go_wp2
      go_ret
      exact ⟨congrArg (fun b => Ending.returned (.bool b)) (by simp; omega), k4⟩
  · have C := Lib.hid (det_Of_err (hA.below k1) hq)
    clear hq
    (with_reducible refine C.out.mono ?_)
    rintro e w2 ⟨rfl, rfl⟩
    go_wp2
    go_ret
    exact ⟨rfl, k1⟩
end Go.Proofs.Ytohconpfpecldaa
