/-
  ResultTurn walked: the other way round the resultant has a sign: turned if both powers are odd.
-/
import Derived.Test.YtohconpfpecldaaRows
import Derived.Test.YtohconpfpecldaaLib
import Derived.Test.YtohconpfpecldaaNum
import Derived.Test.YtohconpfpecldaaRef
import Derived.Test.YtohconpfpecldaaTr
import Derived.Test.YtohconpfpecldaaOpen
import Derived.Test.YtohconpfpecldaaResW
import Derived.Test.YtohconpfpecldaaResFact
namespace Go.Proofs.Ytohconpfpecldaa
open Go.RowKit Go.Rk

section
variable {a b : Option Addr} {p q ca cb : Nat} {f g : List Int} {w : World}
set_option maxHeartbeats 4000000 in
set_option maxRecDepth 100000 in
theorem resultTurn_ok (hf : RdI w a p ca f) (hg : RdI w b q cb g) (h : twoR f g = none) :
    Calls Try.prog 3 #[.slice a p ca, .slice b q cb] w fun e w' => e = .returned (.bool true) ∧ Below w.heap.size w w' := by
  have e1 := hf.len_eq
  have e2 := hg.len_eq
  obtain ⟨g1, g2, _, _, _, _, g7, g8⟩ := twoR_none h
  have HV := resV_turn h
  have CA := Lib.hid (fun (w' : World) (k : Below w.heap.size w w') => result_Of_ok (hf.below k) (hg.below k) h)
  have CB := Lib.hid (fun (w' : World) (k : Below w.heap.size w w') => result_Of_ok (hg.below k) (hf.below k) (twoR_turn h))
  rw [e1] at g1 g7 g8
  rw [e2] at g2 g7 g8
  rw [e1, e2] at HV
  have bx := resV_in f g
  obtain ⟨X, hX⟩ : ∃ X, X = resV f g := ⟨_, rfl⟩
  obtain ⟨Y, hY⟩ : ∃ Y, Y = resV g f := ⟨_, rfl⟩
  rw [← hX] at CA bx HV
  rw [← hY] at CB HV
  have CI := L3_in_any X 0 9972
  rw [show inB X 0 9972 = true from by unfold inB; simp; omega] at CI
  have CI := Lib.hid CI
  have i1 : (1 : Int) ≤ (p : Int) := by omega
  have i2 : (1 : Int) ≤ (q : Int) := by omega
  have p7 : p ≤ 6 := by omega
  have q7 : q ≤ 6 := by omega
  have u1 : ((p : Int) - 1).tmod 2 = (((p - 1) % 2 : Nat) : Int) := by
    rw [show (p : Int) - 1 = ((p - 1 : Nat) : Int) from by omega]
    exact Int.tmod_eq_emod_of_nonneg (by omega)
  have u2 : ((q : Int) - 1).tmod 2 = (((q - 1) % 2 : Nat) : Int) := by
    rw [show (q : Int) - 1 = ((q - 1 : Nat) : Int) from by omega]
    exact Int.tmod_eq_emod_of_nonneg (by omega)
  clear h e1 e2 g1 g2 g7 g8 hX hY
  rcases Nat.mod_two_eq_zero_or_one (p - 1) with hp | hp
  all_goals rcases Nat.mod_two_eq_zero_or_one (q - 1) with hq | hq
  all_goals
    rw [hp] at u1 HV
    rw [hq] at u2 HV
    first
      | (have z1 : (Y == X) = true := beq_iff_eq.2 (by have h2 : Y = X % 9973 := HV; omega))
      | (have z1 : (Y == -X % 9973) = true := beq_iff_eq.2 HV)
    clear hp hq HV
    go_enter Try.func3, Try.ntmps3
    go_wp2_with (first
      | (go_at_call 15; refine (resultFact_any _).mono ?_; rintro e w1 ⟨rfl, k1⟩)
      | (go_at_call 16; fail))
    (with_reducible refine (CA.out _ k1).mono ?_)
    rintro e w2 ⟨rfl, b2⟩
    have k2 := below_tr k1 b2
    go_wp2_with (first
      | (go_at_call 16; fail))
    (with_reducible refine (CB.out _ k2).mono ?_)
    rintro e w3 ⟨rfl, b3⟩
    have k3 := below_tr k2 b3
    clear b2 b3 k1 k2 CA CB
    go_wp2_with (first
      | (go_at_call 17; (with_reducible refine (CI.out _).mono ?_); rintro e w4 ⟨rfl, rfl⟩)
      | (go_at_call 18; refine (R_Mod_any _ _ (by omega) (by omega)).mono ?_; rintro e w' ⟨rfl, rfl⟩))
    go_ret
    exact ⟨rfl, k3⟩
set_option maxHeartbeats 2000000 in
theorem resultTurn_walk (hf : RdI w a p ca f) (_ : Fit f) (hg : RdI w b q cb g) (_ : Fit g) :
    Calls Try.prog 3 #[.slice a p ca, .slice b q cb] w fun e w' => e = .returned (.bool true) ∧ Below w.heap.size w w' := by
  rcases h : twoR f g with _ | c
  · exact resultTurn_ok hf hg h
  · have H := Lib.hid h
    clear h
    go_enter Try.func3, Try.ntmps3
    go_wp2_with (first
      | (go_at_call 15; refine (resultFact_any _).mono ?_; rintro e w1 ⟨rfl, k1⟩)
      | (go_at_call 16; refine (result_Of_err (hf.below k1) (hg.below k1) H.out).mono ?_; rintro e w2 ⟨rfl, rfl⟩))
    go_ret
    exact ⟨rfl, k1⟩
end
end Go.Proofs.Ytohconpfpecldaa
