/-
  slices.Index and slices.Contains at []int walked.
-/
import Derived.Test.YtohconpfpecldaaRows
import Derived.Test.YtohconpfpecldaaLib
import Derived.Test.YtohconpfpecldaaRef
import Derived.Test.YtohconpfpecldaaRSign
namespace Go.Proofs.Ytohconpfpecldaa
open Go.RowKit Go.Rk

/-- Index: below 0 if nothing is as v. -/
theorem Index_any {a : Option Addr} {len cap : Nat} {l : List Int} (n : Int) {w : World} (h : RdI w a len cap l) :
    Calls Try.prog 90 #[.slice a len cap, .int .i64 n] w fun e w' => (∃ z : Int, e = .returned (.int .i64 z) ∧ decide (0 ≤ z) = hasB n l) ∧ w = w' := by
  have hm := h.len_max
  have HL := Lib.hid h.len_eq
  go_enter Try.func90, Try.ntmps90
  go_wp2
  go_loop [8] (fun v => ∃ k : Nat, k ≤ len ∧ v = .int .i64 k ∧ Hid (∀ p, p < k → ix l p ≠ n)) (fun v => len - (intOf v).toNat)
  case atStart => exact ⟨0, Nat.zero_le _, rfl, fun p hp => absurd hp (Nat.not_lt_zero _)⟩
  case round =>
    obtain ⟨k, hk, rfl, hno⟩ := hrel
    by_cases hlt : k < len
    · obtain ⟨b, off, rfl, _, hc⟩ := h.at hlt
      have hc := hc k hlt
      have hlt' : (k : Int) < (len : Int) := by omega
      by_cases he : ix l k = n
      · subst he
        have z : (ix l k == ix l k) = true := beq_iff_eq.2 rfl
        go_wp2
        go_ret
        refine ⟨⟨_, rfl, ?_⟩, rfl⟩
        rw [decide_eq_true (by omega)]
        exact (hasB_iff.2 ⟨k, by rw [HL.out]; exact hlt, rfl⟩).symm
      · have z : (n == ix l k) = false := beq_eq_false_iff_ne.2 fun e => he e.symm
        have HE := Lib.hid he
        clear he
        go_wp2
        go_round
        case rel => exact ⟨k + 1, by omega, by go_num, fun p hp => by
          rcases Nat.lt_or_ge p k with h1 | h1
          · exact hno.out p h1
          · obtain rfl : p = k := by omega
            exact HE.out⟩
        case measure => simp [intOf]; omega
    · obtain rfl : k = len := by omega
      go_wp2
      go_ret
      refine ⟨⟨_, rfl, ?_⟩, rfl⟩
      cases e : hasB n l
      · decide
      · exfalso
        obtain ⟨p, hp, e⟩ := hasB_iff.1 e
        exact hno.out p (by rw [HL.out] at hp; exact hp) e
theorem Contains_any {a : Option Addr} {len cap : Nat} {l : List Int} (n : Int) {w : World} (h : RdI w a len cap l) :
    Calls Try.prog 78 #[.slice a len cap, .int .i64 n] w fun e w' => e = .returned (.bool (hasB n l)) ∧ w = w' := by
  have C := Lib.hid (Index_any n h)
  generalize hasB n l = B at C ⊢
  go_enter Try.func78, Try.ntmps78
  go_wp2_with (go_at_call 90; fail)
  (with_reducible refine C.out.mono ?_)
  rintro e w' ⟨⟨z, rfl, hz⟩, rfl⟩
  clear C
  by_cases h0 : 0 ≤ z
  · rw [decide_eq_true h0] at hz
    subst hz
    go_wp2
    go_ret
    exact ⟨rfl, rfl⟩
  · rw [decide_eq_false h0] at hz
    subst hz
    go_wp2
    go_ret
    exact ⟨congrArg (fun b => Ending.returned (.bool b)) (decide_eq_false (by omega)), rfl⟩
end Go.Proofs.Ytohconpfpecldaa
