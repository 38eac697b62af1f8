/-
  The reference's Has and Sign walked.
-/
import Derived.Test.YtohconpfpecldaaRows
import Derived.Test.YtohconpfpecldaaLib
import Derived.Test.YtohconpfpecldaaRef
import Derived.Test.YtohconpfpecldaaOrder
namespace Go.Proofs.Ytohconpfpecldaa
open Go.RowKit Go.Rk

def hasB (n : Int) (l : List Int) : Bool := l.any (· == n)
theorem hasB_iff {n : Int} {l : List Int} : hasB n l = true ↔ ∃ p, p < l.length ∧ ix l p = n := by
  unfold hasB
  rw [List.any_eq_true]
  constructor
  · rintro ⟨x, hx, e⟩
    obtain ⟨p, hp, rfl⟩ := List.getElem_of_mem hx
    exact ⟨p, hp, by rw [ix_lt hp]; exact beq_iff_eq.1 e⟩
  · rintro ⟨p, hp, e⟩
    exact ⟨_, ix_mem hp, beq_iff_eq.2 e⟩

theorem R_Has_any {a : Option Addr} {len cap : Nat} {l : List Int} (n : Int) {w : World} (h : RdI w a len cap l) :
    Calls Try.prog 50 #[.slice a len cap, .int .i64 n] w fun e w' => e = .returned (.bool (hasB n l)) ∧ w = w' := by
  have hm := h.len_max
  go_enter Try.func50, Try.ntmps50
  go_wp2
  go_loop [5] (fun i => ∃ k : Nat, k ≤ len ∧ i = .int .i64 k ∧ Hid (∀ p, p < k → ix l p ≠ n)) (fun i => len - (intOf i).toNat)
  case atStart => exact ⟨0, Nat.zero_le _, rfl, fun p hp => absurd hp (Nat.not_lt_zero _)⟩
  case round =>
    obtain ⟨k, hk, rfl, hno⟩ := hrel
    by_cases hlt : k < len
    · obtain ⟨b, off, rfl, _, hc⟩ := h.at hlt
      have hc := hc k hlt
      by_cases ho : ix l k = n
      · have z : (ix l k == n) = true := beq_iff_eq.2 ho
        have Ho := Lib.hid ho
        clear ho
        go_wp2
        go_ret
        exact ⟨congrArg (fun b => Ending.returned (.bool b)) (hasB_iff.2 ⟨k, by rw [h.len_eq]; exact hlt, Ho.out⟩).symm, rfl⟩
      · have z : (ix l k == n) = false := beq_eq_false_iff_ne.2 ho
        have Ho := Lib.hid ho
        clear ho
        go_wp2
        go_round
        case rel => exact ⟨k + 1, by omega, by go_num, fun p hp => by
          rcases Nat.lt_or_ge p k with h1 | h1
          · exact hno.out p h1
          · obtain rfl : p = k := by omega
            exact Ho.out⟩
        case measure => simp [intOf]; omega
    · go_wp2
      go_ret
      refine ⟨congrArg (fun b => Ending.returned (.bool b)) (Bool.eq_false_iff.2 fun e => ?_).symm, rfl⟩
      obtain ⟨p, hp, e⟩ := hasB_iff.1 e
      exact hno.out p (by rw [h.len_eq] at hp; omega) e

/-- The sign by the pairs, as the reference counts it. -/
def turnI (l : List Int) (k i : Nat) : Int := if ix l i < ix l k then -1 else 1

theorem prodTo_pm {g : Nat → Int} {n : Nat} (h : ∀ i, i < n → g i = 1 ∨ g i = -1) : prodTo g n = 1 ∨ prodTo g n = -1 := by
  induction n with
  | zero => exact .inl rfl
  | succ n ih =>
    rw [prodTo]
    rcases ih fun i hi => h i (by omega) with e | e <;> rcases h n (by omega) with e2 | e2 <;> rw [e, e2] <;> simp
theorem turnI_pm (l : List Int) (k i : Nat) : turnI l k i = 1 ∨ turnI l k i = -1 := by unfold turnI; split <;> simp
theorem pairs_pm (l : List Int) (n : Nat) : pairs (turnI l) n = 1 ∨ pairs (turnI l) n = -1 := prodTo_pm fun i _ => prodTo_pm fun k _ => turnI_pm l k i

end Go.Proofs.Ytohconpfpecldaa
