/-
  rankmeresame.Sum walked.
-/
import Derived.Test.YtflojkifbdklnaaRows
import Derived.Test.YtflojkifbdklnaaLib
import Derived.Test.YtflojkifbdklnaaRef
namespace Go.Proofs.Ytflojkifbdklnaa
open Go.RowKit Go.Rk

theorem sum_bound {l : List Int} (h : In 0 9972 l) : ∀ k, k ≤ l.length → 0 ≤ sumTo (ix l) k ∧ sumTo (ix l) k ≤ 9972 * k := by
  intro k
  induction k with
  | zero => intro _; exact ⟨Int.le_refl _, Int.le_refl _⟩
  | succ k ih =>
    intro hk
    have h1 := ih (by omega)
    have h2 := h k (by omega)
    rw [sumTo]
    omega
theorem Sum_any {a : Option Addr} {len cap : Nat} {l : List Int} {w : World} (h : RdI w a len cap l) (hi : In 0 9972 l) (hl : len ≤ 1000) :
    Calls Try.prog 37 #[.slice a len cap] w fun e w' => e = .returned (.int .i64 (sumTo (ix l) len)) ∧ w = w' := by
  have HB := Lib.hid (sum_bound hi)
  have HL := Lib.hid h.len_eq
  have HI := Lib.hid hi
  clear hi
  go_enter Try.func37, Try.ntmps37
  go_wp2
  go_loop [3, 4] (fun s v => ∃ (k : Nat) (S : Int), k ≤ len ∧ v = .int .i64 k ∧ s = .int .i64 S ∧ Hid (S = sumTo (ix l) k)) (fun _ v => len - (intOf v).toNat)
  case atStart => exact ⟨0, 0, Nat.zero_le _, rfl, rfl, rfl⟩
  case round =>
    obtain ⟨k, S, hk, rfl, rfl, HS⟩ := hrel
    have bS : 0 ≤ S ∧ S ≤ 9972 * k := by rw [HS.out]; exact HB.out k (by rw [HL.out]; exact hk)
    by_cases hlt : k < len
    · obtain ⟨b, off, rfl, _, hc⟩ := h.at hlt
      replace hc := hc k hlt
      have hx := HI.out k (by rw [HL.out]; exact hlt)
      have HS2 : Hid (S + ix l k = sumTo (ix l) (k + 1)) := by unfold Hid; rw [sumTo, HS.out]
      generalize ix l k = X at *
      have u1 : IntKind.i64.wrap (S + X) = S + X := Go.IntWalk.i64_in _ (by omega)
      have hlt' : (k : Int) < (len : Int) := by omega
      go_wp2
      go_round
      case rel => exact ⟨k + 1, S + X, by omega, by go_num, rfl, HS2⟩
      case measure => simp [intOf]; omega
    · obtain rfl : k = len := by omega
      go_wp2
      go_ret
      exact ⟨ret_int HS.out, rfl⟩
theorem sum_zero {l : List Int} {len : Nat} (h : ∀ k, k < len → ix l k = 0) : sumTo (ix l) len = 0 := by
  rw [sumTo_congr h]; exact sumTo_zero _
end Go.Proofs.Ytflojkifbdklnaa
