/-
  The reference's Has and Sign walked.
-/
import Derived.Test.YtfocfgddlnjfmaaRows
import Derived.Test.YtfocfgddlnjfmaaLib
import Derived.Test.YtfocfgddlnjfmaaRef
import Derived.Test.YtfocfgddlnjfmaaOrder
namespace Go.Proofs.Ytfocfgddlnjfmaa
open Go.RowKit Go.Rk

def hasB (n : Int) (l : List Int) : Bool := l.any (· == n)
theorem hasB_iff {n : Int} {l : List Int} : hasB n l = true ↔ ∃ p, p < l.length ∧ ix l p = n := by
  unfold hasB
  rw [List.any_eq_true]
  constructor
  · rintro ⟨x, hx, e⟩
    obtain ⟨p, hp, rfl⟩ := List.getElem_of_mem hx
    exact ⟨p, hp, by rw [ix_lt hp]; exact beq_iff_eq.1 e⟩
  · rintro ⟨p, hp, e⟩
    exact ⟨_, ix_mem hp, beq_iff_eq.2 e⟩

theorem R_Has_any {a : Option Addr} {len cap : Nat} {l : List Int} (n : Int) {w : World} (h : RdI w a len cap l) :
    Calls Try.prog 17 #[.slice a len cap, .int .i64 n] w fun e w' => e = .returned (.bool (hasB n l)) ∧ w = w' := by
  have hm := h.len_max
  go_enter Try.func17, Try.ntmps17
  go_wp2
  go_loop [5] (fun i => ∃ k : Nat, k ≤ len ∧ i = .int .i64 k ∧ Hid (∀ p, p < k → ix l p ≠ n)) (fun i => len - (intOf i).toNat)
  case atStart => exact ⟨0, Nat.zero_le _, rfl, fun p hp => absurd hp (Nat.not_lt_zero _)⟩
  case round =>
    obtain ⟨k, hk, rfl, hno⟩ := hrel
    by_cases hlt : k < len
    · obtain ⟨b, off, rfl, _, hc⟩ := h.at hlt
      have hc := hc k hlt
      by_cases ho : ix l k = n
      · have z : (ix l k == n) = true := beq_iff_eq.2 ho
        have Ho := Lib.hid ho
        clear ho
        go_wp2
        go_ret
        exact ⟨congrArg (fun b => Ending.returned (.bool b)) (hasB_iff.2 ⟨k, by rw [h.len_eq]; exact hlt, Ho.out⟩).symm, rfl⟩
      · have z : (ix l k == n) = false := beq_eq_false_iff_ne.2 ho
        have Ho := Lib.hid ho
        clear ho
        go_wp2
        go_round
        case rel => exact ⟨k + 1, by omega, by go_num, fun p hp => by
          rcases Nat.lt_or_ge p k with h1 | h1
          · exact hno.out p h1
          · obtain rfl : p = k := by omega
            exact Ho.out⟩
        case measure => simp [intOf]; omega
    · go_wp2
      go_ret
      refine ⟨congrArg (fun b => Ending.returned (.bool b)) (Bool.eq_false_iff.2 fun e => ?_).symm, rfl⟩
      obtain ⟨p, hp, e⟩ := hasB_iff.1 e
      exact hno.out p (by rw [h.len_eq] at hp; omega) e

/-- The sign by the pairs, as the reference counts it. -/
def turnI (l : List Int) (k i : Nat) : Int := if ix l i < ix l k then -1 else 1

theorem prodTo_pm {g : Nat → Int} {n : Nat} (h : ∀ i, i < n → g i = 1 ∨ g i = -1) : prodTo g n = 1 ∨ prodTo g n = -1 := by
  induction n with
  | zero => exact .inl rfl
  | succ n ih =>
    rw [prodTo]
    rcases ih fun i hi => h i (by omega) with e | e <;> rcases h n (by omega) with e2 | e2 <;> rw [e, e2] <;> simp
theorem turnI_pm (l : List Int) (k i : Nat) : turnI l k i = 1 ∨ turnI l k i = -1 := by unfold turnI; split <;> simp
theorem pairs_pm (l : List Int) (n : Nat) : pairs (turnI l) n = 1 ∨ pairs (turnI l) n = -1 := prodTo_pm fun i _ => prodTo_pm fun k _ => turnI_pm l k i

set_option maxHeartbeats 2000000 in
theorem R_Sign_any {a : Option Addr} {len cap : Nat} {l : List Int} {w : World} (h : RdI w a len cap l) :
    Calls Try.prog 39 #[.slice a len cap] w fun e w' => e = .returned (.int .i64 (if (∀ i : Nat, i < len → hasB i l = true) then pairs (turnI l) len else 0)) ∧ ∃ m, w' = w.drewN m := by
  have hm := h.len_max
  obtain ⟨R, hR⟩ : ∃ R, (if (∀ i : Nat, i < len → hasB i l = true) then pairs (turnI l) len else 0) = R := ⟨_, rfl⟩
  rw [hR]
  have HR := Lib.hid hR
  clear hR
  go_enter Try.func39, Try.ntmps39
  go_wp2
  go_loopw [3, 4] (fun o i wr => ∃ (k q : Nat) (S : Int), k ≤ len ∧ i = .int .i64 k ∧ o = .int .i64 S ∧ Hid (pairs (turnI l) k = S) ∧ Hid (∀ j : Nat, j < k → hasB j l = true) ∧ Hid (wr = w.drewN q)) (fun _ i _ => len - (intOf i).toNat)
  case atStart => exact ⟨0, 0, 1, Nat.zero_le _, rfl, rfl, rfl, fun p hp => absurd hp (Nat.not_lt_zero _), (World.drewN_zero _).symm⟩
  case round =>
    obtain ⟨k, q, S, hk, rfl, rfl, HS, hno, HQ⟩ := hrel
    have h' : RdI wr a len cap l := by rw [HQ.out]; exact h.drewN q
    by_cases hlt : k < len
    · rcases hb : hasB k l
      · have HB := Lib.hid hb
        clear hb
        go_wp2_with (go_at_call 17; refine (R_Has_any _ h').mono ?_; rintro e w' ⟨rfl, rfl⟩; rw [HB.out])
        go_ret
        refine ⟨?_, q, HQ.out⟩
        rw [← HR.out, if_neg fun e => by have := e k hlt; rw [HB.out] at this; cases this]
        rfl
      · have HB := Lib.hid hb
        clear hb
        have hS1 : S = 1 ∨ S = -1 := HS.out ▸ pairs_pm l k
        go_wp2_with (go_at_call 17; refine (R_Has_any _ h').mono ?_; rintro e w' ⟨rfl, rfl⟩; rw [HB.out])
        clear h'
        go_loopw [3, 5] (fun o q wt => ∃ (j q2 : Nat) (T : Int), j ≤ k ∧ q = .int .i64 j ∧ o = .int .i64 T ∧ Hid (S * prodTo (fun t => turnI l t k) j = T) ∧ Hid (wt = w.drewN q2)) (fun _ q _ => k - (intOf q).toNat)
        case atStart => exact ⟨0, q, S, Nat.zero_le _, rfl, rfl, by unfold Hid; rw [prodTo, Int.mul_one], HQ⟩
        case round =>
          obtain ⟨j, q2, T, hj, rfl, rfl, HT, HQ2⟩ := hrel
          have hT1 : S * prodTo (fun t => turnI l t k) j = 1 ∨ S * prodTo (fun t => turnI l t k) j = -1 := by
            rcases prodTo_pm (g := fun t => turnI l t k) (n := j) fun t _ => turnI_pm l t k with e | e <;> rcases hS1 with e2 | e2 <;> rw [e, e2] <;> simp
          rw [HT.out] at hT1
          have h' : RdI wr a len cap l := by rw [HQ2.out]; exact h.drewN q2
          by_cases hjk : j < k
          · obtain ⟨b, off, rfl, _, hc⟩ := h'.at hlt
            have c1 := hc j (by omega)
            have c2 := hc k hlt
            have u1 : (j : Int) < (len : Int) := by omega
            have u2 : (k : Int) < (len : Int) := by omega
            by_cases ho : ix l k < ix l j
            · have Ho := Lib.hid ho
              go_wp2
              go_quiet (fail)
              go_wp2
              go_roundw
              case rel => exact ⟨j + 1, _, _, by omega, by go_num, rfl, by unfold Hid; rw [prodTo, ← Int.mul_assoc, HT.out, turnI, if_pos Ho.out]; rw [Int.mul_neg_one], by unfold Hid; rw [HQ2.out, World.drewN_drewN]⟩
              case measure => simp [intOf]; omega
            · have Ho := Lib.hid ho
              go_wp2
              go_quiet (fail)
              go_wp2
              go_roundw
              case rel => exact ⟨j + 1, _, _, by omega, by go_num, rfl, by unfold Hid; rw [prodTo, ← Int.mul_assoc, HT.out, turnI, if_neg (Int.not_lt.2 Ho.out)]; rw [Int.mul_one], by unfold Hid; rw [HQ2.out, World.drewN_drewN]⟩
              case measure => simp [intOf]; omega
          · obtain rfl : j = k := by omega
            go_wp2
            go_roundw
            case rel => exact ⟨j + 1, q2, _, by omega, by go_num, rfl, by
              unfold Hid
              rw [← HT.out, ← HS.out]
              rfl, fun p hp => by
              rcases Nat.lt_or_ge p j with h1 | h1
              · exact hno.out p h1
              · obtain rfl : p = j := by omega
                exact HB.out, HQ2⟩
            case measure => simp [intOf]; omega
    · obtain rfl : k = len := by omega
      have hp := hno.out
      clear hno
      have HP := Lib.hid hp
      clear hp
      go_wp2
      go_ret
      refine ⟨?_, q, HQ.out⟩
      rw [← HR.out, if_pos HP.out, HS.out]
      rfl
end Go.Proofs.Ytfocfgddlnjfmaa
