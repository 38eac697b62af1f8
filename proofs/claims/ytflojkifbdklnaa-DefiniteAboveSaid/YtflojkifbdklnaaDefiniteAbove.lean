/-
  DefiniteAbove walked: where all first determinants are above 0 the form is, at each row but noughts.
-/
import Derived.Test.YtflojkifbdklnaaRows
import Derived.Test.YtflojkifbdklnaaLib
import Derived.Test.YtflojkifbdklnaaTr
import Derived.Test.YtflojkifbdklnaaOpen
import Derived.Test.YtflojkifbdklnaaForm
import Derived.Test.YtflojkifbdklnaaDefW
import Derived.Test.YtflojkifbdklnaaDefFact
namespace Go.Proofs.Ytflojkifbdklnaa
open Go.RowKit Go.Rk

/-- Are the first k numbers 0? -/
def zeroB (x : List Int) : Nat → Bool
  | 0 => true
  | k + 1 => zeroB x k && ix x k == 0
theorem zeroB_all {x : List Int} : ∀ {k : Nat}, zeroB x k = true → ∀ i, i < k → ix x i = 0
  | 0, _, i, hi => absurd hi (Nat.not_lt_zero i)
  | k + 1, h, i, hi => by
    rw [zeroB, Bool.and_eq_true] at h
    rcases Nat.lt_or_ge i k with h1 | h1
    · exact zeroB_all h.1 i h1
    · obtain rfl : i = k := by omega
      exact beq_iff_eq.1 h.2
theorem zeroB_some {x : List Int} : ∀ {k : Nat}, zeroB x k = false → ∃ i, i < k ∧ ix x i ≠ 0
  | 0, h => by cases h
  | k + 1, h => by
    rw [zeroB, Bool.and_eq_false_iff] at h
    rcases h with h | h
    · obtain ⟨i, hi, hx⟩ := zeroB_some h
      exact ⟨i, by omega, hx⟩
    · exact ⟨k, by omega, by simpa using h⟩

set_option maxHeartbeats 1000000 in
set_option maxRecDepth 100000 in
theorem definiteAbove_walk {a b : Option Addr} {n ca m cb : Nat} {M : List (List Int)} {x : List Int} {w : World} (h : RdM w a n ca M) (_ : ∀ r ∈ M, Fit r) (hx : RdI w b m cb x) (_ : Fit x) :
    Calls Try.prog 7 #[.slice a n ca, .slice b m cb] w fun e w' => e = .returned (.bool true) ∧ Below w.heap.size w w' := by
  have hL := Lib.hid h.len_eq
  have hX := Lib.hid hx.len_eq
  have lm := hx.len_max
  go_enter Try.func7, Try.ntmps7
  go_wp2_with (first | (go_at_call 29; refine (definiteFact_any _).mono ?_; rintro e w1 ⟨rfl, k1⟩) | (go_at_call 30; fail))
  rcases hq : formR M with _ | c
  · have HQ := Lib.hid hq
    have C := Lib.hid (definite_Is_ok (h.below k1) hq)
    clear hq
    (with_reducible refine C.out.mono ?_)
    clear C
    rintro e w2 ⟨rfl, hb2⟩
    have k2 := below_tr k1 hb2
    clear hb2 k1
    rcases hp : atR M x with _ | c
    · obtain ⟨_, p2, _⟩ := atR_none hp
      have HMN : Hid (m = n) := by have := hL.out; have := hX.out; unfold Hid; omega
      have C := Lib.hid (definite_At_ok (h.below k2) (hx.below k2) hp)
      have HS := Lib.hid (formR_none HQ.out hL.out).2.2.2.2.2
      clear hp p2
      rcases hl : leadB M n with _ | _
      · go_wp2_with (first | (go_at_call 31; (with_reducible refine C.out.mono ?_); rintro e w3 ⟨rfl, hb3⟩))
        go_ret
        exact ⟨rfl, below_tr k2 hb3⟩
      · have HP : Hid (PD n (mx M)) := (sylvester_iff HS.out).1 (leadB_iff.1 hl)
        clear hl
        go_wp2_with (first | (go_at_call 31; (with_reducible refine C.out.mono ?_); rintro e w3 ⟨rfl, hb3⟩))
        have k3 := below_tr k2 hb3
        clear hb3 k2 C
        go_loop [9, 10] (fun z v => ∃ i : Nat, i ≤ m ∧ v = .int .i64 i ∧ z = .bool (zeroB x i)) (fun _ v => m - (intOf v).toNat)
        case atStart => exact ⟨0, Nat.zero_le _, rfl, rfl⟩
        case round =>
          obtain ⟨i, hi, rfl, rfl⟩ := hrel
          by_cases him : i < m
          · have i1 : (i : Int) < (m : Int) := by omega
            obtain ⟨bx, ox, rfl, _, hc⟩ := (hx.below k3).at him
            have y := hc i him
            clear hc
            rcases hz : zeroB x i with _ | _
            · have HZ : Hid (zeroB x (i + 1) = false) := by unfold Hid; rw [zeroB, hz]; rfl
              clear hz
              go_wp2
              go_round
              case rel => exact ⟨i + 1, by omega, by go_num, by rw [HZ.out]⟩
              case measure => simp [intOf]; omega
            · have HZ : Hid (zeroB x (i + 1) = (ix x i == 0)) := by unfold Hid; rw [zeroB, hz]; rfl
              clear hz
              go_wp2
              go_round
              case rel => exact ⟨i + 1, by omega, by go_num, by rw [HZ.out]⟩
              case measure => simp [intOf]; omega
          · obtain rfl : i = m := by omega
            rcases hz : zeroB x i with _ | _
            · have hq : 0 < quad n (mx M) (ix x) := HP.out (ix x) (by obtain ⟨j, hj, hne⟩ := zeroB_some hz; exact ⟨j, by have := HMN.out; omega, hne⟩)
              clear hz
              generalize quad n (mx M) (ix x) = q at *
              have z1 : (q == 0) = false := beq_eq_false_iff_ne.2 (by omega)
              go_wp2
              go_ret
              exact ⟨rfl, k3⟩
            · have hq : quad n (mx M) (ix x) = 0 := quad_zero fun j hj => zeroB_all hz j (by have := HMN.out; omega)
              rw [hq]
              clear hz hq
              go_wp2
              go_ret
              exact ⟨rfl, k3⟩
    · have C := Lib.hid (definite_At_err (h.below k2) (hx.below k2) hp)
      clear hp
      go_wp2_with (first | (go_at_call 31; (with_reducible refine C.out.mono ?_); rintro e w3 ⟨rfl, hb3⟩))
      go_ret
      exact ⟨rfl, below_tr k2 hb3⟩
  · have C := Lib.hid (definite_Is_err (h.below k1) hq)
    clear hq
    (with_reducible refine C.out.mono ?_)
    clear C
    rintro e w2 ⟨rfl, hb2⟩
    go_wp2
    go_ret
    exact ⟨rfl, below_tr k1 hb2⟩
end Go.Proofs.Ytflojkifbdklnaa
