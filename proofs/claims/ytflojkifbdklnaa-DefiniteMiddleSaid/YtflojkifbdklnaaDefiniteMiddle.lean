/-
  DefiniteMiddle walked: the middle of a form that is above 0 is above 0, and outweighs what is beside it.
-/
import Derived.Test.YtflojkifbdklnaaRows
import Derived.Test.YtflojkifbdklnaaLib
import Derived.Test.YtflojkifbdklnaaTr
import Derived.Test.YtflojkifbdklnaaOpen
import Derived.Test.YtflojkifbdklnaaForm
import Derived.Test.YtflojkifbdklnaaDefW
import Derived.Test.YtflojkifbdklnaaDefFact
import Derived.Deep.QuietTactic
import Derived.BigQuiet
namespace Go.Proofs.Ytflojkifbdklnaa
open Go.RowKit Go.Rk

set_option maxHeartbeats 2000000 in
set_option maxRecDepth 100000 in
theorem definiteMiddle_walk {a : Option Addr} {n ca : Nat} {M : List (List Int)} {w : World} (h : RdM w a n ca M) (_ : ∀ r ∈ M, Fit r) :
    Calls Try.prog 8 #[.slice a n ca] w fun e w' => e = .returned (.bool true) ∧ Below w.heap.size w w' := by
  have hL := Lib.hid h.len_eq
  have lm := h.len_max
  go_enter Try.func8, Try.ntmps8
  go_wp2_with (first | (go_at_call 29; refine (definiteFact_any _).mono ?_; rintro e w1 ⟨rfl, k1⟩) | (go_at_call 30; fail))
  rcases hq : formR M with _ | c
  · have C := Lib.hid (definite_Is_ok (h.below k1) hq)
    obtain ⟨g1, g2, g3, g4, _, g6⟩ := formR_none hq hL.out
    have HD := Lib.hid g3
    have HE := Lib.hid g4
    have HS := Lib.hid g6
    have G1 := Lib.hid g1
    clear hq g3 g4 g6
    (with_reducible refine C.out.mono ?_)
    clear C
    rintro e w2 ⟨rfl, hb2⟩
    have k2 := below_tr k1 hb2
    clear hb2 k1
    rcases hl : leadB M n with _ | _
    · go_wp2
      go_loop [6] (fun v => v = .int .i64 0) (fun _ => 0)
      case atStart => rfl
      case round =>
        obtain rfl := hrel
        go_wp2
        go_ret
        exact ⟨rfl, k2⟩
    · have HP : Hid (PD n (mx M)) := (sylvester_iff HS.out).1 (leadB_iff.1 hl)
      clear hl
      go_wp2
      go_loopw [6] (fun v wr => ∃ i : Nat, i ≤ n ∧ v = .int .i64 i ∧ Below w.heap.size w wr) (fun v _ => n - (intOf v).toNat)
      case atStart => exact ⟨0, Nat.zero_le _, rfl, k2⟩
      case round =>
        clear k2
        obtain ⟨i, hi, rfl, k2⟩ := hrel
        by_cases hin : i < n
        · have i1 : (i : Int) < (n : Int) := by omega
          obtain ⟨b, off, rfl, hbl, hr⟩ := (h.below k2).at (k := 0) G1.out
          obtain ⟨ar, cr, hc, hrd⟩ := hr i hin
          rw [HD.out.2 i hin] at hc hrd
          obtain ⟨bx, ox, rfl, _, hcx⟩ := hrd.at hin
          have y := hcx i hin
          have hp : 0 < ix (rowOf M i) i := HP.out.at_unit hin
          clear hr hrd hcx
          generalize ix (rowOf M i) i = p at *
          have hnp : ¬ p ≤ 0 := by omega
          go_wp2
          clear hc y
          go_loopw [7] (fun v wr => ∃ j : Nat, j ≤ i ∧ v = .int .i64 j ∧ Below w.heap.size w wr) (fun v _ => i - (intOf v).toNat)
          case atStart => exact ⟨0, Nat.zero_le _, rfl, k2⟩
          case round =>
            clear k2
            obtain ⟨j, hj, rfl, k2⟩ := hrel
            by_cases hji : j < i
            · have j1 : (j : Int) < (i : Int) := by omega
              have j2 : (j : Int) < (n : Int) := by omega
              obtain ⟨b', off', hz, hbl', hr⟩ := (h.below k2).at (k := 0) G1.out
              injection hz with hz
              injection hz with hz1 hz2 _
              subst hz1 hz2
              obtain ⟨ar, cr, hc, hrd⟩ := hr i hin
              rw [HD.out.2 i hin] at hc hrd
              obtain ⟨bx', ox', rfl, _, hcx⟩ := hrd.at hin
              obtain ⟨ar2, cr2, hc2, hrd2⟩ := hr j (by omega)
              rw [HD.out.2 j (by omega)] at hc2 hrd2
              obtain ⟨by', oy', rfl, _, hcy⟩ := hrd2.at (show j < n by omega)
              have y1 := hcx i hin
              have y2 := hcx j (by omega)
              have y3 := hcy j (by omega)
              have b1 : -9 ≤ ix (rowOf M i) i ∧ ix (rowOf M i) i ≤ 9 := HE.out i i hin hin
              have b2 : -9 ≤ ix (rowOf M i) j ∧ ix (rowOf M i) j ≤ 9 := HE.out i j hin (by omega)
              have b3 : -9 ≤ ix (rowOf M j) j ∧ ix (rowOf M j) j ≤ 9 := HE.out j j (by omega) (by omega)
              have hlt : ix (rowOf M i) j * ix (rowOf M i) j < ix (rowOf M i) i * ix (rowOf M j) j := HP.out.beside HS.out hin (by omega) (by omega)
              clear hr hrd hrd2 hcx hcy
              generalize ix (rowOf M i) i = p at *
              generalize ix (rowOf M i) j = q at *
              generalize ix (rowOf M j) j = r at *
              have c1 := abs_mul_le b2 b2
              have c2 := abs_mul_le b1 b3
              have u1 : IntKind.i64.wrap (q * q) = q * q := Go.IntWalk.i64_in _ (by omega)
              have u2 : IntKind.i64.wrap (p * r) = p * r := Go.IntWalk.i64_in _ (by omega)
              have hng : ¬ p * r ≤ q * q := by omega
              clear b1 b2 b3 c1 c2
              go_wp2
              go_quiet (fail)
              go_wp2
              go_roundw
              case rel => exact ⟨j + 1, by omega, by go_num, below_drewN k2 _⟩
              case measure => simp [intOf]; omega
            · obtain rfl : j = i := by omega
              go_wp2
              go_roundw
              case rel => exact ⟨j + 1, by omega, by go_num, k2⟩
              case measure => simp [intOf]; omega
        · obtain rfl : i = n := by omega
          go_wp2
          go_ret
          exact ⟨rfl, k2⟩
  · have C := Lib.hid (definite_Is_err (h.below k1) hq)
    clear hq
    (with_reducible refine C.out.mono ?_)
    clear C
    rintro e w2 ⟨rfl, hb2⟩
    go_wp2
    go_ret
    exact ⟨rfl, below_tr k1 hb2⟩
end Go.Proofs.Ytflojkifbdklnaa
