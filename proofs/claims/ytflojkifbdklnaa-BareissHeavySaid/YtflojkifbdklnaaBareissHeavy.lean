/-
  BareissHeavy walked: where the middle outweighs all beside it, the determinant is not 0.
-/
import Derived.Test.YtflojkifbdklnaaRows
import Derived.Test.YtflojkifbdklnaaLib
import Derived.Test.YtflojkifbdklnaaRef
import Derived.Test.YtflojkifbdklnaaTr
import Derived.Test.YtflojkifbdklnaaOpen
import Derived.Test.YtflojkifbdklnaaBareissP
import Derived.Test.YtflojkifbdklnaaBareissFact
import Derived.Deep.QuietTactic
import Derived.BigQuiet
namespace Go.Proofs.Ytflojkifbdklnaa
open Go.RowKit Go.Rk

theorem sumTo_bd {f : Nat → Int} {b : Int} : ∀ {k : Nat}, (∀ j, j < k → 0 ≤ f j ∧ f j ≤ b) → 0 ≤ sumTo f k ∧ sumTo f k ≤ k * b
  | 0, _ => by simp [sumTo]
  | k + 1, h => by
    have := sumTo_bd (k := k) fun j hj => h j (by omega)
    have := h k (by omega)
    rw [sumTo, Int.natCast_succ, Int.add_mul, Int.one_mul]
    omega

set_option maxHeartbeats 1000000 in
set_option maxRecDepth 100000 in
theorem bareissHeavy_walk {a : Option Addr} {n cap : Nat} {M : List (List Int)} {w : World} (h : RdM w a n cap M) (_ : ∀ r ∈ M, Fit r) :
    Calls Try.prog 6 #[.slice a n cap] w fun e w' => e = .returned (.bool true) ∧ Below w.heap.size w w' := by
  have hL := Lib.hid h.len_eq
  go_enter Try.func6, Try.ntmps6
  go_wp2_with (first | (go_at_call 25; refine (bareissFact_any _).mono ?_; rintro e w1 ⟨rfl, k1⟩) | (go_at_call 26; fail))
  rcases hq : squareR 5 (-9) 9 M with _ | x
  · obtain ⟨g1, g2, g3, g4⟩ := squareR_none hq
    rw [hL.out] at g1 g2 g3 g4
    have n5 : n ≤ 5 := by omega
    have HQ := Lib.hid hq
    have HD := Lib.hid g3
    have HE := Lib.hid g4
    clear hq g2 g3 g4
    have C := Lib.hid (bareiss_Of_ok (h.below k1) HQ.out)
    (with_reducible refine C.out.mono ?_)
    clear C
    rintro e w2 ⟨rfl, hb2⟩
    have k2 := below_tr k1 hb2
    have h2 := h.below k2
    clear hb2 k1
    obtain ⟨b, off, rfl, hbl, hr⟩ := h2.at (k := 0) (by omega)
    have HR := Lib.hid hr
    clear hr
    generalize hd : det n (mx M) = d at *
    have Hd := Lib.hid hd
    clear hd
    go_wp2
    go_loop [6] (fun v => ∃ i : Nat, i ≤ n ∧ v = .int .i64 i ∧ Hid (∀ r, r < i → sumTo (fun j => ((mx M r j).natAbs : Int)) n < 2 * ((mx M r r).natAbs : Int))) (fun v => n - (intOf v).toNat)
    case atStart => exact ⟨0, Nat.zero_le _, rfl, fun r hr => absurd hr (Nat.not_lt_zero r)⟩
    case round =>
      obtain ⟨i, hi, rfl, HW⟩ := hrel
      by_cases hin : i < n
      · have i1 : (i : Int) < (n : Int) := by omega
        obtain ⟨ar, cr, hc, hrd⟩ := HR.out i hin
        rw [HD.out.2 i hin] at hc hrd
        have hn2 := HD.out.2 i hin
        have HRD := Lib.hid hrd
        clear hrd hn2
        have hcm := HRD.out.max
        have hcl := HRD.out.le
        go_wp2
        go_loop [7, 8] (fun s v => ∃ j : Nat, j ≤ n ∧ v = .int .i64 j ∧ s = .int .i64 (sumTo (fun j => ((mx M i j).natAbs : Int)) j)) (fun _ v => n - (intOf v).toNat)
        case atStart => exact ⟨0, Nat.zero_le _, rfl, rfl⟩
        case round =>
          obtain ⟨j, hj, rfl, rfl⟩ := hrel
          by_cases hjn : j < n
          · have j1 : (j : Int) < (n : Int) := by omega
            obtain ⟨bx, ox, rfl, _, hcx⟩ := HRD.out.at hjn
            have y := hcx j hjn
            have be : -9 ≤ ix (rowOf M i) j ∧ ix (rowOf M i) j ≤ 9 := HE.out i j hin hjn
            have bs := sumTo_bd (f := fun j => ((mx M i j).natAbs : Int)) (b := 9) (k := j) fun q hq => by have : -9 ≤ mx M i q ∧ mx M i q ≤ 9 := HE.out i q hin (by omega); omega
            have hs : sumTo (fun j => ((mx M i j).natAbs : Int)) (j + 1) = sumTo (fun j => ((mx M i j).natAbs : Int)) j + ((ix (rowOf M i) j).natAbs : Int) := rfl
            have HS := Lib.hid hs
            clear hs hcx
            generalize sumTo (fun j => ((mx M i j).natAbs : Int)) j = S at *
            generalize ix (rowOf M i) j = x at *
            have u1 : IntKind.i64.wrap (S + (x.natAbs : Int)) = S + (x.natAbs : Int) := Go.IntWalk.i64_in _ (by omega)
            have C := Lib.hid (fun w => R_Abs_any x w (by omega) (by omega))
            go_wp2_with (first | (go_at_call 28; (with_reducible refine (C.out _).mono ?_); rintro e w' ⟨rfl, rfl⟩))
            go_round
            case rel => exact ⟨j + 1, by omega, by go_num, congrArg (Value.int .i64) (by rw [HS.out])⟩
            case measure => simp [intOf]; omega
          · obtain rfl : j = n := by omega
            obtain ⟨bx, ox, rfl, _, hcx⟩ := HRD.out.at hin
            have y := hcx i hin
            have be : -9 ≤ ix (rowOf M i) i ∧ ix (rowOf M i) i ≤ 9 := HE.out i i hin hin
            have HM : Hid (mx M i i = ix (rowOf M i) i) := rfl
            obtain ⟨S, hS⟩ : ∃ S, S = sumTo (fun j => ((mx M i j).natAbs : Int)) j := ⟨_, rfl⟩
            rw [← hS]
            have HS := Lib.hid hS
            clear hS hcx
            generalize ix (rowOf M i) i = x at *
            have C := Lib.hid (fun w => R_Abs_any x w (by omega) (by omega))
            have u1 : IntKind.i64.wrap (2 * (x.natAbs : Int)) = 2 * (x.natAbs : Int) := Go.IntWalk.i64_in _ (by omega)
            by_cases hle : 2 * (x.natAbs : Int) ≤ S
            · go_wp2_with (first | (go_at_call 28; (with_reducible refine (C.out _).mono ?_); rintro e w' ⟨rfl, rfl⟩))
              go_ret
              exact ⟨rfl, k2⟩
            · have hlt : ¬ 2 * (x.natAbs : Int) ≤ S := hle
              go_wp2_with (first | (go_at_call 28; (with_reducible refine (C.out _).mono ?_); rintro e w' ⟨rfl, rfl⟩))
              go_round
              case rel => exact ⟨i + 1, by omega, by go_num, fun r hr => by
                rcases Nat.lt_or_ge r i with h1 | h1
                · exact HW.out r h1
                · obtain rfl : r = i := by omega
                  rw [HM.out, ← HS.out]
                  omega⟩
              case measure => simp [intOf]; omega
      · obtain rfl : i = n := by omega
        have hz : d ≠ 0 := by rw [← Hd.out]; exact det_heavy _ HW.out
        have z : (d != 0) = true := bne_iff_ne.2 hz
        go_wp2
        go_ret
        exact ⟨rfl, k2⟩
  · have C := Lib.hid (bareiss_Of_err (h.below k1) hq)
    clear hq
    (with_reducible refine C.out.mono ?_)
    clear C
    rintro e w2 ⟨rfl, rfl⟩
    go_wp2
    go_ret
    exact ⟨rfl, k1⟩
end Go.Proofs.Ytflojkifbdklnaa
