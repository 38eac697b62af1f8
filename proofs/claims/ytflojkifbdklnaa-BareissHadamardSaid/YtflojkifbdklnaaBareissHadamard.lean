/-
  BareissHadamard walked: the square of the determinant is no more than the product of the sums of the squares of the rows.
-/
import Derived.Test.YtflojkifbdklnaaRows
import Derived.Test.YtflojkifbdklnaaLib
import Derived.Test.YtflojkifbdklnaaRef
import Derived.Test.YtflojkifbdklnaaTr
import Derived.Test.YtflojkifbdklnaaOpen
import Derived.Test.YtflojkifbdklnaaBareissP
import Derived.Test.YtflojkifbdklnaaForm
import Derived.Test.YtflojkifbdklnaaBareissFact
import Derived.Deep.QuietTactic
import Derived.BigQuiet
namespace Go.Proofs.Ytflojkifbdklnaa
open Go.RowKit Go.Rk

theorem sq_bd {x : Int} (h : -9 ≤ x ∧ x ≤ 9) : 0 ≤ x * x ∧ x * x ≤ 81 := by
  have := abs_mul_le h h
  exact ⟨sq_nonneg' x, by omega⟩
theorem sumSq_bd {f : Nat → Int} : ∀ {k : Nat}, (∀ j, j < k → -9 ≤ f j ∧ f j ≤ 9) → 0 ≤ sumTo (fun j => f j * f j) k ∧ sumTo (fun j => f j * f j) k ≤ k * 81
  | 0, _ => by simp [sumTo]
  | k + 1, h => by
    have := sumSq_bd (k := k) fun j hj => h j (by omega)
    have := sq_bd (h k (by omega))
    rw [sumTo]
    omega
theorem prod_bd {f : Nat → Int} {k : Nat} (hk : k ≤ 5) (h : ∀ i, i < k → 0 ≤ f i ∧ f i ≤ 405) : 0 ≤ prodTo f k ∧ prodTo f k ≤ 10896201253125 := by
  have h1 := prodTo_le (f := f) (g := fun _ => 405) h
  have h2 : prodTo (fun _ => (405 : Int)) k ≤ 10896201253125 := by
    rcases (show k = 0 ∨ k = 1 ∨ k = 2 ∨ k = 3 ∨ k = 4 ∨ k = 5 by omega) with rfl | rfl | rfl | rfl | rfl | rfl <;> decide
  omega

set_option maxHeartbeats 1000000 in
set_option maxRecDepth 100000 in
theorem bareissHadamard_walk {a : Option Addr} {n cap : Nat} {M : List (List Int)} {w : World} (h : RdM w a n cap M) (_ : ∀ r ∈ M, Fit r) :
    Calls Try.prog 5 #[.slice a n cap] w fun e w' => e = .returned (.bool true) ∧ Below w.heap.size w w' := by
  have hL := Lib.hid h.len_eq
  go_enter Try.func5, Try.ntmps5
  go_wp2_with (first | (go_at_call 25; refine (bareissFact_any _).mono ?_; rintro e w1 ⟨rfl, k1⟩) | (go_at_call 26; fail))
  rcases hq : squareR 5 (-9) 9 M with _ | x
  · obtain ⟨g1, g2, g3, g4⟩ := squareR_none hq
    rw [hL.out] at g1 g2 g3 g4
    have n5 : n ≤ 5 := by omega
    have HQ := Lib.hid hq
    have HD := Lib.hid g3
    have HE := Lib.hid g4
    have bd : -7085880 ≤ det n (mx M) ∧ det n (mx M) ≤ 7085880 := by
      have := det_le (A := mx M) (n := n) (b := 9) (by decide) g4
      have := detB9 n5
      omega
    have hh := hadamard n (mx M)
    clear hq g2 g3 g4
    have C := Lib.hid (bareiss_Of_ok (h.below k1) HQ.out)
    (with_reducible refine C.out.mono ?_)
    clear C
    rintro e w2 ⟨rfl, hb2⟩
    have k2 := below_tr k1 hb2
    clear hb2 k1
    have hg1 := Lib.hid g1
    generalize det n (mx M) = d at *
    have HH := Lib.hid hh
    clear hh
    go_wp2
    go_loopw [6, 7] (fun p v wr => ∃ i : Nat, i ≤ n ∧ Below w.heap.size w wr ∧ v = .int .i64 i ∧ p = .int .i64 (prodTo (fun i => sumTo (fun j => mx M i j * mx M i j) n) i)) (fun _ v _ => n - (intOf v).toNat)
    case atStart => exact ⟨0, Nat.zero_le _, k2, rfl, rfl⟩
    case round =>
      clear k2
      obtain ⟨i, hi, k2, rfl, rfl⟩ := hrel
      by_cases hin : i < n
      · have i1 : (i : Int) < (n : Int) := by omega
        have hp : prodTo (fun i => sumTo (fun j => mx M i j * mx M i j) n) (i + 1) = prodTo (fun i => sumTo (fun j => mx M i j * mx M i j) n) i * sumTo (fun j => mx M i j * mx M i j) n := rfl
        have bp := prod_bd (f := fun i => sumTo (fun j => mx M i j * mx M i j) n) (k := i + 1) (by omega) fun r hr => by
          have := sumSq_bd (f := fun j => mx M r j) (k := n) fun j hj => HE.out r j (by omega) hj
          omega
        rw [hp] at bp
        have HP := Lib.hid hp
        clear hp
        generalize prodTo (fun i => sumTo (fun j => mx M i j * mx M i j) n) i = P at *
        go_wp2
        go_loopw [8, 9] (fun s v wr => ∃ j : Nat, j ≤ n ∧ Below w.heap.size w wr ∧ v = .int .i64 j ∧ s = .int .i64 (sumTo (fun j => mx M i j * mx M i j) j)) (fun _ v _ => n - (intOf v).toNat)
        case atStart => exact ⟨0, Nat.zero_le _, k2, rfl, rfl⟩
        case round =>
          clear k2
          obtain ⟨j, hj, k2, rfl, rfl⟩ := hrel
          by_cases hjn : j < n
          · have j1 : (j : Int) < (n : Int) := by omega
            obtain ⟨b, off, rfl, hbl, hr⟩ := (h.below k2).at (k := 0) hg1.out
            obtain ⟨ar, cr, hc, hrd⟩ := hr i hin
            rw [HD.out.2 i hin] at hc hrd
            obtain ⟨bx, ox, rfl, _, hcx⟩ := hrd.at hjn
            have y := hcx j hjn
            clear hr hrd
            have be : -9 ≤ ix (rowOf M i) j ∧ ix (rowOf M i) j ≤ 9 := HE.out i j hin hjn
            have bs := sumSq_bd (f := fun j => mx M i j) (k := j) fun q hq => HE.out i q hin (by omega)
            have hs : sumTo (fun j => mx M i j * mx M i j) (j + 1) = sumTo (fun j => mx M i j * mx M i j) j + ix (rowOf M i) j * ix (rowOf M i) j := rfl
            have HS := Lib.hid hs
            clear hs hcx
            generalize sumTo (fun j => mx M i j * mx M i j) j = S at *
            generalize ix (rowOf M i) j = x at *
            have bx := sq_bd be
            have u0 : IntKind.i64.wrap (x * x) = x * x := Go.IntWalk.i64_in _ (by omega)
            have u1 : IntKind.i64.wrap (S + x * x) = S + x * x := Go.IntWalk.i64_in _ (by omega)
            clear bp
            go_wp2
            go_quiet (fail)
            go_wp2
            go_roundw
            case rel => exact ⟨j + 1, by omega, below_drewN k2 _, by go_num, congrArg (Value.int .i64) (by rw [HS.out])⟩
            case measure => simp [intOf]; omega
          · obtain rfl : j = n := by omega
            generalize sumTo (fun s => mx M i s * mx M i s) j = S at *
            have u1 : IntKind.i64.wrap (P * S) = P * S := Go.IntWalk.i64_in _ (by omega)
            clear bp
            go_wp2
            go_roundw
            case rel => exact ⟨i + 1, by omega, k2, by go_num, congrArg (Value.int .i64) (by rw [HP.out])⟩
            case measure => simp [intOf]; omega
      · obtain rfl : i = n := by omega
        generalize prodTo (fun r => sumTo (fun j => mx M r j * mx M r j) i) i = P at *
        have hle := HH.out
        have bb := abs_mul_le bd bd
        have u1 : IntKind.i64.wrap (d * d) = d * d := Go.IntWalk.i64_in _ (by omega)
        have C := Lib.hid (L2_in_any d (-10000000) 10000000)
        rw [show inB d (-10000000) 10000000 = true by unfold inB; simp; omega] at C
        clear bb
        go_wp2_with (first | (go_at_call 27; (with_reducible refine (C.out _).mono ?_); rintro e w' ⟨rfl, rfl⟩))
        go_ret
        exact ⟨rfl, k2⟩
  · have C := Lib.hid (bareiss_Of_err (h.below k1) hq)
    clear hq
    (with_reducible refine C.out.mono ?_)
    clear C
    rintro e w2 ⟨rfl, rfl⟩
    go_wp2
    go_ret
    exact ⟨rfl, k1⟩
end Go.Proofs.Ytflojkifbdklnaa
