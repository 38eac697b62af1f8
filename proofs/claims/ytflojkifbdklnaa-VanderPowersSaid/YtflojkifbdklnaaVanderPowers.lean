/-
  VanderPowers walked: what the matrix of powers takes factors to is what they come to at each of the numbers.
-/
import Derived.Test.YtflojkifbdklnaaRows
import Derived.Test.YtflojkifbdklnaaLib
import Derived.Test.YtflojkifbdklnaaTr
import Derived.Test.YtflojkifbdklnaaRef
import Derived.Test.YtflojkifbdklnaaRefTo
import Derived.Test.YtflojkifbdklnaaPolyAt
import Derived.Test.YtflojkifbdklnaaVanderW
import Derived.Deep.QuietTactic
import Derived.BigQuiet
namespace Go.Proofs.Ytflojkifbdklnaa
open Go.RowKit Go.Rk

theorem toV_at {l f : List Int} {n i : Nat} {P : List (List Int)} (hP : IsR n n P fun i j => powm (ix l i) j) (hf : f.length = n) (hi : i < n) : toV P f n i = atV f (ix l i) := by
  unfold toV atV
  rw [hf]
  have : Eqm (sumTo (fun j => en P i j * ix f j) n) (sumTo (fun t => ix f t * ix l i ^ t) n) := Eqm.sum fun j hj => by
    rw [hP.2 i j hi hj, Int.mul_comm]
    exact (Eqm.refl _).mul (Eqm.mod _)
  exact this

set_option maxHeartbeats 4000000 in
set_option maxRecDepth 100000 in
theorem vanderPowers_walk {a b : Option Addr} {n ca m cb : Nat} {l f : List Int} {w : World} (hl : RdI w a n ca l) (_ : Fit l) (hf : RdI w b m cb f) (_ : Fit f) :
    Calls Try.prog 4 #[.slice a n ca, .slice b m cb] w fun e w' => e = .returned (.bool true) ∧ Below w.heap.size w w' := by
  have lm := hl.len_max
  have lf := hf.len_max
  go_enter Try.func4, Try.ntmps4
  go_wp2_with (first | (go_at_call 20; refine (vanderFact_any _).mono ?_; rintro e w1 ⟨rfl, k1⟩) | (go_at_call 21; fail))
  rcases hq : powersR l with _ | x
  · obtain ⟨q1, q2, q3⟩ := powersR_none hq
    rw [hl.len_eq] at q1 q2
    have HI := Lib.hid q3
    have HQ := Lib.hid hq
    have HL := Lib.hid hl.len_eq
    clear hq q3
    refine (vander_Full_ok (hl.below k1) HQ.out).mono ?_
    rintro e w2 ⟨aM, cM, P, rfl, ho, hi, hb⟩
    have k2 := below_tr k1 hb
    have hP := ho.rd
    have HP := Lib.hid hi
    clear ho hi hb k1
    by_cases hmn : m = n
    · subst hmn
      have z1 : ((m : Int) != (m : Int)) = false := bne_eq_false_iff_eq.2 rfl
      have C := Lib.hid (R_All_any 0 9972 (hf.below k2))
      cases ha : allB 0 9972 f
      · rw [ha] at C
        clear ha
        go_wp2_with (first | (go_at_call 22; (with_reducible refine C.out.mono ?_); rintro e w3 ⟨rfl, rfl⟩))
        go_ret
        exact ⟨rfl, k2⟩
      · rw [ha] at C
        have HF := Lib.hid (allB_in ha)
        clear ha
        go_wp2_with (first | (go_at_call 22; (with_reducible refine C.out.mono ?_); rintro e w3 ⟨rfl, rfl⟩) | (go_at_call 23; fail))
        have C2 := Lib.hid (To_any hP HP.out.1 (fun i j h1 h2 => by rw [HP.out.2 i j h1 h2]; exact powm_in _ _) (hf.below k2) HF.out (by omega))
        (with_reducible refine C2.out.mono ?_)
        clear C2 C
        rintro e w3 ⟨aT, cT, rfl, hT, hb3⟩
        have k3 := below_tr k2 hb3
        have hT3 := hT.rd
        have HFL := Lib.hid hf.len_eq
        clear hT hb3 k2
        have hq2 : polyR f = none := polyR_of (by rw [HFL.out]; omega) HF.out
        have HQ2 := Lib.hid hq2
        clear hq2
        go_wp2
        go_loop [9] (fun v => ∃ i : Nat, i ≤ m ∧ v = .int .i64 i) (fun v => m - (intOf v).toNat)
        case atStart => exact ⟨0, Nat.zero_le _, rfl⟩
        case round =>
          obtain ⟨i, hi, rfl⟩ := hrel
          by_cases him : i < m
          · have i1 : (i : Int) < (m : Int) := by omega
            obtain ⟨bx, ox, rfl, _, hc⟩ := (hl.below k3).at him
            have y1 := hc i him
            obtain ⟨bt, ot, rfl, _, hct⟩ := hT3.at him
            have y2 := hct i him
            rw [toN_ix him, toV_at HP.out HFL.out him] at y2
            have mx_ := HI.out i (by rw [HL.out]; exact him)
            have C := Lib.hid (poly_At_ok (hf.below k3) HQ2.out mx_)
            have z2 : (atV f (ix l i) != atV f (ix l i)) = false := bne_eq_false_iff_eq.2 rfl
            clear hc hct
            go_wp2_with (first | (go_at_call 24; (with_reducible refine C.out.mono ?_); rintro e w4 ⟨rfl, rfl⟩))
            go_round
            case rel => exact ⟨i + 1, by omega, by go_num⟩
            case measure => simp [intOf]; omega
          · obtain rfl : i = m := by omega
            go_wp2
            go_ret
            exact ⟨rfl, k3⟩
    · have z1 : ((m : Int) != (n : Int)) = true := bne_iff_ne.2 (by omega)
      go_wp2
      go_ret
      exact ⟨rfl, k2⟩
  · have C := Lib.hid (vander_Full_err (hl.below k1) hq)
    clear hq
    (with_reducible refine C.out.mono ?_)
    clear C
    rintro e w2 ⟨rfl, hb⟩
    go_wp2
    go_ret
    exact ⟨rfl, below_tr k1 hb⟩
end Go.Proofs.Ytflojkifbdklnaa
