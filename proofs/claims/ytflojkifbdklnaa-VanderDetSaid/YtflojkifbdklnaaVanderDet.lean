/-
  VanderDet walked: the determinant of powers is the product of differences, and 0 just if two are the same.
-/
import Derived.Test.YtflojkifbdklnaaRows
import Derived.Test.YtflojkifbdklnaaLib
import Derived.Test.YtflojkifbdklnaaTr
import Derived.Test.YtflojkifbdklnaaRef
import Derived.Test.YtflojkifbdklnaaDetOf
import Derived.Test.YtflojkifbdklnaaDetLaw
import Derived.Test.YtflojkifbdklnaaVanderW
import Derived.Deep.QuietTactic
import Derived.BigQuiet
namespace Go.Proofs.Ytflojkifbdklnaa
open Go.RowKit Go.Rk

set_option maxHeartbeats 4000000 in
set_option maxRecDepth 100000 in
theorem vanderDet_walk {a : Option Addr} {n ca : Nat} {l : List Int} {w : World} (hl : RdI w a n ca l) (_ : Fit l) :
    Calls Try.prog 13 #[.slice a n ca] w fun e w' => e = .returned (.bool true) ∧ Below w.heap.size w w' := by
  have lm := hl.len_max
  go_enter Try.func13, Try.ntmps13
  go_wp2_with (first | (go_at_call 20; refine (vanderFact_any _).mono ?_; rintro e w1 ⟨rfl, k1⟩) | (go_at_call 21; fail))
  rcases hq : powersR l with _ | x
  · obtain ⟨q1, q2, q3⟩ := powersR_none hq
    rw [hl.len_eq] at q1 q2
    have HI := Lib.hid q3
    have HQ := Lib.hid hq
    have HL := Lib.hid hl.len_eq
    clear hq q3
    refine (vander_Full_ok (hl.below k1) HQ.out).mono ?_
    rintro e w2 ⟨aM, cM, P, rfl, ho, hi, hb⟩
    have k2 := below_tr k1 hb
    have C := Lib.hid (det_Of_ok ho.rd (squareR_of (lo := 0) (hi := 9972) (most := 5) q1 (by omega) hi.1 fun i j h1 h2 => by rw [hi.2 i j h1 h2]; exact powm_in _ _))
    rw [pout_det (l := l) (n := n) (M := mx P) fun i j h1 h2 => hi.2 i j h1 h2] at C
    clear ho hi hb k1
    go_wp2_with (first | (go_at_call 39; (with_reducible refine C.out.mono ?_); rintro e w3 ⟨rfl, hb3⟩) | (go_at_call 40; fail))
    have k3 := below_tr k2 hb3
    have C2 := Lib.hid (vander_Det_ok (hl.below k3) HQ.out)
    obtain ⟨D, hD⟩ : ∃ D, D = pout l n := ⟨_, rfl⟩
    rw [← hD] at C2 ⊢
    have HD := Lib.hid hD
    clear hD C hb3 k2
    have z1 : (D != D) = false := bne_eq_false_iff_eq.2 rfl
    go_wp2_with (first | (go_at_call 40; (with_reducible refine C2.out.mono ?_); rintro e w4 ⟨rfl, rfl⟩))
    clear C2
    go_loopw [10, 11, 12] (fun s t v wr => ∃ (j r : Nat) (b : Bool), j ≤ n ∧ v = .int .i64 j ∧ s = .int .i64 (pout l j) ∧ t = .bool b ∧ Hid (b = true ↔ ∃ q, q < j ∧ ∃ i, i < q ∧ ix l i = ix l q) ∧ Hid (wr = w3.drewN r)) (fun _ _ v _ => n - (intOf v).toNat)
    case atStart => exact ⟨0, 0, false, Nat.zero_le _, rfl, rfl, rfl, ⟨fun h => (by cases h), fun ⟨q, h, _⟩ => absurd h (Nat.not_lt_zero _)⟩, (World.drewN_zero _).symm⟩
    case round =>
      obtain ⟨j, r, b, hj, rfl, rfl, rfl, HB, HW⟩ := hrel
      by_cases hjn : j < n
      · have i1 : (j : Int) < (n : Int) := by omega
        have hp := pout_in l j
        obtain ⟨O, hO⟩ : ∃ O, O = pout l j := ⟨_, rfl⟩
        rw [← hO] at hp ⊢
        have HO := Lib.hid hO
        clear hO
        obtain ⟨wo, hwo⟩ : ∃ wo, wo = wr := ⟨_, rfl⟩
        subst hwo
        go_wp2
        go_loopw [10, 11, 13] (fun s t v wr => ∃ (i r : Nat) (b : Bool), i ≤ j ∧ v = .int .i64 i ∧ s = .int .i64 (pinn l j O i) ∧ t = .bool b ∧ Hid (b = true ↔ (∃ q, q < j ∧ ∃ i, i < q ∧ ix l i = ix l q) ∨ ∃ k, k < i ∧ ix l k = ix l j) ∧ Hid (wr = w3.drewN r)) (fun _ _ v _ => j - (intOf v).toNat)
        case atStart => exact ⟨0, r, b, Nat.zero_le _, rfl, rfl, rfl, ⟨fun h => .inl (HB.out.1 h), fun h => h.elim HB.out.2 fun ⟨k, h, _⟩ => absurd h (Nat.not_lt_zero _)⟩, HW⟩
        case round =>
          clear HB HW
          obtain ⟨i, r, b, hi, rfl, rfl, rfl, HB, HW⟩ := hrel
          by_cases hij : i < j
          · have kr : Below w3.heap.size w3 wr := by rw [HW.out]; exact below_drewN (Below.refl _ _) r
            obtain ⟨bl, ol, rfl, _, hc⟩ := ((hl.below k3).below kr).at hjn
            have y1 := hc j hjn
            have y2 := hc i (by omega)
            have mj := HI.out j (by rw [HL.out]; exact hjn)
            have mi := HI.out i (by rw [HL.out]; omega)
            have i2 : (i : Int) < (j : Int) := by omega
            have i3 : (i : Int) < (n : Int) := by omega
            have hs := pinn_in (l := l) (j := j) hp i
            have HN : Hid (pinn l j O (i + 1) = pinn l j O i * ((ix l j - ix l i) % 9973) % 9973) := rfl
            obtain ⟨S, hS⟩ : ∃ S, S = pinn l j O i := ⟨_, rfl⟩
            rw [← hS] at hs HN ⊢
            clear hS hc
            have md := mul_bd hs (b := (ix l j - ix l i) % 9973) (by omega)
            have u1 : IntKind.i64.wrap (ix l j - ix l i) = ix l j - ix l i := Go.IntWalk.i64_in _ (by omega)
            have u2 : IntKind.i64.wrap (S * ((ix l j - ix l i) % 9973)) = S * ((ix l j - ix l i) % 9973) := Go.IntWalk.i64_in _ (by omega)
            have hm1 : Hid (∀ w : World, Calls Try.prog 19 #[.int .i64 (ix l j - ix l i)] w fun e w' => e = .returned (.int .i64 ((ix l j - ix l i) % 9973)) ∧ w = w') := fun w => R_Mod_any _ w (by omega) (by omega)
            have hm2 : Hid (∀ w : World, Calls Try.prog 19 #[.int .i64 (S * ((ix l j - ix l i) % 9973))] w fun e w' => e = .returned (.int .i64 (S * ((ix l j - ix l i) % 9973) % 9973)) ∧ w = w') := fun w => R_Mod_any _ w (by omega) (by omega)
            go_wp2
            go_quiet ((go_at_call 19; first | (with_reducible exact quietW (hm1.out _)) | (with_reducible exact quietW (hm2.out _))))
            have y1 := (below_drewN (Below.refl wr.heap.size wr) nq).keep (World.block_lt_of_cell? _ _ y1) y1
            have y2 := (below_drewN (Below.refl wr.heap.size wr) nq).keep (World.block_lt_of_cell? _ _ y2) y2
            have HW2 : Hid (wr.drewN nq = w3.drewN (r + nq)) := by unfold Hid; rw [HW.out, World.drewN_drewN]
            clear u1 u2 hm1 hm2 HW kr
            generalize wr.drewN nq = wr at *
            cases b with
            | true =>
              go_wp2
              go_quiet (fail)
              go_wp2
              go_roundw
              case rel => exact ⟨i + 1, _, true, by omega, by go_num, by rw [HN.out], rfl, ⟨fun _ => (HB.out.1 (by first | rfl | trivial)).imp id fun ⟨k, h1, h2⟩ => ⟨k, by omega, h2⟩, fun _ => rfl⟩, by unfold Hid; rw [HW2.out, World.drewN_drewN]⟩
              case measure => simp [intOf]; omega
            | false =>
              by_cases he : ix l i = ix l j
              · have z2 : (ix l i == ix l j) = true := beq_iff_eq.2 he
                have HE := Lib.hid he
                clear he
                go_wp2
                go_quiet (fail)
                go_wp2
                go_roundw
                case rel => exact ⟨i + 1, _, true, by omega, by go_num, by rw [HN.out], rfl, ⟨fun _ => .inr ⟨i, by omega, HE.out⟩, fun _ => rfl⟩, by unfold Hid; rw [HW2.out, World.drewN_drewN]⟩
                case measure => simp [intOf]; omega
              · have z2 : (ix l i == ix l j) = false := beq_eq_false_iff_ne.2 he
                have HE := Lib.hid he
                clear he
                go_wp2
                go_quiet (fail)
                go_wp2
                go_roundw
                case rel => exact ⟨i + 1, _, false, by omega, by go_num, by rw [HN.out], rfl, ⟨fun h => by (cases h), fun h => HB.out.2 (h.imp id fun ⟨k, h1, h2⟩ => by
                  rcases Nat.lt_or_ge k i with h3 | h3
                  · exact ⟨k, h3, h2⟩
                  · obtain rfl : k = i := by omega
                    exact absurd h2 HE.out)⟩, by unfold Hid; rw [HW2.out, World.drewN_drewN]⟩
                case measure => simp [intOf]; omega
          · obtain rfl : i = j := by omega
            go_wp2
            go_roundw
            case rel => exact ⟨i + 1, r, b, by omega, by go_num, by rw [pout, HO.out], rfl, ⟨fun h => (HB.out.1 h).elim (fun ⟨q, h1, h2⟩ => ⟨q, by omega, h2⟩) fun ⟨k, h1, h2⟩ => ⟨i, by omega, k, h1, h2⟩, fun ⟨q, h1, k, h2, h3⟩ => HB.out.2 (by
              rcases Nat.lt_or_ge q i with h4 | h4
              · exact .inl ⟨q, h4, k, h2, h3⟩
              · obtain rfl : q = i := by omega
                exact .inr ⟨k, h2, h3⟩)⟩, HW⟩
            case measure => simp [intOf]; omega
      · obtain rfl : j = n := by omega
        have kr : Below w3.heap.size w3 wr := by rw [HW.out]; exact below_drewN (Below.refl _ _) r
        have hz := pout_zero (l := l) (n := j) HI.out (by rw [HL.out]; exact Nat.le_refl _)
        rw [← HD.out] at hz ⊢
        have z2 : (D == D) = true := beq_iff_eq.2 rfl
        have z3 : (b == (D == 0)) = true := by
          rw [beq_iff_eq, Bool.eq_iff_iff, beq_iff_eq, hz]
          exact HB.out
        obtain ⟨B, hB⟩ : ∃ B, B = (D == 0) := ⟨_, rfl⟩
        rw [← hB] at z3
        have HB2 := Lib.hid hB
        obtain rfl : b = B := beq_iff_eq.1 z3
        have z4 : (b == b) = true := beq_iff_eq.2 rfl
        go_wp2
        go_ret
        exact ⟨by rw [← HB2.out]; simp, below_tr k3 kr⟩
  · have C := Lib.hid (vander_Full_err (hl.below k1) hq)
    clear hq
    (with_reducible refine C.out.mono ?_)
    clear C
    rintro e w2 ⟨rfl, hb⟩
    go_wp2
    go_ret
    exact ⟨rfl, below_tr k1 hb⟩
end Go.Proofs.Ytflojkifbdklnaa
