/-
  vander.Det and the closed fact of the statements on powers walked.
-/
import Derived.Test.YtefmllkimdaimaaDoorRows
import Derived.Test.YtefmllkimdaimaaDoorLib
import Derived.Test.YtefmllkimdaimaaDoorTr
import Derived.Test.YtefmllkimdaimaaDoorNum
import Derived.Test.YtefmllkimdaimaaDoorVander
import Derived.Test.YtefmllkimdaimaaDoorVanderP
namespace Go.Proofs.YtefmllkimdaimaaDoor
open Go.RowKit Go.Rk

theorem vander_Det_err {a : Option Addr} {n ca : Nat} {l : List Int} {w : World} {x : Int} (hl : RdI w a n ca l) (hq : powersR l = some x) :
    Calls Tryd.prog 29 #[.slice a n ca] w fun e w' => e = .returned (.tuple #[.int .i64 0, .iface 75 (.int .i64 x)]) ∧ w = w' := by
  have C := Lib.hid (vander_Check_is hl hq)
  clear hq
  go_enter Tryd.func29, Tryd.ntmps29
  go_wp2_with (first | (go_at_call 26; (with_reducible refine C.out.mono ?_); rintro e w' ⟨rfl, rfl⟩; simp only [errV]))
  go_ret2
  exact ⟨rfl, rfl⟩

set_option maxHeartbeats 4000000 in
set_option maxRecDepth 100000 in
theorem vander_Det_ok {a : Option Addr} {n ca : Nat} {l : List Int} {w : World} (hl : RdI w a n ca l) (hq : powersR l = none) :
    Calls Tryd.prog 29 #[.slice a n ca] w fun e w' => e = .returned (.tuple #[.int .i64 (pout l n), .nilIface]) ∧ w = w' := by
  obtain ⟨q1, q2, q3⟩ := powersR_none hq
  rw [hl.len_eq] at q1 q2
  have HI := Lib.hid q3
  have C := Lib.hid (vander_Check_is hl hq)
  have HL := Lib.hid hl.len_eq
  clear hq q3
  go_enter Tryd.func29, Tryd.ntmps29
  go_wp2_with (first | (go_at_call 26; (with_reducible refine C.out.mono ?_); rintro e w' ⟨rfl, rfl⟩; simp only [errV]))
  go_loop [5, 17] (fun s v => ∃ j : Nat, j ≤ n ∧ v = .int .i64 j ∧ s = .int .i64 (pout l j)) (fun _ v => n - (intOf v).toNat)
  case atStart => exact ⟨0, Nat.zero_le _, rfl, rfl⟩
  case round =>
    obtain ⟨j, hj, rfl, rfl⟩ := hrel
    by_cases hjn : j < n
    · obtain ⟨b, o, rfl, _, hc⟩ := hl.at hjn
      have y1 := hc j hjn
      have HC := Lib.hid hc
      have mj := HI.out j (by rw [HL.out]; exact hjn)
      have i1 : (j : Int) < (n : Int) := by omega
      have i2 : (j : Int) ≤ (n : Int) := by omega
      have q9 := hl.le
      have i4 : (j : Int) ≤ (ca : Int) := by omega
      have i5 : j ≤ ca := by omega
      clear hc
      have hp := pout_in l j
      obtain ⟨O, hO⟩ : ∃ O, O = pout l j := ⟨_, rfl⟩
      rw [← hO] at hp ⊢
      have HO := Lib.hid hO
      clear hO
      go_wp2
      go_loop [5, 26] (fun s v => ∃ i : Nat, i ≤ j ∧ v = .int .i64 i ∧ s = .int .i64 (pinn l j O i)) (fun _ v => j - (intOf v).toNat)
      case atStart => exact ⟨0, Nat.zero_le _, rfl, rfl⟩
      case round =>
        obtain ⟨i, hi, rfl, rfl⟩ := hrel
        by_cases hij : i < j
        · have y2 := HC.out i (by omega)
          have mi := HI.out i (by rw [HL.out]; omega)
          have i3 : (i : Int) < (j : Int) := by omega
          have hs := pinn_in (l := l) (j := j) hp i
          have HN : Hid (pinn l j O (i + 1) = pinn l j O i * ((ix l j - ix l i) % 9973) % 9973) := rfl
          obtain ⟨S, hS⟩ : ∃ S, S = pinn l j O i := ⟨_, rfl⟩
          rw [← hS] at hs HN ⊢
          clear hS
          have md := mul_bd hs (b := (ix l j - ix l i) % 9973) (by omega)
          have u1 : IntKind.i64.wrap (ix l j - ix l i) = ix l j - ix l i := Go.IntWalk.i64_in _ (by omega)
          have u2 : IntKind.i64.wrap (S * ((ix l j - ix l i) % 9973)) = S * ((ix l j - ix l i) % 9973) := Go.IntWalk.i64_in _ (by omega)
          go_wp2_with (first | (go_at_call 76; refine (Field_any _ _).mono ?_; rintro e w' ⟨rfl, rfl⟩))
          go_round
          case rel => exact ⟨i + 1, by omega, by go_num, by rw [HN.out]⟩
          case measure => simp [intOf]; omega
        · obtain rfl : i = j := by omega
          go_wp2
          go_round
          case rel => exact ⟨i + 1, by omega, by go_num, by rw [pout, HO.out]⟩
          case measure => simp [intOf]; omega
    · obtain rfl : j = n := by omega
      go_wp2
      go_ret2
      exact ⟨rfl, rfl⟩

end Go.Proofs.YtefmllkimdaimaaDoor
