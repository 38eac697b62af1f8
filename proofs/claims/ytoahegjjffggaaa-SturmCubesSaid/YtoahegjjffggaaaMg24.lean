/-
  The reference's Value and Sign of whole factors walked.
  SturmCubes walked: a change of sign hides one, and an odd power comes to 0 somewhere.
-/
import Derived.Test.YtoahegjjffggaaaRows
import Derived.Test.YtoahegjjffggaaaMg0
import Derived.Test.YtoahegjjffggaaaMg1
import Derived.Test.YtoahegjjffggaaaMg2
import Derived.Test.YtoahegjjffggaaaMg18
import Derived.Test.YtoahegjjffggaaaMg21
import Derived.Test.YtoahegjjffggaaaMg23
namespace Go.Rk
open Go.RowKit Go.Proofs.Ytoahegjjffggaaa

theorem evL_sum (x : Int) : ∀ l : List Int, evL l x = sumTo (fun k => ix l k * x ^ k) l.length
  | [] => rfl
  | c :: l => by
    rw [evL, List.length_cons, sumTo_succ_left, evL_sum x l, Int.mul_comm, ← sumTo_mul]
    rw [sumTo_congr (h := fun k => ix (c :: l) (k + 1) * x ^ (k + 1)) fun k _ => by
      show x * (ix l k * x ^ k) = ix l k * x ^ (k + 1)
      rw [Int.pow_succ]; grind]
    show _ = c * x ^ 0 + _
    rw [Int.pow_zero, Int.mul_one, Int.add_comm]
def signZ (n : Int) : Int := if 0 < n then 1 else if n < 0 then -1 else 0
theorem signZ_neg {x y : Int} : signZ x * signZ y < 0 ↔ x * y < 0 := by
  unfold signZ
  rcases Int.lt_trichotomy x 0 with h1 | h1 | h1
  · rcases Int.lt_trichotomy y 0 with h2 | h2 | h2
    · have := Int.mul_pos_of_neg_of_neg h1 h2
      rw [if_neg (show ¬ 0 < x by omega), if_pos h1, if_neg (show ¬ 0 < y by omega), if_pos h2]; omega
    · rw [h2, Int.mul_zero]; simp
    · have := Int.mul_neg_of_neg_of_pos h1 h2
      rw [if_neg (show ¬ 0 < x by omega), if_pos h1, if_pos h2]; omega
  · rw [h1, Int.zero_mul]; simp
  · rcases Int.lt_trichotomy y 0 with h2 | h2 | h2
    · have := Int.mul_neg_of_pos_of_neg h1 h2
      rw [if_pos h1, if_neg (show ¬ 0 < y by omega), if_pos h2]; omega
    · rw [h2, Int.mul_zero]; simp
    · have := Int.mul_pos h1 h2
      rw [if_pos h1, if_pos h2]; omega
theorem signZ_bd (x : Int) : -1 ≤ signZ x ∧ signZ x ≤ 1 := by unfold signZ; split <;> (try split) <;> omega
theorem pow_bd {x : Int} (hx : -100 ≤ x ∧ x ≤ 100) : ∀ k : Nat, -((100 : Int) ^ k) ≤ x ^ k ∧ x ^ k ≤ (100 : Int) ^ k
  | 0 => by simp
  | k + 1 => by
    have := prod_bd' (A := (100 : Int) ^ k) (B := 100) (pow_bd hx k) hx
    rw [Int.pow_succ, Int.pow_succ]; exact this
theorem pow_bd4 {x : Int} (hx : -100 ≤ x ∧ x ≤ 100) {k : Nat} (hk : k ≤ 4) : -100000000 ≤ x ^ k ∧ x ^ k ≤ 100000000 := by
  have h := pow_bd hx k
  have h2 : (100 : Int) ^ k ≤ 100000000 := by
    rcases (show k = 0 ∨ k = 1 ∨ k = 2 ∨ k = 3 ∨ k = 4 by omega) with e | e | e | e | e <;> rw [e] <;> decide
  omega
theorem sum_bd {x : Int} (hx : -100 ≤ x ∧ x ≤ 100) {f : List Int} (hi : In (-1000000) 1000000 f) : ∀ k : Nat, k ≤ 4 → k ≤ f.length → -(100000000000000 * (k : Int)) ≤ sumTo (fun k => ix f k * x ^ k) k ∧ sumTo (fun k => ix f k * x ^ k) k ≤ 100000000000000 * (k : Int)
  | 0, _, _ => by show -(100000000000000 * ((0 : Nat) : Int)) ≤ 0 ∧ 0 ≤ 100000000000000 * ((0 : Nat) : Int); omega
  | k + 1, h, h2 => by
    have e := sum_bd hx hi k (by omega) (by omega)
    have p := prod_bd' (hi k (by omega)) (pow_bd4 hx (k := k) (by omega))
    show _ ≤ sumTo (fun k => ix f k * x ^ k) k + ix f k * x ^ k ∧ sumTo (fun k => ix f k * x ^ k) k + ix f k * x ^ k ≤ _
    omega
end Go.Rk
namespace Go.Proofs.Ytoahegjjffggaaa
open Go.RowKit Go.Rk

set_option maxHeartbeats 2000000 in
theorem H_Value_any {a : Option Addr} {n ca : Nat} {f : List Int} {x : Int} {w : World} (hf : RdI w a n ca f) (hi : In (-1000000) 1000000 f) (hn : n ≤ 4) (hx : -100 ≤ x ∧ x ≤ 100) :
    Calls Try.prog 26 #[.slice a n ca, .int .i64 x] w fun e w' => e = .returned (.int .i64 (evL f x)) ∧ w = w' := by
  have HL := Lib.hid hf.len_eq
  have HI := Lib.hid hi
  have HB := Lib.hid (sum_bd hx hi)
  have HP := Lib.hid (fun k (hk : k ≤ 4) => pow_bd4 hx hk)
  clear hi
  go_enter Try.func26, Try.ntmps26
  go_wp2
  go_loop [5, 6, 7] (fun s p i => ∃ k : Nat, k ≤ n ∧ s = .int .i64 (sumTo (fun k => ix f k * x ^ k) k) ∧ p = .int .i64 (x ^ k) ∧ i = .int .i64 k) (fun _ _ i => n - (intOf i).toNat)
  case atStart => exact ⟨0, Nat.zero_le _, rfl, by rw [Int.pow_zero], rfl⟩
  case round =>
    obtain ⟨k, hk, rfl, rfl, rfl⟩ := hrel
    by_cases hlt : k < n
    · have i1 : (k : Int) < (n : Int) := by omega
      obtain ⟨bf, of_, rfl, _, hc⟩ := hf.at hlt
      have y1 := hc k hlt
      have b1 := HI.out k (by rw [HL.out]; exact hlt)
      have b2 := HP.out k (by omega)
      have b3 := HP.out (k + 1) (by omega)
      have b4 := HB.out (k + 1) (by omega) (by rw [HL.out]; omega)
      have e1 : sumTo (fun k => ix f k * x ^ k) (k + 1) = sumTo (fun k => ix f k * x ^ k) k + ix f k * x ^ k := rfl
      have e2 : x ^ (k + 1) = x ^ k * x := Int.pow_succ ..
      have b5 := prod_bd' b1 b2
      obtain ⟨S, hS⟩ : ∃ S, sumTo (fun k => ix f k * x ^ k) k = S := ⟨_, rfl⟩
      obtain ⟨X, hX⟩ : ∃ X, ix f k = X := ⟨_, rfl⟩
      obtain ⟨P, hP⟩ : ∃ P, x ^ k = P := ⟨_, rfl⟩
      rw [hX] at y1
      rw [e1, hS, hX, hP] at b4
      rw [e2, hP] at b3
      rw [hX, hP] at b5
      rw [hS, hX, hP] at e1
      rw [hP] at e2
      simp only [hS, hP]
      have u1 : IntKind.i64.wrap (X * P) = X * P := Go.IntWalk.i64_in _ (by omega)
      have u2 : IntKind.i64.wrap (S + X * P) = S + X * P := Go.IntWalk.i64_in _ (by omega)
      have u3 : IntKind.i64.wrap (P * x) = P * x := Go.IntWalk.i64_in _ (by omega)
      have E1 := Lib.hid e1
      have E2 := Lib.hid e2
      clear hS hX hP e1 e2 b2 b1 b3 b4 b5 hc
      go_wp2
      go_round
      case rel => exact ⟨k + 1, by omega, by rw [E1.out], by rw [E2.out], by go_num⟩
      case measure => simp [intOf]; omega
    · obtain rfl : n = k := by omega
      have HE : Hid (sumTo (fun k => ix f k * x ^ k) n = evL f x) := by unfold Hid; rw [evL_sum, HL.out]
      go_wp2
      go_ret
      rw [← HE.out]
      exact ⟨rfl, rfl⟩
theorem H_Sign_any (n : Int) (w : World) :
    Calls Try.prog 25 #[.int .i64 n] w fun e w' => e = .returned (.int .i64 (signZ n)) ∧ w = w' := by
  rcases Int.lt_trichotomy n 0 with h | h | h
  · have E : Hid (signZ n = -1) := by unfold Hid signZ; rw [if_neg (by omega), if_pos h]
    go_enter Try.func25, Try.ntmps25
    go_wp2
    go_ret
    exact ⟨by rw [E.out]; rfl, rfl⟩
  · subst h
    go_enter Try.func25, Try.ntmps25
    go_wp2
    go_ret
    exact ⟨rfl, rfl⟩
  · have E : Hid (signZ n = 1) := by unfold Hid signZ; rw [if_pos h]
    go_enter Try.func25, Try.ntmps25
    go_wp2
    go_ret
    exact ⟨by rw [E.out]; rfl, rfl⟩
end Go.Proofs.Ytoahegjjffggaaa
namespace Go.Proofs.Ytoahegjjffggaaa
open Go.RowKit Go.Rk

theorem nR_odd {f : List Int} (h1 : 1 ≤ f.length) (h : f.length ≤ 4) (e : f.length % 2 = 0) : 1 ≤ nR f := by
  rcases (show f.length = 2 ∨ f.length = 4 by omega) with h2 | h2
  · obtain ⟨b, a, rfl⟩ := len_2 h2
    exact Nat.le_refl 1
  · obtain ⟨d, c, b, a, rfl⟩ := len_4 h2
    rw [nR]
    split
    · decide
    · split <;> decide
set_option maxHeartbeats 4000000 in
theorem sturmCubes_walk {p : Option Addr} {n ca : Nat} {f : List Int} {a b : Int} {w : World} (hf : RdI w p n ca f) (_ : Fit f) (_ : (Lit.int .i64 a).wf = true) (_ : (Lit.int .i64 b).wf = true) :
    Calls Try.prog 8 #[.slice p n ca, .int .i64 a, .int .i64 b] w fun e w' => e = .returned (.bool true) ∧ Below w.heap.size w w' := by
  have hmx := hf.len_max
  go_enter Try.func8, Try.ntmps8
  go_wp2_with (go_at_call 21; fail)
  refine (sturmFact_any w).mono ?_
  rintro e w1 ⟨rfl, k1⟩
  go_wp2_with (go_at_call 22; fail)
  rcases ho : wholeR f with _ | x
  rotate_left
  · refine (sturm_All_err (hf.below k1) ho).mono ?_
    rintro e w2 ⟨rfl, rfl⟩
    clear ho
    go_wp2
    go_ret
    exact ⟨rfl, k1⟩
  obtain ⟨h1, h4, hi, ht⟩ := wholeR_none ho
  obtain ⟨L, hS, hT⟩ := simp_stm h1 h4 hi ht
  have hod := nR_odd h1 h4
  rw [hf.len_eq] at h4 hod
  have HO := Lib.hid ho
  have HS := Lib.hid hS
  have HT := Lib.hid hT
  have HI : Hid (In (-1000000) 1000000 f) := fun k hk => by have := hi k hk; omega
  refine (sturm_All_nR (hf.below k1) ho).mono ?_
  rintro e w2 ⟨rfl, b2⟩
  have k2 := below_tr k1 b2
  obtain ⟨m, hm⟩ : ∃ m, nR f = m := ⟨_, rfl⟩
  rw [hm] at hod
  simp only [hm]
  have z : (n : Int).tmod 2 = ((n % 2 : Nat) : Int) := by rw [Int.tmod_eq_emod_of_nonneg (by omega)]; rfl
  have hz : ((n : Int).tmod 2 = 0 ∧ 1 ≤ (m : Int)) ∨ (n : Int).tmod 2 = 1 := by
    rw [z]
    rcases Nat.mod_two_eq_zero_or_one n with e | e
    · left; have := hod e; rw [e]; omega
    · right; rw [e]; rfl
  clear ho hi ht hS hT hm h1 z hod
  have main : ∀ z1 : Value, z1 = .bool false → Calls Try.prog 24 #[.slice p n ca, .int .i64 a, .int .i64 b] w2 (fun e w' => (e = .returned (.tuple #[.int .i64 0, .iface 59 (.int .i64 1)]) ∧ w' = w2) ∨ (InR a b ∧ e = .returned (.tuple #[.int .i64 ((VL L a : Int) - (VL L b : Int)), .nilIface]) ∧ Below w2.heap.size w2 w')) := fun _ _ => by
    by_cases r1 : InR a b
    · refine (sturm_Count_ok (hf.below k2) HO.out r1 HS.out).mono ?_
      rintro e w3 ⟨rfl, b3⟩
      exact .inr ⟨r1, rfl, b3⟩
    · refine (sturm_Count_out (hf.below k2) HO.out r1).mono ?_
      rintro e w3 ⟨rfl, rfl⟩
      exact .inl ⟨rfl, rfl⟩
  have CC := Lib.hid (main (.bool false) rfl)
  clear main
  rcases hz with ⟨z0, z1⟩ | z0
  all_goals
    go_wp2_with (go_at_call 24; fail)
    (with_reducible refine CC.out.mono ?_)
    clear CC
    rintro e w3 (⟨rfl, rfl⟩ | ⟨r1, rfl, b3⟩)
    · go_wp2
      go_ret
      exact ⟨rfl, k2⟩
    · have k3 := below_tr k2 b3
      have hf3 := hf.below k3
      obtain ⟨r1a, r1b, r1c, r1d⟩ := r1
      have CA := Lib.hid (H_Value_any (x := a) hf3 HI.out h4 (by omega))
      have CB := Lib.hid (H_Value_any (x := b) hf3 HI.out h4 (by omega))
      have hX := HT.out.cross a b r1c
      have hs := @signZ_neg (evL f a) (evL f b)
      have s1 := signZ_bd (evL f a)
      have s2 := signZ_bd (evL f b)
      have s3 := prod_bd' s1 s2
      obtain ⟨A, hA⟩ : ∃ A, evL f a = A := ⟨_, rfl⟩
      obtain ⟨B, hB⟩ : ∃ B, evL f b = B := ⟨_, rfl⟩
      rw [hA] at CA
      rw [hB] at CB
      rw [hA, hB] at hX hs s3
      clear s1 s2 hA hB
      by_cases hneg : signZ A * signZ B < 0
      · have hv := hX (hs.1 hneg)
        have hv2 : (1 : Int) ≤ (VL L a : Int) - (VL L b : Int) := by omega
        have HN : ¬ (0 : Int) ≤ signZ A * signZ B := by omega
        have u : IntKind.i64.wrap (signZ A * signZ B) = signZ A * signZ B := Go.IntWalk.i64_in _ (by omega)
        clear hX hs hv
        go_wp2_with (first | (go_at_call 26; first | ((with_reducible refine CA.out.mono ?_); clear CA; rintro e w' ⟨rfl, rfl⟩) | ((with_reducible refine CB.out.mono ?_); clear CB; rintro e w' ⟨rfl, rfl⟩)) | (go_at_call 25; refine (H_Sign_any _ _).mono ?_; rintro e w' ⟨rfl, rfl⟩))
        go_ret
        exact ⟨rfl, k3⟩
      · have HN : (0 : Int) ≤ signZ A * signZ B := by omega
        have u : IntKind.i64.wrap (signZ A * signZ B) = signZ A * signZ B := Go.IntWalk.i64_in _ (by omega)
        clear hX hs
        go_wp2_with (first | (go_at_call 26; first | ((with_reducible refine CA.out.mono ?_); clear CA; rintro e w' ⟨rfl, rfl⟩) | ((with_reducible refine CB.out.mono ?_); clear CB; rintro e w' ⟨rfl, rfl⟩)) | (go_at_call 25; refine (H_Sign_any _ _).mono ?_; rintro e w' ⟨rfl, rfl⟩))
        go_ret
        exact ⟨rfl, k3⟩
end Go.Proofs.Ytoahegjjffggaaa
