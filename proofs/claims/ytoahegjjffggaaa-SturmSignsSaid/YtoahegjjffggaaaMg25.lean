/-
  SturmSigns walked: no more above 0 than signs turn, and turned about below 0.
-/
import Derived.Test.YtoahegjjffggaaaRows
import Derived.Test.YtoahegjjffggaaaMg0
import Derived.Test.YtoahegjjffggaaaMg2
import Derived.Test.YtoahegjjffggaaaMg5
import Derived.Test.YtoahegjjffggaaaMg23
namespace Go.Rk
open Go.RowKit Go.Proofs.Ytoahegjjffggaaa

/-- The signs of odd powers turned. -/
def reflE (f : List Int) (i : Nat) : Int := if i % 2 = 1 then -ix f i else ix f i
def reflL (f : List Int) : List Int := rowF (reflE f) f.length
theorem chg_z {n : Int} (h : n = 0) (s : Int) (l : List Int) : chg s (n :: l) = chg s l := by rw [chg, if_pos h]
theorem chg_nz {n : Int} (h : n ≠ 0) (s : Int) (l : List Int) : chg s (n :: l) = (if s ≠ 0 ∧ ¬ (0 < n ↔ 0 < s) then 1 else 0) + chg n l := by rw [chg, if_neg h]
theorem refl_cons (x : Int) (l : List Int) (i : Nat) : rowF (fun k => if (i + k) % 2 = 1 then -ix (x :: l) k else ix (x :: l) k) (x :: l).length = (if i % 2 = 1 then -x else x) :: rowF (fun k => if (i + 1 + k) % 2 = 1 then -ix l k else ix l k) l.length := by
  refine ix_ext (by simp [rowF_len]) fun k hk => ?_
  rw [rowF_len] at hk
  rw [rowF_ix hk]
  match k with
  | 0 => rfl
  | k + 1 =>
    show _ = ix (rowF (fun k => if (i + 1 + k) % 2 = 1 then -ix l k else ix l k) l.length) k
    rw [rowF_ix (by simpa using hk), show i + (k + 1) = i + 1 + k by omega]
    rfl
theorem changes_lt {f : List Int} (h : 1 ≤ f.length) : changesL f < f.length := by
  match f, h with
  | x :: l, _ =>
    have h1 := chg_le l 0
    have h2 := chg_le l x
    unfold changesL
    rw [chg, List.length_cons]
    split
    · omega
    · rw [if_neg (fun q => q.1 rfl)]; omega
/-- After what was last, with noughts between: together no more turns than places. -/
theorem chg_alt : ∀ (l : List Int) (s : Int) (g i : Nat), s ≠ 0 → 1 ≤ g → g ≤ i →
    chg s l + chg (if (i - g) % 2 = 1 then -s else s) (rowF (fun k => if (i + k) % 2 = 1 then -ix l k else ix l k) l.length) ≤ l.length + (g - 1)
  | [], _, _, _, _, _, _ => by simp [rowF, chg]
  | x :: l, s, g, i, hs, hg, hgi => by
    rw [refl_cons, List.length_cons]
    have hy : (i % 2 = 1 ∧ (if i % 2 = 1 then -x else x) = -x) ∨ (i % 2 = 0 ∧ (if i % 2 = 1 then -x else x) = x) := by
      by_cases h : i % 2 = 1
      · exact .inl ⟨h, if_pos h⟩
      · exact .inr ⟨by omega, if_neg h⟩
    by_cases hx : x = 0
    · have h := chg_alt l s (g + 1) (i + 1) hs (by omega) (by omega)
      rw [show i + 1 - (g + 1) = i - g by omega] at h
      rw [chg_z hx, chg_z (by omega)]
      omega
    · have h := chg_alt l x 1 (i + 1) hx (by omega) (by omega)
      rw [show i + 1 - 1 = i by omega] at h
      have hs' : ((i - g) % 2 = 1 ∧ (if (i - g) % 2 = 1 then -s else s) = -s) ∨ ((i - g) % 2 = 0 ∧ (if (i - g) % 2 = 1 then -s else s) = s) := by
        by_cases h : (i - g) % 2 = 1
        · exact .inl ⟨h, if_pos h⟩
        · exact .inr ⟨by omega, if_neg h⟩
      rw [chg_nz hx, chg_nz (by omega)]
      generalize (if i % 2 = 1 then -x else x) = y at *
      generalize (if (i - g) % 2 = 1 then -s else s) = s' at *
      generalize chg x l = A at *
      generalize chg y (rowF (fun k => if (i + 1 + k) % 2 = 1 then -ix l k else ix l k) l.length) = B at *
      have c : (if s ≠ 0 ∧ ¬(0 < x ↔ 0 < s) then 1 else 0) + (if s' ≠ 0 ∧ ¬(0 < y ↔ 0 < s') then 1 else 0) ≤ g := by
        split <;> split <;> omega
      omega
theorem chg_alt0 : ∀ (l : List Int) (i : Nat), 1 ≤ l.length → chg 0 l + chg 0 (rowF (fun k => if (i + k) % 2 = 1 then -ix l k else ix l k) l.length) < l.length
  | [], _, h => by simp at h
  | x :: l, i, _ => by
    rw [refl_cons, List.length_cons]
    have hy : (i % 2 = 1 ∧ (if i % 2 = 1 then -x else x) = -x) ∨ (i % 2 = 0 ∧ (if i % 2 = 1 then -x else x) = x) := by
      by_cases h : i % 2 = 1
      · exact .inl ⟨h, if_pos h⟩
      · exact .inr ⟨by omega, if_neg h⟩
    by_cases hx : x = 0
    · rw [chg_z hx, chg_z (by omega)]
      rcases Nat.eq_zero_or_pos l.length with e | e
      · rw [List.eq_nil_of_length_eq_zero e]; simp [rowF, chg]
      · have := chg_alt0 l (i + 1) e
        omega
    · have h := chg_alt l x 1 (i + 1) hx (by omega) (by omega)
      rw [show i + 1 - 1 = i by omega] at h
      rw [chg_nz hx, chg_nz (by omega), if_neg (fun q => q.1 rfl), if_neg (fun q => q.1 rfl)]
      omega
theorem changes_refl {f : List Int} (h : 1 ≤ f.length) : changesL f + changesL (reflL f) < f.length := by
  have := chg_alt0 f 0 h
  unfold changesL reflL reflE
  simpa using this
theorem refl_0 (f : List Int) : reflE f 0 = ix f 0 := if_neg (by decide)
theorem refl_1 (f : List Int) : reflE f 1 = -ix f 1 := if_pos (by decide)
theorem refl_2 (f : List Int) : reflE f 2 = ix f 2 := if_neg (by decide)
theorem refl_3 (f : List Int) : reflE f 3 = -ix f 3 := if_pos (by decide)
theorem nR_refl {f : List Int} (h1 : 1 ≤ f.length) (h4 : f.length ≤ 4) : nR (reflL f) = nR f := by
  rcases (show f.length = 1 ∨ f.length = 2 ∨ f.length = 3 ∨ f.length = 4 by omega) with e | e | e | e
  · obtain ⟨a, rfl⟩ := len_1 e
    rfl
  · obtain ⟨b, a, rfl⟩ := len_2 e
    rfl
  · obtain ⟨c, b, a, rfl⟩ := len_3 e
    have er : reflL [c, b, a] = [c, -b, a] := by
      show [reflE _ 0, reflE _ 1, reflE _ 2] = _
      rw [refl_0, refl_1, refl_2]; rfl
    rw [er]
    rw [nR, nR, Int.neg_mul_neg]
  · obtain ⟨d, c, b, a, rfl⟩ := len_4 e
    have er : reflL [d, c, b, a] = [d, -c, b, -a] := by
      show [reflE _ 0, reflE _ 1, reflE _ 2, reflE _ 3] = _
      rw [refl_0, refl_1, refl_2, refl_3]; rfl
    rw [er]
    have e1 : dD (-a) b (-c) d = dD a b c d := by unfold dD; grind
    have e2 : dP (-a) b (-c) = dP a b c := by unfold dP; grind
    rw [nR, nR, e1, e2]
theorem whole_refl {f : List Int} (h : wholeR f = none) : wholeR (reflL f) = none := by
  obtain ⟨h1, h4, hi, ht⟩ := wholeR_none h
  have hl : (reflL f).length = f.length := rowF_len _ _
  refine wholeR_ok (by omega) (by omega) (fun k hk => ?_) ?_
  · rw [hl] at hk
    unfold reflL
    rw [rowF_ix hk]
    have := hi k hk
    unfold reflE
    split <;> omega
  · unfold topL at ht ⊢
    rw [hl]
    unfold reflL
    rw [rowF_ix (by omega)]
    unfold reflE
    split <;> omega
end Go.Rk
namespace Go.Proofs.Ytoahegjjffggaaa
open Go.RowKit Go.Rk

set_option maxHeartbeats 4000000 in
set_option maxRecDepth 100000 in
theorem sturmSigns_walk {p : Option Addr} {n ca : Nat} {f : List Int} {w : World} (hf : RdI w p n ca f) (_ : Fit f) :
    Calls Try.prog 9 #[.slice p n ca] w fun e w' => e = .returned (.bool true) ∧ Below w.heap.size w w' := by
  have HM := Lib.hid intTy
  have hmx := hf.len_max
  go_enter Try.func9, Try.ntmps9
  go_wp2_with (go_at_call 21; fail)
  refine (sturmFact_any w).mono ?_
  rintro e w1 ⟨rfl, k1⟩
  go_wp2_with (go_at_call 27; fail)
  rcases ho : wholeR f with _ | x
  rotate_left
  · refine (sturm_Turns_err (hf.below k1) ho).mono ?_
    rintro e w2 ⟨rfl, rfl⟩
    clear ho
    go_wp2
    go_ret
    exact ⟨rfl, k1⟩
  obtain ⟨h1, h4, hi, ht⟩ := wholeR_none ho
  obtain ⟨L, hS, hT⟩ := simp_stm h1 h4 hi ht
  have c1 := changes_lt h1
  have c2 := changes_refl h1
  have c3 := nR_refl h1 h4
  have c4 := whole_refl ho
  have c5 := hT.desc
  have c6 := hT.low 100
  have c7 := hT.mono 0 100 (by decide)
  rw [hf.len_eq] at h4 h1 c1 c2
  have HI := Lib.hid hi
  have HL := Lib.hid hf.len_eq
  have HS := Lib.hid hS
  have HC3 := Lib.hid c3
  have HC4 := Lib.hid c4
  refine (sturm_Turns_ok (hf.below k1) ho).mono ?_
  rintro e w2 ⟨rfl, rfl⟩
  have HO := Lib.hid ho
  have CC := Lib.hid (sturm_Count_ok (hf.below k1) ho (show InR 0 100 by unfold InR; decide) hS)
  obtain ⟨V0, hV0⟩ : ∃ V, VL L 0 = V := ⟨_, rfl⟩
  obtain ⟨V1, hV1⟩ : ∃ V, VL L 100 = V := ⟨_, rfl⟩
  obtain ⟨T, hTt⟩ : ∃ T, changesL f = T := ⟨_, rfl⟩
  obtain ⟨T2, hT2⟩ : ∃ T, changesL (reflL f) = T := ⟨_, rfl⟩
  rw [hV0, hV1] at CC
  rw [hV0, hTt] at c5
  rw [hV1] at c6
  rw [hV0, hV1] at c7
  rw [hTt] at c1
  rw [hTt, hT2] at c2
  simp only [hTt]
  obtain ⟨M, hM⟩ : ∃ M : Int, (V0 : Int) - (V1 : Int) = M := ⟨_, rfl⟩
  rw [hM] at CC
  have i1' : M ≤ (T : Int) := by omega
  have i2' : (T : Int) < (n : Int) := by omega
  have q0 : ¬ n ≤ T := by omega
  have q1 : ¬ (n : Int) ≤ (T : Int) := by omega
  have HT2 := Lib.hid hT2
  clear ho hi ht hS hT hTt hV0 hV1 hT2 c5 c6 c7 c3 c4 hM
  go_wp2_with (go_at_call 24; fail)
  (with_reducible refine CC.out.mono ?_)
  clear CC
  rintro e w3 ⟨rfl, b3⟩
  have k3 := below_tr k1 b3
  clear b3
  go_wp2_with fail
  go_loopw [7, 8] (fun v y wt => ∃ (k : Nat) (p : Option Addr) (cp : Nat), k ≤ n ∧ y = .int .i64 k ∧ v = .slice p k cp ∧ OwI wt w.heap.size 3 p k cp (rowF (reflE f) k) ∧ Below w.heap.size w wt) (fun _ y _ => n - (intOf y).toNat)
  case atStart => exact ⟨0, none, 0, Nat.zero_le _, rfl, rfl, OwI.nil _ _ _, k3⟩
  case round =>
    clear k3
    obtain ⟨k, q, cp, hk, rfl, rfl, hO, hb⟩ := hrel
    by_cases hlt : k < n
    · have j1 : (k : Int) < (n : Int) := by omega
      obtain ⟨bf, of_, rfl, hbf, hc⟩ := hf.at hlt
      have y1 := hb.keep hbf (hc k hlt)
      have bX := HI.out k (by rw [HL.out]; exact hlt)
      obtain ⟨X, hX⟩ : ∃ X, ix f k = X := ⟨_, rfl⟩
      rw [hX] at y1 bX
      have u1 : IntKind.i64.wrap (-X) = -X := Go.IntWalk.i64_in _ (by omega)
      have hs := hb.size
      by_cases h2 : k % 2 = 1
      · have z : (k : Int).tmod 2 = 1 := by rw [Int.tmod_eq_emod_of_nonneg (by omega)]; omega
        have HX : Hid (rowF (reflE f) (k + 1) = rowF (reflE f) k ++ [-X]) := by unfold Hid; rw [rowF_succ]; unfold reflE; rw [if_pos h2, hX]
        clear hX bX hc h2
        go_wp2_with (at_builtin; refine wpList_push_int HM.out rfl (.tmp 61) (.tmp 63) rfl rfl rfl (hO.alloc _) (z := -X) (by simp) (by decide) (by decide) (by omega) (by simp; omega) ?_; intro a6 cap6 w6 ho6 hg6)
        have hb6 := (hb.alloc hs _).grown hg6 (by simp; omega) (fun r e => (hO.own.lt r e).1)
        go_roundw
        case rel => exact ⟨k + 1, a6, cap6, by omega, by go_num, rfl, by rw [HX.out]; exact ho6, hb6⟩
        case measure => simp [intOf]; omega
      · have z : (k : Int).tmod 2 = 0 := by rw [Int.tmod_eq_emod_of_nonneg (by omega)]; omega
        have HX : Hid (rowF (reflE f) (k + 1) = rowF (reflE f) k ++ [X]) := by unfold Hid; rw [rowF_succ]; unfold reflE; rw [if_neg h2, hX]
        clear hX bX hc h2
        go_wp2_with (at_builtin; refine wpList_push_int HM.out rfl (.tmp 61) (.tmp 63) rfl rfl rfl (hO.alloc _) (z := X) (by simp) (by decide) (by decide) (by omega) (by simp; omega) ?_; intro a6 cap6 w6 ho6 hg6)
        have hb6 := (hb.alloc hs _).grown hg6 (by simp; omega) (fun r e => (hO.own.lt r e).1)
        go_roundw
        case rel => exact ⟨k + 1, a6, cap6, by omega, by go_num, rfl, by rw [HX.out]; exact ho6, hb6⟩
        case measure => simp [intOf]; omega
    · obtain rfl : n = k := by omega
      have hr : Hid (rowF (reflE f) n = reflL f) := by unfold Hid reflL; rw [HL.out]
      rw [hr.out] at hO
      have hg := hO.rd
      clear hO
      go_wp2_with (go_at_call 22; fail)
      refine (sturm_All_nR (hf.below hb) HO.out).mono ?_
      rintro e w5 ⟨rfl, b5⟩
      have k5 := below_tr hb b5
      have hg5 := hg.below b5
      clear b5 hg
      go_wp2_with (go_at_call 22; fail)
      refine (sturm_All_nR hg5 HC4.out).mono ?_
      rintro e w6 ⟨rfl, b6⟩
      have k6 := below_tr k5 b6
      have hg6 := hg5.below b6
      rw [HC3.out]
      clear b6 hg5
      go_wp2_with (go_at_call 27; fail)
      refine (sturm_Turns_ok hg6 HC4.out).mono ?_
      rintro e w7 ⟨rfl, rfl⟩
      rw [HT2.out]
      obtain ⟨m, hm⟩ : ∃ m, nR f = m := ⟨_, rfl⟩
      simp only [hm]
      have z0 : ((m : Int) == (m : Int)) = true := beq_iff_eq.2 rfl
      have j2 : (T : Int) + (T2 : Int) < (n : Int) := by omega
      clear hm
      go_wp2
      go_ret
      exact ⟨rfl, k6⟩
end Go.Proofs.Ytoahegjjffggaaa
