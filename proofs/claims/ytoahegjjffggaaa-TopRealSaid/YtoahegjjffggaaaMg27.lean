/-
  bareiss.Check, bareiss.Of and bareiss.Leading walked: the determinant of whole numbers, and those of the first rows and columns.
  TopReal walked: a matrix of two rows that is the same when it is turned has two numbers at which its factors come to 0, or one where it is a number's.
-/
import Derived.Test.YtoahegjjffggaaaRows
import Derived.Test.YtoahegjjffggaaaMg0
import Derived.Test.YtoahegjjffggaaaMg2
import Derived.Test.YtoahegjjffggaaaMg4
import Derived.Test.YtoahegjjffggaaaMg5
import Derived.Test.YtoahegjjffggaaaMg23
import Derived.Test.YtoahegjjffggaaaMg26
namespace Go.Proofs.Ytoahegjjffggaaa
open Go.RowKit Go.Rk

section
variable {a : Option Addr} {n cap : Nat} {M : List (List Int)} {w : World}
theorem bareiss_Check_is {o : Option Int} (h : RdM w a n cap M) (ho : squareR 5 (-9) 9 M = o) :
    Calls Try.prog 58 #[.slice a n cap] w fun e w' => e = .returned (errV o) ∧ w = w' := by
  have C := Lib.hid (Square_any 5 (-9) 9 h)
  rw [ho] at C
  clear ho
  go_enter Try.func58, Try.ntmps58
  go_wp2_with (go_at_call 85; refine C.out.mono ?_; rintro e w' ⟨rfl, rfl⟩)
  go_ret
  exact ⟨rfl, rfl⟩
theorem bareiss_Of_err {c : Int} (h : RdM w a n cap M) (hc : squareR 5 (-9) 9 M = some c) :
    Calls Try.prog 29 #[.slice a n cap] w fun e w' => e = .returned (.tuple #[.int .i64 0, .iface 59 (.int .i64 c)]) ∧ w = w' := by
  have C := Lib.hid (bareiss_Check_is h hc)
  clear hc
  go_enter Try.func29, Try.ntmps29
  go_wp2_with (go_at_call 58; refine C.out.mono ?_; rintro e w' ⟨rfl, rfl⟩; simp only [errV])
  go_ret2
  exact ⟨rfl, rfl⟩
theorem bareiss_Of_ok (h : RdM w a n cap M) (hc : squareR 5 (-9) 9 M = none) :
    Calls Try.prog 29 #[.slice a n cap] w fun e w' => e = .returned (.tuple #[.int .i64 (det n (mx M)), .nilIface]) ∧ Below w.heap.size w w' := by
  have C := Lib.hid (bareiss_Check_is h hc)
  obtain ⟨g1, g2, g3, g4⟩ := squareR_none hc
  have e1 := h.len_eq
  rw [e1] at g1 g2 g3 g4
  have C2 := Lib.hid (bareiss_of_any h g3 g4 g1 (by omega))
  clear hc e1 g1 g2 g3 g4
  go_enter Try.func29, Try.ntmps29
  go_wp2_with (first | (go_at_call 58; refine C.out.mono ?_; rintro e w' ⟨rfl, rfl⟩; simp only [errV]) | (go_at_call 59; refine C2.out.mono ?_; rintro e w' ⟨rfl, hb⟩))
  go_ret2
  exact ⟨rfl, hb⟩
end

/-- The determinants of the first rows and columns. -/
def leadN (M : List (List Int)) (n : Nat) : List Int := (List.range n).map fun k => det (k + 1) (mx M)
theorem leadN_succ (M : List (List Int)) (n : Nat) : leadN M (n + 1) = leadN M n ++ [det (n + 1) (mx M)] := by simp [leadN, List.range_succ]
theorem leadN_len (M : List (List Int)) (n : Nat) : (leadN M n).length = n := by simp [leadN]
theorem leadN_ix {M : List (List Int)} {n k : Nat} (h : k < n) : ix (leadN M n) k = det (k + 1) (mx M) := by rw [ix_lt (by rw [leadN_len]; exact h)]; simp [leadN]
/-- The first rows' beginnings. -/
def cornN (M : List (List Int)) (k j : Nat) : List (List Int) := (M.take j).map (·.take k)
theorem cornN_succ {M : List (List Int)} {k j : Nat} (h : j < M.length) : cornN M k (j + 1) = cornN M k j ++ [(rowOf M j).take k] := by
  unfold cornN
  rw [take_succ_row h]
  simp
theorem cornN_len {M : List (List Int)} {k j : Nat} (h : j ≤ M.length) : (cornN M k j).length = j := by simp [cornN]; omega
theorem cornN_row {M : List (List Int)} {k j i : Nat} (h : j ≤ M.length) (hi : i < j) : rowOf (cornN M k j) i = (rowOf M i).take k := by
  rw [rowOf_lt (by rw [cornN_len h]; exact hi), rowOf_lt (by omega)]
  simp [cornN]
theorem cornN_dim {M : List (List Int)} {n k : Nat} (d : Dim n M) (h : k ≤ n) : Dim k (cornN M k k) :=
  ⟨cornN_len (by rw [d.1]; exact h), fun i hi => by rw [cornN_row (by rw [d.1]; exact h) hi, List.length_take, d.2 i (by omega)]; omega⟩
theorem cornN_en {M : List (List Int)} {n k i j : Nat} (d : Dim n M) (h : k ≤ n) (hi : i < k) (hj : j < k) : en (cornN M k k) i j = en M i j := by
  unfold en
  rw [cornN_row (by rw [d.1]; exact h) hi, ix_take hj]

section
variable {a : Option Addr} {n cap : Nat} {M : List (List Int)} {w : World}
end
end Go.Proofs.Ytoahegjjffggaaa
namespace Go.Proofs.Ytoahegjjffggaaa
open Go.RowKit Go.Rk

theorem det22 (x y z u : Int) : det 2 (mx [[x, y], [z, u]]) = x * u - y * z := by
  have h2 : ∀ B : Mx, det 1 B = B 0 0 := fun B => by simp [det, sg, sumTo]
  have e0 : sg 0 = 1 := by decide
  have e1 : sg 1 = -1 := by decide
  show 0 + sg 0 * x * det 1 (minor (mx [[x, y], [z, u]]) 0 0) + sg 1 * y * det 1 (minor (mx [[x, y], [z, u]]) 0 1) = _
  rw [h2, h2, e0, e1]
  show 0 + 1 * x * u + -1 * y * z = _
  grind
theorem real_nR {a b c : Int} (h : -20 ≤ a * c - b * b ∧ a * c - b * b ≤ 20) (ha : -9 ≤ a ∧ a ≤ 9) (hc : -9 ≤ c ∧ c ≤ 9) : wholeR [a * c - b * b, -a - c, 1] = none ∧ nR [a * c - b * b, -a - c, 1] = if a = c ∧ b = 0 then 1 else 2 := by
  refine ⟨wholeR_ok (by simp) (by simp) (in_3 h (by omega) (by decide)) (by show (1 : Int) ≠ 0; decide), ?_⟩
  have e : (-a - c) * (-a - c) - 4 * 1 * (a * c - b * b) = (a - c) * (a - c) + 4 * (b * b) := by grind
  rw [nR, e]
  have h1 := sq_nn (a - c)
  have h2 := sq_nn b
  by_cases hh : a = c ∧ b = 0
  · rw [if_pos hh, hh.1, hh.2, Int.sub_self]
    rfl
  · rw [if_neg hh, if_pos]
    by_cases h3 : a = c
    · have := sqz_pos (show b ≠ 0 from fun q => hh ⟨h3, q⟩)
      omega
    · have := sqz_pos (show a - c ≠ 0 by omega)
      omega
theorem real_square {a b c : Int} (ha : -9 ≤ a ∧ a ≤ 9) (hb : -4 ≤ b ∧ b ≤ 4) (hc : -9 ≤ c ∧ c ≤ 9) : squareR 5 (-9) 9 [[a, b], [b, c]] = none := by
  refine squareR_of (n := 2) (by decide) (by decide) ⟨rfl, fun k hk => ?_⟩ fun i j hi hj => ?_
  · match k, hk with
    | 0, _ => rfl
    | 1, _ => rfl
  · match i, j, hi, hj with
    | 0, 0, _, _ => exact ha
    | 0, 1, _, _ => show -9 ≤ b ∧ b ≤ 9; omega
    | 1, 0, _, _ => show -9 ≤ b ∧ b ≤ 9; omega
    | 1, 1, _, _ => exact hc
theorem real_out {d e : Int} (h : ¬ (-20 ≤ d ∧ d ≤ 20)) : wholeR [d, e, 1] = some 1 := by
  unfold wholeR
  rw [if_neg (by simp), if_neg (by simp), if_pos]
  rcases hb : anyB (-20) 20 [d, e, 1] with _ | _
  · exact absurd (in_of_any hb 0 (by simp)) h
  · rfl
set_option maxHeartbeats 4000000 in
set_option maxRecDepth 100000 in
theorem topReal_walk {a b c : Int} {w : World} (_ : (Lit.int .i64 a).wf = true) (_ : (Lit.int .i64 b).wf = true) (_ : (Lit.int .i64 c).wf = true) :
    Calls Try.prog 10 #[.int .i64 a, .int .i64 b, .int .i64 c] w fun e w' => e = .returned (.bool true) ∧ Below w.heap.size w w' := by
  have b0 := Below.refl w.heap.size w
  have I1 := T_in_any a (-9) 9
  have I2 := T_in_any b (-4) 4
  have I3 := T_in_any c (-9) 9
  go_enter Try.func10, Try.ntmps10
  go_wp2_with (go_at_call 22; fail)
  have r1 : RdI (w.alloc (.cells #[.int .i64 0, .int .i64 1] 3)) (some ⟨w.heap.size, 0, none⟩) 2 2 [0, 1] := RdI.lit w [0, 1] _ (by decide)
  refine (sturm_All_nR r1 (by decide)).mono ?_
  rintro e w1 ⟨rfl, c1⟩
  have k1 := below_tr (below_al b0 _) c1
  have e1 : nR [0, 1] = 1 := rfl
  rw [e1]
  clear r1 c1 e1
  by_cases h : (-9 ≤ a ∧ a ≤ 9) ∧ (-4 ≤ b ∧ b ≤ 4) ∧ (-9 ≤ c ∧ c ≤ 9)
  rotate_left
  · rcases h1 : inB a (-9) 9 with _ | _
    · rw [h1] at I1
      have I1 := Lib.hid I1
      clear h h1 I2 I3
      go_wp2_with (go_at_call 28; (with_reducible refine (I1.out _).mono ?_); clear I1; rintro e w' ⟨rfl, rfl⟩)
      go_ret
      exact ⟨rfl, k1⟩
    · rcases h2 : inB b (-4) 4 with _ | _
      · rw [h1] at I1
        rw [h2] at I2
        have I1 := Lib.hid I1
        have I2 := Lib.hid I2
        clear h h1 h2 I3
        go_wp2_with (go_at_call 28; first | ((with_reducible refine (I1.out _).mono ?_); clear I1; rintro e w' ⟨rfl, rfl⟩) | ((with_reducible refine (I2.out _).mono ?_); clear I2; rintro e w' ⟨rfl, rfl⟩))
        go_ret
        exact ⟨rfl, k1⟩
      · have h3 : inB c (-9) 9 = false := by
          rcases h3 : inB c (-9) 9 with _ | _
          · rfl
          · exact absurd ⟨inB_true h1, inB_true h2, inB_true h3⟩ h
        rw [h1] at I1
        rw [h2] at I2
        rw [h3] at I3
        have I1 := Lib.hid I1
        have I2 := Lib.hid I2
        have I3 := Lib.hid I3
        clear h h1 h2 h3
        go_wp2_with (go_at_call 28; first | ((with_reducible refine (I1.out _).mono ?_); clear I1; rintro e w' ⟨rfl, rfl⟩) | ((with_reducible refine (I2.out _).mono ?_); clear I2; rintro e w' ⟨rfl, rfl⟩) | ((with_reducible refine (I3.out _).mono ?_); clear I3; rintro e w' ⟨rfl, rfl⟩))
        go_ret
        exact ⟨rfl, k1⟩
  obtain ⟨ha, hb, hc⟩ := h
  have t1 : inB a (-9) 9 = true := by unfold inB; simp; omega
  have t2 : inB b (-4) 4 = true := by unfold inB; simp; omega
  have t3 : inB c (-9) 9 = true := by unfold inB; simp; omega
  rw [t1] at I1
  rw [t2] at I2
  rw [t3] at I3
  have I1 := Lib.hid I1
  have I2 := Lib.hid I2
  have I3 := Lib.hid I3
  have HSq := Lib.hid (real_square ha hb hc)
  have HDt := Lib.hid (det22 a b b c)
  clear t1 t2 t3
  go_wp2_with (first | (go_at_call 28; first | ((with_reducible refine (I1.out _).mono ?_); clear I1; rintro e w' ⟨rfl, rfl⟩) | ((with_reducible refine (I2.out _).mono ?_); clear I2; rintro e w' ⟨rfl, rfl⟩) | ((with_reducible refine (I3.out _).mono ?_); clear I3; rintro e w' ⟨rfl, rfl⟩)) | (go_at_call 29; fail))
  refine (bareiss_Of_ok (n := 2) (M := [[a, b], [b, c]]) (rd22 (p := w1.heap.size) (q := w1.heap.size + 1) ?_ ?_ ?_ ?_ ?_ ?_) HSq.out).mono ?main
  case main =>
    rintro e w2 ⟨rfl, c2⟩
    have k2 := below_tr k1 (below_tr (below_al (below_al (below_al (Below.refl _ w1) _) _) _) c2)
    rw [HDt.out]
    clear c2 HSq HDt
    have pac := prod_bd' ha hc
    have pbb := prod_bd' hb hb
    have HA : Hid (-9 ≤ a ∧ a ≤ 9) := ha
    have HC : Hid (-9 ≤ c ∧ c ≤ 9) := hc
    have u1 : IntKind.i64.wrap (a * c) = a * c := Go.IntWalk.i64_in _ (by omega)
    have u2 : IntKind.i64.wrap (b * b) = b * b := Go.IntWalk.i64_in _ (by omega)
    have u3 : IntKind.i64.wrap (a * c - b * b) = a * c - b * b := Go.IntWalk.i64_in _ (by omega)
    have z0 : (a * c - b * b != a * c - b * b) = false := bne_eq_false_iff_eq.2 rfl
    go_wp2_with (go_at_call 22; fail)
    have r2 : RdI (w2.alloc (.cells #[.int .i64 (a * c - b * b), .int .i64 (-a - c), .int .i64 1] 3)) (some ⟨w2.heap.size, 0, none⟩) 3 3 [a * c - b * b, -a - c, 1] := RdI.lit w2 [a * c - b * b, -a - c, 1] _ (by simp; decide)
    have b2 := below_al k2 (.cells #[.int .i64 (a * c - b * b), .int .i64 (-a - c), .int .i64 1] 3)
    by_cases hd : -20 ≤ a * c - b * b ∧ a * c - b * b ≤ 20
    · obtain ⟨d1, d2⟩ := real_nR hd HA.out HC.out
      refine (sturm_All_nR r2 d1).mono ?_
      rintro e w3 ⟨rfl, c3⟩
      have k3 := below_tr b2 c3
      rw [d2]
      clear d1 d2 r2 c3
      by_cases h1 : a = c
      · have z1 : (a == c) = true := beq_iff_eq.2 h1
        by_cases h2 : b = 0
        · have z2 : (b == 0) = true := beq_iff_eq.2 h2
          rw [if_pos ⟨h1, h2⟩]
          clear h1 h2
          go_wp2
          go_ret
          exact ⟨rfl, k3⟩
        · have z2 : (b == 0) = false := beq_eq_false_iff_ne.2 h2
          rw [if_neg (fun q => h2 q.2)]
          clear h1 h2
          go_wp2
          go_ret
          exact ⟨rfl, k3⟩
      · have z1 : (a == c) = false := beq_eq_false_iff_ne.2 h1
        rw [if_neg (fun q => h1 q.1)]
        clear h1
        go_wp2
        go_ret
        exact ⟨rfl, k3⟩
    · have hI : inB (a * c - b * b) (-20) 20 = false := by
        unfold inB; simp only [Bool.and_eq_false_iff, decide_eq_false_iff_not]; omega
      have ID := T_in_any (a * c - b * b) (-20) 20
      rw [hI] at ID
      have ID := Lib.hid ID
      refine (sturm_All_err r2 (real_out hd)).mono ?_
      rintro e w3 ⟨rfl, rfl⟩
      clear hd hI r2
      go_wp2_with (go_at_call 28; (with_reducible refine (ID.out _).mono ?_); rintro e w' ⟨rfl, rfl⟩)
      go_ret
      exact ⟨rfl, b2⟩
  all_goals simp [go_sem]
end Go.Proofs.Ytoahegjjffggaaa
