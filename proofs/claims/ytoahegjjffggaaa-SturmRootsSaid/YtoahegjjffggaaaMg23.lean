/-
  Package sturm walked: Check, All, Count, Turns and Content.
  The closed fact of the statements on whole factors.
  SturmParts walked: part by part there are as many, and never more than the power.
-/
import Derived.Test.YtoahegjjffggaaaRows
import Derived.Test.YtoahegjjffggaaaMg0
import Derived.Test.YtoahegjjffggaaaMg1
import Derived.Test.YtoahegjjffggaaaMg2
import Derived.Test.YtoahegjjffggaaaMg19
import Derived.Test.YtoahegjjffggaaaMg21
import Derived.Test.YtoahegjjffggaaaMg22
namespace Go.Rk
open Go.RowKit Go.Proofs.Ytoahegjjffggaaa

/-- What is wrong with whole factors. -/
def wholeR (f : List Int) : Option Int := if f.length = 0 then some 5 else if 4 < f.length then some 4 else if anyB (-20) 20 f = true then some 1 else if topL f = 0 then some 3 else none
theorem wholeR_none {f : List Int} (h : wholeR f = none) : 1 ≤ f.length ∧ f.length ≤ 4 ∧ In (-20) 20 f ∧ topL f ≠ 0 := by
  unfold wholeR at h
  split at h
  · cases h
  · split at h
    · cases h
    · split at h
      · cases h
      · split at h
        · cases h
        · rename_i h1 h2 h3 h4
          exact ⟨by omega, by omega, in_of_any (by simpa using h3), h4⟩
theorem wholeR_ok {f : List Int} (h1 : 1 ≤ f.length) (h4 : f.length ≤ 4) (hi : In (-20) 20 f) (ht : topL f ≠ 0) : wholeR f = none := by
  unfold wholeR
  rw [if_neg (by omega), if_neg (by omega), any_of_in hi, if_neg (by simp), if_neg ht]
theorem Simp.fit {f : List Int} {L : List (List Int)} (h : Simp f L) : FitL L := by
  cases h with
  | same _ h => exact h
  | cut _ _ _ _ _ h _ => exact h
theorem chF_len : ∀ (k : Nat) (a b : List Int), (chF k a b).length ≤ k
  | 0, _, _ => Nat.le_refl _
  | k + 1, a, b => by
    rw [chF]
    split
    · exact Nat.zero_le _
    · have := chF_len k b (negL (restL a b))
      rw [List.length_cons]; omega
theorem chainL_len_le (f : List Int) : (chainL f).length ≤ f.length + 1 := by
  have := chF_len f.length (plainL f) (slopeL f)
  unfold chainL
  rw [List.length_cons]; omega
theorem Simp.len {f : List Int} {L : List (List Int)} (h : Simp f L) (h4 : f.length ≤ 4) : L.length ≤ 5 := by
  cases h with
  | same _ _ => have := chainL_len_le f; omega
  | cut h h2 _ hQ _ _ _ =>
    have := chainL_len_le h
    have := hQ.len
    have := plainL_len_le f
    omega
theorem chg_le : ∀ (l : List Int) (s : Int), chg s l ≤ l.length
  | [], _ => Nat.le_refl _
  | x :: l, s => by
    have h1 := chg_le l s
    have h2 := chg_le l x
    rw [chg, List.length_cons]
    split
    · omega
    · split <;> omega
theorem changesL_le (l : List Int) : changesL l ≤ l.length := chg_le l 0
end Go.Rk
namespace Go.Proofs.Ytoahegjjffggaaa
open Go.RowKit Go.Rk

section
variable {a : Option Addr} {n ca : Nat} {f : List Int} {w : World}
theorem sturm_Check_any (hf : RdI w a n ca f) :
    Calls Try.prog 53 #[.slice a n ca] w fun e w' => e = .returned (errV (wholeR f)) ∧ w = w' := by
  have E := Lib.hid hf.len_eq
  have hmx := hf.len_max
  have C := any_any a n ca f (-20) 20 w hf
  by_cases h0 : n = 0
  · subst h0
    have HE : Hid (wholeR f = some 5) := by unfold Hid wholeR; rw [if_pos E.out]
    go_enter Try.func53, Try.ntmps53
    go_wp2
    go_ret
    rw [HE.out]
    exact ⟨rfl, rfl⟩
  have z0 : ((n : Int) == 0) = false := beq_eq_false_iff_ne.2 (by omega)
  by_cases h4 : 4 < n
  · have i4 : (4 : Int) < (n : Int) := by omega
    have HE : Hid (wholeR f = some 4) := by unfold Hid wholeR; rw [if_neg (by rw [E.out]; exact h0), if_pos (by rw [E.out]; exact h4)]
    clear h0
    go_enter Try.func53, Try.ntmps53
    go_wp2
    go_ret
    rw [HE.out]
    exact ⟨rfl, rfl⟩
  have i4 : (n : Int) ≤ 4 := by omega
  rcases hb : anyB (-20) 20 f with _ | _
  rotate_left
  · have HE : Hid (wholeR f = some 1) := by unfold Hid wholeR; rw [if_neg (by rw [E.out]; exact h0), if_neg (by rw [E.out]; exact h4), if_pos hb]
    rw [hb] at C
    have C := Lib.hid C
    clear h0 hb
    go_enter Try.func53, Try.ntmps53
    go_wp2_with (first | (go_at_call 68; (with_reducible refine C.out.mono ?_); rintro e w' ⟨rfl, rfl⟩))
    go_ret
    rw [HE.out]
    exact ⟨rfl, rfl⟩
  obtain ⟨q, rfl⟩ : ∃ q, n = q + 1 := ⟨n - 1, by omega⟩
  obtain ⟨bf, of_, rfl, _, hc⟩ := hf.at (k := q) (by omega)
  have y1 := hc q (by omega)
  have eT : topL f = ix f q := by unfold topL; rw [E.out]; rfl
  obtain ⟨T, hT⟩ : ∃ T, ix f q = T := ⟨_, rfl⟩
  rw [hT] at y1 eT
  have t1 : ((q + 1 : Nat) : Int) - 1 = (q : Int) := by omega
  have t2 : ((q : Int) + 1) - 1 = (q : Int) := by omega
  have i5 : (q : Int) < ((q + 1 : Nat) : Int) := by omega
  have i6 : (q : Int) < (q : Int) + 1 := by omega
  rw [hb] at C
  have C := Lib.hid C
  by_cases hz : T = 0
  · have HE : Hid (wholeR f = some 3) := by unfold Hid wholeR; rw [if_neg (by rw [E.out]; exact h0), if_neg (by rw [E.out]; exact h4), if_neg (by rw [hb]; simp), if_pos (by rw [eT]; exact hz)]
    have z : (T == 0) = true := beq_iff_eq.2 hz
    clear h0 hb hz eT hT hc
    go_enter Try.func53, Try.ntmps53
    go_wp2_with (first | (go_at_call 68; (with_reducible refine C.out.mono ?_); rintro e w' ⟨rfl, rfl⟩))
    go_ret
    rw [HE.out]
    exact ⟨rfl, rfl⟩
  · have HE : Hid (wholeR f = none) := by unfold Hid wholeR; rw [if_neg (by rw [E.out]; exact h0), if_neg (by rw [E.out]; exact h4), if_neg (by rw [hb]; simp), if_neg (by rw [eT]; exact hz)]
    have z : (T == 0) = false := beq_eq_false_iff_ne.2 hz
    clear h0 hb hz eT hT hc
    go_enter Try.func53, Try.ntmps53
    go_wp2_with (first | (go_at_call 68; (with_reducible refine C.out.mono ?_); rintro e w' ⟨rfl, rfl⟩))
    go_ret
    rw [HE.out]
    exact ⟨rfl, rfl⟩
theorem sturm_Check_is {o : Option Int} (hf : RdI w a n ca f) (ho : wholeR f = o) :
    Calls Try.prog 53 #[.slice a n ca] w fun e w' => e = .returned (errV o) ∧ w = w' := by
  rw [← ho]; exact sturm_Check_any hf
theorem sturm_All_err {x : Int} (hf : RdI w a n ca f) (ho : wholeR f = some x) :
    Calls Try.prog 22 #[.slice a n ca] w fun e w' => e = .returned (.tuple #[.int .i64 0, .iface 59 (.int .i64 x)]) ∧ w = w' := by
  have C := Lib.hid (sturm_Check_is hf ho)
  clear ho
  go_enter Try.func22, Try.ntmps22
  go_wp2_with (first | (go_at_call 53; (with_reducible refine C.out.mono ?_); rintro e w' ⟨rfl, rfl⟩; simp only [errV]))
  go_ret2
  exact ⟨rfl, rfl⟩
theorem far_lo (L : List (List Int)) : L.map (farT (-1)) = L.map lowT := List.map_congr_left fun x _ => by unfold farT; rw [if_pos (by decide)]
theorem far_hi (L : List (List Int)) : L.map (farT 1) = L.map topL := List.map_congr_left fun x _ => by unfold farT; rw [if_neg (by decide)]
set_option maxHeartbeats 2000000 in
theorem sturm_All_ok {L : List (List Int)} (hf : RdI w a n ca f) (ho : wholeR f = none) (hS : Simp f L) :
    Calls Try.prog 22 #[.slice a n ca] w fun e w' => e = .returned (.tuple #[.int .i64 ((loL L : Int) - (hiL L : Int)), .nilIface]) ∧ Below w.heap.size w w' := by
  have C := Lib.hid (sturm_Check_is hf ho)
  obtain ⟨h1, h4, hi, _⟩ := wholeR_none ho
  rw [hf.len_eq] at h1 h4
  have HI : Hid (In (-1000000) 1000000 f) := fun k hk => by have := hi k hk; omega
  have HS := Lib.hid hS
  have HF := Lib.hid hS.fit.row
  clear ho hi hS
  go_enter Try.func22, Try.ntmps22
  go_wp2_with (first | (go_at_call 53; (with_reducible refine C.out.mono ?_); rintro e w' ⟨rfl, rfl⟩; simp only [errV]) | (go_at_call 54; fail))
  refine (simple_any hf HI.out HS.out h1 h4).mono ?_
  clear C
  rintro e w1 ⟨a1, c1, rfl, hL, b1⟩
  have lm := hL.len_max
  have ln4 : Hid (L.length ≤ 1000) := by have := HS.out.len (by rw [hf.len_eq]; exact h4); unfold Hid; omega
  go_wp2_with (go_at_call 56; fail)
  refine (far_any hL HF.out ln4.out).mono ?_
  rintro e w2 ⟨a2, c2, rfl, ho2, b2⟩
  have k2 := below_tr b1 b2
  have hL2 := hL.below b2
  rw [far_lo] at ho2
  go_wp2_with (go_at_call 55; fail)
  refine (changes_any ho2.rd).mono ?_
  rintro e w' ⟨rfl, rfl⟩
  go_wp2_with (go_at_call 56; fail)
  refine (far_any hL2 HF.out ln4.out).mono ?_
  rintro e w3 ⟨a3, c3, rfl, ho3, b3⟩
  have k3 := below_tr k2 b3
  rw [far_hi] at ho3
  go_wp2_with (go_at_call 55; fail)
  refine (changes_any ho3.rd).mono ?_
  rintro e w' ⟨rfl, rfl⟩
  have e1 : changesL (L.map lowT) = loL L := rfl
  have e2 : changesL (L.map topL) = hiL L := rfl
  have c1 := changesL_le (L.map lowT)
  have c2 := changesL_le (L.map topL)
  rw [List.length_map] at c1 c2
  rw [e1] at c1
  rw [e2] at c2
  rw [e1, e2]
  have u1 : IntKind.i64.wrap ((loL L : Int) - (hiL L : Int)) = (loL L : Int) - (hiL L : Int) := Go.IntWalk.i64_in _ (by omega)
  clear e1 e2
  go_wp2
  go_ret2
  exact ⟨rfl, k3⟩
theorem sturm_Turns_err {x : Int} (hf : RdI w a n ca f) (ho : wholeR f = some x) :
    Calls Try.prog 27 #[.slice a n ca] w fun e w' => e = .returned (.tuple #[.int .i64 0, .iface 59 (.int .i64 x)]) ∧ w = w' := by
  have C := Lib.hid (sturm_Check_is hf ho)
  clear ho
  go_enter Try.func27, Try.ntmps27
  go_wp2_with (first | (go_at_call 53; (with_reducible refine C.out.mono ?_); rintro e w' ⟨rfl, rfl⟩; simp only [errV]))
  go_ret2
  exact ⟨rfl, rfl⟩
theorem sturm_Turns_ok (hf : RdI w a n ca f) (ho : wholeR f = none) :
    Calls Try.prog 27 #[.slice a n ca] w fun e w' => e = .returned (.tuple #[.int .i64 (changesL f : Int), .nilIface]) ∧ w = w' := by
  have C := Lib.hid (sturm_Check_is hf ho)
  have C2 := Lib.hid (changes_any hf)
  clear ho
  go_enter Try.func27, Try.ntmps27
  go_wp2_with (first | (go_at_call 53; (with_reducible refine C.out.mono ?_); rintro e w' ⟨rfl, rfl⟩; simp only [errV]) | (go_at_call 55; (with_reducible refine C2.out.mono ?_); rintro e w' ⟨rfl, rfl⟩))
  go_ret2
  exact ⟨rfl, rfl⟩
theorem sturm_Count_err {x from_ to_ : Int} (hf : RdI w a n ca f) (ho : wholeR f = some x) :
    Calls Try.prog 24 #[.slice a n ca, .int .i64 from_, .int .i64 to_] w fun e w' => e = .returned (.tuple #[.int .i64 0, .iface 59 (.int .i64 x)]) ∧ w = w' := by
  have C := Lib.hid (sturm_Check_is hf ho)
  clear ho
  go_enter Try.func24, Try.ntmps24
  go_wp2_with (first | (go_at_call 53; (with_reducible refine C.out.mono ?_); rintro e w' ⟨rfl, rfl⟩; simp only [errV]))
  go_ret2
  exact ⟨rfl, rfl⟩
/-- Two numbers that Count takes. -/
def InR (x y : Int) : Prop := -100 ≤ x ∧ x ≤ 100 ∧ x ≤ y ∧ y ≤ 100
theorem sturm_Count_out {from_ to_ : Int} (hf : RdI w a n ca f) (ho : wholeR f = none) (hr : ¬ InR from_ to_) :
    Calls Try.prog 24 #[.slice a n ca, .int .i64 from_, .int .i64 to_] w fun e w' => e = .returned (.tuple #[.int .i64 0, .iface 59 (.int .i64 1)]) ∧ w = w' := by
  have C := Lib.hid (sturm_Check_is hf ho)
  clear ho
  have C1 := out_any from_ (-100) 100 w
  have C2 := out_any to_ from_ 100 w
  rcases h1 : outB from_ (-100) 100 with _ | _
  · have h2 : outB to_ from_ 100 = true := by
      unfold InR at hr
      unfold outB at h1 ⊢
      simp at h1 ⊢
      omega
    rw [h1] at C1
    rw [h2] at C2
    have C1 := Lib.hid C1
    have C2 := Lib.hid C2
    clear h1 h2 hr
    go_enter Try.func24, Try.ntmps24
    go_wp2_with (first | (go_at_call 53; (with_reducible refine C.out.mono ?_); rintro e w' ⟨rfl, rfl⟩; simp only [errV]) | (go_at_call 50; first | ((with_reducible refine C1.out.mono ?_); clear C1; rintro e w' ⟨rfl, rfl⟩) | ((with_reducible refine C2.out.mono ?_); clear C2; rintro e w' ⟨rfl, rfl⟩)))
    go_ret2
    exact ⟨rfl, rfl⟩
  · rw [h1] at C1
    have C1 := Lib.hid C1
    clear h1 hr C2
    go_enter Try.func24, Try.ntmps24
    go_wp2_with (first | (go_at_call 53; (with_reducible refine C.out.mono ?_); rintro e w' ⟨rfl, rfl⟩; simp only [errV]) | (go_at_call 50; (with_reducible refine C1.out.mono ?_); clear C1; rintro e w' ⟨rfl, rfl⟩))
    go_ret2
    exact ⟨rfl, rfl⟩
set_option maxHeartbeats 2000000 in
theorem sturm_Count_ok {L : List (List Int)} {from_ to_ : Int} (hf : RdI w a n ca f) (ho : wholeR f = none) (hr : InR from_ to_) (hS : Simp f L) :
    Calls Try.prog 24 #[.slice a n ca, .int .i64 from_, .int .i64 to_] w fun e w' => e = .returned (.tuple #[.int .i64 ((VL L from_ : Int) - (VL L to_ : Int)), .nilIface]) ∧ Below w.heap.size w w' := by
  have C := Lib.hid (sturm_Check_is hf ho)
  obtain ⟨h1, h4, hi, _⟩ := wholeR_none ho
  rw [hf.len_eq] at h1 h4
  have HI : Hid (In (-1000000) 1000000 f) := fun k hk => by have := hi k hk; omega
  have HS := Lib.hid hS
  have HF : Hid (∀ i, i < L.length → (rowOf L i).length ≤ 4 ∧ In (-1000000) 1000000 (rowOf L i)) := fun i hi => (hS.fit.row i hi).2
  have ln4 : Hid (L.length ≤ 1000) := by have := HS.out.len (by rw [hf.len_eq]; exact h4); unfold Hid; omega
  obtain ⟨r1, r2, r3, r4⟩ := hr
  have C1 := out_any from_ (-100) 100 w
  have C2 := out_any to_ from_ 100 w
  rw [show outB from_ (-100) 100 = false by unfold outB; simp; omega] at C1
  rw [show outB to_ from_ 100 = false by unfold outB; simp; omega] at C2
  have C1 := Lib.hid C1
  have C2 := Lib.hid C2
  clear ho hi hS
  go_enter Try.func24, Try.ntmps24
  go_wp2_with (first | (go_at_call 53; (with_reducible refine C.out.mono ?_); rintro e w' ⟨rfl, rfl⟩; simp only [errV]) | (go_at_call 50; first | ((with_reducible refine C1.out.mono ?_); clear C1; rintro e w' ⟨rfl, rfl⟩) | ((with_reducible refine C2.out.mono ?_); clear C2; rintro e w' ⟨rfl, rfl⟩)) | (go_at_call 54; fail))
  refine (simple_any hf HI.out HS.out h1 h4).mono ?_
  clear C
  rintro e w1 ⟨a1, c1, rfl, hL, b1⟩
  have lm := hL.len_max
  go_wp2_with (go_at_call 57; fail)
  refine (sturm_at_any hL HF.out ln4.out (x := from_) (by omega)).mono ?_
  rintro e w2 ⟨a2, c2, rfl, ho2, b2⟩
  have k2 := below_tr b1 b2
  have hL2 := hL.below b2
  go_wp2_with (go_at_call 55; fail)
  refine (changes_any ho2.rd).mono ?_
  rintro e w' ⟨rfl, rfl⟩
  go_wp2_with (go_at_call 57; fail)
  refine (sturm_at_any hL2 HF.out ln4.out (x := to_) (by omega)).mono ?_
  rintro e w3 ⟨a3, c3, rfl, ho3, b3⟩
  have k3 := below_tr k2 b3
  go_wp2_with (go_at_call 55; fail)
  refine (changes_any ho3.rd).mono ?_
  rintro e w' ⟨rfl, rfl⟩
  have e1 : changesL (L.map fun p => evL p from_) = VL L from_ := rfl
  have e2 : changesL (L.map fun p => evL p to_) = VL L to_ := rfl
  have c1 := changesL_le (L.map fun p => evL p from_)
  have c2 := changesL_le (L.map fun p => evL p to_)
  rw [List.length_map] at c1 c2
  rw [e1] at c1
  rw [e2] at c2
  rw [e1, e2]
  have u1 : IntKind.i64.wrap ((VL L from_ : Int) - (VL L to_ : Int)) = (VL L from_ : Int) - (VL L to_ : Int) := Go.IntWalk.i64_in _ (by omega)
  clear e1 e2
  go_wp2
  go_ret2
  exact ⟨rfl, k3⟩
end
end Go.Proofs.Ytoahegjjffggaaa
namespace Go.Proofs.Ytoahegjjffggaaa
open Go.RowKit Go.Rk

section
variable {a : Option Addr} {n ca : Nat} {f : List Int} {w : World}
/-- All of what passes: how many there are. -/
theorem sturm_All_nR (hf : RdI w a n ca f) (ho : wholeR f = none) :
    Calls Try.prog 22 #[.slice a n ca] w fun e w' => e = .returned (.tuple #[.int .i64 (nR f : Int), .nilIface]) ∧ Below w.heap.size w w' := by
  obtain ⟨h1, h4, hi, ht⟩ := wholeR_none ho
  obtain ⟨L, hS, hT⟩ := simp_stm h1 h4 hi ht
  refine (sturm_All_ok hf ho hS).mono ?_
  rintro e w' ⟨rfl, hb⟩
  exact ⟨by rw [hT.tot, show ((hiL L + nR f : Nat) : Int) - (hiL L : Int) = (nR f : Int) by omega], hb⟩
set_option maxHeartbeats 2000000 in
theorem sturmFact_any (w : World) : Calls Try.prog 21 #[] w fun e w' => e = .returned (.bool true) ∧ Below w.heap.size w w' := by
  have b0 := Below.refl w.heap.size w
  obtain ⟨L, hS, hT⟩ := simp_stm (f := [-2, 0, 1]) (by decide) (by decide) (in_3 (by decide) (by decide) (by decide)) (by decide)
  have hV : (VL L 0 : Int) - (VL L 2 : Int) = 1 := by
    have h1 := hT.cross 0 2 (by decide) (by decide)
    have h2 := hT.desc
    have h3 := hT.low 2
    have h4 : changesL [-2, 0, 1] = 1 := by decide
    omega
  have HS := Lib.hid hS
  have HV := Lib.hid hV
  clear hS hT hV
  go_enter Try.func21, Try.ntmps21
  go_wp2_with (go_at_call 22; fail)
  have r1 : RdI (w.alloc (.cells #[.int .i64 (-2), .int .i64 0, .int .i64 1] 3)) (some ⟨w.heap.size, 0, none⟩) 3 3 [-2, 0, 1] := RdI.lit w [-2, 0, 1] _ (by decide)
  refine (sturm_All_nR r1 (by decide)).mono ?_
  rintro e w1 ⟨rfl, c1⟩
  have k1 := below_tr (below_al b0 _) c1
  have e1 : nR [-2, 0, 1] = 2 := by decide
  rw [e1]
  clear r1 c1 e1
  go_wp2_with (go_at_call 24; fail)
  have r2 : RdI (w1.alloc (.cells #[.int .i64 (-2), .int .i64 0, .int .i64 1] 3)) (some ⟨w1.heap.size, 0, none⟩) 3 3 [-2, 0, 1] := RdI.lit w1 [-2, 0, 1] _ (by decide)
  refine (sturm_Count_ok r2 (by decide) (show InR 0 2 by unfold InR; decide) HS.out).mono ?_
  rintro e w2 ⟨rfl, c2⟩
  have k2 := below_tr (below_al k1 _) c2
  rw [HV.out]
  clear r2 c2
  go_wp2_with (go_at_call 22; fail)
  have r3 : RdI (w2.alloc (.cells #[.int .i64 1, .int .i64 2, .int .i64 1] 3)) (some ⟨w2.heap.size, 0, none⟩) 3 3 [1, 2, 1] := RdI.lit w2 [1, 2, 1] _ (by decide)
  refine (sturm_All_nR r3 (by decide)).mono ?_
  rintro e w3 ⟨rfl, c3⟩
  have k3 := below_tr (below_al k2 _) c3
  have e1 : nR [1, 2, 1] = 1 := by decide
  rw [e1]
  clear r3 c3 e1
  go_wp2
  go_ret
  exact ⟨rfl, k3⟩
end
end Go.Proofs.Ytoahegjjffggaaa
namespace Go.Proofs.Ytoahegjjffggaaa
open Go.RowKit Go.Rk

theorem nR_lt {f : List Int} (h : 1 ≤ f.length) : nR f < f.length := by
  unfold nR
  split
  · simp
  · split
    · simp
    · split <;> simp
  · split
    · simp
    · split <;> simp
  · omega
set_option maxHeartbeats 4000000 in
theorem sturmParts_walk {p : Option Addr} {n ca : Nat} {f : List Int} {a b c : Int} {w : World} (hf : RdI w p n ca f) (_ : Fit f) (_ : (Lit.int .i64 a).wf = true) (_ : (Lit.int .i64 b).wf = true) (_ : (Lit.int .i64 c).wf = true) :
    Calls Try.prog 7 #[.slice p n ca, .int .i64 a, .int .i64 b, .int .i64 c] w fun e w' => e = .returned (.bool true) ∧ Below w.heap.size w w' := by
  go_enter Try.func7, Try.ntmps7
  go_wp2_with (go_at_call 21; fail)
  refine (sturmFact_any w).mono ?_
  rintro e w1 ⟨rfl, k1⟩
  go_wp2_with (go_at_call 22; fail)
  rcases ho : wholeR f with _ | x
  rotate_left
  · refine (sturm_All_err (hf.below k1) ho).mono ?_
    rintro e w2 ⟨rfl, rfl⟩
    clear ho
    go_wp2
    go_ret
    exact ⟨rfl, k1⟩
  obtain ⟨h1, h4, hi, ht⟩ := wholeR_none ho
  obtain ⟨L, hS, hT⟩ := simp_stm h1 h4 hi ht
  have hn := nR_lt h1
  rw [hf.len_eq] at hn
  have HO := Lib.hid ho
  have HS := Lib.hid hS
  have HT := Lib.hid hT
  refine (sturm_All_nR (hf.below k1) ho).mono ?_
  rintro e w2 ⟨rfl, b2⟩
  have k2 := below_tr k1 b2
  obtain ⟨m, hm⟩ : ∃ m, nR f = m := ⟨_, rfl⟩
  rw [hm] at hn
  simp only [hm]
  have HM := Lib.hid hm
  have i1 : (0 : Int) ≤ (m : Int) := by omega
  have i2 : (m : Int) < (n : Int) := by omega
  clear ho hi ht hS hT hm h1 h4
  go_wp2_with (go_at_call 24; fail)
  by_cases r1 : InR a b
  rotate_left
  · refine (sturm_Count_out (hf.below k2) HO.out r1).mono ?_
    rintro e w3 ⟨rfl, rfl⟩
    go_wp2_with (go_at_call 24; fail)
    by_cases r2 : InR b c
    · refine (sturm_Count_ok (hf.below k2) HO.out r2 HS.out).mono ?_
      rintro e w3 ⟨rfl, b3⟩
      have k3 := below_tr k2 b3
      go_wp2
      go_ret
      exact ⟨rfl, k3⟩
    · refine (sturm_Count_out (hf.below k2) HO.out r2).mono ?_
      rintro e w3 ⟨rfl, rfl⟩
      go_wp2
      go_ret
      exact ⟨rfl, k2⟩
  refine (sturm_Count_ok (hf.below k2) HO.out r1 HS.out).mono ?_
  rintro e w3 ⟨rfl, b3⟩
  have k3 := below_tr k2 b3
  clear b3 b2
  go_wp2_with (go_at_call 24; fail)
  by_cases r2 : InR b c
  rotate_left
  · refine (sturm_Count_out (hf.below k3) HO.out r2).mono ?_
    rintro e w4 ⟨rfl, rfl⟩
    go_wp2
    go_ret
    exact ⟨rfl, k3⟩
  refine (sturm_Count_ok (hf.below k3) HO.out r2 HS.out).mono ?_
  rintro e w4 ⟨rfl, b4⟩
  have k4 := below_tr k3 b4
  clear b4
  have r3 : InR a c := by unfold InR at *; omega
  have m1 := HT.out.mono a b r1.2.2.1
  have m2 := HT.out.mono b c r2.2.2.1
  have m3 := HT.out.top a
  have m4 := HT.out.low c
  have m5 := HT.out.tot
  rw [HM.out] at m5
  have C := Lib.hid (sturm_Count_ok (hf.below k4) HO.out r3 HS.out)
  obtain ⟨A, hA⟩ : ∃ A, VL L a = A := ⟨_, rfl⟩
  obtain ⟨B, hB⟩ : ∃ B, VL L b = B := ⟨_, rfl⟩
  obtain ⟨D, hD⟩ : ∃ D, VL L c = D := ⟨_, rfl⟩
  rw [hA, hD] at C
  rw [hA, hB] at m1
  rw [hB, hD] at m2
  rw [hA] at m3
  rw [hD] at m4
  simp only [hA, hB, hD]
  have b1 := changesL_le (L.map fun p => evL p a)
  have e1 : changesL (L.map fun p => evL p a) = A := hA
  rw [e1, List.length_map] at b1
  have hL5 : L.length ≤ 5 := HS.out.len (wholeR_none HO.out).2.1
  have j1 : (0 : Int) ≤ (A : Int) - (B : Int) := by omega
  have j2 : (0 : Int) ≤ (B : Int) - (D : Int) := by omega
  have j3 : (A : Int) - (D : Int) ≤ (m : Int) := by omega
  have j4 : ((A : Int) - (D : Int) == (A : Int) - (B : Int) + ((B : Int) - (D : Int))) = true := beq_iff_eq.2 (by omega)
  have u1 : IntKind.i64.wrap ((A : Int) - (B : Int) + ((B : Int) - (D : Int))) = (A : Int) - (B : Int) + ((B : Int) - (D : Int)) := Go.IntWalk.i64_in _ (by omega)
  clear hA hB hD e1 r1 r2 r3 m5
  go_wp2_with (go_at_call 24; fail)
  (with_reducible refine C.out.mono ?_)
  clear C
  rintro e w5 ⟨rfl, b5⟩
  have k5 := below_tr k4 b5
  go_wp2
  go_ret
  exact ⟨rfl, k5⟩
end Go.Proofs.Ytoahegjjffggaaa
