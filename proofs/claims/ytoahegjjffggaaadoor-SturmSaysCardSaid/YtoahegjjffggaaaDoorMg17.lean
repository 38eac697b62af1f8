/-
  Package sturm walked: Check, All, Count, Turns and Content.
  The closed fact of the statements on whole factors.
  The reference's Trim walked: the same slice, without the noughts at its end.
  The reference's Value and Sign of whole factors walked.
  The reference on whole factors walked: Whole, Content, plain, Turns.
-/
import Derived.Test.YtoahegjjffggaaaDoorRows
import Derived.Test.YtoahegjjffggaaaDoorMg0
import Derived.Test.YtoahegjjffggaaaDoorMg1
import Derived.Test.YtoahegjjffggaaaDoorMg2
import Derived.Test.YtoahegjjffggaaaDoorMg9
import Derived.Test.YtoahegjjffggaaaDoorMg12
import Derived.Test.YtoahegjjffggaaaDoorMg13
import Derived.Test.YtoahegjjffggaaaDoorMg15
import Derived.Test.YtoahegjjffggaaaDoorMg16
namespace Go.Rk
open Go.RowKit Go.Proofs.YtoahegjjffggaaaDoor

/-- What is wrong with whole factors. -/
def wholeR (f : List Int) : Option Int := if f.length = 0 then some 5 else if 4 < f.length then some 4 else if anyB (-20) 20 f = true then some 1 else if topL f = 0 then some 3 else none
theorem wholeR_none {f : List Int} (h : wholeR f = none) : 1 ≤ f.length ∧ f.length ≤ 4 ∧ In (-20) 20 f ∧ topL f ≠ 0 := by
  unfold wholeR at h
  split at h
  · cases h
  · split at h
    · cases h
    · split at h
      · cases h
      · split at h
        · cases h
        · rename_i h1 h2 h3 h4
          exact ⟨by omega, by omega, in_of_any (by simpa using h3), h4⟩
theorem wholeR_ok {f : List Int} (h1 : 1 ≤ f.length) (h4 : f.length ≤ 4) (hi : In (-20) 20 f) (ht : topL f ≠ 0) : wholeR f = none := by
  unfold wholeR
  rw [if_neg (by omega), if_neg (by omega), any_of_in hi, if_neg (by simp), if_neg ht]
theorem Simp.fit {f : List Int} {L : List (List Int)} (h : Simp f L) : FitL L := by
  cases h with
  | same _ h => exact h
  | cut _ _ _ _ _ h _ => exact h
theorem chF_len : ∀ (k : Nat) (a b : List Int), (chF k a b).length ≤ k
  | 0, _, _ => Nat.le_refl _
  | k + 1, a, b => by
    rw [chF]
    split
    · exact Nat.zero_le _
    · have := chF_len k b (negL (restL a b))
      rw [List.length_cons]; omega
theorem chainL_len_le (f : List Int) : (chainL f).length ≤ f.length + 1 := by
  have := chF_len f.length (plainL f) (slopeL f)
  unfold chainL
  rw [List.length_cons]; omega
theorem Simp.len {f : List Int} {L : List (List Int)} (h : Simp f L) (h4 : f.length ≤ 4) : L.length ≤ 5 := by
  cases h with
  | same _ _ => have := chainL_len_le f; omega
  | cut h h2 _ hQ _ _ _ =>
    have := chainL_len_le h
    have := hQ.len
    have := plainL_len_le f
    omega
theorem chg_le : ∀ (l : List Int) (s : Int), chg s l ≤ l.length
  | [], _ => Nat.le_refl _
  | x :: l, s => by
    have h1 := chg_le l s
    have h2 := chg_le l x
    rw [chg, List.length_cons]
    split
    · omega
    · split <;> omega
theorem changesL_le (l : List Int) : changesL l ≤ l.length := chg_le l 0
end Go.Rk
namespace Go.Proofs.YtoahegjjffggaaaDoor
open Go.RowKit Go.Rk

section
variable {a : Option Addr} {n ca : Nat} {f : List Int} {w : World}
theorem sturm_Check_any (hf : RdI w a n ca f) :
    Calls Tryd.prog 17 #[.slice a n ca] w fun e w' => e = .returned (errV (wholeR f)) ∧ w = w' := by
  have E := Lib.hid hf.len_eq
  have hmx := hf.len_max
  have C := any_any a n ca f (-20) 20 w hf
  by_cases h0 : n = 0
  · subst h0
    have HE : Hid (wholeR f = some 5) := by unfold Hid wholeR; rw [if_pos E.out]
    go_enter Tryd.func17, Tryd.ntmps17
    go_wp2
    go_ret
    rw [HE.out]
    exact ⟨rfl, rfl⟩
  have z0 : ((n : Int) == 0) = false := beq_eq_false_iff_ne.2 (by omega)
  by_cases h4 : 4 < n
  · have i4 : (4 : Int) < (n : Int) := by omega
    have HE : Hid (wholeR f = some 4) := by unfold Hid wholeR; rw [if_neg (by rw [E.out]; exact h0), if_pos (by rw [E.out]; exact h4)]
    clear h0
    go_enter Tryd.func17, Tryd.ntmps17
    go_wp2
    go_ret
    rw [HE.out]
    exact ⟨rfl, rfl⟩
  have i4 : (n : Int) ≤ 4 := by omega
  rcases hb : anyB (-20) 20 f with _ | _
  rotate_left
  · have HE : Hid (wholeR f = some 1) := by unfold Hid wholeR; rw [if_neg (by rw [E.out]; exact h0), if_neg (by rw [E.out]; exact h4), if_pos hb]
    rw [hb] at C
    have C := Lib.hid C
    clear h0 hb
    go_enter Tryd.func17, Tryd.ntmps17
    go_wp2_with (first | (go_at_call 43; (with_reducible refine C.out.mono ?_); rintro e w' ⟨rfl, rfl⟩))
    go_ret
    rw [HE.out]
    exact ⟨rfl, rfl⟩
  obtain ⟨q, rfl⟩ : ∃ q, n = q + 1 := ⟨n - 1, by omega⟩
  obtain ⟨bf, of_, rfl, _, hc⟩ := hf.at (k := q) (by omega)
  have y1 := hc q (by omega)
  have eT : topL f = ix f q := by unfold topL; rw [E.out]; rfl
  obtain ⟨T, hT⟩ : ∃ T, ix f q = T := ⟨_, rfl⟩
  rw [hT] at y1 eT
  have t1 : ((q + 1 : Nat) : Int) - 1 = (q : Int) := by omega
  have t2 : ((q : Int) + 1) - 1 = (q : Int) := by omega
  have i5 : (q : Int) < ((q + 1 : Nat) : Int) := by omega
  have i6 : (q : Int) < (q : Int) + 1 := by omega
  rw [hb] at C
  have C := Lib.hid C
  by_cases hz : T = 0
  · have HE : Hid (wholeR f = some 3) := by unfold Hid wholeR; rw [if_neg (by rw [E.out]; exact h0), if_neg (by rw [E.out]; exact h4), if_neg (by rw [hb]; simp), if_pos (by rw [eT]; exact hz)]
    have z : (T == 0) = true := beq_iff_eq.2 hz
    clear h0 hb hz eT hT hc
    go_enter Tryd.func17, Tryd.ntmps17
    go_wp2_with (first | (go_at_call 43; (with_reducible refine C.out.mono ?_); rintro e w' ⟨rfl, rfl⟩))
    go_ret
    rw [HE.out]
    exact ⟨rfl, rfl⟩
  · have HE : Hid (wholeR f = none) := by unfold Hid wholeR; rw [if_neg (by rw [E.out]; exact h0), if_neg (by rw [E.out]; exact h4), if_neg (by rw [hb]; simp), if_neg (by rw [eT]; exact hz)]
    have z : (T == 0) = false := beq_eq_false_iff_ne.2 hz
    clear h0 hb hz eT hT hc
    go_enter Tryd.func17, Tryd.ntmps17
    go_wp2_with (first | (go_at_call 43; (with_reducible refine C.out.mono ?_); rintro e w' ⟨rfl, rfl⟩))
    go_ret
    rw [HE.out]
    exact ⟨rfl, rfl⟩
theorem sturm_Check_is {o : Option Int} (hf : RdI w a n ca f) (ho : wholeR f = o) :
    Calls Tryd.prog 17 #[.slice a n ca] w fun e w' => e = .returned (errV o) ∧ w = w' := by
  rw [← ho]; exact sturm_Check_any hf
theorem sturm_All_err {x : Int} (hf : RdI w a n ca f) (ho : wholeR f = some x) :
    Calls Tryd.prog 22 #[.slice a n ca] w fun e w' => e = .returned (.tuple #[.int .i64 0, .iface 52 (.int .i64 x)]) ∧ w = w' := by
  have C := Lib.hid (sturm_Check_is hf ho)
  clear ho
  go_enter Tryd.func22, Tryd.ntmps22
  go_wp2_with (first | (go_at_call 17; (with_reducible refine C.out.mono ?_); rintro e w' ⟨rfl, rfl⟩; simp only [errV]))
  go_ret2
  exact ⟨rfl, rfl⟩
theorem far_lo (L : List (List Int)) : L.map (farT (-1)) = L.map lowT := List.map_congr_left fun x _ => by unfold farT; rw [if_pos (by decide)]
theorem far_hi (L : List (List Int)) : L.map (farT 1) = L.map topL := List.map_congr_left fun x _ => by unfold farT; rw [if_neg (by decide)]
set_option maxHeartbeats 2000000 in
theorem sturm_All_ok {L : List (List Int)} (hf : RdI w a n ca f) (ho : wholeR f = none) (hS : Simp f L) :
    Calls Tryd.prog 22 #[.slice a n ca] w fun e w' => e = .returned (.tuple #[.int .i64 ((loL L : Int) - (hiL L : Int)), .nilIface]) ∧ Below w.heap.size w w' := by
  have C := Lib.hid (sturm_Check_is hf ho)
  obtain ⟨h1, h4, hi, _⟩ := wholeR_none ho
  rw [hf.len_eq] at h1 h4
  have HI : Hid (In (-1000000) 1000000 f) := fun k hk => by have := hi k hk; omega
  have HS := Lib.hid hS
  have HF := Lib.hid hS.fit.row
  clear ho hi hS
  go_enter Tryd.func22, Tryd.ntmps22
  go_wp2_with (first | (go_at_call 17; (with_reducible refine C.out.mono ?_); rintro e w' ⟨rfl, rfl⟩; simp only [errV]) | (go_at_call 48; fail))
  refine (simple_any hf HI.out HS.out h1 h4).mono ?_
  clear C
  rintro e w1 ⟨a1, c1, rfl, hL, b1⟩
  have lm := hL.len_max
  have ln4 : Hid (L.length ≤ 1000) := by have := HS.out.len (by rw [hf.len_eq]; exact h4); unfold Hid; omega
  go_wp2_with (go_at_call 50; fail)
  refine (far_any hL HF.out ln4.out).mono ?_
  rintro e w2 ⟨a2, c2, rfl, ho2, b2⟩
  have k2 := below_tr b1 b2
  have hL2 := hL.below b2
  rw [far_lo] at ho2
  go_wp2_with (go_at_call 49; fail)
  refine (changes_any ho2.rd).mono ?_
  rintro e w' ⟨rfl, rfl⟩
  go_wp2_with (go_at_call 50; fail)
  refine (far_any hL2 HF.out ln4.out).mono ?_
  rintro e w3 ⟨a3, c3, rfl, ho3, b3⟩
  have k3 := below_tr k2 b3
  rw [far_hi] at ho3
  go_wp2_with (go_at_call 49; fail)
  refine (changes_any ho3.rd).mono ?_
  rintro e w' ⟨rfl, rfl⟩
  have e1 : changesL (L.map lowT) = loL L := rfl
  have e2 : changesL (L.map topL) = hiL L := rfl
  have c1 := changesL_le (L.map lowT)
  have c2 := changesL_le (L.map topL)
  rw [List.length_map] at c1 c2
  rw [e1] at c1
  rw [e2] at c2
  rw [e1, e2]
  have u1 : IntKind.i64.wrap ((loL L : Int) - (hiL L : Int)) = (loL L : Int) - (hiL L : Int) := Go.IntWalk.i64_in _ (by omega)
  clear e1 e2
  go_wp2
  go_ret2
  exact ⟨rfl, k3⟩
theorem sturm_Turns_err {x : Int} (hf : RdI w a n ca f) (ho : wholeR f = some x) :
    Calls Tryd.prog 23 #[.slice a n ca] w fun e w' => e = .returned (.tuple #[.int .i64 0, .iface 52 (.int .i64 x)]) ∧ w = w' := by
  have C := Lib.hid (sturm_Check_is hf ho)
  clear ho
  go_enter Tryd.func23, Tryd.ntmps23
  go_wp2_with (first | (go_at_call 17; (with_reducible refine C.out.mono ?_); rintro e w' ⟨rfl, rfl⟩; simp only [errV]))
  go_ret2
  exact ⟨rfl, rfl⟩
theorem sturm_Turns_ok (hf : RdI w a n ca f) (ho : wholeR f = none) :
    Calls Tryd.prog 23 #[.slice a n ca] w fun e w' => e = .returned (.tuple #[.int .i64 (changesL f : Int), .nilIface]) ∧ w = w' := by
  have C := Lib.hid (sturm_Check_is hf ho)
  have C2 := Lib.hid (changes_any hf)
  clear ho
  go_enter Tryd.func23, Tryd.ntmps23
  go_wp2_with (first | (go_at_call 17; (with_reducible refine C.out.mono ?_); rintro e w' ⟨rfl, rfl⟩; simp only [errV]) | (go_at_call 49; (with_reducible refine C2.out.mono ?_); rintro e w' ⟨rfl, rfl⟩))
  go_ret2
  exact ⟨rfl, rfl⟩
theorem sturm_Content_err {x : Int} (hf : RdI w a n ca f) (ho : wholeR f = some x) :
    Calls Tryd.prog 24 #[.slice a n ca] w fun e w' => e = .returned (.tuple #[.int .i64 0, .iface 52 (.int .i64 x)]) ∧ w = w' := by
  have C := Lib.hid (sturm_Check_is hf ho)
  clear ho
  go_enter Tryd.func24, Tryd.ntmps24
  go_wp2_with (first | (go_at_call 17; (with_reducible refine C.out.mono ?_); rintro e w' ⟨rfl, rfl⟩; simp only [errV]))
  go_ret2
  exact ⟨rfl, rfl⟩
theorem sturm_Content_ok (hf : RdI w a n ca f) (ho : wholeR f = none) :
    Calls Tryd.prog 24 #[.slice a n ca] w fun e w' => e = .returned (.tuple #[.int .i64 (contL f : Int), .nilIface]) ∧ Below w.heap.size w w' := by
  have C := Lib.hid (sturm_Check_is hf ho)
  have hi := (wholeR_none ho).2.2.1
  have C2 := Lib.hid (content_any hf fun k hk => by have := hi k hk; omega)
  clear ho hi
  go_enter Tryd.func24, Tryd.ntmps24
  go_wp2_with (first | (go_at_call 17; (with_reducible refine C.out.mono ?_); rintro e w' ⟨rfl, rfl⟩; simp only [errV]) | (go_at_call 51; (with_reducible refine C2.out.mono ?_); rintro e w1 ⟨rfl, b1⟩))
  go_ret2
  exact ⟨rfl, b1⟩
theorem sturm_Count_err {x from_ to_ : Int} (hf : RdI w a n ca f) (ho : wholeR f = some x) :
    Calls Tryd.prog 27 #[.slice a n ca, .int .i64 from_, .int .i64 to_] w fun e w' => e = .returned (.tuple #[.int .i64 0, .iface 52 (.int .i64 x)]) ∧ w = w' := by
  have C := Lib.hid (sturm_Check_is hf ho)
  clear ho
  go_enter Tryd.func27, Tryd.ntmps27
  go_wp2_with (first | (go_at_call 17; (with_reducible refine C.out.mono ?_); rintro e w' ⟨rfl, rfl⟩; simp only [errV]))
  go_ret2
  exact ⟨rfl, rfl⟩
/-- Two numbers that Count takes. -/
def InR (x y : Int) : Prop := -100 ≤ x ∧ x ≤ 100 ∧ x ≤ y ∧ y ≤ 100
theorem sturm_Count_out {from_ to_ : Int} (hf : RdI w a n ca f) (ho : wholeR f = none) (hr : ¬ InR from_ to_) :
    Calls Tryd.prog 27 #[.slice a n ca, .int .i64 from_, .int .i64 to_] w fun e w' => e = .returned (.tuple #[.int .i64 0, .iface 52 (.int .i64 1)]) ∧ w = w' := by
  have C := Lib.hid (sturm_Check_is hf ho)
  clear ho
  have C1 := out_any from_ (-100) 100 w
  have C2 := out_any to_ from_ 100 w
  rcases h1 : outB from_ (-100) 100 with _ | _
  · have h2 : outB to_ from_ 100 = true := by
      unfold InR at hr
      unfold outB at h1 ⊢
      simp at h1 ⊢
      omega
    rw [h1] at C1
    rw [h2] at C2
    have C1 := Lib.hid C1
    have C2 := Lib.hid C2
    clear h1 h2 hr
    go_enter Tryd.func27, Tryd.ntmps27
    go_wp2_with (first | (go_at_call 17; (with_reducible refine C.out.mono ?_); rintro e w' ⟨rfl, rfl⟩; simp only [errV]) | (go_at_call 53; first | ((with_reducible refine C1.out.mono ?_); clear C1; rintro e w' ⟨rfl, rfl⟩) | ((with_reducible refine C2.out.mono ?_); clear C2; rintro e w' ⟨rfl, rfl⟩)))
    go_ret2
    exact ⟨rfl, rfl⟩
  · rw [h1] at C1
    have C1 := Lib.hid C1
    clear h1 hr C2
    go_enter Tryd.func27, Tryd.ntmps27
    go_wp2_with (first | (go_at_call 17; (with_reducible refine C.out.mono ?_); rintro e w' ⟨rfl, rfl⟩; simp only [errV]) | (go_at_call 53; (with_reducible refine C1.out.mono ?_); clear C1; rintro e w' ⟨rfl, rfl⟩))
    go_ret2
    exact ⟨rfl, rfl⟩
set_option maxHeartbeats 2000000 in
theorem sturm_Count_ok {L : List (List Int)} {from_ to_ : Int} (hf : RdI w a n ca f) (ho : wholeR f = none) (hr : InR from_ to_) (hS : Simp f L) :
    Calls Tryd.prog 27 #[.slice a n ca, .int .i64 from_, .int .i64 to_] w fun e w' => e = .returned (.tuple #[.int .i64 ((VL L from_ : Int) - (VL L to_ : Int)), .nilIface]) ∧ Below w.heap.size w w' := by
  have C := Lib.hid (sturm_Check_is hf ho)
  obtain ⟨h1, h4, hi, _⟩ := wholeR_none ho
  rw [hf.len_eq] at h1 h4
  have HI : Hid (In (-1000000) 1000000 f) := fun k hk => by have := hi k hk; omega
  have HS := Lib.hid hS
  have HF : Hid (∀ i, i < L.length → (rowOf L i).length ≤ 4 ∧ In (-1000000) 1000000 (rowOf L i)) := fun i hi => (hS.fit.row i hi).2
  have ln4 : Hid (L.length ≤ 1000) := by have := HS.out.len (by rw [hf.len_eq]; exact h4); unfold Hid; omega
  obtain ⟨r1, r2, r3, r4⟩ := hr
  have C1 := out_any from_ (-100) 100 w
  have C2 := out_any to_ from_ 100 w
  rw [show outB from_ (-100) 100 = false by unfold outB; simp; omega] at C1
  rw [show outB to_ from_ 100 = false by unfold outB; simp; omega] at C2
  have C1 := Lib.hid C1
  have C2 := Lib.hid C2
  clear ho hi hS
  go_enter Tryd.func27, Tryd.ntmps27
  go_wp2_with (first | (go_at_call 17; (with_reducible refine C.out.mono ?_); rintro e w' ⟨rfl, rfl⟩; simp only [errV]) | (go_at_call 53; first | ((with_reducible refine C1.out.mono ?_); clear C1; rintro e w' ⟨rfl, rfl⟩) | ((with_reducible refine C2.out.mono ?_); clear C2; rintro e w' ⟨rfl, rfl⟩)) | (go_at_call 48; fail))
  refine (simple_any hf HI.out HS.out h1 h4).mono ?_
  clear C
  rintro e w1 ⟨a1, c1, rfl, hL, b1⟩
  have lm := hL.len_max
  go_wp2_with (go_at_call 54; fail)
  refine (sturm_at_any hL HF.out ln4.out (x := from_) (by omega)).mono ?_
  rintro e w2 ⟨a2, c2, rfl, ho2, b2⟩
  have k2 := below_tr b1 b2
  have hL2 := hL.below b2
  go_wp2_with (go_at_call 49; fail)
  refine (changes_any ho2.rd).mono ?_
  rintro e w' ⟨rfl, rfl⟩
  go_wp2_with (go_at_call 54; fail)
  refine (sturm_at_any hL2 HF.out ln4.out (x := to_) (by omega)).mono ?_
  rintro e w3 ⟨a3, c3, rfl, ho3, b3⟩
  have k3 := below_tr k2 b3
  go_wp2_with (go_at_call 49; fail)
  refine (changes_any ho3.rd).mono ?_
  rintro e w' ⟨rfl, rfl⟩
  have e1 : changesL (L.map fun p => evL p from_) = VL L from_ := rfl
  have e2 : changesL (L.map fun p => evL p to_) = VL L to_ := rfl
  have c1 := changesL_le (L.map fun p => evL p from_)
  have c2 := changesL_le (L.map fun p => evL p to_)
  rw [List.length_map] at c1 c2
  rw [e1] at c1
  rw [e2] at c2
  rw [e1, e2]
  have u1 : IntKind.i64.wrap ((VL L from_ : Int) - (VL L to_ : Int)) = (VL L from_ : Int) - (VL L to_ : Int) := Go.IntWalk.i64_in _ (by omega)
  clear e1 e2
  go_wp2
  go_ret2
  exact ⟨rfl, k3⟩
end
end Go.Proofs.YtoahegjjffggaaaDoor
namespace Go.Proofs.YtoahegjjffggaaaDoor
open Go.RowKit Go.Rk

section
variable {a : Option Addr} {n ca : Nat} {f : List Int} {w : World}
/-- All of what passes: how many there are. -/
theorem sturm_All_nR (hf : RdI w a n ca f) (ho : wholeR f = none) :
    Calls Tryd.prog 22 #[.slice a n ca] w fun e w' => e = .returned (.tuple #[.int .i64 (nR f : Int), .nilIface]) ∧ Below w.heap.size w w' := by
  obtain ⟨h1, h4, hi, ht⟩ := wholeR_none ho
  obtain ⟨L, hS, hT⟩ := simp_stm h1 h4 hi ht
  refine (sturm_All_ok hf ho hS).mono ?_
  rintro e w' ⟨rfl, hb⟩
  exact ⟨by rw [hT.tot, show ((hiL L + nR f : Nat) : Int) - (hiL L : Int) = (nR f : Int) by omega], hb⟩
end
end Go.Proofs.YtoahegjjffggaaaDoor
namespace Go.Proofs.YtoahegjjffggaaaDoor
open Go.RowKit Go.Rk

set_option maxHeartbeats 1000000 in
theorem R_Trim_any {a : Option Addr} {n ca : Nat} {f : List Int} {w : World} (hf : RdI w a n ca f) :
    Calls Tryd.prog 79 #[.slice a n ca] w fun e w' => e = .returned (.slice a (trimL f).length ca) ∧ w = w' := by
  have hle := hf.le
  have hmx := hf.len_max
  have HL := Lib.hid hf.len_eq
  go_enter Tryd.func79, Tryd.ntmps79
  go_wp2
  go_loop [3] (fun x => ∃ k : Nat, k ≤ n ∧ x = .int .i64 k ∧ Hid (trimN f n = trimN f k)) (fun x => (intOf x).toNat)
  case atStart => exact ⟨n, Nat.le_refl _, rfl, rfl⟩
  case round =>
    obtain ⟨k, hk, rfl, hT⟩ := hrel
    have fin : ∀ _ : trimN f k = k, Hid ((trimL f).length = k) := fun e => by
      have e1 : trimN f f.length = k := by rw [HL.out, hT.out, e]
      unfold Hid; rw [trimL_len, e1]
    by_cases h0 : 0 < k
    · obtain ⟨q, rfl⟩ : ∃ q, k = q + 1 := ⟨k - 1, by omega⟩
      obtain ⟨bf, of_, rfl, _, hc⟩ := hf.at (k := q) (by omega)
      have y1 := hc q (by omega)
      have t1 : ((q + 1 : Nat) : Int) - 1 = (q : Int) := by omega
      have t2 : (((q : Nat) : Int) + 1) - 1 = (q : Int) := by omega
      have i1 : (q : Int) < (n : Int) := by omega
      have i2 : (0 : Int) < ((q + 1 : Nat) : Int) := by omega
      clear hc
      by_cases hz : ix f q = 0
      · have z : (ix f q == 0) = true := beq_iff_eq.2 hz
        have HN : Hid (trimN f n = trimN f q) := by unfold Hid; rw [hT.out, trimN, if_pos hz]
        clear hz fin
        go_wp2
        go_round
        case rel => exact ⟨q, by omega, by go_num, HN.out⟩
        case measure => simp [intOf]
      · have z : (ix f q == 0) = false := beq_eq_false_iff_ne.2 hz
        have HF := fin (by rw [trimN, if_neg hz])
        have i3 : ((q + 1 : Nat) : Int) ≤ (n : Int) := by omega
        have i4 : ((q + 1 : Nat) : Int) ≤ (ca : Int) := by omega
        clear hz fin
        go_wp2
        go_ret
        first
          | (rw [HF.out]; exact ⟨rfl, rfl⟩)
          | (rw [HF.out]; rfl)
    · obtain rfl : k = 0 := by omega
      have HF := fin rfl
      have i4 : (0 : Int) ≤ (ca : Int) := by omega
      clear fin
      go_wp2
      go_ret
      first
        | (rw [HF.out]; exact ⟨rfl, rfl⟩)
        | (rw [HF.out]; rfl)
end Go.Proofs.YtoahegjjffggaaaDoor
namespace Go.Rk
open Go.RowKit Go.Proofs.YtoahegjjffggaaaDoor

theorem evL_sum (x : Int) : ∀ l : List Int, evL l x = sumTo (fun k => ix l k * x ^ k) l.length
  | [] => rfl
  | c :: l => by
    rw [evL, List.length_cons, sumTo_succ_left, evL_sum x l, Int.mul_comm, ← sumTo_mul]
    rw [sumTo_congr (h := fun k => ix (c :: l) (k + 1) * x ^ (k + 1)) fun k _ => by
      show x * (ix l k * x ^ k) = ix l k * x ^ (k + 1)
      rw [Int.pow_succ]; grind]
    show _ = c * x ^ 0 + _
    rw [Int.pow_zero, Int.mul_one, Int.add_comm]
def signZ (n : Int) : Int := if 0 < n then 1 else if n < 0 then -1 else 0
theorem signZ_neg {x y : Int} : signZ x * signZ y < 0 ↔ x * y < 0 := by
  unfold signZ
  rcases Int.lt_trichotomy x 0 with h1 | h1 | h1
  · rcases Int.lt_trichotomy y 0 with h2 | h2 | h2
    · have := Int.mul_pos_of_neg_of_neg h1 h2
      rw [if_neg (show ¬ 0 < x by omega), if_pos h1, if_neg (show ¬ 0 < y by omega), if_pos h2]; omega
    · rw [h2, Int.mul_zero]; simp
    · have := Int.mul_neg_of_neg_of_pos h1 h2
      rw [if_neg (show ¬ 0 < x by omega), if_pos h1, if_pos h2]; omega
  · rw [h1, Int.zero_mul]; simp
  · rcases Int.lt_trichotomy y 0 with h2 | h2 | h2
    · have := Int.mul_neg_of_pos_of_neg h1 h2
      rw [if_pos h1, if_neg (show ¬ 0 < y by omega), if_pos h2]; omega
    · rw [h2, Int.mul_zero]; simp
    · have := Int.mul_pos h1 h2
      rw [if_pos h1, if_pos h2]; omega
theorem signZ_bd (x : Int) : -1 ≤ signZ x ∧ signZ x ≤ 1 := by unfold signZ; split <;> (try split) <;> omega
theorem pow_bd {x : Int} (hx : -100 ≤ x ∧ x ≤ 100) : ∀ k : Nat, -((100 : Int) ^ k) ≤ x ^ k ∧ x ^ k ≤ (100 : Int) ^ k
  | 0 => by simp
  | k + 1 => by
    have := prod_bd' (A := (100 : Int) ^ k) (B := 100) (pow_bd hx k) hx
    rw [Int.pow_succ, Int.pow_succ]; exact this
theorem pow_bd4 {x : Int} (hx : -100 ≤ x ∧ x ≤ 100) {k : Nat} (hk : k ≤ 4) : -100000000 ≤ x ^ k ∧ x ^ k ≤ 100000000 := by
  have h := pow_bd hx k
  have h2 : (100 : Int) ^ k ≤ 100000000 := by
    rcases (show k = 0 ∨ k = 1 ∨ k = 2 ∨ k = 3 ∨ k = 4 by omega) with e | e | e | e | e <;> rw [e] <;> decide
  omega
theorem sum_bd {x : Int} (hx : -100 ≤ x ∧ x ≤ 100) {f : List Int} (hi : In (-1000000) 1000000 f) : ∀ k : Nat, k ≤ 4 → k ≤ f.length → -(100000000000000 * (k : Int)) ≤ sumTo (fun k => ix f k * x ^ k) k ∧ sumTo (fun k => ix f k * x ^ k) k ≤ 100000000000000 * (k : Int)
  | 0, _, _ => by show -(100000000000000 * ((0 : Nat) : Int)) ≤ 0 ∧ 0 ≤ 100000000000000 * ((0 : Nat) : Int); omega
  | k + 1, h, h2 => by
    have e := sum_bd hx hi k (by omega) (by omega)
    have p := prod_bd' (hi k (by omega)) (pow_bd4 hx (k := k) (by omega))
    show _ ≤ sumTo (fun k => ix f k * x ^ k) k + ix f k * x ^ k ∧ sumTo (fun k => ix f k * x ^ k) k + ix f k * x ^ k ≤ _
    omega
end Go.Rk
namespace Go.Proofs.YtoahegjjffggaaaDoor
open Go.RowKit Go.Rk

set_option maxHeartbeats 2000000 in
theorem H_Value_any {a : Option Addr} {n ca : Nat} {f : List Int} {x : Int} {w : World} (hf : RdI w a n ca f) (hi : In (-1000000) 1000000 f) (hn : n ≤ 4) (hx : -100 ≤ x ∧ x ≤ 100) :
    Calls Tryd.prog 52 #[.slice a n ca, .int .i64 x] w fun e w' => e = .returned (.int .i64 (evL f x)) ∧ w = w' := by
  have HL := Lib.hid hf.len_eq
  have HI := Lib.hid hi
  have HB := Lib.hid (sum_bd hx hi)
  have HP := Lib.hid (fun k (hk : k ≤ 4) => pow_bd4 hx hk)
  clear hi
  go_enter Tryd.func52, Tryd.ntmps52
  go_wp2
  go_loop [5, 6, 7] (fun s p i => ∃ k : Nat, k ≤ n ∧ s = .int .i64 (sumTo (fun k => ix f k * x ^ k) k) ∧ p = .int .i64 (x ^ k) ∧ i = .int .i64 k) (fun _ _ i => n - (intOf i).toNat)
  case atStart => exact ⟨0, Nat.zero_le _, rfl, by rw [Int.pow_zero], rfl⟩
  case round =>
    obtain ⟨k, hk, rfl, rfl, rfl⟩ := hrel
    by_cases hlt : k < n
    · have i1 : (k : Int) < (n : Int) := by omega
      obtain ⟨bf, of_, rfl, _, hc⟩ := hf.at hlt
      have y1 := hc k hlt
      have b1 := HI.out k (by rw [HL.out]; exact hlt)
      have b2 := HP.out k (by omega)
      have b3 := HP.out (k + 1) (by omega)
      have b4 := HB.out (k + 1) (by omega) (by rw [HL.out]; omega)
      have e1 : sumTo (fun k => ix f k * x ^ k) (k + 1) = sumTo (fun k => ix f k * x ^ k) k + ix f k * x ^ k := rfl
      have e2 : x ^ (k + 1) = x ^ k * x := Int.pow_succ ..
      have b5 := prod_bd' b1 b2
      obtain ⟨S, hS⟩ : ∃ S, sumTo (fun k => ix f k * x ^ k) k = S := ⟨_, rfl⟩
      obtain ⟨X, hX⟩ : ∃ X, ix f k = X := ⟨_, rfl⟩
      obtain ⟨P, hP⟩ : ∃ P, x ^ k = P := ⟨_, rfl⟩
      rw [hX] at y1
      rw [e1, hS, hX, hP] at b4
      rw [e2, hP] at b3
      rw [hX, hP] at b5
      rw [hS, hX, hP] at e1
      rw [hP] at e2
      simp only [hS, hP]
      have u1 : IntKind.i64.wrap (X * P) = X * P := Go.IntWalk.i64_in _ (by omega)
      have u2 : IntKind.i64.wrap (S + X * P) = S + X * P := Go.IntWalk.i64_in _ (by omega)
      have u3 : IntKind.i64.wrap (P * x) = P * x := Go.IntWalk.i64_in _ (by omega)
      have E1 := Lib.hid e1
      have E2 := Lib.hid e2
      clear hS hX hP e1 e2 b2 b1 b3 b4 b5 hc
      go_wp2
      go_round
      case rel => exact ⟨k + 1, by omega, by rw [E1.out], by rw [E2.out], by go_num⟩
      case measure => simp [intOf]; omega
    · obtain rfl : n = k := by omega
      have HE : Hid (sumTo (fun k => ix f k * x ^ k) n = evL f x) := by unfold Hid; rw [evL_sum, HL.out]
      go_wp2
      go_ret
      rw [← HE.out]
      exact ⟨rfl, rfl⟩
theorem H_Sign_any (n : Int) (w : World) :
    Calls Tryd.prog 46 #[.int .i64 n] w fun e w' => e = .returned (.int .i64 (signZ n)) ∧ w = w' := by
  rcases Int.lt_trichotomy n 0 with h | h | h
  · have E : Hid (signZ n = -1) := by unfold Hid signZ; rw [if_neg (by omega), if_pos h]
    go_enter Tryd.func46, Tryd.ntmps46
    go_wp2
    go_ret
    exact ⟨by rw [E.out]; rfl, rfl⟩
  · subst h
    go_enter Tryd.func46, Tryd.ntmps46
    go_wp2
    go_ret
    exact ⟨rfl, rfl⟩
  · have E : Hid (signZ n = 1) := by unfold Hid signZ; rw [if_pos h]
    go_enter Tryd.func46, Tryd.ntmps46
    go_wp2
    go_ret
    exact ⟨by rw [E.out]; rfl, rfl⟩
end Go.Proofs.YtoahegjjffggaaaDoor
namespace Go.Proofs.YtoahegjjffggaaaDoor
open Go.RowKit Go.Rk

theorem R_Gcd_big (n : Nat) : ∀ (a b : Int) (w : World) (_ : -4611686018427387904 ≤ a ∧ a ≤ 4611686018427387904) (_ : -4611686018427387904 ≤ b ∧ b ≤ 4611686018427387904) (_ : b.natAbs ≤ n),
    Calls Tryd.prog 47 #[.int .i64 a, .int .i64 b] w fun e w' => e = .returned (.int .i64 (Int.gcd a b : Int)) ∧ w = w' := by
  induction n with
  | zero =>
    intro a b w ha hb hn
    obtain rfl : b = 0 := by omega
    have A1 := Lib.hid (R_Abs_any a w (by omega) (by omega))
    go_enter Tryd.func47, Tryd.ntmps47
    go_wp2_with (go_at_call 67; refine A1.out.mono ?_; rintro e w' ⟨rfl, rfl⟩)
    go_ret
    exact ⟨congrArg (fun x => Ending.returned (.int .i64 x)) (by simp [Int.gcd]), rfl⟩
  | succ n ih =>
    intro a b w ha hb hn
    by_cases h0 : b = 0
    · subst h0
      exact ih a 0 w ha hb (by simp)
    · have g1 : (a.tmod b).natAbs < b.natAbs := by rw [Int.natAbs_tmod]; exact Nat.mod_lt _ (by omega)
      have A1 := Lib.hid (ih b (a.tmod b) w hb (by omega) (by omega))
      have H0 : (b == 0) = false := by simp [h0]
      clear ih h0
      go_enter Tryd.func47, Tryd.ntmps47
      go_wp2_with (go_at_call 47; refine A1.out.mono ?_; rintro e w' ⟨rfl, rfl⟩)
      go_ret
      exact ⟨congrArg (fun x => Ending.returned (.int .i64 x)) (gcd_tmod a b), rfl⟩

section
variable {a : Option Addr} {n ca : Nat} {f : List Int} {w : World}
set_option maxHeartbeats 1000000 in
theorem H_Content_any (hf : RdI w a n ca f) (hi : In (-4611686018427387904) 4611686018427387904 f) :
    Calls Tryd.prog 21 #[.slice a n ca] w fun e w' => e = .returned (.int .i64 (contL f : Int)) ∧ w = w' := by
  have hmx := hf.len_max
  have HL := Lib.hid hf.len_eq
  have HI := Lib.hid hi
  have HC := Lib.hid (contL_bd hi)
  clear hi
  go_enter Tryd.func21, Tryd.ntmps21
  go_wp2
  go_loop [3, 4] (fun x y => ∃ k : Nat, k ≤ n ∧ x = .int .i64 (contL (f.take k) : Int) ∧ y = .int .i64 k) (fun _ y => n - (intOf y).toNat)
  case atStart => exact ⟨0, Nat.zero_le _, rfl, rfl⟩
  case round =>
    obtain ⟨k, hk, rfl, rfl⟩ := hrel
    by_cases hlt : k < n
    · have i1 : (k : Int) < (n : Int) := by omega
      obtain ⟨bf, of_, rfl, _, hc⟩ := hf.at hlt
      have y1 := hc k hlt
      have c1 := HC.out k
      have hx := HI.out k (by rw [HL.out]; exact hlt)
      have E := Lib.hid (contL_take (f := f) (k := k) (by rw [HL.out]; exact hlt))
      obtain ⟨X, hX⟩ : ∃ X, ix f k = X := ⟨_, rfl⟩
      obtain ⟨N, hN⟩ : ∃ N, contL (f.take k) = N := ⟨_, rfl⟩
      rw [hX] at y1 hx
      rw [hN] at c1
      have C : Hid (∀ w : World, Calls Tryd.prog 47 #[.int .i64 (N : Int), .int .i64 X] w fun e w' => e = .returned (.int .i64 (Int.gcd (N : Int) X : Int)) ∧ w = w') := fun w => R_Gcd_big X.natAbs (N : Int) X w (by omega) hx (Nat.le_refl _)
      simp only [hN]
      have E2 : Hid (contL (f.take (k + 1)) = Int.gcd (N : Int) X) := by unfold Hid; rw [E.out, hX, hN]
      clear hX hN hc hx E
      go_wp2_with (go_at_call 47; (with_reducible refine (C.out _).mono ?_); clear C; rintro e w' ⟨rfl, rfl⟩)
      go_round
      case rel => exact ⟨k + 1, by omega, by rw [E2.out], by go_num⟩
      case measure => simp [intOf]; omega
    · obtain rfl : n = k := by omega
      go_wp2
      go_ret
      exact ⟨by rw [List.take_of_length_le (by have := HL.out; omega)]; rfl, rfl⟩
set_option maxHeartbeats 2000000 in
theorem H_plain_any (hf : RdI w a n ca f) (hi : In (-4611686018427387904) 4611686018427387904 f) (hn : n ≤ 1000) :
    Calls Tryd.prog 66 #[.slice a n ca] w fun e w' => ∃ a' c', e = .returned (.slice a' (plainL f).length c') ∧ OwI w' w.heap.size 3 a' (plainL f).length c' (plainL f) ∧ Below w.heap.size w w' := by
  have HM := Lib.hid intTy
  have HT := Lib.hid (R_Trim_any hf)
  have b0 := Below.refl w.heap.size w
  have hit := trimL_in hi
  have hle : (trimL f).length ≤ n := by rw [trimL_len, ← hf.len_eq]; exact trimN_le _ _
  have htk := hf.take hle
  have et : f.take (trimL f).length = trimL f := by
    conv => rhs; unfold trimL
    rw [trimL_len]
  rw [et] at htk
  have HC := Lib.hid (H_Content_any htk hit)
  have HP : Hid (∀ k, ix (plainL f) k = ix (trimL f) k / (contL (trimL f) : Int)) := fun k => by rw [plainL_ix, trimL_ix]
  have HD : Hid (∀ k, (contL (trimL f) : Int) ∣ ix (trimL f) k) := contL_dvd _
  have HPL := Lib.hid (plainL_len' f)
  have HNZ : Hid (0 < (trimL f).length → 0 < contL (trimL f)) := fun h => contL_pos (trimL_top h)
  obtain ⟨T, hT⟩ : ∃ T, trimL f = T := ⟨_, rfl⟩
  rw [hT] at HT htk HC HP HD HPL hit hle HNZ
  obtain ⟨m, hm⟩ : ∃ m, T.length = m := ⟨_, rfl⟩
  rw [hm] at HT htk HC HPL hle HNZ
  obtain ⟨C, hC⟩ : ∃ C, contL T = C := ⟨_, rfl⟩
  rw [hC] at HC HP HD HNZ
  have HI := Lib.hid hit
  have Hm := Lib.hid hm
  clear hT hm hC hit et
  rw [HPL.out]
  go_enter Tryd.func66, Tryd.ntmps66
  go_wp2_with (first | (go_at_call 79; (with_reducible refine HT.out.mono ?_); clear HT; rintro e w' ⟨rfl, rfl⟩) | (go_at_call 21; (with_reducible refine HC.out.mono ?_); clear HC; rintro e w' ⟨rfl, rfl⟩))
  go_loopw [4, 5] (fun v y wt => ∃ (k : Nat) (p : Option Addr) (cp : Nat), k ≤ m ∧ y = .int .i64 k ∧ v = .slice p k cp ∧ OwI wt w.heap.size 3 p k cp (rowF (fun i => ix (plainL f) i) k) ∧ Below w.heap.size w wt) (fun _ y _ => m - (intOf y).toNat)
  case atStart => exact ⟨0, none, 0, Nat.zero_le _, rfl, rfl, OwI.nil _ _ _, b0⟩
  case round =>
    obtain ⟨k, p, cp, hk, rfl, rfl, ho, hb⟩ := hrel
    by_cases hlt : k < m
    · have i1 : (k : Int) < (m : Int) := by omega
      obtain ⟨bf, of_, hz, hbf, hc⟩ := htk.at hlt
      subst hz
      have y1 := hb.keep hbf (hc k hlt)
      have bX := HI.out k (by rw [Hm.out]; exact hlt)
      have C0 := HNZ.out (by omega)
      have z0 : ((C : Int) == 0) = false := beq_eq_false_iff_ne.2 (by omega)
      have z1 : (C : Int) ≠ 0 := by omega
      have dX := HD.out k
      have eP := HP.out k
      obtain ⟨X, hX⟩ : ∃ X, ix T k = X := ⟨_, rfl⟩
      rw [hX] at y1 bX dX eP
      have u1 : X.tdiv (C : Int) = X / (C : Int) := Int.tdiv_eq_ediv_of_dvd dX
      have u2 : IntKind.i64.wrap (X / (C : Int)) = X / (C : Int) := by
        obtain ⟨Y, hY⟩ := dX
        have e : X / (C : Int) = Y := by rw [hY, Int.mul_ediv_cancel_left _ z1]
        refine Go.IntWalk.i64_in _ ?_
        rw [e]
        rcases Int.lt_or_le Y 0 with h | h
        · have := Int.mul_le_mul_of_nonpos_right (show (1 : Int) ≤ (C : Int) by omega) (show Y ≤ 0 by omega)
          omega
        · have := Int.mul_le_mul_of_nonneg_right (show (1 : Int) ≤ (C : Int) by omega) h
          omega
      have HX : Hid (rowF (fun i => ix (plainL f) i) (k + 1) = rowF (fun i => ix (plainL f) i) k ++ [X / (C : Int)]) := by unfold Hid; rw [rowF_succ, eP]
      have hs := hb.size
      clear hX dX eP hc bX
      go_wp2_with (at_builtin; refine wpList_push_int HM.out rfl (.tmp 16) (.tmp 23) rfl rfl rfl (ho.alloc _) (z := X / (C : Int)) (by simp) (by decide) (by decide) (by omega) (by simp; omega) ?_; intro a6 cap6 w6 ho6 hg6)
      have hb6 := (hb.alloc hs _).grown hg6 (by simp; omega) (fun r e => (ho.own.lt r e).1)
      go_roundw
      case rel => exact ⟨k + 1, a6, cap6, by omega, by go_num, rfl, by rw [HX.out]; exact ho6, hb6⟩
      case measure => simp [intOf]; omega
    · obtain rfl : m = k := by omega
      have hE : Hid (rowF (fun i => ix (plainL f) i) m = plainL f) := ix_ext (by rw [rowF_len, HPL.out]) fun i hi => by rw [rowF_len] at hi; rw [rowF_ix hi]
      rw [hE.out] at ho
      go_wp2
      go_ret
      exact ⟨p, cp, rfl, ho, hb⟩
theorem signZ_cases (x : Int) : (0 < x ∧ signZ x = 1) ∨ (x = 0 ∧ signZ x = 0) ∨ (x < 0 ∧ signZ x = -1) := by
  unfold signZ
  rcases Int.lt_trichotomy x 0 with h | h | h
  · rw [if_neg (by omega), if_pos h]; omega
  · rw [if_neg (by omega), if_neg (by omega)]; omega
  · rw [if_pos h]; omega
theorem signZ_ss (x : Int) : SS x (signZ x) := by
  have := signZ_cases x
  unfold SS; omega
set_option maxHeartbeats 2000000 in
theorem H_Turns_any (hf : RdI w a n ca f) :
    Calls Tryd.prog 20 #[.slice a n ca] w fun e w' => e = .returned (.int .i64 (changesL f : Int)) ∧ w = w' := by
  have hmx := hf.len_max
  have HL := Lib.hid hf.len_eq
  go_enter Tryd.func20, Tryd.ntmps20
  go_wp2
  go_loop [3, 4, 5] (fun x y z => ∃ (m k : Nat) (s : Int), k ≤ n ∧ m ≤ k ∧ x = .int .i64 m ∧ y = .int .i64 s ∧ z = .int .i64 k ∧ (s = 0 ∨ s = 1 ∨ s = -1) ∧ Hid (m + chg s (f.drop k) = changesL f)) (fun _ _ z => n - (intOf z).toNat)
  case atStart => exact ⟨0, 0, 0, Nat.zero_le _, Nat.le_refl _, rfl, rfl, rfl, .inl rfl, by unfold Hid changesL; simp⟩
  case round =>
    obtain ⟨m, k, s, hk, hm, rfl, rfl, rfl, hs, hR⟩ := hrel
    by_cases hlt : k < n
    · have i1 : (k : Int) < (n : Int) := by omega
      obtain ⟨bf, of_, rfl, _, hc⟩ := hf.at hlt
      have y1 := hc k hlt
      have E := Lib.hid (chg_drop (f := f) (k := k) (by rw [HL.out]; exact hlt) s)
      have E2 := Lib.hid (chg_ss (signZ_ss (ix f k)) (SSL.refl (f.drop (k + 1))))
      have cz := signZ_cases (ix f k)
      obtain ⟨X, hX⟩ : ∃ X, ix f k = X := ⟨_, rfl⟩
      rw [hX] at y1 E E2 cz
      have CS : Hid (∀ w : World, Calls Tryd.prog 46 #[.int .i64 X] w fun e w' => e = .returned (.int .i64 (signZ X)) ∧ w = w') := fun w => H_Sign_any X w
      obtain ⟨Z, hZ⟩ : ∃ Z, signZ X = Z := ⟨_, rfl⟩
      rw [hZ] at E2 cz CS
      clear hX hc hZ
      by_cases h0 : Z = 0
      · have z : (Z != 0) = false := bne_eq_false_iff_eq.2 h0
        have HR : Hid (m + chg s (f.drop (k + 1)) = changesL f) := by unfold Hid; rw [← hR.out, E.out, if_pos (by omega)]
        clear h0 cz
        go_wp2_with (go_at_call 46; (with_reducible refine (CS.out _).mono ?_); clear CS; rintro e w' ⟨rfl, rfl⟩)
        go_round
        case rel => exact ⟨m, k + 1, s, by omega, by omega, rfl, rfl, by go_num, hs, HR.out⟩
        case measure => simp [intOf]; omega
      · have z : (Z != 0) = true := bne_iff_ne.2 h0
        have u : IntKind.i64.wrap (-Z) = -Z := Go.IntWalk.i64_in _ (by omega)
        by_cases h1 : s = -Z
        · have z1 : (s == -Z) = true := beq_iff_eq.2 h1
          have HR : Hid (m + 1 + chg Z (f.drop (k + 1)) = changesL f) := by unfold Hid; rw [← hR.out, E.out, if_neg (by omega), if_pos (by omega), E2.out]; omega
          have hZ2 : Z = 0 ∨ Z = 1 ∨ Z = -1 := by omega
          clear h0 h1 cz
          go_wp2_with (go_at_call 46; (with_reducible refine (CS.out _).mono ?_); clear CS; rintro e w' ⟨rfl, rfl⟩)
          go_round
          case rel => exact ⟨m + 1, k + 1, Z, by omega, by omega, by go_num, rfl, by go_num, hZ2, HR.out⟩
          case measure => simp [intOf]; omega
        · have z1 : (s == -Z) = false := beq_eq_false_iff_ne.2 h1
          have HR : Hid (m + chg Z (f.drop (k + 1)) = changesL f) := by unfold Hid; rw [← hR.out, E.out, if_neg (by omega), if_neg (by omega), E2.out]; omega
          have hZ2 : Z = 0 ∨ Z = 1 ∨ Z = -1 := by omega
          clear h0 h1 cz
          go_wp2_with (go_at_call 46; (with_reducible refine (CS.out _).mono ?_); clear CS; rintro e w' ⟨rfl, rfl⟩)
          go_round
          case rel => exact ⟨m, k + 1, Z, by omega, by omega, rfl, rfl, by go_num, hZ2, HR.out⟩
          case measure => simp [intOf]; omega
    · obtain rfl : n = k := by omega
      go_wp2
      go_ret
      refine ⟨?_, rfl⟩
      have h := hR.out
      rw [List.drop_eq_nil_of_le (by rw [HL.out]; exact Nat.le_refl _)] at h
      rw [← h]
      rfl
theorem all_of_in {l : List Int} {lo hi : Int} (h : In lo hi l) : allB lo hi l = true := by
  unfold allB
  rw [List.all_eq_true]
  intro x hx
  obtain ⟨k, hk, rfl⟩ := List.getElem_of_mem hx
  have := h k hk
  rw [ix_lt hk] at this
  unfold inB
  simp
  omega
theorem H_Whole_any (hf : RdI w a n ca f) :
    Calls Tryd.prog 16 #[.slice a n ca] w fun e w' => e = .returned (.int .i64 ((wholeR f).getD 0)) ∧ w = w' := by
  have E := Lib.hid hf.len_eq
  have hmx := hf.len_max
  have C := R_All_any (-20) 20 hf
  by_cases h0 : n = 0
  · subst h0
    have HE : Hid (wholeR f = some 5) := by unfold Hid wholeR; rw [if_pos E.out]
    go_enter Tryd.func16, Tryd.ntmps16
    go_wp2
    go_ret
    rw [HE.out]
    exact ⟨rfl, rfl⟩
  have z0 : ((n : Int) == 0) = false := beq_eq_false_iff_ne.2 (by omega)
  by_cases h4 : 4 < n
  · have i4 : (4 : Int) < (n : Int) := by omega
    have HE : Hid (wholeR f = some 4) := by unfold Hid wholeR; rw [if_neg (by rw [E.out]; exact h0), if_pos (by rw [E.out]; exact h4)]
    clear h0
    go_enter Tryd.func16, Tryd.ntmps16
    go_wp2
    go_ret
    rw [HE.out]
    exact ⟨rfl, rfl⟩
  have i4 : (n : Int) ≤ 4 := by omega
  have hab : anyB (-20) 20 f = !allB (-20) 20 f := by
    rcases hb : allB (-20) 20 f with _ | _
    · rcases ha : anyB (-20) 20 f with _ | _
      · rw [all_of_in (in_of_any ha)] at hb; cases hb
      · rfl
    · rw [any_of_in (allB_in hb)]; rfl
  rcases hb : allB (-20) 20 f with _ | _
  · have HE : Hid (wholeR f = some 1) := by unfold Hid wholeR; rw [if_neg (by rw [E.out]; exact h0), if_neg (by rw [E.out]; exact h4), if_pos (by rw [hab, hb]; rfl)]
    rw [hb] at C
    have C := Lib.hid C
    clear h0 hb hab
    go_enter Tryd.func16, Tryd.ntmps16
    go_wp2_with (first | (go_at_call 42; (with_reducible refine C.out.mono ?_); rintro e w' ⟨rfl, rfl⟩))
    go_ret
    rw [HE.out]
    exact ⟨rfl, rfl⟩
  obtain ⟨q, rfl⟩ : ∃ q, n = q + 1 := ⟨n - 1, by omega⟩
  obtain ⟨bf, of_, rfl, _, hc⟩ := hf.at (k := q) (by omega)
  have y1 := hc q (by omega)
  have eT : topL f = ix f q := by unfold topL; rw [E.out]; rfl
  obtain ⟨T, hT⟩ : ∃ T, ix f q = T := ⟨_, rfl⟩
  rw [hT] at y1 eT
  have t1 : ((q + 1 : Nat) : Int) - 1 = (q : Int) := by omega
  have t2 : ((q : Int) + 1) - 1 = (q : Int) := by omega
  have i5 : (q : Int) < ((q + 1 : Nat) : Int) := by omega
  have i6 : (q : Int) < (q : Int) + 1 := by omega
  rw [hb] at C
  have C := Lib.hid C
  by_cases hz : T = 0
  · have HE : Hid (wholeR f = some 3) := by unfold Hid wholeR; rw [if_neg (by rw [E.out]; exact h0), if_neg (by rw [E.out]; exact h4), if_neg (by rw [hab, hb]; simp), if_pos (by rw [eT]; exact hz)]
    have z : (T == 0) = true := beq_iff_eq.2 hz
    clear h0 hb hz eT hT hc hab
    go_enter Tryd.func16, Tryd.ntmps16
    go_wp2_with (first | (go_at_call 42; (with_reducible refine C.out.mono ?_); rintro e w' ⟨rfl, rfl⟩))
    go_ret
    rw [HE.out]
    exact ⟨rfl, rfl⟩
  · have HE : Hid (wholeR f = none) := by unfold Hid wholeR; rw [if_neg (by rw [E.out]; exact h0), if_neg (by rw [E.out]; exact h4), if_neg (by rw [hab, hb]; simp), if_neg (by rw [eT]; exact hz)]
    have z : (T == 0) = false := beq_eq_false_iff_ne.2 hz
    clear h0 hb hz eT hT hc hab
    go_enter Tryd.func16, Tryd.ntmps16
    go_wp2_with (first | (go_at_call 42; (with_reducible refine C.out.mono ?_); rintro e w' ⟨rfl, rfl⟩))
    go_ret
    rw [HE.out]
    exact ⟨rfl, rfl⟩
end
end Go.Proofs.YtoahegjjffggaaaDoor
