/-
  RecurSays walked: of any factors and beginning what is wrong, the row, and a number of it.
-/
import Derived.Test.YtcohkjppfalckaaDoorRows
import Derived.Test.YtcohkjppfalckaaDoorLib
import Derived.Test.YtcohkjppfalckaaDoorNum
import Derived.Test.YtcohkjppfalckaaDoorRef
import Derived.Test.YtcohkjppfalckaaDoorOpen
import Derived.Test.YtcohkjppfalckaaDoorTr
import Derived.Test.YtcohkjppfalckaaDoorRecur
import Derived.Test.YtcohkjppfalckaaDoorRecurRef
import Derived.Test.YtcohkjppfalckaaDoorErrTold
namespace Go.Proofs.YtcohkjppfalckaaDoor
open Go.RowKit Go.Rk

theorem Ints_eq {a a2 : Option Addr} {len len2 cap cap2 : Nat} {l m : List Int} {w : World} (h : RdI w a len cap l) (h2 : RdI w a2 len2 cap2 m) (e : l = m) :
    Calls Tryd.prog 10 #[.slice a len cap, .slice a2 len2 cap2] w fun e w' => e = .returned (.bool true) ∧ Below w.heap.size w w' := by
  refine (Ints_any h h2).mono ?_
  rintro _ _ ⟨rfl, hb⟩
  exact ⟨by rw [decide_eq_true e], hb⟩
theorem Ints_none (w : World) : Calls Tryd.prog 10 #[.slice none 0 0, .slice none 0 0] w fun e w' => e = .returned (.bool true) ∧ Below w.heap.size w w' := Ints_eq (RdI.nil w) (RdI.nil w) rfl

section
variable {a1 a2 : Option Addr} {n1 c1 n2 c2 : Nat} {f s : List Int} {w : World}
set_option maxHeartbeats 2000000 in
set_option maxRecDepth 100000 in
theorem recurSays_err {many c : Int} (hg : ErrT w) (hf : RdI w a1 n1 c1 f) (hs : RdI w a2 n2 c2 s) (h : checkR f s = some c) :
    Calls Tryd.prog 3 #[.slice a1 n1 c1, .slice a2 n2 c2, .int .i64 many] w fun e w' => e = .returned (.bool true) ∧ Below w.heap.size w w' := by
  have C0 := M_Recur_any hf hs
  rw [h] at C0
  have C0 := Lib.hid C0
  have z1 : (c == 0) = false := beq_eq_false_iff_ne.2 (checkR_nz h)
  have H := Lib.hid h
  have HR : Hid (rowErr f s many = some c) := by unfold Hid rowErr; rw [if_neg (by rw [h]; simp)]; exact h
  clear h
  go_enter Tryd.func3, Tryd.ntmps3
  go_wp2_with (first
    | (go_at_call 4; (with_reducible refine C0.out.mono ?_); rintro e w1 ⟨rfl, rfl⟩; simp only [Option.getD_some])
    | (go_at_call 6; refine (check_is hf hs H.out).mono ?_; rintro e w2 ⟨rfl, rfl⟩; simp only [errV])
    | (go_at_call 5; fail))
  refine (E_same hg).mono ?_
  rintro e w2 ⟨rfl, k2⟩
  clear C0
  go_wp2_with (first
    | (go_at_call 9; refine (Row_err (hf.below k2) (hs.below k2) HR.out).mono ?_; rintro e w3 ⟨rfl, rfl⟩)
    | (go_at_call 5; fail))
  refine (E_same (hg.below k2)).mono ?_
  rintro e w4 ⟨rfl, b4⟩
  have k4 := below_tr k2 b4
  clear b4 k2
  go_wp2_with (first
    | (go_at_call 10; refine (Ints_none _).mono ?_; rintro e w5 ⟨rfl, b5⟩; have k5 := below_tr k4 b5)
    | (go_at_call 11; refine (Term_err (hf.below k5) (hs.below k5) HR.out).mono ?_; rintro e w6 ⟨rfl, rfl⟩)
    | (go_at_call 5; refine (E_same (hg.below k5)).mono ?_; rintro e w7 ⟨rfl, b7⟩))
  go_ret
  exact ⟨rfl, below_tr k5 b7⟩

set_option maxHeartbeats 2000000 in
set_option maxRecDepth 100000 in
theorem recurSays_out {many : Int} (hg : ErrT w) (hf : RdI w a1 n1 c1 f) (hs : RdI w a2 n2 c2 s) (h : checkR f s = none) (ho : inB many 0 1000 = false) :
    Calls Tryd.prog 3 #[.slice a1 n1 c1, .slice a2 n2 c2, .int .i64 many] w fun e w' => e = .returned (.bool true) ∧ Below w.heap.size w w' := by
  have C0 := M_Recur_any hf hs
  rw [h] at C0
  have C0 := Lib.hid C0
  have H := Lib.hid h
  have HR : Hid (rowErr f s many = some 1) := by
    unfold Hid rowErr
    rw [if_pos h, if_pos]
    unfold outB
    unfold inB at ho
    simp only [Bool.and_eq_false_iff, decide_eq_false_iff_not] at ho
    simp only [Bool.or_eq_true, decide_eq_true_eq]
    omega
  have CI := L3_in_any many 0 1000
  rw [ho] at CI
  have CI := Lib.hid CI
  clear h ho
  go_enter Tryd.func3, Tryd.ntmps3
  go_wp2_with (first
    | (go_at_call 4; (with_reducible refine C0.out.mono ?_); rintro e w1 ⟨rfl, rfl⟩; simp only [Option.getD_none])
    | (go_at_call 6; refine (check_is hf hs H.out).mono ?_; rintro e w2 ⟨rfl, rfl⟩; simp only [errV])
    | (go_at_call 5; fail))
  refine (E_nil0 hg).mono ?_
  rintro e w2 ⟨rfl, k2⟩
  clear C0
  go_wp2_with (first
    | (go_at_call 7; (with_reducible refine (CI.out _).mono ?_); rintro e w3 ⟨rfl, rfl⟩)
    | (go_at_call 9; refine (Row_err (hf.below k2) (hs.below k2) HR.out).mono ?_; rintro e w3 ⟨rfl, rfl⟩)
    | (go_at_call 5; fail))
  refine (E_same (hg.below k2)).mono ?_
  rintro e w4 ⟨rfl, b4⟩
  have k4 := below_tr k2 b4
  clear b4 k2
  go_wp2_with (first
    | (go_at_call 10; refine (Ints_none _).mono ?_; rintro e w5 ⟨rfl, b5⟩; have k5 := below_tr k4 b5)
    | (go_at_call 11; refine (Term_err (hf.below k5) (hs.below k5) HR.out).mono ?_; rintro e w6 ⟨rfl, rfl⟩)
    | (go_at_call 5; refine (E_same (hg.below k5)).mono ?_; rintro e w7 ⟨rfl, b7⟩))
  go_ret
  exact ⟨rfl, below_tr k5 b7⟩

set_option maxHeartbeats 2000000 in
set_option maxRecDepth 100000 in
theorem recurSays_ok {many : Nat} (hg : ErrT w) (hf : RdI w a1 n1 c1 f) (hs : RdI w a2 n2 c2 s) (h : checkR f s = none) (hm : many ≤ 1000) :
    Calls Tryd.prog 3 #[.slice a1 n1 c1, .slice a2 n2 c2, .int .i64 many] w fun e w' => e = .returned (.bool true) ∧ Below w.heap.size w w' := by
  have C0 := M_Recur_any hf hs
  rw [h] at C0
  have C0 := Lib.hid C0
  obtain ⟨g1, g2, g3, g4, g5⟩ := checkR_none h
  have H := Lib.hid h
  have HR : Hid (rowErr f s many = none) := by
    unfold Hid rowErr
    rw [if_pos h, if_neg]
    unfold outB
    simp only [Bool.or_eq_true, decide_eq_true_eq]
    omega
  have CI := L3_in_any many 0 1000
  rw [show inB (many : Int) 0 1000 = true from by unfold inB; simp; omega] at CI
  have CI := Lib.hid CI
  have e1 := hf.len_eq
  have e2 := hs.len_eq
  have HM : Hid (∀ w' : World, Below w.heap.size w w' → Calls Tryd.prog 8 #[.slice a1 n1 c1, .slice a2 n2 c2, .int .i64 ((many : Int) + 1)] w' fun e w2 => ∃ a cap, e = .returned (.slice a (many + 1) cap) ∧ OwI w2 w'.heap.size 3 a (many + 1) cap (rowN f s (many + 1)) ∧ Below w'.heap.size w' w2) := fun w' k => M_Row_any (many + 1) (hf.below k) (hs.below k) g4 g5 (by omega) (by omega) (by omega)
  have i1 : (many : Int) ≤ ((many + 1 : Nat) : Int) := by omega
  have i2 : (many : Int) < ((many + 1 : Nat) : Int) := by omega
  clear h g1 g2 g3 g4 g5 e1 e2
  go_enter Tryd.func3, Tryd.ntmps3
  go_wp2_with (first
    | (go_at_call 4; (with_reducible refine C0.out.mono ?_); rintro e w1 ⟨rfl, rfl⟩; simp only [Option.getD_none])
    | (go_at_call 6; refine (check_is hf hs H.out).mono ?_; rintro e w2 ⟨rfl, rfl⟩; simp only [errV])
    | (go_at_call 5; fail))
  refine (E_nil0 hg).mono ?_
  rintro e w2 ⟨rfl, k2⟩
  clear C0
  go_wp2_with (first
    | (go_at_call 7; (with_reducible refine (CI.out _).mono ?_); rintro e w3 ⟨rfl, rfl⟩)
    | (go_at_call 8; (with_reducible refine (HM.out _ k2).mono ?_); rintro e w3 ⟨aR, cR, rfl, hR, b3⟩; obtain ⟨gR, hzz, _, _, hcR, _⟩ := hR.at (Nat.succ_pos _); cases hzz; have hc0 := hcR many (Nat.lt_succ_self _); have hcp := hR.caps; unfold maxLen at hcp)
    | (go_at_call 9; fail))
  have k3 := below_tr k2 b3
  have hR3 := hR.rd.take (n := many) (by omega)
  rw [show (rowN f s (many + 1)).take many = rowN f s many from by rw [rowN, List.take_append_of_le_length (by rw [rowN_len]; exact Nat.le_refl _), List.take_of_length_le (by rw [rowN_len]; exact Nat.le_refl _)]] at hR3
  obtain ⟨X, hX⟩ : ∃ X, X = ix (rowN f s (many + 1)) many := ⟨_, rfl⟩
  have CT := Lib.hid (fun (w' : World) (k : Below w.heap.size w w') => Term_okN (many := many) (hf.below k) (hs.below k) HR.out)
  rw [← hX] at CT ⊢
  have z1 : (X == X) = true := beq_iff_eq.2 rfl
  clear hX hc0 hcR hR b3 k2 hcp
  refine (Row_okN (hf.below k3) (hs.below k3) HR.out).mono ?_
  rintro e w4 ⟨aL, cL, rfl, hL, b4⟩
  have k4 := below_tr k3 b4
  have hR4 := hR3.below b4
  have hL4 := hL.rd
  clear b4 k3 hL hR3
  go_wp2_with fail
  refine (E_nil0 (hg.below k4)).mono ?_
  rintro e w5 ⟨rfl, b5⟩
  have k5 := below_tr k4 b5
  have C := Lib.hid (Ints_eq (hL4.below b5) (hR4.below b5) rfl)
  clear b5 k4 hL4 hR4
  go_wp2_with (first
    | (go_at_call 10; (with_reducible refine C.out.mono ?_); rintro e w6 ⟨rfl, b6⟩; have k6 := below_tr k5 b6)
    | (go_at_call 11; (with_reducible refine (CT.out _ k6).mono ?_); rintro e w7 ⟨rfl, b7⟩; have k7 := below_tr k6 b7)
    | (go_at_call 5; refine (E_nil0 (hg.below k7)).mono ?_; rintro e w8 ⟨rfl, b8⟩))
  go_ret
  exact ⟨rfl, below_tr k7 b8⟩

theorem recurSays_walk {many : Int} (hg : ErrT w) (hf : RdI w a1 n1 c1 f) (_ : Fit f) (hs : RdI w a2 n2 c2 s) (_ : Fit s) (_ : (Lit.int .i64 many).wf = true) :
    Calls Tryd.prog 3 #[.slice a1 n1 c1, .slice a2 n2 c2, .int .i64 many] w fun e w' => e = .returned (.bool true) ∧ Below w.heap.size w w' := by
  rcases h : checkR f s with _ | c
  · rcases hm : inB many 0 1000
    · exact recurSays_out hg hf hs h hm
    · have hm2 : 0 ≤ many ∧ many ≤ 1000 := by unfold inB at hm; simp at hm; omega
      obtain ⟨m, rfl⟩ := Int.eq_ofNat_of_zero_le hm2.1
      exact recurSays_ok hg hf hs h (by omega)
  · exact recurSays_err hg hf hs h
end
end Go.Proofs.YtcohkjppfalckaaDoor
