/-
  bareiss.Check, bareiss.Of and bareiss.Leading walked: the determinant of whole numbers, and those of the first rows and columns.
-/
import Derived.Test.YtefmllkimdaimaaDoorRows
import Derived.Test.YtefmllkimdaimaaDoorLib
import Derived.Test.YtefmllkimdaimaaDoorNum
import Derived.Test.YtefmllkimdaimaaDoorMatD
import Derived.Test.YtefmllkimdaimaaDoorDetOf
import Derived.Test.YtefmllkimdaimaaDoorAlias
import Derived.Test.YtefmllkimdaimaaDoorBareissW
namespace Go.Proofs.YtefmllkimdaimaaDoor
open Go.RowKit Go.Rk

section
variable {a : Option Addr} {n cap : Nat} {M : List (List Int)} {w : World}
theorem bareiss_Check_is {o : Option Int} (h : RdM w a n cap M) (ho : squareR 5 (-9) 9 M = o) :
    Calls Tryd.prog 31 #[.slice a n cap] w fun e w' => e = .returned (errV o) ∧ w = w' := by
  have C := Lib.hid (Square_any 5 (-9) 9 h)
  rw [ho] at C
  clear ho
  go_enter Tryd.func31, Tryd.ntmps31
  go_wp2_with (go_at_call 83; refine C.out.mono ?_; rintro e w' ⟨rfl, rfl⟩)
  go_ret
  exact ⟨rfl, rfl⟩
theorem bareiss_Of_err {c : Int} (h : RdM w a n cap M) (hc : squareR 5 (-9) 9 M = some c) :
    Calls Tryd.prog 34 #[.slice a n cap] w fun e w' => e = .returned (.tuple #[.int .i64 0, .iface 75 (.int .i64 c)]) ∧ w = w' := by
  have C := Lib.hid (bareiss_Check_is h hc)
  clear hc
  go_enter Tryd.func34, Tryd.ntmps34
  go_wp2_with (go_at_call 31; refine C.out.mono ?_; rintro e w' ⟨rfl, rfl⟩; simp only [errV])
  go_ret2
  exact ⟨rfl, rfl⟩
theorem bareiss_Of_ok (h : RdM w a n cap M) (hc : squareR 5 (-9) 9 M = none) :
    Calls Tryd.prog 34 #[.slice a n cap] w fun e w' => e = .returned (.tuple #[.int .i64 (det n (mx M)), .nilIface]) ∧ Below w.heap.size w w' := by
  have C := Lib.hid (bareiss_Check_is h hc)
  obtain ⟨g1, g2, g3, g4⟩ := squareR_none hc
  have e1 := h.len_eq
  rw [e1] at g1 g2 g3 g4
  have C2 := Lib.hid (bareiss_of_any h g3 g4 g1 (by omega))
  clear hc e1 g1 g2 g3 g4
  go_enter Tryd.func34, Tryd.ntmps34
  go_wp2_with (first | (go_at_call 31; refine C.out.mono ?_; rintro e w' ⟨rfl, rfl⟩; simp only [errV]) | (go_at_call 84; refine C2.out.mono ?_; rintro e w' ⟨rfl, hb⟩))
  go_ret2
  exact ⟨rfl, hb⟩
end

/-- The determinants of the first rows and columns. -/
def leadN (M : List (List Int)) (n : Nat) : List Int := (List.range n).map fun k => det (k + 1) (mx M)
theorem leadN_succ (M : List (List Int)) (n : Nat) : leadN M (n + 1) = leadN M n ++ [det (n + 1) (mx M)] := by simp [leadN, List.range_succ]
theorem leadN_len (M : List (List Int)) (n : Nat) : (leadN M n).length = n := by simp [leadN]
theorem leadN_ix {M : List (List Int)} {n k : Nat} (h : k < n) : ix (leadN M n) k = det (k + 1) (mx M) := by rw [ix_lt (by rw [leadN_len]; exact h)]; simp [leadN]
/-- The first rows' beginnings. -/
def cornN (M : List (List Int)) (k j : Nat) : List (List Int) := (M.take j).map (·.take k)
theorem cornN_succ {M : List (List Int)} {k j : Nat} (h : j < M.length) : cornN M k (j + 1) = cornN M k j ++ [(rowOf M j).take k] := by
  unfold cornN
  rw [take_succ_row h]
  simp
theorem cornN_len {M : List (List Int)} {k j : Nat} (h : j ≤ M.length) : (cornN M k j).length = j := by simp [cornN]; omega
theorem cornN_row {M : List (List Int)} {k j i : Nat} (h : j ≤ M.length) (hi : i < j) : rowOf (cornN M k j) i = (rowOf M i).take k := by
  rw [rowOf_lt (by rw [cornN_len h]; exact hi), rowOf_lt (by omega)]
  simp [cornN]
theorem cornN_dim {M : List (List Int)} {n k : Nat} (d : Dim n M) (h : k ≤ n) : Dim k (cornN M k k) :=
  ⟨cornN_len (by rw [d.1]; exact h), fun i hi => by rw [cornN_row (by rw [d.1]; exact h) hi, List.length_take, d.2 i (by omega)]; omega⟩
theorem cornN_en {M : List (List Int)} {n k i j : Nat} (d : Dim n M) (h : k ≤ n) (hi : i < k) (hj : j < k) : en (cornN M k k) i j = en M i j := by
  unfold en
  rw [cornN_row (by rw [d.1]; exact h) hi, ix_take hj]

section
variable {a : Option Addr} {n cap : Nat} {M : List (List Int)} {w : World}
theorem bareiss_Leading_err {c : Int} (h : RdM w a n cap M) (hc : squareR 5 (-9) 9 M = some c) :
    Calls Tryd.prog 35 #[.slice a n cap] w fun e w' => e = .returned (.tuple #[.slice none 0 0, .iface 75 (.int .i64 c)]) ∧ w = w' := by
  have C := Lib.hid (bareiss_Check_is h hc)
  clear hc
  go_enter Tryd.func35, Tryd.ntmps35
  go_wp2_with (go_at_call 31; refine C.out.mono ?_; rintro e w' ⟨rfl, rfl⟩; simp only [errV])
  go_ret2
  exact ⟨rfl, rfl⟩
set_option maxHeartbeats 1000000 in
set_option maxRecDepth 100000 in
theorem bareiss_Leading_ok (h : RdM w a n cap M) (hc : squareR 5 (-9) 9 M = none) :
    Calls Tryd.prog 35 #[.slice a n cap] w fun e w' => ∃ a' cap', e = .returned (.tuple #[.slice a' n cap', .nilIface]) ∧ OwI w' w.heap.size 3 a' n cap' (leadN M n) ∧ Below w.heap.size w w' := by
  have C := Lib.hid (bareiss_Check_is h hc)
  have HIT := Lib.hid intTy
  have HMT := Lib.hid matTy
  obtain ⟨g1, g2, g3, g4⟩ := squareR_none hc
  have e1 := h.len_eq
  rw [e1] at g1 g2 g3 g4
  have n5 : n ≤ 5 := by omega
  have HD := Lib.hid g3
  have HE := Lib.hid g4
  have hcap := h.le
  have hcm := h.max
  have HL := Lib.hid e1
  clear hc e1 g2 g3 g4
  go_enter Tryd.func35, Tryd.ntmps35
  go_wp2_with (go_at_call 31; refine C.out.mono ?_; rintro e w' ⟨rfl, rfl⟩; simp only [errV])
  go_loopw [5, 6] (fun s i wr => ∃ (k q : Nat) (ao : Option Addr) (co : Nat), Hid (k = q + 1) ∧ 1 ≤ k ∧ k ≤ n + 1 ∧ q ≤ n ∧ i = .int .i64 k ∧ s = .slice ao q co ∧ OwI wr w.heap.size 3 ao q co (leadN M q) ∧ Below w.heap.size w wr) (fun _ i _ => n + 1 - (intOf i).toNat)
  case atStart => exact ⟨1, 0, none, 0, rfl, by omega, by omega, by omega, rfl, rfl, OwI.nil _ _ _, Below.refl _ _⟩
  case round =>
    obtain ⟨k, q, ao, co, hkq, hk1, hk2, hq, rfl, rfl, ho, hb⟩ := hrel
    by_cases hkn : k ≤ n
    · have i1 : (k : Int) ≤ (n : Int) := by omega
      have i2 : k ≤ cap := by omega
      have hrd := h.below hb
      obtain ⟨b, off, rfl, hbl, hr⟩ := hrd.at (k := 0) (by omega)
      have HR := Lib.hid hr
      clear hr
      go_wp2
      go_loopw [7, 25] (fun s i wv => ∃ (j : Nat) (ap : Option Addr) (cp : Nat), j ≤ k ∧ i = .int .i64 j ∧ s = .slice ap j cp ∧ AlM wr wv 22 ap j cp (cornN M k j)) (fun _ i _ => k - (intOf i).toNat)
      case atStart => exact ⟨0, none, 0, by omega, rfl, rfl, AlM.nil _ (Below.refl _ _)⟩
      case round =>
        obtain ⟨j, ap, cp, hj, rfl, rfl, hal⟩ := hrel
        by_cases hjk : j < k
        · have j1 : (j : Int) < (k : Int) := by omega
          obtain ⟨ar, cr, hc, hrr⟩ := HR.out j (by omega)
          have hc2 := hal.bel.keep hbl hc
          have hrt := hrr.take (n := k) (by rw [HD.out.2 j (by omega)]; exact hkn)
          rw [HD.out.2 j (by omega)] at hc2
          have hrl := hrr.le
          rw [HD.out.2 j (by omega)] at hrl
          have htl : ((rowOf M j).take k).length = k := by rw [List.length_take, HD.out.2 j (by omega)]; omega
          have HRT := Lib.hid hrt
          have HTL := Lib.hid htl
          have hcr : k ≤ cr := by omega
          have hcr2 := hrr.max
          clear hrt htl hc hrr
          go_wp2_with (first | (at_builtin; refine wpList_push_alias HMT.out rfl (.tmp 29) (.tmp 33) rfl rfl rfl (hal.alloc _) (ar := ar) (l := (rowOf M j).take k) (cr := cr) (by rw [HTL.out]; exact HRT.out) (by rw [HTL.out]; simp) (by omega) ?_; intro a4 cap4 w4 ho4))
          go_roundw
          case rel => exact ⟨j + 1, _, _, by omega, by go_num, rfl, by rw [cornN_succ (by rw [HL.out]; omega)]; exact ho4⟩
          case measure => simp [intOf]; omega
        · obtain rfl : j = k := by omega
          have hpr := hal.rd
          have C2 := Lib.hid (bareiss_of_any hpr (cornN_dim HD.out hkn) (fun i s h1 h2 => by rw [cornN_en HD.out hkn h1 h2]; exact HE.out i s (by omega) (by omega)) hk1 (by omega))
          have hdet : det j (mx (cornN M j j)) = det j (mx M) := det_congr fun i s h1 h2 => cornN_en HD.out hkn h1 h2
          rw [hdet] at C2
          have ho2 := ho.below hal.bel
          have hb2 := hb.trans (hal.bel.mono hb.size)
          clear hdet hpr
          go_wp2_with (first | (go_at_call 84; (with_reducible refine C2.out.mono ?_); rintro e w5 ⟨rfl, hb5⟩; have ho5 := ho2.below hb5; have hb6 := hb2.trans (hb5.mono hb2.size); have hz6 := hb6.size) | (at_builtin; refine wpList_push_int HIT.out rfl (.tmp 36) (.tmp 39) rfl rfl rfl (ho5.alloc _) (z := det j (mx M)) (by simp) (by decide) (by decide) (by omega) (by simp; omega) ?_; intro a4 cap4 w4 ho4 hg4))
          go_roundw
          case rel => exact ⟨j + 1, q + 1, a4, cap4, congrArg (· + 1) hkq.out, by omega, by omega, by have := hkq.out; omega, by go_num, rfl, by
            rw [leadN_succ, ← hkq.out]
            rw [← hkq.out] at ho4
            exact ho4, below_grown (hb6.alloc hb6.size _) (ho5.alloc _) (by have := hb6.size; simp; omega) hg4⟩
          case measure => simp [intOf]; omega
    · obtain rfl : k = n + 1 := by omega
      obtain rfl : q = n := by have := hkq.out; omega
      have i1 : ¬ ((q + 1 : Nat) : Int) ≤ (q : Int) := by omega
      go_wp2
      go_ret2
      exact ⟨ao, co, rfl, ho, hb⟩
end
end Go.Proofs.YtefmllkimdaimaaDoor
