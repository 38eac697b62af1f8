/-
  bareiss.Check, bareiss.Of and bareiss.Leading walked: the determinant of whole numbers, and those of the first rows and columns.
-/
import Derived.Test.YtfocfgddlnjfmaaRows
import Derived.Test.YtfocfgddlnjfmaaLib
import Derived.Test.YtfocfgddlnjfmaaNum
import Derived.Test.YtfocfgddlnjfmaaMatD
import Derived.Test.YtfocfgddlnjfmaaDetOf
import Derived.Test.YtfocfgddlnjfmaaAlias
import Derived.Test.YtfocfgddlnjfmaaBareissW
namespace Go.Proofs.Ytfocfgddlnjfmaa
open Go.RowKit Go.Rk

section
variable {a : Option Addr} {n cap : Nat} {M : List (List Int)} {w : World}
theorem bareiss_Check_is {o : Option Int} (h : RdM w a n cap M) (ho : squareR 5 (-9) 9 M = o) :
    Calls Try.prog 52 #[.slice a n cap] w fun e w' => e = .returned (errV o) ∧ w = w' := by
  have C := Lib.hid (Square_any 5 (-9) 9 h)
  rw [ho] at C
  clear ho
  go_enter Try.func52, Try.ntmps52
  go_wp2_with (go_at_call 84; refine C.out.mono ?_; rintro e w' ⟨rfl, rfl⟩)
  go_ret
  exact ⟨rfl, rfl⟩
theorem bareiss_Of_err {c : Int} (h : RdM w a n cap M) (hc : squareR 5 (-9) 9 M = some c) :
    Calls Try.prog 23 #[.slice a n cap] w fun e w' => e = .returned (.tuple #[.int .i64 0, .iface 64 (.int .i64 c)]) ∧ w = w' := by
  have C := Lib.hid (bareiss_Check_is h hc)
  clear hc
  go_enter Try.func23, Try.ntmps23
  go_wp2_with (go_at_call 52; refine C.out.mono ?_; rintro e w' ⟨rfl, rfl⟩; simp only [errV])
  go_ret2
  exact ⟨rfl, rfl⟩
theorem bareiss_Of_ok (h : RdM w a n cap M) (hc : squareR 5 (-9) 9 M = none) :
    Calls Try.prog 23 #[.slice a n cap] w fun e w' => e = .returned (.tuple #[.int .i64 (det n (mx M)), .nilIface]) ∧ Below w.heap.size w w' := by
  have C := Lib.hid (bareiss_Check_is h hc)
  obtain ⟨g1, g2, g3, g4⟩ := squareR_none hc
  have e1 := h.len_eq
  rw [e1] at g1 g2 g3 g4
  have C2 := Lib.hid (bareiss_of_any h g3 g4 g1 (by omega))
  clear hc e1 g1 g2 g3 g4
  go_enter Try.func23, Try.ntmps23
  go_wp2_with (first | (go_at_call 52; refine C.out.mono ?_; rintro e w' ⟨rfl, rfl⟩; simp only [errV]) | (go_at_call 53; refine C2.out.mono ?_; rintro e w' ⟨rfl, hb⟩))
  go_ret2
  exact ⟨rfl, hb⟩
end

/-- The determinants of the first rows and columns. -/
def leadN (M : List (List Int)) (n : Nat) : List Int := (List.range n).map fun k => det (k + 1) (mx M)
theorem leadN_succ (M : List (List Int)) (n : Nat) : leadN M (n + 1) = leadN M n ++ [det (n + 1) (mx M)] := by simp [leadN, List.range_succ]
theorem leadN_len (M : List (List Int)) (n : Nat) : (leadN M n).length = n := by simp [leadN]
theorem leadN_ix {M : List (List Int)} {n k : Nat} (h : k < n) : ix (leadN M n) k = det (k + 1) (mx M) := by rw [ix_lt (by rw [leadN_len]; exact h)]; simp [leadN]
/-- The first rows' beginnings. -/
def cornN (M : List (List Int)) (k j : Nat) : List (List Int) := (M.take j).map (·.take k)
theorem cornN_succ {M : List (List Int)} {k j : Nat} (h : j < M.length) : cornN M k (j + 1) = cornN M k j ++ [(rowOf M j).take k] := by
  unfold cornN
  rw [take_succ_row h]
  simp
theorem cornN_len {M : List (List Int)} {k j : Nat} (h : j ≤ M.length) : (cornN M k j).length = j := by simp [cornN]; omega
theorem cornN_row {M : List (List Int)} {k j i : Nat} (h : j ≤ M.length) (hi : i < j) : rowOf (cornN M k j) i = (rowOf M i).take k := by
  rw [rowOf_lt (by rw [cornN_len h]; exact hi), rowOf_lt (by omega)]
  simp [cornN]
theorem cornN_dim {M : List (List Int)} {n k : Nat} (d : Dim n M) (h : k ≤ n) : Dim k (cornN M k k) :=
  ⟨cornN_len (by rw [d.1]; exact h), fun i hi => by rw [cornN_row (by rw [d.1]; exact h) hi, List.length_take, d.2 i (by omega)]; omega⟩
theorem cornN_en {M : List (List Int)} {n k i j : Nat} (d : Dim n M) (h : k ≤ n) (hi : i < k) (hj : j < k) : en (cornN M k k) i j = en M i j := by
  unfold en
  rw [cornN_row (by rw [d.1]; exact h) hi, ix_take hj]

section
variable {a : Option Addr} {n cap : Nat} {M : List (List Int)} {w : World}
end
end Go.Proofs.Ytfocfgddlnjfmaa
