/-
  Matrices by a rule, row by row. No program in sight.
-/
import Derived.Test.YtfocfgddlnjfmaaLib
import Derived.Test.YtfocfgddlnjfmaaMat
import Derived.Test.YtfocfgddlnjfmaaRect
namespace Go.Rk

def rowF (f : Nat → Int) (c : Nat) : List Int := (List.range c).map f
def rowsF (F : Nat → Nat → Int) (c n : Nat) : List (List Int) := (List.range n).map fun i => rowF (F i) c
theorem rowF_succ (f : Nat → Int) (c : Nat) : rowF f (c + 1) = rowF f c ++ [f c] := by simp [rowF, List.range_succ]
theorem rowF_len (f : Nat → Int) (c : Nat) : (rowF f c).length = c := by simp [rowF]
theorem rowF_ix {f : Nat → Int} {c k : Nat} (h : k < c) : ix (rowF f c) k = f k := by
  rw [ix_lt (by rw [rowF_len]; exact h)]; simp [rowF]
theorem rowsF_succ (F : Nat → Nat → Int) (c n : Nat) : rowsF F c (n + 1) = rowsF F c n ++ [rowF (F n) c] := by simp [rowsF, List.range_succ]
theorem rowsF_row {F : Nat → Nat → Int} {c n i : Nat} (h : i < n) : rowOf (rowsF F c n) i = rowF (F i) c := by
  rw [rowOf_lt (by simp [rowsF]; exact h)]; simp [rowsF]
theorem rowsF_is (F : Nat → Nat → Int) (c n : Nat) : IsR n c (rowsF F c n) F :=
  ⟨⟨by simp [rowsF], fun i hi => by rw [rowsF_row hi, rowF_len]⟩, fun i j hi hj => by unfold en; rw [rowsF_row hi, rowF_ix hj]⟩
theorem IsR.same {n c : Nat} {F : Nat → Nat → Int} {P Q : List (List Int)} (h : IsR n c P F) (k : IsR n c Q F) : P = Q := h.1.ext k.1 fun i j hi hj => by rw [h.2 i j hi hj, k.2 i j hi hj]
end Go.Rk
