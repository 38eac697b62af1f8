/-
  What the statements on whole packages use again and again: the reference's Field, and rows and matrices that are the same.
-/
import Derived.Test.YtkielldinghmbaaDoorRows
import Derived.Test.YtkielldinghmbaaDoorLib
import Derived.Test.YtkielldinghmbaaDoorNum
import Derived.Test.YtkielldinghmbaaDoorRef
import Derived.Test.YtkielldinghmbaaDoorRDet
import Derived.Test.YtkielldinghmbaaDoorTr
import Derived.Test.YtkielldinghmbaaDoorErrTold
namespace Go.Proofs.YtkielldinghmbaaDoor
open Go.RowKit Go.Rk

theorem R_Field_any {a : Option Addr} {n cap : Nat} {M : List (List Int)} {w : World} {o : Option Int} (h : RdM w a n cap M) (ho : groundsR 5 0 9972 M = o) :
    Calls Tryd.prog 16 #[.slice a n cap] w fun e w' => e = .returned (numV o) ∧ Below w.heap.size w w' := by
  have C := R_Matrix_any 5 0 9972 h
  rw [ho] at C
  have C := Lib.hid C
  clear ho
  go_enter Tryd.func16, Tryd.ntmps16
  go_wp2_with (first | (go_at_call 61; (with_reducible refine C.out.mono ?_); rintro e w1 ⟨rfl, hb⟩))
  go_ret
  exact ⟨rfl, hb⟩
theorem Rows_eq {a a2 : Option Addr} {len len2 cap cap2 : Nat} {M N : List (List Int)} {w : World} (h : RdM w a len cap M) (h2 : RdM w a2 len2 cap2 N) (e : M = N) :
    Calls Tryd.prog 21 #[.slice a len cap, .slice a2 len2 cap2] w fun e w' => e = .returned (.bool true) ∧ Below w.heap.size w w' := by
  refine (Rows_any h h2).mono ?_
  rintro _ _ ⟨rfl, hb⟩
  exact ⟨by rw [decide_eq_true e], hb⟩
theorem Rows_none (w : World) : Calls Tryd.prog 21 #[.slice none 0 0, .slice none 0 0] w fun e w' => e = .returned (.bool true) ∧ Below w.heap.size w w' := Rows_eq (RdM.nil w) (RdM.nil w) rfl
theorem Ints_eq {a a2 : Option Addr} {len len2 cap cap2 : Nat} {l m : List Int} {w : World} (h : RdI w a len cap l) (h2 : RdI w a2 len2 cap2 m) (e : l = m) :
    Calls Tryd.prog 32 #[.slice a len cap, .slice a2 len2 cap2] w fun e w' => e = .returned (.bool true) ∧ Below w.heap.size w w' := by
  refine (Ints_any h h2).mono ?_
  rintro _ _ ⟨rfl, hb⟩
  exact ⟨by rw [decide_eq_true e], hb⟩
theorem Ints_none (w : World) : Calls Tryd.prog 32 #[.slice none 0 0, .slice none 0 0] w fun e w' => e = .returned (.bool true) ∧ Below w.heap.size w w' := Ints_eq (RdI.nil w) (RdI.nil w) rfl
end Go.Proofs.YtkielldinghmbaaDoor
