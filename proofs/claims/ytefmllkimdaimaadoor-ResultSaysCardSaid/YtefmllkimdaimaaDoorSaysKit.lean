/-
  What the statements on whole packages use again and again: the reference's Field, and rows and matrices that are the same.
-/
import Derived.Test.YtefmllkimdaimaaDoorRows
import Derived.Test.YtefmllkimdaimaaDoorLib
import Derived.Test.YtefmllkimdaimaaDoorNum
import Derived.Test.YtefmllkimdaimaaDoorRef
import Derived.Test.YtefmllkimdaimaaDoorRDet
import Derived.Test.YtefmllkimdaimaaDoorTr
import Derived.Test.YtefmllkimdaimaaDoorErrTold
namespace Go.Proofs.YtefmllkimdaimaaDoor
open Go.RowKit Go.Rk

theorem Rows_eq {a a2 : Option Addr} {len len2 cap cap2 : Nat} {M N : List (List Int)} {w : World} (h : RdM w a len cap M) (h2 : RdM w a2 len2 cap2 N) (e : M = N) :
    Calls Tryd.prog 24 #[.slice a len cap, .slice a2 len2 cap2] w fun e w' => e = .returned (.bool true) ∧ Below w.heap.size w w' := by
  refine (Rows_any h h2).mono ?_
  rintro _ _ ⟨rfl, hb⟩
  exact ⟨by rw [decide_eq_true e], hb⟩
theorem Rows_none (w : World) : Calls Tryd.prog 24 #[.slice none 0 0, .slice none 0 0] w fun e w' => e = .returned (.bool true) ∧ Below w.heap.size w w' := Rows_eq (RdM.nil w) (RdM.nil w) rfl
theorem Ints_eq {a a2 : Option Addr} {len len2 cap cap2 : Nat} {l m : List Int} {w : World} (h : RdI w a len cap l) (h2 : RdI w a2 len2 cap2 m) (e : l = m) :
    Calls Tryd.prog 22 #[.slice a len cap, .slice a2 len2 cap2] w fun e w' => e = .returned (.bool true) ∧ Below w.heap.size w w' := by
  refine (Ints_any h h2).mono ?_
  rintro _ _ ⟨rfl, hb⟩
  exact ⟨by rw [decide_eq_true e], hb⟩
theorem Ints_none (w : World) : Calls Tryd.prog 22 #[.slice none 0 0, .slice none 0 0] w fun e w' => e = .returned (.bool true) ∧ Below w.heap.size w w' := Ints_eq (RdI.nil w) (RdI.nil w) rfl
end Go.Proofs.YtefmllkimdaimaaDoor
