/-
  The statements' own word for 'between'.
-/
import Derived.Test.YtfocfgddlnjfmaaRows
import Derived.Test.YtfocfgddlnjfmaaLib
import Derived.Test.YtfocfgddlnjfmaaRef
namespace Go.Proofs.Ytfocfgddlnjfmaa
open Go.RowKit Go.Rk

theorem T_in_any (n lo hi : Int) (w : World) :
    Calls Try.prog 22 #[.int .i64 n, .int .i64 lo, .int .i64 hi] w fun e w' => e = .returned (.bool (inB n lo hi)) ∧ w = w' := by
  by_cases h : lo ≤ n
  all_goals
    go_enter Try.func22, Try.ntmps22
    go_wp2
    all_goals (go_ret; refine ⟨congrArg (fun b => Ending.returned (.bool b)) ?_, rfl⟩; unfold inB; simp; try omega)
end Go.Proofs.Ytfocfgddlnjfmaa
