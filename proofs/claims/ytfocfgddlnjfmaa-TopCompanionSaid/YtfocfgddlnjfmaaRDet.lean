/-
  The reference's Matrix, Square, Without and DetMod walked.
-/
import Derived.Test.YtfocfgddlnjfmaaRows
import Derived.Test.YtfocfgddlnjfmaaLib
import Derived.Test.YtfocfgddlnjfmaaNum
import Derived.Test.YtfocfgddlnjfmaaRef
import Derived.Test.YtfocfgddlnjfmaaRect
import Derived.Test.YtfocfgddlnjfmaaMx
import Derived.Test.YtfocfgddlnjfmaaTr
import Derived.Test.YtfocfgddlnjfmaaElim
import Derived.Test.YtfocfgddlnjfmaaCut
import Derived.Deep.QuietTactic
import Derived.BigQuiet
import Derived.Deep.RegionHeld3
import Derived.StillTailTactics
namespace Go.Proofs.Ytfocfgddlnjfmaa
open Go.RowKit Go.Rk

/-- What is wrong, as a number. -/
def numV (o : Option Int) : Value := .int .i64 (o.getD 0)
theorem allB_any (lo hi : Int) (l : List Int) : allB lo hi l = !anyB lo hi l := by
  unfold allB anyB
  rw [List.all_eq_not_any_not]
  congr 2
  funext x
  unfold inB outB
  by_cases h1 : lo ≤ x <;> by_cases h2 : x ≤ hi <;> simp [h1, h2] <;> omega

theorem rowsErr_ne0 {lo hi : Int} {m : Nat} {M : List (List Int)} (h : rowsErr lo hi m M = some 0) : False := by
  have key : ∀ (M : List (List Int)) (r : Option Int), r ≠ some 0 → M.foldl (fun r l => match r with | none => rowErr1 lo hi m l | some c => some c) r ≠ some 0 := by
    intro M
    induction M with
    | nil => intro r hr; exact hr
    | cons l M ih =>
      intro r hr
      rw [List.foldl_cons]
      refine ih _ ?_
      cases r with
      | none =>
        show rowErr1 lo hi m l ≠ some 0
        unfold rowErr1
        split
        · simp
        · split <;> simp
      | some c => exact hr
  exact key M none (by simp) h

theorem groundsR_ne0 {most lo hi : Int} {M : List (List Int)} (hg : groundsR most lo hi M = some 0) : False := by
  unfold groundsR at hg
  split at hg
  · injection hg; omega
  · split at hg
    · injection hg; omega
    · exact rowsErr_ne0 hg
theorem squareR_ne0 {most lo hi : Int} {M : List (List Int)} (h : squareR most lo hi M = some 0) : False := by
  unfold squareR at h
  split at h
  · split at h
    · cases h
    · injection h; omega
  · exact groundsR_ne0 h

end Go.Proofs.Ytfocfgddlnjfmaa
