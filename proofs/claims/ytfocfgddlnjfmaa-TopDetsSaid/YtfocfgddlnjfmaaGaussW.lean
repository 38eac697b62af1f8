/-
  gauss.clear walked.
-/
import Derived.Test.YtfocfgddlnjfmaaRows
import Derived.Test.YtfocfgddlnjfmaaLib
import Derived.Test.YtfocfgddlnjfmaaNum
import Derived.Test.YtfocfgddlnjfmaaMatD
import Derived.Test.YtfocfgddlnjfmaaRect
import Derived.Test.YtfocfgddlnjfmaaElim
import Derived.Deep.QuietTactic
import Derived.BigQuiet
import Derived.StillTailTactics
namespace Go.Proofs.Ytfocfgddlnjfmaa
open Go.RowKit Go.Rk

/-- What clearing a column makes of an element. -/
def clearE (M : List (List Int)) (at_ col : Nat) (i j : Nat) : Int :=
  if i = at_ then en M at_ j * powm (en M at_ col) 9971 % 9973 else (en M i j - en M i col * (en M at_ j * powm (en M at_ col) 9971 % 9973)) % 9973

/-- The pivot's row is scaled. -/
def scaleE (M : List (List Int)) (at_ : Nat) (ov : Int) (i j : Nat) : Int := if i = at_ then en M at_ j * ov % 9973 else en M i j
def clearO (M : List (List Int)) (at_ col : Nat) (ov : Int) (i j : Nat) : Int :=
  if i = at_ then en M at_ j * ov % 9973 else (en M i j - en M i col * (en M at_ j * ov % 9973)) % 9973
theorem clearO_in {M : List (List Int)} {at_ col : Nat} {ov : Int} (i j : Nat) : 0 ≤ clearO M at_ col ov i j ∧ clearO M at_ col ov i j ≤ 9972 := by
  unfold clearO; split <;> omega
theorem clearO_same {M : List (List Int)} {n c at_ col : Nat} {ov : Int} (he : EntR 0 9972 n c M) {i j : Nat} (hi : i < n) (hj : j < c) (h : i = at_ ∨ en M i col = 0) : clearO M at_ col ov i j = scaleE M at_ ov i j := by
  unfold clearO scaleE
  by_cases e : i = at_
  · rw [if_pos e, if_pos e]
  · rw [if_neg e, if_neg e]
    rcases h with h | h
    · exact absurd h e
    · rw [h, Int.zero_mul, Int.sub_zero]
      have := he i j hi hj
      omega
/-- The rows ahead of q, and in row q the places ahead of s, are done. -/
def clearP (M : List (List Int)) (at_ col : Nat) (ov : Int) (q s : Nat) (i j : Nat) : Int := if i < q ∨ (i = q ∧ j < s) then clearO M at_ col ov i j else scaleE M at_ ov i j

end Go.Proofs.Ytfocfgddlnjfmaa
