/-
  Matrices with three lines; sums of one. Plain Lean, no program in sight.
-/
import Derived.Test.YtefmllkimdaimaaDoorSum
import Derived.Test.YtefmllkimdaimaaDoorDet
namespace Go.Rk

/-- A band as a matrix. -/
def triM (m a b : Nat → Int) : Mx := fun i j => if i = j then m i else if j = i + 1 then a i else if i = j + 1 then b j else 0

theorem sumTo_one (g : Nat → Int) (j : Nat) : ∀ n, sumTo (fun t => if t = j then g t else 0) n = if j < n then g j else 0
  | 0 => rfl
  | n + 1 => by
    rw [sumTo, sumTo_one g j n]
    by_cases h : n = j
    · subst h; simp
    · rw [if_neg h, Int.add_zero]
      by_cases h2 : j < n
      · rw [if_pos h2, if_pos (by omega)]
      · rw [if_neg h2, if_neg (by omega)]

end Go.Rk
