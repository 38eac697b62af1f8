/-
  Rows moved about as a whole; the resultant the other way round. Plain Lean on the words of the walks.
-/
import Derived.Test.YtohconpfpecldaaDetMore
import Derived.Test.YtohconpfpecldaaSyl
namespace Go.Proofs.Ytohconpfpecldaa
open Go.RowKit Go.Rk

/-- The last k of n rows put in front. -/
def rotM (A : Mx) (n k : Nat) : Mx := fun r => if r < k then A (n - k + r) else A (r - k)
def sgk (m : Nat) : Nat → Int
  | 0 => 1
  | k + 1 => sg m * sgk m k
theorem sgk_is (m k : Nat) : sgk m k = if k % 2 = 0 then 1 else sg m := by
  induction k with
  | zero => rfl
  | succ k ih =>
    rw [sgk, ih]
    by_cases h : k % 2 = 0
    · rw [if_pos h, if_neg (by omega), Int.mul_one]
    · rw [if_neg h, if_pos (by omega), sg_sq]
theorem det_rot {n : Nat} (A : Mx) : ∀ k, k ≤ n → det n (rotM A n k) = sgk (n - 1) k * det n A
  | 0, _ => by
    rw [sgk, Int.one_mul]
    exact det_congr fun i j _ _ => by unfold rotM; rw [if_neg (Nat.not_lt_zero _)]; rfl
  | k + 1, hk => by
    have e : det n (rotM A n (k + 1)) = det n (raise (rotM A n k) (n - 1)) := det_congr fun i j hi _ => by
      unfold raise rotM
      by_cases h0 : i = 0
      · subst h0
        rw [if_pos (show 0 < k + 1 by omega), if_pos rfl, if_neg (show ¬ n - 1 < k by omega)]
        congr 1
        omega
      · rw [if_neg h0, if_pos (show i ≤ n - 1 by omega)]
        by_cases h1 : i < k + 1
        · rw [if_pos h1, if_pos (show i - 1 < k by omega)]
          congr 1
          omega
        · rw [if_neg h1, if_neg (show ¬ i - 1 < k by omega)]
          congr 1
          omega
    rw [e, (det_alt n).raise_sign (n - 1) _ (by omega), det_rot A k (by omega), sgk, Int.mul_assoc]

theorem syl_turn {f g : List Int} (hf : 1 ≤ f.length) (hg : 1 ≤ g.length) (h3 : 3 ≤ f.length + g.length) :
    det (g.length + f.length - 2) (sylM g f) = (if (f.length - 1) % 2 = 1 ∧ (g.length - 1) % 2 = 1 then -1 else 1) * det (f.length + g.length - 2) (sylM f g) := by
  have en : g.length + f.length - 2 = f.length + g.length - 2 := by omega
  rw [en]
  have e : det (f.length + g.length - 2) (sylM g f) = det (f.length + g.length - 2) (rotM (sylM f g) (f.length + g.length - 2) (f.length - 1)) := det_congr fun i j hi _ => by
    unfold rotM sylM
    by_cases h : i < f.length - 1
    · rw [if_pos h, if_pos h, if_neg (show ¬ f.length + g.length - 2 - (f.length - 1) + i < g.length - 1 by omega)]
      congr 1
      omega
    · rw [if_neg h, if_neg h, if_pos (show i - (f.length - 1) < g.length - 1 by omega)]
  rw [e, det_rot _ _ (by omega), sgk_is]
  congr 1
  unfold sg
  by_cases h1 : (f.length - 1) % 2 = 0
  · rw [if_pos h1, if_neg (by omega)]
  · rw [if_neg h1]
    by_cases h2 : (g.length - 1) % 2 = 1
    · rw [if_neg (by omega), if_pos (by omega)]
    · rw [if_pos (by omega), if_neg (by omega)]
end Go.Proofs.Ytohconpfpecldaa
