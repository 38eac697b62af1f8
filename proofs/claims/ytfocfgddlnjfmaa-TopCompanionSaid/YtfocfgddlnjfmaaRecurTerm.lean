/-
  The numbers of a row that goes on by factors, one by one; sums and later parts of such rows. Plain Lean on the words of the walks.
-/
import Derived.Test.YtfocfgddlnjfmaaLib
import Derived.Test.YtfocfgddlnjfmaaSum
import Derived.Test.YtfocfgddlnjfmaaRecur
namespace Go.Proofs.Ytfocfgddlnjfmaa
open Go.Rk

/-- The number at place k of the row. -/
def tm (f s : List Int) (k : Nat) : Int := ix (rowN f s (k + 1)) k

theorem ix_rowN (f s : List Int) {n k : Nat} (h : k < n) : ix (rowN f s n) k = tm f s k := rowN_ix f s (k + 1) n k (by omega) (by omega)

theorem tm_start (f s : List Int) {k : Nat} (h : k < s.length) : tm f s k = ix s k := by
  unfold tm
  rw [rowN, ix_append_right (by rw [rowN_len]; exact Nat.le_refl _), rowN_len, Nat.sub_self, if_pos h]
  rfl

theorem sumR_eq (f out : List Int) (k : Nat) : sumR f out k = sumTo (fun i => ix f i * ix out (out.length - 1 - i)) k := by
  induction k with
  | zero => rfl
  | succ k ih => rw [sumR, sumTo, ih]

theorem tm_next (f s : List Int) {k : Nat} (h : s.length ≤ k) (hf : f.length ≤ k) : tm f s k = sumTo (fun i => ix f i * tm f s (k - 1 - i)) f.length % 9973 := by
  unfold tm
  rw [rowN, ix_append_right (by rw [rowN_len]; exact Nat.le_refl _), rowN_len, Nat.sub_self, if_neg (by omega)]
  show nextR f (rowN f s k) = _
  unfold nextR
  rw [sumR_eq, rowN_len]
  congr 1
  refine sumTo_congr fun i hi => ?_
  rw [ix_rowN f s (by omega)]
  rfl

theorem tm_in (f s : List Int) (hs : In 0 9972 s) (k : Nat) : 0 ≤ tm f s k ∧ tm f s k ≤ 9972 := rowN_in f s (k + 1) hs k (by rw [rowN_len]; omega)

/-- Two rows that begin alike and go on by the same are one. -/
theorem tm_unique (f s : List Int) (g : Nat → Int) (hl : f.length = s.length) (h0 : ∀ k, k < s.length → g k = ix s k)
    (h1 : ∀ k, s.length ≤ k → g k = sumTo (fun i => ix f i * g (k - 1 - i)) f.length % 9973) (_ : 0 < f.length) : ∀ k, g k = tm f s k := by
  intro k
  induction k using Nat.strongRecOn with
  | ind k ih =>
    rcases Nat.lt_or_ge k s.length with h | h
    · rw [h0 k h, tm_start f s h]
    · rw [h1 k h, tm_next f s h (by omega)]
      congr 1
      exact sumTo_congr fun i hi => by rw [ih (k - 1 - i) (by omega)]

/-- The first k sums of two lists, number by number. -/
def addN (a b : List Int) : Nat → List Int
  | 0 => []
  | k + 1 => addN a b k ++ [(ix a k + ix b k) % 9973]

theorem addN_len (a b : List Int) (n : Nat) : (addN a b n).length = n := by
  induction n with
  | zero => rfl
  | succ n ih => simp [addN, ih]

theorem ix_addN (a b : List Int) {n k : Nat} (h : k < n) : ix (addN a b n) k = (ix a k + ix b k) % 9973 := by
  induction n with
  | zero => omega
  | succ n ih =>
    rw [addN]
    rcases Nat.lt_or_ge k n with h1 | h1
    · rw [ix_append_left (by rw [addN_len]; exact h1), ih h1]
    · obtain rfl : k = n := by omega
      rw [ix_append_right (by rw [addN_len]; exact Nat.le_refl _), addN_len, Nat.sub_self]
      rfl

theorem tm_sum (f a b : List Int) (h : f.length = a.length) (h2 : b.length = a.length) (hf : 0 < f.length) (k : Nat) :
    tm f (addN a b a.length) k = (tm f a k + tm f b k) % 9973 := by
  symm
  have hl : (addN a b a.length).length = a.length := addN_len a b _
  refine tm_unique f (addN a b a.length) (fun k => (tm f a k + tm f b k) % 9973) (by omega) (fun k hk => ?_) (fun k hk => ?_) hf k
  · rw [hl] at hk
    rw [ix_addN a b hk, tm_start f a hk, tm_start f b (by omega)]
  · rw [hl] at hk
    have e : Eqm (tm f a k + tm f b k) (sumTo (fun i => ix f i * ((tm f a (k - 1 - i) + tm f b (k - 1 - i)) % 9973)) f.length) := by
      rw [tm_next f a hk (by omega), tm_next f b (by omega) (by omega)]
      refine (((Eqm.mod _).add (Eqm.mod _)).trans ?_)
      rw [← sumTo_add]
      refine Eqm.sum fun i _ => ?_
      rw [← Int.mul_add]
      exact (Eqm.refl _).mul (Eqm.mod _).symm
    exact e

/-- From its second number on a row is the one that begins there. -/
theorem tm_shift (f s t : List Int) (h : f.length = s.length) (ht : t.length = s.length) (hf : 0 < f.length) (e : ∀ k, k < s.length → ix t k = tm f s (k + 1)) (k : Nat) :
    tm f t k = tm f s (k + 1) := by
  symm
  refine tm_unique f t (fun k => tm f s (k + 1)) (by omega) (fun k hk => ?_) (fun k hk => ?_) hf k
  · rw [e k (by omega)]
  · show tm f s (k + 1) = _
    rw [tm_next f s (by omega) (by omega)]
    congr 1
    refine sumTo_congr fun i hi => ?_
    rw [show k + 1 - 1 - i = k - 1 - i + 1 from by omega]
theorem rowErr_of {f s : List Int} {many : Int} (h1 : 1 ≤ f.length) (h2 : f.length ≤ 5) (h3 : s.length = f.length) (h4 : In 0 9972 f) (h5 : In 0 9972 s) (h6 : 0 ≤ many) (h7 : many ≤ 1000) : rowErr f s many = none := by
  have hc : checkR f s = none := by
    unfold checkR
    rw [if_neg (by omega), if_neg (by omega), if_neg (by omega), any_of_in h4, any_of_in h5]
    simp
  unfold rowErr
  rw [if_pos hc, if_neg]
  unfold outB
  simp
  omega

theorem addN_in (a b : List Int) (n : Nat) : In 0 9972 (addN a b n) := by
  intro k hk
  rw [addN_len] at hk
  rw [ix_addN a b hk]
  omega

theorem ix_tail (f s : List Int) {m n k : Nat} (hn : n ≤ m) (hk : k + 1 < n) : ix (((rowN f s m).take n).drop 1) k = tm f s (k + 1) := by
  rw [ix_drop, ix_take (by omega), ix_rowN f s (by omega), Nat.add_comm]

theorem tail_in (f s : List Int) (hs : In 0 9972 s) {m n : Nat} (hn : n ≤ m) : In 0 9972 (((rowN f s m).take n).drop 1) := by
  intro k hk
  rw [List.length_drop, List.length_take, rowN_len] at hk
  rw [ix_tail f s hn (by omega)]
  exact tm_in f s hs _

/-- The row that begins one later is the rest of the row. -/
theorem tail_row (f s : List Int) {m : Nat} (h : s.length = f.length) (h1 : 0 < f.length) (hm : f.length + 1 ≤ m) :
    rowN f (((rowN f s m).take (f.length + 1)).drop 1) (m - 1) = (rowN f s m).drop 1 := by
  have hl : (((rowN f s m).take (f.length + 1)).drop 1).length = f.length := by
    rw [List.length_drop, List.length_take, rowN_len]; omega
  refine ix_ext (by rw [rowN_len, List.length_drop, rowN_len]) fun k hk => ?_
  rw [rowN_len] at hk
  rw [ix_rowN _ _ hk, ix_drop, ix_rowN f s (by omega), Nat.add_comm 1 k]
  refine tm_shift f s _ h.symm (by omega) h1 (fun j hj => ?_) k
  exact ix_tail f s (by omega) (by omega)

end Go.Proofs.Ytfocfgddlnjfmaa
