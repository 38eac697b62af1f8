/-
  Two rows of factors as one matrix (Sylvester); what is wrong with two rows. Plain Lean on the words of the walks.
-/
import Derived.Test.YtohconpfpecldaaLib
import Derived.Test.YtohconpfpecldaaNum
import Derived.Test.YtohconpfpecldaaMat
import Derived.Test.YtohconpfpecldaaRect
import Derived.Test.YtohconpfpecldaaRowsF
import Derived.RowKit
namespace Go.Proofs.Ytohconpfpecldaa
open Go.RowKit Go.Rk

def twoR (f g : List Int) : Option Int :=
  if f.length = 0 ∨ g.length = 0 then some 5 else if anyB 0 9972 f || anyB 0 9972 g then some 1 else
    if ix f (f.length - 1) = 0 ∨ ix g (g.length - 1) = 0 then some 3 else if outB ((f.length : Int) + g.length - 2) 1 5 then some 4 else none
theorem twoR_nz {f g : List Int} {c : Int} (h : twoR f g = some c) : c ≠ 0 := by
  unfold twoR at h
  (repeat' split at h) <;> first | (injection h with h; subst h; decide) | cases h
theorem twoR_none {f g : List Int} (h : twoR f g = none) : 1 ≤ f.length ∧ 1 ≤ g.length ∧ In 0 9972 f ∧ In 0 9972 g ∧ ix f (f.length - 1) ≠ 0 ∧ ix g (g.length - 1) ≠ 0 ∧ 3 ≤ f.length + g.length ∧ f.length + g.length ≤ 7 := by
  unfold twoR at h
  split at h
  · cases h
  split at h
  · cases h
  split at h
  · cases h
  split at h
  · cases h
  next h1 h2 h3 h4 =>
    simp at h2
    simp [outB] at h4
    exact ⟨by omega, by omega, in_of_any h2.1, in_of_any h2.2, fun e => h3 (.inl e), fun e => h3 (.inr e), by omega, by omega⟩
theorem twoR_of {f g : List Int} (h1 : 1 ≤ f.length) (h2 : 1 ≤ g.length) (h3 : In 0 9972 f) (h4 : In 0 9972 g) (h5 : ix f (f.length - 1) ≠ 0) (h6 : ix g (g.length - 1) ≠ 0) (h7 : 3 ≤ f.length + g.length) (h8 : f.length + g.length ≤ 7) : twoR f g = none := by
  unfold twoR
  rw [if_neg (by omega), any_of_in h3, any_of_in h4, if_neg (by simp), if_neg (fun e => e.elim h5 h6), if_neg]
  simp [outB]
  omega

theorem wrap_two {p q : Nat} (h1 : 1 ≤ p) (h2 : 1 ≤ q) (h3 : p ≤ 9223372036854775807) (h4 : q ≤ 9223372036854775807) : outB (wrap64 (wrap64 ((p : Int) + (q : Int)) - 2)) 1 5 = outB ((p : Int) + q - 2) 1 5 := by
  rcases Nat.lt_or_ge (p + q) 9223372036854775808 with h | h
  · have e : wrap64 (wrap64 ((p : Int) + (q : Int)) - 2) = (p : Int) + q - 2 := by unfold wrap64; omega
    rw [e]
  · have a : wrap64 (wrap64 ((p : Int) + (q : Int)) - 2) < 1 ∨ 5 < wrap64 (wrap64 ((p : Int) + (q : Int)) - 2) := by unfold wrap64; omega
    have b : (5 : Int) < (p : Int) + q - 2 := by omega
    unfold outB
    rw [decide_eq_true b, Bool.or_true]
    rcases a with a | a
    · rw [decide_eq_true a]; rfl
    · rw [decide_eq_true a, Bool.or_true]

/-- A row of factors, highest first, from a place on. -/
def sylR (l : List Int) (at_ j : Nat) : Int := if at_ ≤ j ∧ j < at_ + l.length then ix l (l.length - 1 - (j - at_)) else 0
def sylM (f g : List Int) (i j : Nat) : Int := if i < g.length - 1 then sylR f i j else sylR g (i - (g.length - 1)) j
theorem sylR_in {l : List Int} (h : In 0 9972 l) (at_ j : Nat) : 0 ≤ sylR l at_ j ∧ sylR l at_ j ≤ 9972 := by
  unfold sylR
  split
  · exact h _ (by omega)
  · omega
theorem sylM_in {f g : List Int} (h : In 0 9972 f) (k : In 0 9972 g) (i j : Nat) : 0 ≤ sylM f g i j ∧ sylM f g i j ≤ 9972 := by
  unfold sylM
  split
  · exact sylR_in h _ _
  · exact sylR_in k _ _

/-- A matrix with a row of factors laid into some of its rows: the first i of them, and of the next the last k places. -/
def putQ (l : List Int) (fr : Nat) (P : List (List Int)) (i k r j : Nat) : Int :=
  if fr ≤ r ∧ ((r - fr < i ∧ r - fr ≤ j ∧ j < (r - fr) + l.length) ∨ (r - fr = i ∧ i + (l.length - k) ≤ j ∧ j < i + l.length)) then ix l (l.length - 1 - (j - (r - fr))) else en P r j
theorem put_syl {f g : List Int} {P P1 P2 : List (List Int)} {n : Nat} (hf : 1 ≤ f.length) (hg : 1 ≤ g.length) (hn : n + 2 = f.length + g.length) (h0 : IsR n n P (fun _ _ => 0)) (h1 : IsR n n P1 (putQ f 0 P (g.length - 1) 0)) (h2 : IsR n n P2 (putQ g (g.length - 1) P1 (f.length - 1) 0)) : IsR n n P2 (sylM f g) := by
  refine h2.congr fun i j hi hj => ?_
  unfold putQ sylM
  by_cases e : i < g.length - 1
  · rw [if_neg (by omega), if_pos e, h1.2 i j hi hj]
    unfold putQ sylR
    by_cases c : i ≤ j ∧ j < i + f.length
    · rw [if_pos (by omega), if_pos c]; rfl
    · rw [if_neg (by omega), if_neg c, h0.2 i j hi hj]
  · rw [if_neg e]
    unfold sylR
    by_cases c : i - (g.length - 1) ≤ j ∧ j < i - (g.length - 1) + g.length
    · rw [if_pos (by omega), if_pos c]
    · rw [if_neg (by omega), if_neg c, h1.2 i j hi hj]
      unfold putQ
      rw [if_neg (by omega), h0.2 i j hi hj]
end Go.Proofs.Ytohconpfpecldaa
