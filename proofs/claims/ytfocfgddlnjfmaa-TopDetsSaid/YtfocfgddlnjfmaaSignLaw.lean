/-
  The sign by cycles is the sign by pairs; two that change places turn it.
-/
import Derived.Test.YtfocfgddlnjfmaaRows
import Derived.Test.YtfocfgddlnjfmaaLib
import Derived.Test.YtfocfgddlnjfmaaSign
import Derived.Test.YtfocfgddlnjfmaaOrder
import Derived.Test.YtfocfgddlnjfmaaRSign
namespace Go.Proofs.Ytfocfgddlnjfmaa
open Go.RowKit Go.Rk

def natsOf (l : List Int) : Nat → Nat := fun j => (ix l j).toNat

theorem pairs_congr {F G : Nat → Nat → Int} {n : Nat} (h : ∀ k i, k < i → i < n → F k i = G k i) : pairs F n = pairs G n :=
  prodTo_congr fun i hi => prodTo_congr fun k hk => h k i hk hi

theorem signC_ord {l : List Int} {n : Nat} (e : l.length = n) (h : okN l n n = true) : signC l = det n (pm (natsOf l)) := by
  unfold signC
  rw [e, if_pos h]
  exact cycN_det (okN_ord h).1

theorem pairs_turn {l : List Int} {n : Nat} (h : okN l n n = true) : pairs (turnI l) n = det n (pm (natsOf l)) := by
  have h1 := okN_ord h
  rw [show natsOf l = fun j => (ix l j).toNat from rfl, det_pairs h1.1]
  refine pairs_congr fun k i hk hi => ?_
  have a := h1.2 k (by omega)
  have b := h1.2 i hi
  unfold turnI turnF
  dsimp only
  by_cases c : ix l i < ix l k
  · rw [if_pos c, if_pos (by omega)]
  · rw [if_neg c, if_neg (by omega)]

theorem okN_has {l : List Int} {n : Nat} (e : l.length = n) : okN l n n = true ↔ ∀ i : Nat, i < n → hasB i l = true := by
  constructor
  · intro h i hi
    have h1 := okN_ord h
    obtain ⟨p, hp, hpi⟩ := Ord.onto h1.1 i hi
    have := h1.2 p hp
    exact hasB_iff.2 ⟨p, by omega, by omega⟩
  · intro h
    have h1 := has_ord (l := l) (n := n) fun i hi => by
      obtain ⟨p, hp, e2⟩ := hasB_iff.1 (h i hi)
      exact ⟨p, by omega, e2⟩
    exact ord_okN h1.1 h1.2 n (Nat.le_refl _)

theorem sign_is {l : List Int} {n : Nat} (e : l.length = n) : (if (∀ i : Nat, i < n → hasB i l = true) then pairs (turnI l) n else 0) = signC l := by
  by_cases h : okN l n n = true
  · rw [if_pos ((okN_has e).1 h), pairs_turn h, signC_ord e h]
  · rw [if_neg fun h2 => h ((okN_has e).2 h2)]
    unfold signC
    rw [e, if_neg h]

theorem signC_pm (l : List Int) : signC l = 0 ∨ signC l = 1 ∨ signC l = -1 := by
  unfold signC
  split
  · exact .inr (cycN_len l _ _).2
  · exact .inl rfl
theorem signC_ok {l : List Int} {n : Nat} (e : l.length = n) (h : signC l ≠ 0) : okN l n n = true := by
  unfold signC at h
  rw [e] at h
  by_cases h2 : okN l n n = true
  · exact h2
  · rw [if_neg h2] at h; exact absurd rfl h

theorem natsOf_swap {l : List Int} {i j : Nat} (hi : i < l.length) (hj : j < l.length) : natsOf ((l.set i (ix l j)).set j (ix l i)) = swapN (natsOf l) i j := by
  funext r
  unfold natsOf swapN
  rw [ix_set, ix_set, List.length_set]
  by_cases h1 : r = j
  · subst h1
    rw [if_pos ⟨rfl, hj⟩, if_pos rfl]
  · rw [if_neg fun h => h1 h.1.symm, if_neg h1]
    by_cases h2 : r = i
    · subst h2
      rw [if_pos ⟨rfl, hi⟩, if_pos rfl]
    · rw [if_neg fun h => h2 h.1.symm, if_neg h2]

/-- Two that change places turn the sign. -/
theorem signC_swap {l : List Int} {i j : Nat} (h0 : signC l ≠ 0) (hi : i < l.length) (hj : j < l.length) (hij : i ≠ j) : signC ((l.set i (ix l j)).set j (ix l i)) = -signC l := by
  have h := signC_ok rfl h0
  have h1 := okN_ord h
  have e : ((l.set i (ix l j)).set j (ix l i)).length = l.length := by simp
  have hO : Ord l.length (natsOf ((l.set i (ix l j)).set j (ix l i))) := by
    rw [natsOf_swap hi hj]
    exact Ord.swap h1.1 hi hj
  have h2 : okN ((l.set i (ix l j)).set j (ix l i)) l.length l.length = true := by
    refine ord_okN hO (fun r hr => ?_) _ (Nat.le_refl _)
    rw [ix_set, ix_set]
    split
    · exact h1.2 i hi
    · split
      · exact h1.2 j hj
      · exact h1.2 r hr
  rw [signC_ord e h2, signC_ord rfl h, natsOf_swap hi hj, det_pm_swap _ hij hi hj]

/-- The matrix of an order. -/
def matO (l : List Int) (n : Nat) : List (List Int) := (List.range n).map fun r => (List.replicate n 0).set (natsOf l r) 1
end Go.Proofs.Ytfocfgddlnjfmaa
