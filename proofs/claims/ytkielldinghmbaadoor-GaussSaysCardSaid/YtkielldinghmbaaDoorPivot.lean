/-
  A matrix of the call's own, one row moved and another one renewed. No program in sight.
-/
import Derived.Test.YtkielldinghmbaaDoorLib
import Derived.Test.YtkielldinghmbaaDoorMat
import Derived.Test.YtkielldinghmbaaDoorMatD
namespace Go.Rk
open Go.RowKit

def pivL (M : List (List Int)) (a t : Nat) (l : List Int) : List (List Int) := (M.set a (rowOf M t)).set t l
def pivF {α : Type} (D : Nat → α) (a t : Nat) (p : α) : Nat → α := fun j => if j = t then p else if j = a then D t else D j
theorem pivL_len (M : List (List Int)) (a t : Nat) (l : List Int) : (pivL M a t l).length = M.length := by simp [pivL]
theorem rowOf_pivL {M : List (List Int)} {a t : Nat} (ha : a < M.length) (ht : t < M.length) (l : List Int) (j : Nat) : rowOf (pivL M a t l) j = if j = t then l else if j = a then rowOf M t else rowOf M j := by
  unfold pivL
  rw [rowOf_set, rowOf_set, List.length_set]
  by_cases h1 : j = t
  · subst h1; simp [ht]
  · by_cases h2 : j = a
    · subst h2; simp [h1, Ne.symm h1, ha]
    · simp [h1, h2, Ne.symm h1, Ne.symm h2]

section
variable {w w2 : World} {B T E g : Nat} {D C : Nat → Nat} {n cap : Nat} {M : List (List Int)}
theorem OwMD.pivot (h : OwMD w B T E g D C n cap M) (hne : T ≠ E) {a t : Nat} (ha : a < n) (ht : t < n) {p cr : Nat} {l : List Int}
    (hb : Below w.heap.size (w.setCell ⟨g, a, none⟩ (.slice (some ⟨D t, 0, none⟩) (rowOf M t).length (C t))) w2) (ho : OwI w2 w.heap.size E (some ⟨p, 0, none⟩) l.length cr l) (hB : B ≤ w.heap.size) :
    OwMD (w2.setCell ⟨g, t, none⟩ (.slice (some ⟨p, 0, none⟩) l.length cr)) B T E g (pivF D a t p) (pivF C a t cr) n cap (pivL M a t l) := by
  have hal : a < M.length := by rw [h.len_eq]; exact ha
  have htl : t < M.length := by rw [h.len_eq]; exact ht
  have hb' : Below (w.setCell ⟨g, a, none⟩ (.slice (some ⟨D t, 0, none⟩) (rowOf M t).length (C t))).heap.size (w.setCell ⟨g, a, none⟩ (.slice (some ⟨D t, 0, none⟩) (rowOf M t).length (C t))) w2 := by simpa using hb
  have hpl := ho.own.lt p rfl
  have hgl := h.lowO
  have s1 := (h.outer.stored a (.slice (some ⟨D t, 0, none⟩) (rowOf M t).length (C t))).1
  have s2 := s1.kept (row := none) ⟨hb'.os, hb'.tape, hb'.output, hb'.size, fun k hk _ => hb'.block k hk⟩ (.inr (by simp [Value.ownBlock]))
  have s3 := (s2.stored t (.slice (some ⟨p, 0, none⟩) l.length cr)).1
  refine ⟨by rw [pivL_len]; exact h.len_eq, ?_, fun j hj => ?_, fun i j hi hj hij => ?_⟩
  · have : ((List.range n).map fun j => Value.slice (some ⟨pivF D a t p j, 0, none⟩) (rowOf (pivL M a t l) j).length (pivF C a t cr j)) =
        (((List.range n).map fun j => Value.slice (some ⟨D j, 0, none⟩) (rowOf M j).length (C j)).set a (.slice (some ⟨D t, 0, none⟩) (rowOf M t).length (C t))).set t (.slice (some ⟨p, 0, none⟩) l.length cr) := by
      apply List.ext_getElem?
      intro j
      rcases Nat.lt_or_ge j n with h1 | h1
      · rw [List.getElem?_set, List.getElem?_set]
        simp only [List.length_set, List.length_map, List.length_range, List.getElem?_map]
        rw [List.getElem?_range h1]
        simp only [Option.map_some, rowOf_pivL hal htl, pivF]
        by_cases h2 : j = t
        · subst h2; simp [h1]
        · by_cases h3 : j = a
          · subst h3; simp [h2, Ne.symm h2, h1]
          · simp [h2, h3, Ne.symm h2, Ne.symm h3]
      · rw [List.getElem?_eq_none (by simp; omega), List.getElem?_eq_none (by simp; omega)]
    rw [this]
    exact s3
  · rw [rowOf_pivL hal htl]
    have keep : ∀ m, m < n → OwI (w2.setCell ⟨g, t, none⟩ (.slice (some ⟨p, 0, none⟩) l.length cr)) B E (some ⟨D m, 0, none⟩) (rowOf M m).length (C m) (rowOf M m) :=
      fun m hm => (((h.rows m hm).setElse (h.neO hne hm).symm _).below hb').setElse (h.neO hne hm).symm _
    simp only [pivF]
    by_cases h2 : j = t
    · simp only [h2, if_true]
      exact (ho.mono hB).setElse (by show g ≠ p; omega) _
    · by_cases h3 : j = a
      · simp only [h3, if_true]
        by_cases h4 : a = t
        · exact absurd (h3.trans h4) h2
        · simp only [if_neg h4]; exact keep t ht
      · simp only [h2, h3, if_false]; exact keep j hj
  · have lo : ∀ m, m < n → D m ≠ p := fun m hm => by have := (h.lowI hm).2; omega
    simp only [pivF]
    by_cases h1 : i = t
    · subst h1
      rw [if_pos rfl, if_neg (Ne.symm hij)]
      by_cases h2 : j = a
      · rw [if_pos h2]; exact (lo i ht).symm
      · rw [if_neg h2]; exact (lo j hj).symm
    · rw [if_neg h1]
      by_cases h2 : j = t
      · rw [if_pos h2]
        by_cases h3 : i = a
        · rw [if_pos h3]; exact lo t ht
        · rw [if_neg h3]; exact lo i hi
      · rw [if_neg h2]
        by_cases h3 : i = a
        · rw [if_pos h3, if_neg (fun e => hij (h3.trans e.symm))]; exact h.inj t j ht hj (Ne.symm h2)
        · rw [if_neg h3]
          by_cases h4 : j = a
          · rw [if_pos h4]; exact h.inj i t hi ht h1
          · rw [if_neg h4]; exact h.inj i j hi hj hij
end
end Go.Rk
