/-
  The sign by cycles is the sign by pairs; two that change places turn it.
  What a matrix takes to noughts: a row for each column that no step has. No program in sight.
  slices.Index and slices.Contains at []int walked.
  solve.Null walked.
  A matrix with a right side: the steps of both together, and what solves it. No program in sight.
  solve.scale, slices.Clone, slices.Equal, solve.product walked.
  solve.reduced walked: the steps of a matrix with its right side.
  solve.One walked.
  The closed fact of the statements on solving.
  A matrix of the call's own, one row moved and another one renewed. No program in sight.
  The reference's Stairs walked: a matrix in steps, and where these begin. The last row with a number other than 0 is the pivot.
  The reference's Null and Solve walked; and that they say what package solve says.
  The reference's Null and Solve walked.
  The reference's Seq, Goes and Fewest walked.
  What the statements on whole packages use again and again: the reference's Field, and rows and matrices that are the same.
  MasseySays walked: of any row what is wrong, its fewest factors, and whether factors generate it.
-/
import Derived.Test.YtefmllkimdaimaaDoorRows
import Derived.StillTailTactics
import Derived.Deep.QuietTactic
import Derived.BigQuiet
import Derived.Test.YtefmllkimdaimaaDoorMgMasseySaysF0
import Derived.Test.YtefmllkimdaimaaDoorMgMasseySaysF1
import Derived.Test.YtefmllkimdaimaaDoorMgMasseySaysF2
import Derived.Test.YtefmllkimdaimaaDoorMgMasseySaysF3
import Derived.Test.YtefmllkimdaimaaDoorMgMasseySaysF4
import Derived.Test.YtefmllkimdaimaaDoorMgMasseySaysF5
import Derived.Test.YtefmllkimdaimaaDoorMgMasseySaysF7
import Derived.Test.YtefmllkimdaimaaDoorMgMasseySaysF8
import Derived.Test.YtefmllkimdaimaaDoorMgMasseySaysF9
import Derived.Test.YtefmllkimdaimaaDoorMgMasseySaysF10
import Derived.Test.YtefmllkimdaimaaDoorMgMasseySaysF12
namespace Go.Proofs.YtefmllkimdaimaaDoor
open Go.RowKit Go.Rk

def natsOf (l : List Int) : Nat → Nat := fun j => (ix l j).toNat

theorem pairs_congr {F G : Nat → Nat → Int} {n : Nat} (h : ∀ k i, k < i → i < n → F k i = G k i) : pairs F n = pairs G n :=
  prodTo_congr fun i hi => prodTo_congr fun k hk => h k i hk hi

theorem signC_ord {l : List Int} {n : Nat} (e : l.length = n) (h : okN l n n = true) : signC l = det n (pm (natsOf l)) := by
  unfold signC
  rw [e, if_pos h]
  exact cycN_det (okN_ord h).1

theorem pairs_turn {l : List Int} {n : Nat} (h : okN l n n = true) : pairs (turnI l) n = det n (pm (natsOf l)) := by
  have h1 := okN_ord h
  rw [show natsOf l = fun j => (ix l j).toNat from rfl, det_pairs h1.1]
  refine pairs_congr fun k i hk hi => ?_
  have a := h1.2 k (by omega)
  have b := h1.2 i hi
  unfold turnI turnF
  dsimp only
  by_cases c : ix l i < ix l k
  · rw [if_pos c, if_pos (by omega)]
  · rw [if_neg c, if_neg (by omega)]

theorem okN_has {l : List Int} {n : Nat} (e : l.length = n) : okN l n n = true ↔ ∀ i : Nat, i < n → hasB i l = true := by
  constructor
  · intro h i hi
    have h1 := okN_ord h
    obtain ⟨p, hp, hpi⟩ := Ord.onto h1.1 i hi
    have := h1.2 p hp
    exact hasB_iff.2 ⟨p, by omega, by omega⟩
  · intro h
    have h1 := has_ord (l := l) (n := n) fun i hi => by
      obtain ⟨p, hp, e2⟩ := hasB_iff.1 (h i hi)
      exact ⟨p, by omega, e2⟩
    exact ord_okN h1.1 h1.2 n (Nat.le_refl _)

theorem sign_is {l : List Int} {n : Nat} (e : l.length = n) : (if (∀ i : Nat, i < n → hasB i l = true) then pairs (turnI l) n else 0) = signC l := by
  by_cases h : okN l n n = true
  · rw [if_pos ((okN_has e).1 h), pairs_turn h, signC_ord e h]
  · rw [if_neg fun h2 => h ((okN_has e).2 h2)]
    unfold signC
    rw [e, if_neg h]

theorem signC_pm (l : List Int) : signC l = 0 ∨ signC l = 1 ∨ signC l = -1 := by
  unfold signC
  split
  · exact .inr (cycN_len l _ _).2
  · exact .inl rfl
theorem signC_ok {l : List Int} {n : Nat} (e : l.length = n) (h : signC l ≠ 0) : okN l n n = true := by
  unfold signC at h
  rw [e] at h
  by_cases h2 : okN l n n = true
  · exact h2
  · rw [if_neg h2] at h; exact absurd rfl h

theorem natsOf_swap {l : List Int} {i j : Nat} (hi : i < l.length) (hj : j < l.length) : natsOf ((l.set i (ix l j)).set j (ix l i)) = swapN (natsOf l) i j := by
  funext r
  unfold natsOf swapN
  rw [ix_set, ix_set, List.length_set]
  by_cases h1 : r = j
  · subst h1
    rw [if_pos ⟨rfl, hj⟩, if_pos rfl]
  · rw [if_neg fun h => h1 h.1.symm, if_neg h1]
    by_cases h2 : r = i
    · subst h2
      rw [if_pos ⟨rfl, hi⟩, if_pos rfl]
    · rw [if_neg fun h => h2 h.1.symm, if_neg h2]

/-- Two that change places turn the sign. -/
theorem signC_swap {l : List Int} {i j : Nat} (h0 : signC l ≠ 0) (hi : i < l.length) (hj : j < l.length) (hij : i ≠ j) : signC ((l.set i (ix l j)).set j (ix l i)) = -signC l := by
  have h := signC_ok rfl h0
  have h1 := okN_ord h
  have e : ((l.set i (ix l j)).set j (ix l i)).length = l.length := by simp
  have hO : Ord l.length (natsOf ((l.set i (ix l j)).set j (ix l i))) := by
    rw [natsOf_swap hi hj]
    exact Ord.swap h1.1 hi hj
  have h2 : okN ((l.set i (ix l j)).set j (ix l i)) l.length l.length = true := by
    refine ord_okN hO (fun r hr => ?_) _ (Nat.le_refl _)
    rw [ix_set, ix_set]
    split
    · exact h1.2 i hi
    · split
      · exact h1.2 j hj
      · exact h1.2 r hr
  rw [signC_ord e h2, signC_ord rfl h, natsOf_swap hi hj, det_pm_swap _ hij hi hj]

/-- The matrix of an order. -/
def matO (l : List Int) (n : Nat) : List (List Int) := (List.range n).map fun r => (List.replicate n 0).set (natsOf l r) 1
end Go.Proofs.YtefmllkimdaimaaDoor
namespace Go.Proofs.YtefmllkimdaimaaDoor
open Go.RowKit Go.Rk

theorem getD_lt {l : List Nat} {t : Nat} (h : t < l.length) : l.getD t 0 = l[t] := by simp [List.getD, h]
/-- The columns below q that no step has. -/
def freeN (ps : List Int) (q : Nat) : List Nat := (List.range q).filter fun (j : Nat) => !hasB (j : Int) ps
theorem freeN_succ (ps : List Int) (q : Nat) : freeN ps (q + 1) = if hasB (q : Int) ps = true then freeN ps q else freeN ps q ++ [q] := by
  unfold freeN
  rw [List.range_succ, List.filter_append]
  split
  · next h => simp [h]
  · next h => simp [h]
/-- Free column t. -/
def freeAt (ps : List Int) (q t : Nat) : Nat := (freeN ps q).getD t 0
theorem freeAt_mem {ps : List Int} {q t : Nat} (h : t < (freeN ps q).length) : freeAt ps q t < q ∧ hasB (freeAt ps q t : Int) ps = false := by
  have : freeAt ps q t ∈ freeN ps q := by
    unfold freeAt
    rw [getD_lt h]
    exact List.getElem_mem h
  unfold freeN at this
  rw [List.mem_filter] at this
  exact ⟨List.mem_range.1 this.1, by simpa using this.2⟩
theorem freeAt_inj {ps : List Int} {q t s : Nat} (h : t < (freeN ps q).length) (k : s < (freeN ps q).length) (e : freeAt ps q t = freeAt ps q s) : t = s := by
  unfold freeAt at e
  rw [getD_lt h, getD_lt k] at e
  have hn : (freeN ps q).Nodup := List.Pairwise.filter _ List.nodup_range
  have hp := List.pairwise_iff_getElem.1 hn
  rcases Nat.lt_trichotomy t s with h1 | h1 | h1
  · exact absurd e (hp t s h k h1)
  · exact h1
  · exact absurd e.symm (hp s t k h h1)
theorem freeAt_onto {ps : List Int} {q j : Nat} (hj : j < q) (h : hasB (j : Int) ps = false) : ∃ t, t < (freeN ps q).length ∧ freeAt ps q t = j := by
  have : j ∈ freeN ps q := by
    unfold freeN
    rw [List.mem_filter]
    exact ⟨List.mem_range.2 hj, by simp [h]⟩
  obtain ⟨t, ht, e⟩ := List.getElem_of_mem this
  exact ⟨t, ht, by unfold freeAt; rw [getD_lt ht]; exact e⟩

/-- A row of the free column f. -/
structure NRow (c : Nat) (P : List (List Int)) (ps : List Int) (f : Nat) (x : List Int) : Prop where
  len : x.length = c
  one : ix x f = 1
  piv : ∀ i, i < ps.length → ix x (natsOf ps i) = -en P i f % 9973
  zer : ∀ j, j < c → j ≠ f → hasB (j : Int) ps = false → ix x j = 0

/-- A row for each free column below q. -/
structure Nul (c q : Nat) (P : List (List Int)) (ps : List Int) (L : List (List Int)) : Prop where
  len : L.length = (freeN ps q).length
  row : ∀ t, t < L.length → NRow c P ps (freeAt ps q t) (rowOf L t)

section
variable {n c q f : Nat} {A : Mx} {P L : List (List Int)} {ps x : List Int}
theorem hasB_pos (hp : ∀ i, i < ps.length → 0 ≤ ix ps i) {j : Nat} : hasB (j : Int) ps = true ↔ ∃ i, i < ps.length ∧ natsOf ps i = j := by
  rw [hasB_iff]
  constructor
  · rintro ⟨i, hi, e⟩
    exact ⟨i, hi, by unfold natsOf; omega⟩
  · rintro ⟨i, hi, e⟩
    have := hp i hi
    exact ⟨i, hi, by unfold natsOf at e; omega⟩

theorem Nul.start (c : Nat) (P : List (List Int)) (ps : List Int) : Nul c 0 P ps [] := ⟨rfl, fun _ h => absurd h (Nat.not_lt_zero _)⟩
theorem Nul.pass (h : Nul c q P ps L) (hq : hasB (q : Int) ps = true) : Nul c (q + 1) P ps L := by
  have e : freeN ps (q + 1) = freeN ps q := by rw [freeN_succ, if_pos hq]
  exact ⟨by rw [e]; exact h.len, fun t ht => by unfold freeAt; rw [e]; exact h.row t ht⟩
theorem Nul.push (h : Nul c q P ps L) (hq : hasB (q : Int) ps = false) (hx : NRow c P ps q x) : Nul c (q + 1) P ps (L ++ [x]) := by
  have e : freeN ps (q + 1) = freeN ps q ++ [q] := by rw [freeN_succ, if_neg (by rw [hq]; simp)]
  refine ⟨by rw [e, List.length_append, List.length_append, h.len]; rfl, fun t ht => ?_⟩
  unfold freeAt
  rw [e]
  rw [List.length_append] at ht
  simp at ht
  rcases Nat.lt_or_ge t L.length with h1 | h1
  · rw [rowOf_append_left h1]
    have h2 : t < (freeN ps q).length := by rw [← h.len]; exact h1
    have := h.row t h1
    unfold freeAt at this
    rw [getD_lt h2] at this
    rw [getD_lt (by rw [List.length_append]; omega), List.getElem_append_left h2]
    exact this
  · obtain rfl : t = L.length := by omega
    rw [rowOf_append_right (Nat.le_refl _), Nat.sub_self]
    have h2 : L.length = (freeN ps q).length := h.len
    rw [getD_lt (by rw [List.length_append]; simp [h2]), List.getElem_append_right (by omega)]
    simp only [h2, Nat.sub_self, List.getElem_cons_zero]
    exact hx

/-- As many as columns: steps and free columns. -/
theorem free_count {R : Mx} (h : Stairs n c ps.length R (natsOf ps)) (hp : ∀ i, i < ps.length → 0 ≤ ix ps i) : (freeN ps c).length + ps.length = c := by
  have key : ∀ q, q ≤ c → ∃ m, m ≤ ps.length ∧ (∀ i, i < m → natsOf ps i < q) ∧ (∀ i, m ≤ i → i < ps.length → q ≤ natsOf ps i) ∧ (freeN ps q).length + m = q := by
    intro q
    induction q with
    | zero => intro _; exact ⟨0, Nat.zero_le _, fun i hi => absurd hi (Nat.not_lt_zero _), fun i _ _ => Nat.zero_le _, rfl⟩
    | succ q ih =>
      intro hq
      obtain ⟨m, h1, h2, h3, h4⟩ := ih (by omega)
      rw [freeN_succ]
      by_cases hb : hasB (q : Int) ps = true
      · obtain ⟨i, hi, e⟩ := (hasB_pos hp).1 hb
        have him : i = m := by
          rcases Nat.lt_trichotomy i m with hlt | rfl | hgt
          · have := h2 i hlt; omega
          · rfl
          · have := h.inc m i hgt hi
            have := h3 m (Nat.le_refl _) (by omega)
            omega
        subst him
        rw [if_pos hb]
        refine ⟨i + 1, hi, fun k hk => ?_, fun k hk hk2 => ?_, by omega⟩
        · rcases Nat.lt_or_ge k i with h5 | h5
          · have := h2 k h5; omega
          · obtain rfl : k = i := by omega
            omega
        · have := h.inc i k (by omega) hk2
          omega
      · rw [if_neg hb]
        refine ⟨m, h1, fun k hk => by have := h2 k hk; omega, fun k hk hk2 => ?_, by simp; omega⟩
        have h5 := h3 k hk hk2
        rcases Nat.lt_or_ge q (natsOf ps k) with h6 | h6
        · omega
        · exact absurd ((hasB_pos hp).2 ⟨k, hk2, by omega⟩) hb
  obtain ⟨m, h1, h2, h3, h4⟩ := key c (Nat.le_refl _)
  have : m = ps.length := by
    rcases Nat.lt_or_ge m ps.length with h5 | h5
    · have := h3 m (Nat.le_refl _) h5
      have := h.lt m h5
      omega
    · omega
  omega

theorem NRow.range (h : NRow c P ps f x) (hp : ∀ i, i < ps.length → 0 ≤ ix ps i) : In 0 9972 x := by
  intro j hj
  rw [h.len] at hj
  by_cases e : j = f
  · rw [e, h.one]; omega
  · cases hb : hasB (j : Int) ps
    · rw [h.zer j hj e hb]; omega
    · obtain ⟨i, hi, e2⟩ := (hasB_pos hp).1 hb
      rw [← e2, h.piv i hi]
      omega

/-- Such a row, as a sum. -/
theorem NRow.sum {R : Mx} (h : NRow c P ps f x) (st : Stairs n c ps.length R (natsOf ps)) (hp : ∀ i, i < ps.length → 0 ≤ ix ps i) (hf : hasB (f : Int) ps = false) {j : Nat} (hj : j < c) :
    Eqm (ix x j) ((if f = j then 1 else 0) - sumTo (fun k => (if natsOf ps k = j then 1 else 0) * en P k f) ps.length) := by
  cases hb : hasB (j : Int) ps
  · have e0 : sumTo (fun k => (if natsOf ps k = j then 1 else 0) * en P k f) ps.length = 0 := by
      rw [sumTo_congr (h := fun _ => 0) fun k hk => by rw [if_neg (fun e => by rw [(hasB_pos hp).2 ⟨k, hk, e⟩] at hb; cases hb), Int.zero_mul]]
      exact sumTo_zero _
    rw [e0, Int.sub_zero]
    by_cases e : f = j
    · rw [if_pos e, ← e, h.one]; exact Eqm.refl _
    · rw [if_neg e, h.zer j hj (fun x => e x.symm) hb]; exact Eqm.refl _
  · obtain ⟨i, hi, e⟩ := (hasB_pos hp).1 hb
    have hfj : f ≠ j := fun e2 => by rw [e2, hb] at hf; cases hf
    rw [if_neg hfj, ← e, h.piv i hi]
    have e1 : sumTo (fun k => (if natsOf ps k = natsOf ps i then 1 else 0) * en P k f) ps.length = en P i f := by
      rw [sumTo_congr (h := fun k => (if i = k then 1 else 0) * en P k f) fun k hk => ?_]
      · exact sumTo_pick (fun k => en P k f) hi
      · by_cases e3 : i = k
        · rw [if_pos (by rw [e3]), if_pos e3]
        · rw [if_neg fun e4 => ?_, if_neg e3]
          rcases Nat.lt_trichotomy i k with h1 | h1 | h1
          · have := st.inc i k h1 hk; omega
          · exact e3 h1
          · have := st.inc k i h1 hi; omega
    rw [e1, Int.zero_sub]
    exact Eqm.mod _

/-- It is taken to noughts by the steps. -/
theorem NRow.nought {R : Mx} (h : NRow c P ps f x) (st : Stairs n c ps.length R (natsOf ps)) (hR : R = mx P) (hp : ∀ i, i < ps.length → 0 ≤ ix ps i) (hf : hasB (f : Int) ps = false) (hfc : f < c) {i : Nat} (hi : i < n) : Eqm (sumTo (fun j => mx P i j * ix x j) c) 0 := by
  subst hR
  have e1 : Eqm (sumTo (fun j => mx P i j * ix x j) c) (sumTo (fun j => (if f = j then 1 else 0) * mx P i j + sumTo (fun k => -((if natsOf ps k = j then 1 else 0) * (mx P i j * en P k f))) ps.length) c) := sumTo_eqm fun j hj => by
    refine (Eqm.mul (Eqm.refl _) (h.sum st hp hf hj)).trans (Eqm.of_eq ?_)
    rw [Int.mul_sub, ← sumTo_mul, show sumTo (fun k => -((if natsOf ps k = j then 1 else 0) * (mx P i j * en P k f))) ps.length = sumTo (fun k => (-1) * (mx P i j * ((if natsOf ps k = j then 1 else 0) * en P k f))) ps.length from sumTo_congr fun k _ => by grind, sumTo_mul (-1)]
    grind
  refine e1.trans ?_
  rw [sumTo_add, sumTo_pick (fun j => mx P i j) hfc, sumTo_swap]
  have e2 : ∀ k, k < ps.length → sumTo (fun j => -((if natsOf ps k = j then 1 else 0) * (mx P i j * en P k f))) c = -(mx P i (natsOf ps k) * en P k f) := fun k hk => by
    rw [show (fun j => -((if natsOf ps k = j then 1 else 0) * (mx P i j * en P k f))) = fun j => (-1) * ((if natsOf ps k = j then 1 else 0) * (mx P i j * en P k f)) from funext fun j => by grind, sumTo_mul, sumTo_pick (fun j => mx P i j * en P k f) (st.lt k hk)]
    omega
  rw [sumTo_congr e2]
  have e3 : Eqm (sumTo (fun k => -(mx P i (natsOf ps k) * en P k f)) ps.length) (sumTo (fun k => (if i = k then 1 else 0) * -en P k f) ps.length) := sumTo_eqm fun k hk => by
    refine (Eqm.neg (Eqm.mul (st.one i k hi hk) (Eqm.refl (en P k f)))).trans (Eqm.of_eq ?_)
    grind
  refine (Eqm.add (Eqm.refl _) e3).trans ?_
  rcases Nat.lt_or_ge i ps.length with h1 | h1
  · rw [sumTo_pick (fun k => -en P k f) h1]
    exact Eqm.of_eq (by show en P i f + _ = 0; omega)
  · rw [sumTo_congr (h := fun _ => 0) fun k hk => by rw [if_neg (by omega), Int.zero_mul], sumTo_zero, Int.add_zero]
    exact st.low i f h1 hi hfc
end
end Go.Proofs.YtefmllkimdaimaaDoor
namespace Go.Proofs.YtefmllkimdaimaaDoor
open Go.RowKit Go.Rk

end Go.Proofs.YtefmllkimdaimaaDoor
namespace Go.Proofs.YtefmllkimdaimaaDoor
open Go.RowKit Go.Rk

/-- A row of a free column, of its first i steps. -/
structure NPart (c : Nat) (P : List (List Int)) (ps : List Int) (f i : Nat) (x : List Int) : Prop where
  len : x.length = c
  one : ix x f = 1
  piv : ∀ k, k < i → ix x (natsOf ps k) = -en P k f % 9973
  zer : ∀ j, j < c → j ≠ f → hasB (j : Int) ps = false → ix x j = 0

theorem NPart.start {c f : Nat} (P : List (List Int)) (ps : List Int) (hf : f < c) : NPart c P ps f 0 ((List.replicate c 0).set f 1) := by
  refine ⟨by simp, by rw [ix_set, if_pos ⟨rfl, by simp; exact hf⟩], fun _ h => absurd h (Nat.not_lt_zero _), fun j hj hne _ => ?_⟩
  rw [ix_set, if_neg fun e => hne e.1.symm, ix_lt (by simp; exact hj)]
  simp
theorem NPart.step {n c f i : Nat} {P : List (List Int)} {ps x : List Int} {R : Mx} (h : NPart c P ps f i x) (st : Stairs n c ps.length R (natsOf ps)) (hp : ∀ i, i < ps.length → 0 ≤ ix ps i) (hf : hasB (f : Int) ps = false) (hi : i < ps.length) : NPart c P ps f (i + 1) (x.set (natsOf ps i) (-en P i f % 9973)) := by
  have hl := st.lt i hi
  have hb : hasB (natsOf ps i : Int) ps = true := (hasB_pos hp).2 ⟨i, hi, rfl⟩
  refine ⟨by rw [List.length_set]; exact h.len, ?_, fun k hk => ?_, fun j hj hne hz => ?_⟩
  · rw [ix_set, if_neg fun e => by rw [e.1, hf] at hb; cases hb]
    exact h.one
  · rw [ix_set]
    rcases Nat.lt_or_ge k i with h1 | h1
    · rw [if_neg fun e => by have := st.inc k i h1 hi; omega]
      exact h.piv k h1
    · obtain rfl : k = i := by omega
      rw [if_pos ⟨rfl, by rw [h.len]; exact hl⟩]
  · rw [ix_set, if_neg fun e => by rw [e.1, hz] at hb; cases hb]
    exact h.zer j hj hne hz

end Go.Proofs.YtefmllkimdaimaaDoor
namespace Go.Proofs.YtefmllkimdaimaaDoor
open Go.RowKit Go.Rk

/-- What is null stays null. -/
theorem _root_.Go.Rk.Made.null {n c : Nat} {A B : Mx} (h : Made n c A B) {v : Nat → Int} (hv : ∀ i, i < n → Eqm (sumTo (fun j => A i j * v j) c) 0) {i : Nat} (hi : i < n) : Eqm (sumTo (fun j => B i j * v j) c) 0 := by
  obtain ⟨K, hK⟩ := h
  have e1 : Eqm (sumTo (fun j => B i j * v j) c) (sumTo (fun j => sumTo (fun k => K i k * (A k j * v j)) n) c) := sumTo_eqm fun j hj => by
    refine (Eqm.mul (hK i j hi hj) (Eqm.refl (v j))).trans (Eqm.of_eq ?_)
    show sumTo (fun k => K i k * A k j) n * v j = _
    rw [Int.mul_comm, ← sumTo_mul]
    exact sumTo_congr fun k _ => by rw [Int.mul_comm, Int.mul_assoc]
  refine e1.trans ?_
  rw [sumTo_swap]
  have e2 : Eqm (sumTo (fun k => sumTo (fun j => K i k * (A k j * v j)) c) n) (sumTo (fun _ => 0) n) := sumTo_eqm fun k hk => by
    rw [sumTo_mul]
    have := Eqm.mul (Eqm.refl (K i k)) (hv k hk)
    rwa [Int.mul_zero] at this
  rw [sumTo_zero] at e2
  exact e2

/-- What is null and has nothing in the free columns is nothing. -/
theorem null_zero {n c : Nat} {R : Mx} {ps : List Int} (st : Stairs n c ps.length R (natsOf ps)) (hp : ∀ i, i < ps.length → 0 ≤ ix ps i) {v : Nat → Int} (hv : ∀ i, i < n → Eqm (sumTo (fun j => R i j * v j) c) 0) (hf : ∀ j, j < c → hasB (j : Int) ps = false → Eqm (v j) 0) {j : Nat} (hj : j < c) : Eqm (v j) 0 := by
  cases hb : hasB (j : Int) ps
  · exact hf j hj hb
  · obtain ⟨i, hi, rfl⟩ := (hasB_pos hp).1 hb
    have hin : i < n := by have := st.le; omega
    have e1 : Eqm (sumTo (fun j => R i j * v j) c) (sumTo (fun j => (if natsOf ps i = j then 1 else 0) * v j) c) := sumTo_eqm fun j hj => by
      cases hb2 : hasB (j : Int) ps
      · have := Eqm.mul (Eqm.refl (R i j)) (hf j hj hb2)
        rw [Int.mul_zero] at this
        refine this.trans ?_
        have := Eqm.mul (Eqm.refl (if natsOf ps i = j then (1 : Int) else 0)) (hf j hj hb2)
        rw [Int.mul_zero] at this
        exact this.symm
      · obtain ⟨k, hk, rfl⟩ := (hasB_pos hp).1 hb2
        refine (Eqm.mul (st.one i k hin hk) (Eqm.refl _)).trans (Eqm.of_eq ?_)
        by_cases e : i = k
        · subst e; rw [if_pos rfl, if_pos rfl]
        · rw [if_neg e, if_neg fun e2 => ?_]
          rcases Nat.lt_trichotomy i k with h1 | h1 | h1
          · have := st.inc i k h1 hk; omega
          · exact e h1
          · have := st.inc k i h1 hi; omega
    rw [sumTo_pick v hj] at e1
    exact e1.symm.trans (hv i hin)

def augL (n : Nat) (P : List (List Int)) (T : List Int) : List (List Int) := (List.range n).map fun i => rowOf P i ++ [ix T i]
section
variable {n c q : Nat} {A : Mx} {P M : List (List Int)} {T t ps : List Int}
theorem augL_row {i : Nat} (hi : i < n) : rowOf (augL n P T) i = rowOf P i ++ [ix T i] := by
  unfold augL
  rw [rowOf_lt (by simp; exact hi)]
  simp
theorem augL_dm (h : Dm n c P) : Dm n (c + 1) (augL n P T) := ⟨by simp [augL], fun i hi => by rw [augL_row hi, List.length_append, h.2 i hi]; rfl⟩
theorem augL_l (h : Dm n c P) {i j : Nat} (hi : i < n) (hj : j < c) : en (augL n P T) i j = en P i j := by
  unfold en
  rw [augL_row hi, ix_append_left (by rw [h.2 i hi]; exact hj)]
theorem augL_r (h : Dm n c P) {i : Nat} (hi : i < n) : en (augL n P T) i c = ix T i := by
  unfold en
  rw [augL_row hi, ix_append_right (by rw [h.2 i hi]; exact Nat.le_refl _), h.2 i hi, Nat.sub_self]
  rfl
theorem aug_ext {N : List (List Int)} (h : Dm n c P) (hN : Dm n (c + 1) N) (e1 : ∀ i j, i < n → j < c → en N i j = en P i j) (e2 : ∀ i, i < n → en N i c = ix T i) : N = augL n P T := hN.ext (augL_dm h) fun i j hi hj => by
  rcases Nat.lt_or_ge j c with h1 | h1
  · rw [augL_l h hi h1]; exact e1 i j hi h1
  · obtain rfl : j = c := by omega
    rw [augL_r h hi]; exact e2 i hi

/-- What holds when the first q columns are done. -/
structure RInv (n c : Nat) (A : Mx) (q : Nat) (P : List (List Int)) (T ps : List Int) : Prop where
  inv : GInv n (c + 1) A q (augL n P T) ps
  dP : Dm n c P
  lT : T.length = n

theorem RInv.eP (h : RInv n c A q P T ps) : EntR 0 9972 n c P := fun i j hi hj => by
  have := h.inv.ent i j hi (by omega)
  rwa [augL_l h.dP hi hj] at this
theorem RInv.eT (h : RInv n c A q P T ps) : In 0 9972 T := fun i hi => by
  rw [h.lT] at hi
  have := h.inv.ent i c hi (by omega)
  rwa [augL_r h.dP hi] at this
theorem RInv.start (hd : Dm n c M) (he : EntR 0 9972 n c M) (hl : t.length = n) (ht : In 0 9972 t) : RInv n c (mx (augL n M t)) 0 M t [] :=
  ⟨GInv.start (augL_dm hd) fun i j hi hj => by
    rcases Nat.lt_or_ge j c with h1 | h1
    · rw [augL_l hd hi h1]; exact he i j hi h1
    · obtain rfl : j = c := by omega
      rw [augL_r hd hi]; exact ht i (by rw [hl]; exact hi), hd, hl⟩
theorem RInv.pass (h : RInv n c A q P T ps) (hq : q < c) (hz : ∀ i, ps.length ≤ i → i < n → en P i q = 0) : RInv n c A (q + 1) P T ps :=
  ⟨h.inv.pass fun i h1 h2 => by rw [augL_l h.dP h2 hq]; exact hz i h1 h2, h.dP, h.lT⟩
theorem RInv.swap (h : RInv n c A q P T ps) {k : Nat} (h1 : ps.length ≤ k) (hk : k < n) : RInv n c A q (swapL P ps.length k) ((T.set ps.length (ix T k)).set k (ix T ps.length)) ps := by
  have hr : ps.length < n := by omega
  have hs := h.inv.swap h1 hk
  have e : swapL (augL n P T) ps.length k = augL n (swapL P ps.length k) ((T.set ps.length (ix T k)).set k (ix T ps.length)) := by
    refine aug_ext (h.dP.swap hr hk) hs.dm (fun i j hi hj => ?_) fun i hi => ?_
    · rw [en_swap h.inv.dm hr hk, en_swap h.dP hr hk]
      exact augL_l h.dP (swap_lt hr hk hi) hj
    · rw [en_swap h.inv.dm hr hk, augL_r h.dP (swap_lt hr hk hi), ix_set, ix_set]
      by_cases e1 : i = k
      · rw [if_pos e1, if_pos ⟨e1.symm, by rw [List.length_set, h.lT]; omega⟩]
      · by_cases e2 : i = ps.length
        · rw [if_neg e1, if_pos e2, if_neg (fun x => e1 x.1.symm), if_pos ⟨e2.symm, by rw [h.lT]; omega⟩]
        · rw [if_neg e1, if_neg e2, if_neg (fun x => e1 x.1.symm), if_neg (fun x => e2 x.1.symm)]
  rw [e] at hs
  exact ⟨hs, h.dP.swap hr hk, by rw [List.length_set, List.length_set, h.lT]⟩

/-- What clearing a column makes of the right side. -/
def clearT (P : List (List Int)) (T : List Int) (r q i : Nat) : Int :=
  if i = r then ix T r * powm (en P r q) 9971 % 9973 else (ix T i - en P i q * (ix T r * powm (en P r q) 9971 % 9973)) % 9973
theorem RInv.clear (h : RInv n c A q P T ps) (hr : ps.length < n) (hq : q < c) (hp : en P ps.length q ≠ 0) {P2 : List (List Int)} {T2 : List Int} (hi : IsR n c P2 (clearE P ps.length q)) (hl : T2.length = n) (ht : ∀ i, i < n → ix T2 i = clearT P T ps.length q i) : RInv n c A (q + 1) P2 T2 (ps ++ [(q : Int)]) := by
  refine ⟨h.inv.clear hr (by omega) (by rw [augL_l h.dP hr hq]; exact hp) ⟨augL_dm hi.1, fun i j h1 h2 => ?_⟩, hi.1, hl⟩
  unfold clearE
  rw [augL_l h.dP hr hq, augL_l h.dP h1 hq]
  rcases Nat.lt_or_ge j c with h3 | h3
  · rw [augL_l hi.1 h1 h3, augL_l h.dP hr h3, augL_l h.dP h1 h3]
    exact hi.2 i j h1 h3
  · obtain rfl : j = c := by omega
    rw [augL_r hi.1 h1, augL_r h.dP hr, augL_r h.dP h1]
    exact ht i h1

/-- In the end the left side is in steps by itself. -/
theorem RInv.left (hd : Dm n c M) (h : RInv n c (mx (augL n M t)) c P T ps) : GInv n c (mx M) c P ps := by
  have eM : EqM n c (mx M) (mx (augL n M t)) := fun i j hi hj => Eqm.of_eq (augL_l hd hi hj).symm
  have eP : EqM n c (mx P) (mx (augL n P T)) := fun i j hi hj => Eqm.of_eq (augL_l h.dP hi hj).symm
  have st := h.inv.st
  refine ⟨h.dP, h.eP, (Made.eqm eM).trans ((h.inv.made.cols (Nat.le_succ c)).trans (Made.eqm eP.symm)), (Made.eqm eP).trans ((h.inv.back.cols (Nat.le_succ c)).trans (Made.eqm eM.symm)), ⟨st.le, st.lt, st.inc, fun i j hi hj => ?_, fun i s h1 h2 h3 => ?_, fun i s h1 h2 => ?_⟩, h.inv.pos⟩
  · exact (eP i _ hi (st.lt j hj)).trans (st.one i j hi hj)
  · exact (eP i s h2 h3).trans (st.low i s h1 h2 h3)
  · have h5 := st.lt i h1
    exact (eP i s (by have := st.le; omega) (by omega)).trans (st.lead i s h1 h2)

/-- What is told: the right side at the steps, 0 elsewhere. -/
structure XRow (c : Nat) (T ps x : List Int) : Prop where
  len : x.length = c
  piv : ∀ i, i < ps.length → ix x (natsOf ps i) = ix T i
  zer : ∀ j, j < c → hasB (j : Int) ps = false → ix x j = 0

theorem XRow.range {x : List Int} (h : XRow c T ps x) (hT : In 0 9972 T) (hle : ps.length ≤ T.length) (hp : ∀ i, i < ps.length → 0 ≤ ix ps i) : In 0 9972 x := by
  intro j hj
  rw [h.len] at hj
  cases hb : hasB (j : Int) ps
  · rw [h.zer j hj hb]; omega
  · obtain ⟨i, hi, e⟩ := (hasB_pos hp).1 hb
    rw [← e, h.piv i hi]
    exact hT i (by omega)

/-- A row and -1 behind it. -/
def withM (y : Nat → Int) (c : Nat) : Nat → Int := fun j => if j < c then y j else -1
theorem aug_null (h : Dm n c P) (y : Nat → Int) {i : Nat} (hi : i < n) : sumTo (fun j => mx (augL n P T) i j * withM y c j) (c + 1) = sumTo (fun j => en P i j * y j) c - ix T i := by
  rw [sumTo]
  have e1 : mx (augL n P T) i c * withM y c c = -ix T i := by
    show en (augL n P T) i c * _ = _
    rw [augL_r h hi]
    unfold withM
    rw [if_neg (Nat.lt_irrefl _)]
    omega
  rw [e1, sumTo_congr (h := fun j => en P i j * y j) fun j hj => by
    show en (augL n P T) i j * _ = _
    rw [augL_l h hi hj]
    unfold withM
    rw [if_pos hj]]
  omega

/-- If anything is taken to the right side, what is told is. -/
theorem solves {x : List Int} (hd : Dm n c M) (h : RInv n c (mx (augL n M t)) c P T ps) (hx : XRow c T ps x) {y : Nat → Int} (hy : ∀ i, i < n → Eqm (sumTo (fun j => en M i j * y j) c) (ix t i)) {i : Nat} (hi : i < n) : Eqm (sumTo (fun j => en M i j * ix x j) c) (ix t i) := by
  have st : Stairs n c ps.length (mx P) (natsOf ps) := (h.left hd).st
  have hp := h.inv.pos
  -- what solves, solves the steps
  have n1 : ∀ i, i < n → Eqm (sumTo (fun j => mx (augL n P T) i j * withM y c j) (c + 1)) 0 := fun i hi => h.inv.made.null (v := withM y c) (fun k hk => by
    rw [aug_null hd y hk]
    have := Eqm.sub (hy k hk) (Eqm.refl (ix t k))
    rwa [Int.sub_self] at this) hi
  -- what is told does
  have n2 : ∀ i, i < n → Eqm (sumTo (fun j => en P i j * ix x j) c) (ix T i) := fun i hi => by
    have e1 : ∀ j, j < c → ix x j = sumTo (fun k => (if natsOf ps k = j then 1 else 0) * ix T k) ps.length := fun j hj => by
      cases hb : hasB (j : Int) ps
      · rw [hx.zer j hj hb, sumTo_congr (h := fun _ => 0) fun k hk => by rw [if_neg (fun e => by rw [(hasB_pos hp).2 ⟨k, hk, e⟩] at hb; cases hb), Int.zero_mul]]
        exact (sumTo_zero _).symm
      · obtain ⟨k, hk, rfl⟩ := (hasB_pos hp).1 hb
        rw [hx.piv k hk, sumTo_congr (h := fun m => (if k = m then 1 else 0) * ix T m) fun m hm => ?_]
        · exact (sumTo_pick (fun m => ix T m) hk).symm
        · by_cases e3 : k = m
          · rw [if_pos (by rw [e3]), if_pos e3]
          · rw [if_neg fun e4 => ?_, if_neg e3]
            rcases Nat.lt_trichotomy k m with h1 | h1 | h1
            · have := st.inc k m h1 hm; omega
            · exact e3 h1
            · have := st.inc m k h1 hk; omega
    have e2 : sumTo (fun j => en P i j * ix x j) c = sumTo (fun k => en P i (natsOf ps k) * ix T k) ps.length := by
      rw [sumTo_congr (h := fun j => sumTo (fun k => (if natsOf ps k = j then 1 else 0) * (en P i j * ix T k)) ps.length) fun j hj => by
        rw [e1 j hj, ← sumTo_mul]
        exact sumTo_congr fun k _ => by grind, sumTo_swap]
      exact sumTo_congr fun k hk => sumTo_pick (fun j => en P i j * ix T k) (st.lt k hk)
    rw [e2]
    have e3 : Eqm (sumTo (fun k => en P i (natsOf ps k) * ix T k) ps.length) (sumTo (fun k => (if i = k then 1 else 0) * ix T k) ps.length) := sumTo_eqm fun k hk => Eqm.mul (st.one i k hi hk) (Eqm.refl _)
    refine e3.trans ?_
    rcases Nat.lt_or_ge i ps.length with h1 | h1
    · rw [sumTo_pick (fun k => ix T k) h1]
      exact Eqm.refl _
    · rw [sumTo_congr (h := fun _ => 0) fun k hk => by rw [if_neg (by omega), Int.zero_mul], sumTo_zero]
      have := n1 i hi
      rw [aug_null h.dP y hi] at this
      have e4 : Eqm (sumTo (fun j => en P i j * y j) c) (sumTo (fun _ => 0) c) := sumTo_eqm fun j hj => by
        have := Eqm.mul (st.low i j h1 hi hj) (Eqm.refl (y j))
        rwa [Int.zero_mul] at this
      rw [sumTo_zero] at e4
      unfold Eqm at this e4 ⊢
      omega
  have n3 := h.inv.back.null (v := withM (ix x) c) (fun k hk => by
    rw [aug_null h.dP (ix x) hk]
    have := Eqm.sub (n2 k hk) (Eqm.refl (ix T k))
    rwa [Int.sub_self] at this) hi
  rw [aug_null hd (ix x) hi] at n3
  unfold Eqm at n3 ⊢
  omega
end
end Go.Proofs.YtefmllkimdaimaaDoor
namespace Go.Proofs.YtefmllkimdaimaaDoor
open Go.RowKit Go.Rk

end Go.Proofs.YtefmllkimdaimaaDoor
namespace Go.Proofs.YtefmllkimdaimaaDoor
open Go.RowKit Go.Rk

theorem _root_.Go.Rk.OwI.setLow {w : World} {B E : Nat} {a : Option Addr} {n cap : Nat} {l : List Int} {p : Addr} (h : OwI w B E a n cap l) (hp : p.block < B) (u : Value) : OwI (w.setCell p u) B E a n cap l :=
  ⟨h.len_eq, ownsRow_same h.own fun b hb => Below.heap_setCell _ _ _ _ (by have := (h.own.lt b hb).1; omega)⟩

/-- The right side when the rows ahead of k are cleared. -/
def clearQ (P : List (List Int)) (T : List Int) (r q : Nat) (ov : Int) (k i : Nat) : Int :=
  if i = r then ix T r * ov % 9973 else if i < k then (ix T i - en P i q * (ix T r * ov % 9973)) % 9973 else ix T i

end Go.Proofs.YtefmllkimdaimaaDoor
namespace Go.Proofs.YtefmllkimdaimaaDoor
open Go.RowKit Go.Rk

/-- What is told, of its first i steps. -/
structure XPart (c : Nat) (T ps : List Int) (i : Nat) (x : List Int) : Prop where
  len : x.length = c
  piv : ∀ k, k < i → ix x (natsOf ps k) = ix T k
  zer : ∀ j, j < c → hasB (j : Int) ps = false → ix x j = 0
theorem XPart.start (c : Nat) (T ps : List Int) : XPart c T ps 0 (List.replicate c 0) :=
  ⟨by simp, fun _ h => absurd h (Nat.not_lt_zero _), fun j hj _ => by rw [ix_lt (by simp; exact hj)]; simp⟩
theorem XPart.step {n c i : Nat} {T ps x : List Int} {R : Mx} (h : XPart c T ps i x) (st : Stairs n c ps.length R (natsOf ps)) (hp : ∀ i, i < ps.length → 0 ≤ ix ps i) (hi : i < ps.length) : XPart c T ps (i + 1) (x.set (natsOf ps i) (ix T i)) := by
  have hl := st.lt i hi
  have hb : hasB (natsOf ps i : Int) ps = true := (hasB_pos hp).2 ⟨i, hi, rfl⟩
  refine ⟨by rw [List.length_set]; exact h.len, fun k hk => ?_, fun j hj hz => ?_⟩
  · rw [ix_set]
    rcases Nat.lt_or_ge k i with h1 | h1
    · rw [if_neg fun e => by have := st.inc k i h1 hi; omega]
      exact h.piv k h1
    · obtain rfl : k = i := by omega
      rw [if_pos ⟨rfl, by rw [h.len]; exact hl⟩]
  · rw [ix_set, if_neg fun e => by rw [e.1, hz] at hb; cases hb]
    exact h.zer j hj hz

end Go.Proofs.YtefmllkimdaimaaDoor
namespace Go.Proofs.YtefmllkimdaimaaDoor
open Go.RowKit Go.Rk

/-- If anything is taken to the right side, what is told is. -/
theorem told {n c : Nat} {M P : List (List Int)} {t T ps x : List Int} (hd : Dm n c M) (h : RInv n c (mx (augL n M t)) c P T ps) (hx : XRow c T ps x) (hl : t.length = n) (it : In 0 9972 t) (y : Nat → Int) (hy : ∀ i, i < n → Eqm (sumTo (fun j => en M i j * y j) c) (ix t i)) : toN M x c n = t := by
  refine ix_ext (by rw [toN_len, hl]) fun i hi => ?_
  rw [toN_len] at hi
  rw [toN_ix hi]
  have e := solves hd h hx hy hi
  have b := it i (by rw [hl]; exact hi)
  unfold toV
  unfold Eqm at e
  omega

theorem two_half {x : Int} (h : (x * 2) % 9973 = 4) (b : 0 ≤ x ∧ x ≤ 9972) : x = 2 := by
  have h3 : x * 2 * 4987 % 9973 = 4 * 4987 % 9973 := by rw [Int.mul_emod, h]; rfl
  rw [show x * 2 * 4987 = x + 9973 * x by omega, Int.add_mul_emod_self_left, Int.emod_eq_of_lt b.1 (by omega)] at h3
  rw [h3]
  rfl

theorem nullLit : GInv 1 2 (mx [[1, 2]]) 2 [[1, 2]] [0] := by
  refine ⟨⟨rfl, fun i hi => (by obtain rfl : i = 0 := (by omega); rfl)⟩, fun i j hi hj => ?_, Made.refl _ _ _, Made.refl _ _ _, ⟨by decide, fun i hi => ?_, fun i j h1 h2 => ?_, fun i j h1 h2 => ?_, fun i s h1 h2 h3 => ?_, fun i s h1 h2 => ?_⟩, fun i hi => ?_⟩
  · obtain rfl : i = 0 := by omega
    rcases (show j = 0 ∨ j = 1 by omega) with rfl | rfl <;> decide
  · obtain rfl : i = 0 := by simp at hi; omega
    decide
  · simp at h2; omega
  · obtain rfl : j = 0 := by simp at h2; omega
    obtain rfl : i = 0 := by omega
    unfold Eqm; decide
  · simp at h1; omega
  · obtain rfl : i = 0 := by simp at h1; omega
    have : (ix [0] 0).toNat = 0 := by decide
    rw [this] at h2
    omega
  · obtain rfl : i = 0 := by simp at hi; omega
    decide
theorem nullIs {L : List (List Int)} (h : Nul 2 2 [[1, 2]] [0] L) : L = [[9971, 1]] := by
  have hl : L.length = 1 := h.len
  have hr := h.row 0 (by omega)
  rw [show freeAt [0] 2 0 = 1 by decide] at hr
  have h0 : ix (rowOf L 0) 0 = 9971 := (hr.piv 0 (by decide)).trans (by decide)
  have hd : Dm 1 2 L := ⟨hl, fun i hi => (by obtain rfl : i = 0 := (by omega); exact hr.len)⟩
  refine hd.ext (n := 1) (c := 2) ⟨rfl, fun i hi => (by obtain rfl : i = 0 := (by omega); rfl)⟩ fun i j hi hj => ?_
  obtain rfl : i = 0 := by omega
  rcases (show j = 0 ∨ j = 1 by omega) with rfl | rfl
  · exact h0
  · exact hr.one

theorem rd12 {w : World} {b p : Nat} {x y : Int} (h0 : w.cell? ⟨b, 0, none⟩ = some (.slice (some ⟨p, 0, none⟩) 2 2)) (h1 : w.cell? ⟨p, 0, none⟩ = some (.int .i64 x)) (h2 : w.cell? ⟨p, 1, none⟩ = some (.int .i64 y)) : RdM w (some ⟨b, 0, none⟩) 1 1 [[x, y]] := by
  refine ⟨rfl, Nat.le_refl _, by decide, fun k hk => ?_⟩
  obtain rfl : k = 0 := by omega
  exact ⟨b, 0, some ⟨p, 0, none⟩, 2, 2, rfl, h0, rd2 h1 h2⟩

theorem oneIs {P : List (List Int)} {T ps x : List Int} (h : RInv 2 2 (mx (augL 2 [[1, 1], [0, 2]] [3, 4])) 2 P T ps) (hx : XRow 2 T ps x) : toN [[1, 1], [0, 2]] x 2 2 = [3, 4] ∧ x = [1, 2] := by
  have hd : Dm 2 2 [[1, 1], [0, 2]] := ⟨rfl, fun i hi => by rcases (show i = 0 ∨ i = 1 by omega) with rfl | rfl <;> rfl⟩
  have ht := told hd h hx rfl (by intro i hi; simp at hi; rcases (show i = 0 ∨ i = 1 by omega) with rfl | rfl <;> decide) (fun j => if j = 0 then 1 else 2) fun i hi => by
    rcases (show i = 0 ∨ i = 1 by omega) with rfl | rfl <;> (unfold Eqm; decide)
  refine ⟨ht, ?_⟩
  have e0 : toV [[1, 1], [0, 2]] x 2 0 = 3 := by rw [← toN_ix (n := 2) (by omega), ht]; rfl
  have e1 : toV [[1, 1], [0, 2]] x 2 1 = 4 := by rw [← toN_ix (n := 2) (by omega), ht]; rfl
  have hr := hx.range h.eT (by rw [h.lT]; exact h.inv.st.le) h.inv.pos
  have b0 := hr 0 (by rw [hx.len]; omega)
  have b1 := hr 1 (by rw [hx.len]; omega)
  have t0 : ∀ f : Nat → Int, sumTo (fun j => en [[1, 1], [0, 2]] 0 j * f j) 2 = f 0 + f 1 := fun f => by simp [sumTo, en, rowOf, ix]
  have t1 : ∀ f : Nat → Int, sumTo (fun j => en [[1, 1], [0, 2]] 1 j * f j) 2 = f 1 * 2 := fun f => by simp [sumTo, en, rowOf, ix]; omega
  unfold toV at e0 e1
  rw [t0 (ix x)] at e0
  rw [t1 (ix x)] at e1
  have x1 : ix x 1 = 2 := two_half e1 b1
  have x0 : ix x 0 = 1 := by omega
  refine ix_ext (by rw [hx.len]; rfl) fun k hk => ?_
  rw [hx.len] at hk
  rcases (show k = 0 ∨ k = 1 by omega) with rfl | rfl
  · exact x0
  · exact x1

end Go.Proofs.YtefmllkimdaimaaDoor
namespace Go.Rk
open Go.RowKit

def pivL (M : List (List Int)) (a t : Nat) (l : List Int) : List (List Int) := (M.set a (rowOf M t)).set t l
def pivF {α : Type} (D : Nat → α) (a t : Nat) (p : α) : Nat → α := fun j => if j = t then p else if j = a then D t else D j
theorem pivL_len (M : List (List Int)) (a t : Nat) (l : List Int) : (pivL M a t l).length = M.length := by simp [pivL]
theorem rowOf_pivL {M : List (List Int)} {a t : Nat} (ha : a < M.length) (ht : t < M.length) (l : List Int) (j : Nat) : rowOf (pivL M a t l) j = if j = t then l else if j = a then rowOf M t else rowOf M j := by
  unfold pivL
  rw [rowOf_set, rowOf_set, List.length_set]
  by_cases h1 : j = t
  · subst h1; simp [ht]
  · by_cases h2 : j = a
    · subst h2; simp [h1, Ne.symm h1, ha]
    · simp [h1, h2, Ne.symm h1, Ne.symm h2]

section
variable {w w2 : World} {B T E g : Nat} {D C : Nat → Nat} {n cap : Nat} {M : List (List Int)}
theorem OwMD.pivot (h : OwMD w B T E g D C n cap M) (hne : T ≠ E) {a t : Nat} (ha : a < n) (ht : t < n) {p cr : Nat} {l : List Int}
    (hb : Below w.heap.size (w.setCell ⟨g, a, none⟩ (.slice (some ⟨D t, 0, none⟩) (rowOf M t).length (C t))) w2) (ho : OwI w2 w.heap.size E (some ⟨p, 0, none⟩) l.length cr l) (hB : B ≤ w.heap.size) :
    OwMD (w2.setCell ⟨g, t, none⟩ (.slice (some ⟨p, 0, none⟩) l.length cr)) B T E g (pivF D a t p) (pivF C a t cr) n cap (pivL M a t l) := by
  have hal : a < M.length := by rw [h.len_eq]; exact ha
  have htl : t < M.length := by rw [h.len_eq]; exact ht
  have hb' : Below (w.setCell ⟨g, a, none⟩ (.slice (some ⟨D t, 0, none⟩) (rowOf M t).length (C t))).heap.size (w.setCell ⟨g, a, none⟩ (.slice (some ⟨D t, 0, none⟩) (rowOf M t).length (C t))) w2 := by simpa using hb
  have hpl := ho.own.lt p rfl
  have hgl := h.lowO
  have s1 := (h.outer.stored a (.slice (some ⟨D t, 0, none⟩) (rowOf M t).length (C t))).1
  have s2 := s1.kept (row := none) ⟨hb'.os, hb'.tape, hb'.output, hb'.size, fun k hk _ => hb'.block k hk⟩ (.inr (by simp [Value.ownBlock]))
  have s3 := (s2.stored t (.slice (some ⟨p, 0, none⟩) l.length cr)).1
  refine ⟨by rw [pivL_len]; exact h.len_eq, ?_, fun j hj => ?_, fun i j hi hj hij => ?_⟩
  · have : ((List.range n).map fun j => Value.slice (some ⟨pivF D a t p j, 0, none⟩) (rowOf (pivL M a t l) j).length (pivF C a t cr j)) =
        (((List.range n).map fun j => Value.slice (some ⟨D j, 0, none⟩) (rowOf M j).length (C j)).set a (.slice (some ⟨D t, 0, none⟩) (rowOf M t).length (C t))).set t (.slice (some ⟨p, 0, none⟩) l.length cr) := by
      apply List.ext_getElem?
      intro j
      rcases Nat.lt_or_ge j n with h1 | h1
      · rw [List.getElem?_set, List.getElem?_set]
        simp only [List.length_set, List.length_map, List.length_range, List.getElem?_map]
        rw [List.getElem?_range h1]
        simp only [Option.map_some, rowOf_pivL hal htl, pivF]
        by_cases h2 : j = t
        · subst h2; simp [h1]
        · by_cases h3 : j = a
          · subst h3; simp [h2, Ne.symm h2, h1]
          · simp [h2, h3, Ne.symm h2, Ne.symm h3]
      · rw [List.getElem?_eq_none (by simp; omega), List.getElem?_eq_none (by simp; omega)]
    rw [this]
    exact s3
  · rw [rowOf_pivL hal htl]
    have keep : ∀ m, m < n → OwI (w2.setCell ⟨g, t, none⟩ (.slice (some ⟨p, 0, none⟩) l.length cr)) B E (some ⟨D m, 0, none⟩) (rowOf M m).length (C m) (rowOf M m) :=
      fun m hm => (((h.rows m hm).setElse (h.neO hne hm).symm _).below hb').setElse (h.neO hne hm).symm _
    simp only [pivF]
    by_cases h2 : j = t
    · simp only [h2, if_true]
      exact (ho.mono hB).setElse (by show g ≠ p; omega) _
    · by_cases h3 : j = a
      · simp only [h3, if_true]
        by_cases h4 : a = t
        · exact absurd (h3.trans h4) h2
        · simp only [if_neg h4]; exact keep t ht
      · simp only [h2, h3, if_false]; exact keep j hj
  · have lo : ∀ m, m < n → D m ≠ p := fun m hm => by have := (h.lowI hm).2; omega
    simp only [pivF]
    by_cases h1 : i = t
    · subst h1
      rw [if_pos rfl, if_neg (Ne.symm hij)]
      by_cases h2 : j = a
      · rw [if_pos h2]; exact (lo i ht).symm
      · rw [if_neg h2]; exact (lo j hj).symm
    · rw [if_neg h1]
      by_cases h2 : j = t
      · rw [if_pos h2]
        by_cases h3 : i = a
        · rw [if_pos h3]; exact lo t ht
        · rw [if_neg h3]; exact lo i hi
      · rw [if_neg h2]
        by_cases h3 : i = a
        · rw [if_pos h3, if_neg (fun e => hij (h3.trans e.symm))]; exact h.inj t j ht hj (Ne.symm h2)
        · rw [if_neg h3]
          by_cases h4 : j = a
          · rw [if_pos h4]; exact h.inj i t hi ht h1
          · rw [if_neg h4]; exact h.inj i j hi hj hij
end
end Go.Rk
namespace Go.Proofs.YtefmllkimdaimaaDoor
open Go.RowKit Go.Rk

/-- A slice's block is none of a matrix's. -/
def BSep (v : Value) (g : Nat) (D : Nat → Nat) (n : Nat) : Prop := ∀ b, v.ownBlock = some b → b ≠ g ∧ ∀ i, i < n → b ≠ D i
theorem _root_.Go.Rk.OwMD.grownElse {w w' : World} {B T E g : Nat} {D C : Nat → Nat} {n cap : Nat} {M : List (List Int)} {row : Option Nat} (h : OwMD w B T E g D C n cap M) (hg : w.grownBy w' row) (hr : ∀ r, row = some r → r ≠ g ∧ ∀ i, i < n → r ≠ D i) : OwMD w' B T E g D C n cap M :=
  ⟨h.len_eq, h.outer.kept hg (.inr fun e => (hr g e.symm).1 rfl), fun i hi => (h.rows i hi).grown hg (.inr fun e => (hr (D i) e.symm).2 i hi rfl), h.inj⟩

theorem _root_.Go.Rk.OwI.setSep {w : World} {B E : Nat} {a : Option Addr} {n cap : Nat} {l : List Int} {p : Addr} (h : OwI w B E a n cap l) (hp : ∀ b, (Value.slice a n cap).ownBlock = some b → b ≠ p.block) (u : Value) : OwI (w.setCell p u) B E a n cap l :=
  ⟨h.len_eq, ownsRow_same h.own fun b hb => Below.heap_setCell _ _ _ _ (hp b hb)⟩

/-- The places so far cleared: the rows before i, and of row i the places before j. -/
def stairP (M : List (List Int)) (t q : Nat) (i j r s : Nat) : Int := if r ≠ t ∧ (r < i ∨ (r = i ∧ s < j)) then (en M r s - en M r q * en M t s) % 9973 else en M r s

set_option maxHeartbeats 4000000 in
set_option maxRecDepth 100000 in
theorem R_Stairs_any {a : Option Addr} {n ca c cols : Nat} {M : List (List Int)} {w : World} (h : RdM w a n ca M) (hd : Dm n c M) (he : EntR 0 9972 n c M) (h1 : 1 ≤ n) (hn : n ≤ 1000) (hc : c ≤ 1000) (hcc : cols ≤ c) (hc1 : 1 ≤ c) :
    Calls Tryd.prog 119 #[.slice a n ca, .int .i64 cols] w fun e w' => ∃ ao co ap cp P ps, e = .returned (.tuple #[.slice ao n co, .slice ap ps.length cp]) ∧ RdM w' ao n co P ∧ RdI w' ap ps.length cp ps ∧ GInv n c (mx M) cols P ps ∧ Below w.heap.size w w' := by
  have HIT := Lib.hid intTy
  have S0 := Lib.hid (GInv.start hd he)
  have C := Lib.hid (R_Copy_any h hn (fun k hk => by rw [hd.2 k hk]; exact hc))
  have HDM := Lib.hid hd
  clear he hd
  go_enter Tryd.func119, Tryd.ntmps119
  go_wp2_with (first | (go_at_call 134; (with_reducible refine C.out.mono ?_); rintro e w1 ⟨z, cz, rfl, ho, hb⟩))
  obtain ⟨g, D, C_, hzz, hd1⟩ := ho.named (by omega) fun i hi => by rw [HDM.out.2 i hi]; omega
  subst hzz
  clear ho C HDM
  go_loopw [7, 8] (fun s v wr => ∃ (q : Nat) (ps : List Int) (ab : Option Addr) (cb : Nat) (D C_ : Nat → Nat) (P : List (List Int)), q ≤ cols ∧ v = .int .i64 q ∧ s = .slice ab ps.length cb ∧ OwI wr w.heap.size 3 ab ps.length cb ps ∧ OwMD wr w.heap.size 22 3 g D C_ n cz P ∧ Hid (GInv n c (mx M) q P ps) ∧ BSep (.slice ab ps.length cb) g D n ∧ Below w.heap.size w wr) (fun _ v _ => cols - (intOf v).toNat)
  case atStart => exact ⟨0, [], none, 0, D, C_, M, Nat.zero_le _, rfl, rfl, OwI.nil _ _ _, hd1, S0, (fun b h => by cases h), hb⟩
  case round =>
    clear hd1 hb S0
    obtain ⟨q, ps, ab, cb, D, C_, P, hq, rfl, rfl, hbg, hdm, HG, hsp, hb⟩ := hrel
    obtain ⟨wo, rfl⟩ : ∃ x, x = wr := ⟨_, rfl⟩
    by_cases hqc : q < cols
    · have i1 : (q : Int) < (cols : Int) := by omega
      have i2 : (q : Int) < (c : Int) := by omega
      have hle := HG.out.st.le
      have hqc2 : q < c := by omega
      obtain ⟨top, htop⟩ : ∃ top, top = ps.length := ⟨_, rfl⟩
      rw [← htop] at hbg hsp hle ⊢
      have HT := Lib.hid htop
      clear htop
      go_wp2
      go_loop [10, 11] (fun at_ v => ∃ i : Nat, top ≤ i ∧ i ≤ n ∧ v = .int .i64 i ∧ ((at_ = .int .i64 (-1) ∧ Hid (∀ r, top ≤ r → r < i → en P r q = 0)) ∨ ∃ k : Nat, at_ = .int .i64 k ∧ top ≤ k ∧ k < i ∧ Hid (en P k q ≠ 0))) (fun _ v => n - (intOf v).toNat)
      case atStart => exact ⟨top, Nat.le_refl _, hle, rfl, .inl ⟨rfl, fun r h1 h2 => absurd h2 (by omega)⟩⟩
      case round =>
        obtain ⟨i, hi0, hi, rfl, hor⟩ := hrel
        by_cases hin : i < n
        · have j1 : (i : Int) < (n : Int) := by omega
          have x1 := hdm.cellO hin
          rw [HG.out.dm.2 i hin] at x1
          have x2 := hdm.cellI hin (j := q) (by rw [HG.out.dm.2 i hin]; exact hqc2)
          by_cases hz : en P i q = 0
          · rw [hz] at x2
            have HZ := Lib.hid hz
            clear hz
            rcases hor with ⟨rfl, H0⟩ | ⟨k, rfl, c1, c2, H0⟩
            · go_wp2
              go_round
              case rel => exact ⟨i + 1, by omega, by omega, by go_num, .inl ⟨rfl, fun r h1 h2 => by
                rcases Nat.lt_or_ge r i with h3 | h3
                · exact H0.out r h1 h3
                · obtain rfl : r = i := by omega
                  exact HZ.out⟩⟩
              case measure => simp [intOf]; omega
            · go_wp2
              go_round
              case rel => exact ⟨i + 1, by omega, by omega, by go_num, .inr ⟨k, rfl, c1, by omega, H0⟩⟩
              case measure => simp [intOf]; omega
          · have HZ := Lib.hid hz
            obtain ⟨v, hv⟩ : ∃ v, v = en P i q := ⟨_, rfl⟩
            rw [← hv] at x2 hz
            have z1 : (v != 0) = true := bne_iff_ne.2 hz
            clear hz hv hor
            go_wp2
            go_round
            case rel => exact ⟨i + 1, by omega, by omega, by go_num, .inr ⟨i, rfl, hi0, by omega, HZ⟩⟩
            case measure => simp [intOf]; omega
        · obtain rfl : n = i := by omega
          rcases hor with ⟨rfl, H0⟩ | ⟨k, rfl, c1, c2, H0⟩
          · have HG2 : Hid (GInv n c (mx M) (q + 1) P ps) := HG.out.pass (by rw [← HT.out]; exact H0.out)
            go_wp2
            go_roundw
            case rel => exact ⟨q + 1, ps, ab, cb, D, C_, P, by omega, by go_num, by rw [← HT.out], by rw [← HT.out]; exact hbg, hdm, HG2, by rw [← HT.out]; exact hsp, hb⟩
            case measure => simp [intOf]; omega
          · have c1_ := c1
            have z1 : ¬ (k : Int) < 0 := by omega
            have j1 : (k : Int) < (n : Int) := by omega
            have htn : top < n := by omega
            have j2 : (top : Int) < (n : Int) := by omega
            have x1 := hdm.cellO c2
            rw [HG.out.dm.2 k c2] at x1
            have x2 := hdm.cellI c2 (j := q) (by rw [HG.out.dm.2 k c2]; exact hqc2)
            have x3 := hdm.cellO htn
            rw [HG.out.dm.2 top htn] at x3
            have f1 := hdm.frozenO k
            have be := HG.out.ent k q c2 hqc2
            have HX := Lib.hid (fun j (hj : j < c) => hdm.cellI c2 (j := j) (by rw [HG.out.dm.2 k c2]; exact hj))
            have hDk := hdm.lowI c2
            have hne : D k ≠ g := hdm.neO matTy.ne c2
            obtain ⟨V, hV⟩ : ∃ V, V = en P k q := ⟨_, rfl⟩
            rw [← hV] at x2 be
            have hgl := hdm.lowO
            have x4 : (wo.setCell ⟨g, k, none⟩ (.slice (some ⟨D top, 0, none⟩) c (C_ top))).cell? ⟨D k, q, none⟩ = some (.int .i64 V) := by
              rw [World.cell?_setCell_other _ _ _ _ (by intro e; injection e with e1; exact hne (by first | exact e1 | exact e1.symm))]; exact x2
            obtain ⟨ov, hov⟩ : ∃ ov, ov = powm V 9971 := ⟨_, rfl⟩
            have hovb : 0 ≤ ov ∧ ov ≤ 9972 := by rw [hov]; exact powm_in _ _
            have HOV : Hid (powm (en P k q) 9971 = ov) := by rw [hov, hV]; exact rfl
            have HV0 : Hid (en P k q ≠ 0) := H0
            have CP : Hid (∀ w, Calls Tryd.prog 79 #[.int .i64 V, .int .i64 9971] w fun e w' => e = .returned (.int .i64 ov) ∧ w = w') := fun w => by rw [hov]; exact R_Pow_any 9971 9971 V w (Nat.le_refl _) (by omega) be
            clear hV hov
            go_wp2_with (first | (go_at_call 79; (with_reducible refine (CP.out _).mono ?_); rintro e w' ⟨rfl, rfl⟩))
            clear x1 x2 x4 f1 be
            have HX2 : Hid (∀ j, j < c → (wo.setCell ⟨g, k, none⟩ (.slice (some ⟨D top, 0, none⟩) c (C_ top))).cell? ⟨D k, j, none⟩ = some (.int .i64 (en P k j))) := fun j hj => by
              rw [World.cell?_setCell_other _ _ _ _ (by intro e; injection e with e1; exact hne (by first | exact e1 | exact e1.symm))]; exact HX.out j hj
            have hbs := hb.setCell (p := ⟨g, k, none⟩) hgl.1 (.slice (some ⟨D top, 0, none⟩) c (C_ top))
            have hss : wo.heap.size = (wo.setCell ⟨g, k, none⟩ (.slice (some ⟨D top, 0, none⟩) c (C_ top))).heap.size := by simp
            have f2 : (wo.setCell ⟨g, k, none⟩ (.slice (some ⟨D top, 0, none⟩) c (C_ top))).frozen? ⟨g, top, none⟩ = false := (World.frozen?_setCell _ _ _ _).trans (hdm.frozenO top)
            have y5 : (wo.setCell ⟨g, k, none⟩ (.slice (some ⟨D top, 0, none⟩) c (C_ top))).cell? ⟨g, top, none⟩ = some (.slice (some ⟨D top, 0, none⟩) c (C_ top)) := by
              by_cases e : k = top
              · subst e; exact World.cell?_setCell_same _ _ _ x3
              · rw [World.cell?_setCell_other _ _ _ _ (by intro e2; injection e2 with _ e1; exact e (by first | exact e1 | exact e1.symm))]; exact x3
            have HPV : Hid (∀ {w2 : World} {p cr : Nat} {l : List Int}, Below wo.heap.size (wo.setCell ⟨g, k, none⟩ (.slice (some ⟨D top, 0, none⟩) c (C_ top))) w2 → OwI w2 wo.heap.size 3 (some ⟨p, 0, none⟩) l.length cr l → OwMD (w2.setCell ⟨g, top, none⟩ (.slice (some ⟨p, 0, none⟩) l.length cr)) w.heap.size 22 3 g (pivF D k top p) (pivF C_ k top cr) n cz (pivL P k top l)) := fun h1 h2 => hdm.pivot matTy.ne c2 htn (by rw [HG.out.dm.2 top htn]; exact h1) h2 hb.size
            have hDlt : Hid (∀ i, i < n → D i < wo.heap.size) := fun i hi => (hdm.lowI hi).2
            have hbgS : OwI (wo.setCell ⟨g, k, none⟩ (.slice (some ⟨D top, 0, none⟩) c (C_ top))) w.heap.size 3 ab top cb ps := OwI.setSep hbg (fun b hb => (hsp b hb).1) _
            have hbglt : Hid (∀ b, (Value.slice ab top cb).ownBlock = some b → b < wo.heap.size) := fun b hb => (hbg.own.lt b hb).2
            have hglt := hgl.2
            clear hdm hbg HX x3 hb
            generalize (wo.setCell ⟨g, k, none⟩ (.slice (some ⟨D top, 0, none⟩) c (C_ top))) = ws at *
            have HSS := Lib.hid hss
            have hs0 : w.heap.size ≤ wo.heap.size := by rw [hss]; exact hbs.size
            clear hss
            go_loopw [14, 15] (fun s v wt => ∃ (j : Nat) (a1 : Option Addr) (c1 : Nat), j ≤ c ∧ v = .int .i64 j ∧ s = .slice a1 j c1 ∧ OwI wt wo.heap.size 3 a1 j c1 (rowF (fun j => en P k j * ov % 9973) j) ∧ Below wo.heap.size ws wt) (fun _ v _ => c - (intOf v).toNat)
            case atStart => exact ⟨0, none, 0, Nat.zero_le _, rfl, rfl, OwI.nil _ _ _, Below.refl _ _⟩
            case round =>
              obtain ⟨j, a1, c1, hj, rfl, rfl, ho1, hb1⟩ := hrel
              by_cases hjc : j < c
              · have y1 := hb1.keep hDk.2 (HX2.out j hjc)
                have m1 := HG.out.ent k j c2 hjc
                have p1 := mul_bd m1 hovb
                have i3 : (j : Int) < (c : Int) := by omega
                have hs1 := hb1.size
                rw [← HSS.out] at hs1
                go_wp2_with (first | (go_at_call 66; refine (R_Mod_any _ _ (by omega) (by omega)).mono ?_; rintro e w' ⟨rfl, rfl⟩) | (at_builtin; refine wpList_push_int HIT.out rfl (.tmp 68) (.tmp 76) rfl rfl rfl (ho1.alloc _) (z := en P k j * ov % 9973) (by simp) (by decide) (by decide) (by omega) (by simp; omega) ?_; intro a4 c4 w4 ho4 hg4))

                have hb4 := below_grown (hb1.alloc (by omega) (.cells #[.int .i64 (en P k j * ov % 9973)] 3)) (ho1.alloc _) (by simp; omega) hg4
                go_roundw
                case rel => exact ⟨j + 1, a4, c4, by omega, by go_num, rfl, by rw [rowF_succ]; exact ho4, hb4⟩
                case measure => simp [intOf]; omega
              · obtain rfl : c = j := by omega
                obtain ⟨p, hz1, hp1, hp2, _, _⟩ := ho1.at (by omega)
                subst hz1
                have y6 := hb1.keep hglt y5
                have f6 := (hb1.frozen (p := ⟨g, top, none⟩) hglt).trans f2
                have hP4 := HPV.out hb1 (by rw [rowF_len]; exact ho1)
                rw [rowF_len] at hP4
                have hbg1 : OwI wr w.heap.size 3 ab top cb ps := hbgS.below (by rw [← HSS.out]; exact hb1)
                have hbg2 : OwI (wr.setCell ⟨g, top, none⟩ (.slice (some ⟨p, 0, none⟩) c c1)) w.heap.size 3 ab top cb ps := OwI.setSep hbg1 (fun b hb => (hsp b hb).1) _
                have hb2 := (hbs.trans (hb1.mono hs0)).setCell (p := ⟨g, top, none⟩) hgl.1 (.slice (some ⟨p, 0, none⟩) c c1)
                have HI : Hid (GInv n c (mx M) q (swapL P top k) ps) := by rw [HT.out]; exact HG.out.swap (by rw [← HT.out]; exact c1_) c2
                have HPN : Hid (en (swapL P top k) top q ≠ 0) := by
                  unfold Hid
                  rw [en_swap HG.out.dm htn c2]
                  by_cases e : top = k
                  · rw [if_pos e, e]; exact HV0.out
                  · rw [if_neg e, if_pos rfl]; exact HV0.out
                have HOQ : Hid (powm (en (swapL P top k) top q) 9971 = ov) := by
                  unfold Hid
                  rw [← HOV.out, en_swap HG.out.dm htn c2]
                  by_cases e : top = k
                  · rw [if_pos e, e]
                  · rw [if_neg e, if_pos rfl]
                have hi0 : Hid (IsR n c (pivL P k top (rowF (fun s => en P k s * ov % 9973) c)) (clearP (swapL P top k) top q ov 0 0)) := by
                  have hkl : k < P.length := by rw [HG.out.dm.1]; exact c2
                  have htl : top < P.length := by rw [HG.out.dm.1]; exact htn
                  refine ⟨⟨by rw [pivL_len]; exact HG.out.dm.1, fun r hr => ?_⟩, fun r s hr hs => ?_⟩
                  · rw [rowOf_pivL hkl htl]
                    (repeat' split) <;> first | exact rowF_len _ _ | exact HG.out.dm.2 _ (by assumption)
                  · unfold clearP
                    rw [if_neg (by omega)]
                    unfold scaleE
                    have e1 : en (pivL P k top (rowF (fun s => en P k s * ov % 9973) c)) r s = if r = top then en P k s * ov % 9973 else if r = k then en P top s else en P r s := by
                      unfold en
                      rw [rowOf_pivL hkl htl]
                      by_cases e : r = top
                      · rw [if_pos e, if_pos e, rowF_ix hs]
                      · rw [if_neg e, if_neg e]
                        by_cases e2 : r = k
                        · rw [if_pos e2, if_pos e2]
                        · rw [if_neg e2, if_neg e2]
                    rw [e1, en_swap HG.out.dm htn c2, en_swap HG.out.dm htn c2]
                    by_cases e : r = top
                    · rw [if_pos e, if_pos e]
                      by_cases e2 : top = k
                      · rw [if_pos e2, e2]
                      · rw [if_neg e2, if_pos rfl]
                    · rw [if_neg e, if_neg e]
                      by_cases e2 : r = k
                      · rw [if_pos e2, if_pos e2]
                      · rw [if_neg e2, if_neg e2, if_neg e]
                have hDp : pivF D k top p top = p := by unfold pivF; rw [if_pos rfl]
                have hsp4 : BSep (.slice ab top cb) g (pivF D k top p) n := fun b hb => ⟨(hsp b hb).1, fun i hi => by
                  have h1 := hbglt.out b hb
                  unfold pivF
                  (repeat' split)
                  · omega
                  · exact (hsp b hb).2 _ htn
                  · exact (hsp b hb).2 _ hi⟩
                go_wp2
                clear y5 y6 f2 f6 HX2 HPV hDlt hbgS hbglt hbs hb1 hbg1 ho1 hsp HV0 HSS
                generalize (wr.setCell ⟨g, top, none⟩ (.slice (some ⟨p, 0, none⟩) c c1)) = w4 at *
                generalize pivF D k top p = D4 at *
                generalize pivF C_ k top c1 = C4 at *
                generalize pivL P k top (rowF (fun s => en P k s * ov % 9973) c) = P4 at *
                generalize swapL P top k = Q at *
                go_loopw [16] (fun v wt => ∃ (i : Nat) (P9 : List (List Int)), i ≤ n ∧ v = .int .i64 i ∧ OwMD wt w.heap.size 22 3 g D4 C4 n cz P9 ∧ OwI wt w.heap.size 3 ab top cb ps ∧ Hid (IsR n c P9 (clearP Q top q ov i 0)) ∧ Below w.heap.size w wt) (fun v _ => n - (intOf v).toNat)
                case atStart => exact ⟨0, P4, Nat.zero_le _, rfl, hP4, hbg2, hi0, hb2⟩
                case round =>
                  clear hP4 hbg2 hi0 hb2
                  obtain ⟨i, P9, hin, rfl, hd, hbg, hi, hb⟩ := hrel
                  by_cases hlt : i < n
                  · have x1 := hd.cellO hlt
                    rw [hi.out.1.2 i hlt] at x1
                    have x2 := hd.cellI hlt (j := q) (by rw [hi.out.1.2 i hlt]; exact hqc2)
                    have b3 : (i : Int) < (n : Int) := by omega
                    have nx : ∀ {P : List (List Int)}, IsR n c P (clearP Q top q ov i c) → IsR n c P (clearP Q top q ov (i + 1) 0) := fun h => h.congr fun a b _ h4 => by
                      unfold clearP
                      by_cases e : a < i ∨ (a = i ∧ b < c)
                      · rw [if_pos e, if_pos (by omega)]
                      · rw [if_neg e, if_neg (by omega)]
                    by_cases hit : i = top
                    · have z3 : ((i : Int) != (top : Int)) = false := bne_eq_false_iff_eq.2 (by omega)
                      have HK := Lib.hid hit
                      clear hit
                      go_wp2
                      go_roundw
                      case rel => exact ⟨i + 1, P9, by omega, by go_num, hd, hbg, nx (hi.out.congr fun a b h3 h4 => by
                        unfold clearP
                        by_cases e : a < i
                        · rw [if_pos (by omega), if_pos (by omega)]
                        · by_cases e2 : a = i
                          · rw [if_neg (by omega), if_pos (by omega)]
                            exact (clearO_same HI.out.ent h3 h4 (.inl (by rw [e2, HK.out]))).symm
                          · rw [if_neg (by omega), if_neg (by omega)]), hb⟩
                      case measure => simp [intOf]; omega
                    · have z3 : ((i : Int) != (top : Int)) = true := bne_iff_ne.2 (by omega)
                      have e1 : en P9 i q = en Q i q := by
                        rw [hi.out.2 i q hlt hqc2]
                        unfold clearP scaleE
                        rw [if_neg (by omega), if_neg hit]
                      rw [e1] at x2
                      have HK := Lib.hid hit
                      clear hit e1
                      have m3 := HI.out.ent i q hlt hqc2
                      obtain ⟨by_, hBy⟩ : ∃ by_, by_ = en Q i q := ⟨_, rfl⟩
                      rw [← hBy] at m3 x2
                      have HBY := Lib.hid hBy
                      clear hBy
                      go_wp2
                      clear x1 x2
                      go_loopw [18] (fun v wt => ∃ (s : Nat) (P9 : List (List Int)), s ≤ c ∧ v = .int .i64 s ∧ OwMD wt w.heap.size 22 3 g D4 C4 n cz P9 ∧ OwI wt w.heap.size 3 ab top cb ps ∧ Hid (IsR n c P9 (clearP Q top q ov i s)) ∧ Below w.heap.size w wt) (fun v _ => c - (intOf v).toNat)
                      case atStart => exact ⟨0, P9, Nat.zero_le _, rfl, hd, hbg, hi, hb⟩
                      case round =>
                        clear hd hbg hi hb
                        obtain ⟨s, P9, hsc, rfl, hd, hbg, hi, hb⟩ := hrel
                        by_cases hsk : s < c
                        · have x1 := hd.cellO hlt
                          rw [hi.out.1.2 i hlt] at x1
                          have x2 := hd.cellI hlt (j := s) (by rw [hi.out.1.2 i hlt]; exact hsk)
                          have x5 := hd.cellI htn (j := s) (by rw [hi.out.1.2 top htn]; exact hsk)
                          have x3 := hd.frozenI hlt (by rw [hi.out.1.2 i hlt]; omega) s
                          rw [hDp] at x5
                          have e1 : en P9 i s = en Q i s := by
                            rw [hi.out.2 i s hlt hsk]
                            unfold clearP scaleE
                            rw [if_neg (by omega), if_neg HK.out]
                          have e2 : en P9 top s = en Q top s * ov % 9973 := by
                            rw [hi.out.2 top s htn hsk]
                            unfold clearP clearO scaleE
                            rw [if_pos rfl, if_pos rfl]
                            split <;> rfl
                          rw [e1] at x2
                          rw [e2] at x5
                          obtain ⟨V, hV⟩ : ∃ V, V = en Q top s * ov % 9973 := ⟨_, rfl⟩
                          rw [← hV] at x5
                          have hv : 0 ≤ V ∧ V ≤ 9972 := by omega
                          have m2 := HI.out.ent i s hlt hsk
                          have p2 := mul_bd m3 hv
                          obtain ⟨Y, hY⟩ : ∃ Y, Y = by_ * V := ⟨_, rfl⟩
                          rw [← hY] at p2
                          have u1 : IntKind.i64.wrap (by_ * V) = Y := by rw [hY]; exact Go.IntWalk.i64_in _ (by omega)
                          have u2 : IntKind.i64.wrap (en Q i s - Y) = en Q i s - Y := Go.IntWalk.i64_in _ (by omega)
                          have b7 : (s : Int) < (c : Int) := by omega
                          have HY := Lib.hid hY
                          have HV := Lib.hid hV
                          have hbgn := (OwI.setSep (p := ⟨D4 i, s, none⟩) hbg (fun b hb => (hsp4 b hb).2 i hlt) (.int .i64 ((en Q i s - Y) % 9973))).drew
                          clear hY hV e1 e2
                          go_wp2
                          go_still_tail 21, (by kernel_rfl)
                          still_call (stillW (R_Mod_any _ _ (by omega) (by omega)))
                          repeat still_step
                          refine wpStill_nil ?_
                          change wpList _ _ _ _ _ wr.drew
                          clear u1 u2
                          go_wp2
                          go_roundw
                          case rel => exact ⟨s + 1, _, by omega, by go_num, (hd.set matTy.ne hlt _).drew, hbgn, ⟨hi.out.1.setE _ _ _, fun a b h3 h4 => by
                            rw [hi.out.1.en_set _ h3 h4]
                            by_cases e : i = a ∧ s = b
                            · rw [if_pos e]
                              unfold clearP clearO
                              rw [if_pos (by omega), ← e.1, ← e.2, if_neg HK.out, HY.out, HV.out, HBY.out]
                            · rw [if_neg e, hi.out.2 a b h3 h4]
                              unfold clearP
                              by_cases e2 : a < i ∨ (a = i ∧ b < s)
                              · rw [if_pos e2, if_pos (by omega)]
                              · rw [if_neg e2, if_neg (by omega)]⟩, (hb.setCell (p := ⟨D4 i, s, none⟩) (hd.lowI hlt).1 _).drew⟩
                          case measure => simp [intOf]; omega
                        · obtain rfl : c = s := by omega
                          go_wp2
                          go_roundw
                          case rel => exact ⟨i + 1, P9, by omega, by go_num, hd, hbg, nx hi.out, hb⟩
                          case measure => simp [intOf]; omega
                  · obtain rfl : n = i := by omega
                    have HC : Hid (GInv n c (mx M) (q + 1) P9 (ps ++ [(q : Int)])) := by
                      refine HI.out.clear (by rw [← HT.out]; exact htn) hqc2 (by rw [← HT.out]; exact HPN.out) (hi.out.congr fun a b h3 _ => ?_)
                      unfold clearP clearO clearE
                      rw [if_pos (.inl h3), ← HT.out, HOQ.out]
                    have hle6 : (ps ++ [(q : Int)]).length = top + 1 := by rw [HT.out]; simp
                    have hbsz := hb.size
                    go_wp2_with (at_builtin; refine wpList_push_int2 HIT.out rfl (.tmp 125) (.tmp 127) rfl rfl rfl (hbg.alloc _) (z := (q : Int)) (by simp) (by decide) (by decide) (by omega) (by simp; omega) ?_; intro a6 cap6 w9 ho6 hg6 hk6)
                    have hd9 := (hd.alloc (.cells #[.int .i64 (q : Int)] 3)).grownElse hg6 (fun r e => hsp4 r e)
                    have hb10 := (hb.alloc hb.size (.cells #[.int .i64 (q : Int)] 3)).grown hg6 (by simp; omega) (fun r e => (hbg.own.lt r e).1)
                    have hsp9 : BSep (.slice a6 (top + 1) cap6) g D4 n := fun b hb => by
                      rcases hk6 b hb with h7 | h7
                      · exact hsp4 b h7.symm
                      · have h8 := hd.lowO.2
                        refine ⟨by simp at h7; omega, fun i hi => ?_⟩
                        have h9 := (hd.lowI hi).2
                        simp at h7; omega
                    go_roundw
                    case rel => exact ⟨q + 1, ps ++ [(q : Int)], a6, cap6, D4, C4, P9, by omega, by go_num, by rw [hle6], by rw [hle6]; exact ho6, hd9, HC, by rw [hle6]; exact hsp9, hb10⟩
                    case measure => simp [intOf]; omega
    · obtain rfl : q = cols := by omega
      go_wp2
      go_ret2
      exact ⟨_, _, _, _, _, _, rfl, hdm.toM.rd, hbg.rd, HG.out, hb⟩
end Go.Proofs.YtefmllkimdaimaaDoor
namespace Go.Proofs.YtefmllkimdaimaaDoor
open Go.RowKit Go.Rk

/-- Rows of the free columns are one list. -/
theorem Nul.same {n c : Nat} {A : Mx} {P L L' : List (List Int)} {ps : List Int} (g : GInv n c A c P ps) (h : Nul c c P ps L) (h' : Nul c c P ps L') : L = L' := by
  have hl : L.length = L'.length := by rw [h.len, h'.len]
  refine en_ext hl (fun k hk => ?_) fun i j hi hj => ?_
  · rw [(h.row k hk).len, (h'.row k (by omega)).len]
  · have r1 := h.row i hi
    have r2 := h'.row i (by omega)
    rw [r1.len] at hj
    show ix (rowOf L i) j = ix (rowOf L' i) j
    by_cases e : j = freeAt ps c i
    · rw [e, r1.one, r2.one]
    · cases hb : hasB (j : Int) ps
      · rw [r1.zer j hj e hb, r2.zer j hj e hb]
      · obtain ⟨k, hk, rfl⟩ := (hasB_pos g.pos).1 hb
        rw [r1.piv k hk, r2.piv k hk]

def colT (Q : List (List Int)) (c n : Nat) : List Int := (List.range n).map fun i => en Q i c
theorem colT_len (Q : List (List Int)) (c n : Nat) : (colT Q c n).length = n := by simp [colT]
theorem colT_ix {Q : List (List Int)} {c n i : Nat} (h : i < n) : ix (colT Q c n) i = en Q i c := by rw [ix_lt (by rw [colT_len]; exact h)]; simp [colT]
def leftL (Q : List (List Int)) (c n : Nat) : List (List Int) := rowsF (fun i j => en Q i j) c n
theorem leftL_is (Q : List (List Int)) (c n : Nat) : IsR n c (leftL Q c n) (fun i j => en Q i j) := rowsF_is _ _ _
theorem GInv.cutR {n c : Nat} {A : Mx} {Q : List (List Int)} {qs : List Int} (g : GInv n (c + 1) A c Q qs) : RInv n c A c (leftL Q c n) (colT Q c n) qs := by
  have e : Q = augL n (leftL Q c n) (colT Q c n) := aug_ext (leftL_is Q c n).1 g.dm (fun i j hi hj => ((leftL_is Q c n).2 i j hi hj).symm) (fun i hi => (colT_ix hi).symm)
  refine ⟨?_, (leftL_is Q c n).1, colT_len _ _ _⟩
  rw [← e]
  exact g

section
variable {n c : Nat} {M P P2 : List (List Int)} {t T T2 ps qs x y : List Int}
theorem solves0 (hd : Dm n c M) (h : RInv n c (mx (augL n M t)) c P T ps) (hx : XRow c T ps x) (hz : ∀ i, ps.length ≤ i → i < n → ix T i = 0) {i : Nat} (hi : i < n) : Eqm (sumTo (fun j => en M i j * ix x j) c) (ix t i) := by
  have st : Stairs n c ps.length (mx P) (natsOf ps) := (h.left hd).st
  have hp := h.inv.pos
  have n2 : ∀ i, i < n → Eqm (sumTo (fun j => en P i j * ix x j) c) (ix T i) := fun i hi => by
    have e1 : ∀ j, j < c → ix x j = sumTo (fun k => (if natsOf ps k = j then 1 else 0) * ix T k) ps.length := fun j hj => by
      cases hb : hasB (j : Int) ps
      · rw [hx.zer j hj hb, sumTo_congr (h := fun _ => 0) fun k hk => by rw [if_neg (fun e => by rw [(hasB_pos hp).2 ⟨k, hk, e⟩] at hb; cases hb), Int.zero_mul]]
        exact (sumTo_zero _).symm
      · obtain ⟨k, hk, rfl⟩ := (hasB_pos hp).1 hb
        rw [hx.piv k hk, sumTo_congr (h := fun m => (if k = m then 1 else 0) * ix T m) fun m hm => ?_]
        · exact (sumTo_pick (fun m => ix T m) hk).symm
        · by_cases e3 : k = m
          · rw [if_pos (by rw [e3]), if_pos e3]
          · rw [if_neg fun e4 => ?_, if_neg e3]
            rcases Nat.lt_trichotomy k m with h1 | h1 | h1
            · have := st.inc k m h1 hm; omega
            · exact e3 h1
            · have := st.inc m k h1 hk; omega
    have e2 : sumTo (fun j => en P i j * ix x j) c = sumTo (fun k => en P i (natsOf ps k) * ix T k) ps.length := by
      rw [sumTo_congr (h := fun j => sumTo (fun k => (if natsOf ps k = j then 1 else 0) * (en P i j * ix T k)) ps.length) fun j hj => by
        rw [e1 j hj, ← sumTo_mul]
        exact sumTo_congr fun k _ => by grind, sumTo_swap]
      exact sumTo_congr fun k hk => sumTo_pick (fun j => en P i j * ix T k) (st.lt k hk)
    rw [e2]
    have e3 : Eqm (sumTo (fun k => en P i (natsOf ps k) * ix T k) ps.length) (sumTo (fun k => (if i = k then 1 else 0) * ix T k) ps.length) := sumTo_eqm fun k hk => Eqm.mul (st.one i k hi hk) (Eqm.refl _)
    refine e3.trans ?_
    rcases Nat.lt_or_ge i ps.length with h1 | h1
    · rw [sumTo_pick (fun k => ix T k) h1]
      exact Eqm.refl _
    · rw [sumTo_congr (h := fun _ => 0) fun k hk => by rw [if_neg (by omega), Int.zero_mul], sumTo_zero, hz i h1 hi]
      exact Eqm.refl _
  have n3 := h.inv.back.null (v := withM (ix x) c) (fun k hk => by
    rw [aug_null h.dP (ix x) hk]
    have := Eqm.sub (n2 k hk) (Eqm.refl (ix T k))
    rwa [Int.sub_self] at this) hi
  rw [aug_null hd (ix x) hi] at n3
  unfold Eqm at n3 ⊢
  omega

/-- What is told of two reductions of one system is one row. -/
theorem solve_same (hd : Dm n c M) (hl : t.length = n) (it : In 0 9972 t) (h : RInv n c (mx (augL n M t)) c P T ps) (hx : XRow c T ps x) (g : RInv n c (mx (augL n M t)) c P2 T2 qs) (hy : XRow c T2 qs y) (hz : ∀ i, qs.length ≤ i → i < n → ix T2 i = 0) :
    toN M x c n = t ∧ x = y := by
  have sy := fun i (hi : i < n) => solves0 hd g hy hz hi
  have tx := told hd h hx hl it (ix y) sy
  refine ⟨tx, ?_⟩
  obtain ⟨eP, eps⟩ := (h.left hd).same (g.left hd) (Made.refl _ _ _) (Made.refl _ _ _)
  have sx : ∀ i, i < n → Eqm (sumTo (fun j => en M i j * ix x j) c) (ix t i) := fun i hi => by
    have := toN_ix (M := M) (l := x) (c := c) hi
    rw [tx] at this
    rw [this]
    exact (Eqm.mod _).symm
  have nv := fun i (hi : i < n) => (h.left hd).made.null (v := fun j => ix x j - ix y j) (fun k hk => by
    rw [sumTo_congr (h := fun j => en M k j * ix x j + (-1) * (en M k j * ix y j)) fun j _ => by show en M k j * (ix x j - ix y j) = _; rw [Int.mul_sub]; omega, sumTo_add, sumTo_mul]
    have e1 := sx k hk
    have e2 := sy k hk
    unfold Eqm at e1 e2 ⊢
    omega) hi
  have bx := hx.range h.eT (by rw [h.lT]; exact (h.left hd).st.le) h.inv.pos
  have by_ := hy.range g.eT (by rw [g.lT]; exact (g.left hd).st.le) g.inv.pos
  refine ix_ext (by rw [hx.len, hy.len]) fun j hj => ?_
  have hjc : j < c := by rw [hx.len] at hj; exact hj
  have e := null_zero (h.left hd).st h.inv.pos nv (fun j hj hb => by
    rw [hx.zer j hj hb, hy.zer j hj (by rw [← eps]; exact hb)]
    exact Eqm.refl _) hjc
  have b1 := bx j hj
  have b2 := by_ j (by rw [hy.len]; exact hjc)
  unfold Eqm at e
  omega

theorem solve_none (hd : Dm n c M) (g : RInv n c (mx (augL n M t)) c P2 T2 qs) {i : Nat} (h1 : qs.length ≤ i) (hi : i < n) (hne : ix T2 i ≠ 0) : toN M x c n ≠ t := by
  intro tx
  have sx : ∀ i, i < n → Eqm (sumTo (fun j => en M i j * ix x j) c) (ix t i) := fun i hi => by
    have := toN_ix (M := M) (l := x) (c := c) hi
    rw [tx] at this
    rw [this]
    exact (Eqm.mod _).symm
  have n1 := g.inv.made.null (v := withM (ix x) c) (fun k hk => by
    rw [aug_null hd (ix x) hk]
    have := Eqm.sub (sx k hk) (Eqm.refl (ix t k))
    rwa [Int.sub_self] at this) hi
  rw [aug_null g.dP (ix x) hi] at n1
  have e4 : Eqm (sumTo (fun j => en P2 i j * ix x j) c) (sumTo (fun _ => 0) c) := sumTo_eqm fun j hj => by
    have := Eqm.mul ((g.left hd).st.low i j h1 hi hj) (Eqm.refl (ix x j))
    rwa [Int.zero_mul] at this
  rw [sumTo_zero] at e4
  have b := g.eT i (by rw [g.lT]; exact hi)
  unfold Eqm at n1 e4
  omega
end
end Go.Proofs.YtefmllkimdaimaaDoor
namespace Go.Proofs.YtefmllkimdaimaaDoor
open Go.RowKit Go.Rk

theorem augL_succ (k : Nat) (M : List (List Int)) (t : List Int) : augL (k + 1) M t = augL k M t ++ [rowOf M k ++ [ix t k]] := by simp [augL, List.range_succ]

set_option maxHeartbeats 4000000 in
set_option maxRecDepth 100000 in
theorem M_Solve_any {a b : Option Addr} {n c ca cb : Nat} {M : List (List Int)} {t : List Int} {w : World} (hM : RdM w a n ca M) (d : Dm n c M) (he : EntR 0 9972 n c M) (n1 : 1 ≤ n ∧ n ≤ 100) (c1 : 1 ≤ c ∧ c ≤ 100) (ht : RdI w b n cb t) (it : In 0 9972 t) :
    Calls Tryd.prog 87 #[.slice a n ca, .slice b n cb] w fun e w' => ∃ Q qs, RInv n c (mx (augL n M t)) c (leftL Q c n) (colT Q c n) qs ∧
      (((∀ i, qs.length ≤ i → i < n → ix (colT Q c n) i = 0) ∧ ∃ x ax cx, e = .returned (.tuple #[.slice ax c cx, .bool true]) ∧ OwI w' w.heap.size 3 ax c cx x ∧ XRow c (colT Q c n) qs x) ∨
       ((∃ i, qs.length ≤ i ∧ i < n ∧ ix (colT Q c n) i ≠ 0) ∧ e = .returned (.tuple #[.slice none 0 0, .bool false]))) ∧ Below w.heap.size w w' := by
  have HM := Lib.hid matTy
  have HD := Lib.hid d
  have HA : Hid (Dm n (c + 1) (augL n M t)) := augL_dm d
  have HE : Hid (EntR 0 9972 n (c + 1) (augL n M t)) := fun i j hi hj => by
    rcases Nat.lt_or_ge j c with h1 | h1
    · rw [augL_l d hi h1]; exact he i j hi h1
    · obtain rfl : j = c := by omega
      rw [augL_r d hi]; exact it i (by rw [ht.len_eq]; exact hi)
  obtain ⟨bm, om, rfl, hbm, hr⟩ := hM.at (k := 0) (by omega)
  obtain ⟨bt, ot, rfl, hbt, hct⟩ := ht.at (k := 0) (by omega)
  have HR : Hid (∀ k, k < n → ∃ ar cr, w.cell? ⟨bm, om + k, none⟩ = some (.slice ar c cr) ∧ RdI w ar c cr (rowOf M k)) := fun k hk => by
    obtain ⟨ar, cr, e1, e2⟩ := hr k hk
    rw [d.2 k hk] at e1 e2
    exact ⟨ar, cr, e1, e2⟩
  have HCT := Lib.hid hct
  have b1 : (0 : Int) < (n : Int) := by omega
  have b2 : (1 : Int) ≤ (n : Int) := by omega
  clear hr hct d he it
  go_enter Tryd.func87, Tryd.ntmps87
  go_wp2
  go_loopw [6, 7] (fun v x wr => ∃ (k : Nat) (q : Option Addr) (cq : Nat), k ≤ n ∧ x = .int .i64 k ∧ v = .slice q k cq ∧ OwM wr w.heap.size 22 3 q k cq (augL k M t) ∧ Below w.heap.size w wr) (fun _ x _ => n - (intOf x).toNat)
  case atStart => exact ⟨0, none, 0, Nat.zero_le _, rfl, rfl, OwM.nil _ _ _ _, Below.refl _ _⟩
  case round =>
    obtain ⟨k, q, cq, hk, rfl, rfl, ho, hb⟩ := hrel
    obtain ⟨wo, rfl⟩ : ∃ x, x = wr := ⟨_, rfl⟩
    have hsz := hb.size
    by_cases hlt : k < n
    · have i1 : (k : Int) < (n : Int) := by omega
      obtain ⟨ar, cr, e1, e2⟩ := HR.out k hlt
      have y1 := hb.keep hbm e1
      have hrd := e2.below hb
      have y2 := hb.keep hbt (HCT.out k hlt)
      have hbt2 : bt < wo.heap.size := by omega
      clear e1 e2
      go_wp2_with (first
        | (at_builtin; refine wpList_append_ints HM.out.int rfl (.tmp 20) (.tmp 24) rfl rfl rfl (OwI.nil wo wo.heap.size _) hrd (by omega) (Nat.le_refl _) ?_; intro a3 cap3 w3 ho3 hg3; have hb3 := below_of_grown hg3; rw [Nat.zero_add, List.nil_append] at ho3; have y3 := hb3.keep hbt2 y2; have hs3 := hb3.size)
        | (at_builtin; refine wpList_push_int HM.out.int rfl (.tmp 27) (.tmp 32) rfl rfl rfl (ho3.alloc _) (z := ix t k) (by simp) (by decide) (by decide) (by omega) (by simp; omega) ?_; intro a4 cap4 w4 ho4 hg4; have hb4 := below_grown (hb3.alloc hs3 (.cells #[.int .i64 (ix t k)] 3)) (ho3.alloc _) (by simp; omega) hg4; have hs4 := hb4.size)
        | (at_builtin; refine wpList_push_row HM.out rfl (.tmp 26) (.tmp 34) rfl rfl rfl ho (hb4.alloc hs4 _) (ho4.alloc _) (by simp) (by omega) hsz ?_; intro a5 cap5 w5 ho5 hb5))
      have hb6 := (hb.trans ((hb4.alloc hs4 _).mono hsz)).trans hb5
      go_roundw
      case rel => exact ⟨k + 1, a5, cap5, by omega, by go_num, rfl, by rw [augL_succ]; exact ho5, hb6⟩
      case measure => simp [intOf]; omega
    · obtain rfl : n = k := by omega
      obtain ⟨ar, cr, e1, _⟩ := HR.out 0 (by omega)
      have y1 := hb.keep hbm e1
      rw [Nat.add_zero] at y1
      have C := Lib.hid (R_Stairs_any (cols := c) ho.rd HA.out HE.out (by omega) (by omega) (by omega) (by omega) (by omega))
      clear ho e1
      go_wp2_with (go_at_call 119; fail)
      (with_reducible refine C.out.mono ?_)
      clear C
      rintro e w2 ⟨ao, co, ap, cp, Q, qs, rfl, hQ, hqs, hi, hb2⟩
      have hb3 := below_tr hb hb2
      have HG := Lib.hid hi
      have HI := Lib.hid (GInv.cutR hi)
      have hql : qs.length ≤ n := hi.st.le
      have hs2 := hb3.size
      clear hi y1 hb2
      go_wp2_with (refine wpList_make_ints HM.out.int rfl (.tmp 46) (.tmp 46) rfl rfl rfl (by omega) ?_; intro w4 ho4 hb4)
      go_loopw [13] (fun v wr => ∃ (i : Nat) (xs : List Int), i ≤ n ∧ v = .int .i64 i ∧ OwI wr w2.heap.size 3 (some ⟨w2.heap.size, 0, none⟩) c c xs ∧ Hid (XPart c (colT Q c n) qs (min i qs.length) xs) ∧ Hid (∀ k, qs.length ≤ k → k < i → ix (colT Q c n) k = 0) ∧ Below w2.heap.size w2 wr) (fun v _ => n - (intOf v).toNat)
      case atStart => exact ⟨0, _, Nat.zero_le _, rfl, ho4, by unfold Hid; rw [Nat.zero_min]; exact XPart.start _ _ _, fun k _ h => absurd h (Nat.not_lt_zero _), hb4⟩
      case round =>
        clear ho4 hb4
        obtain ⟨i, xs, hin, rfl, hx, hX, hZ, hbw⟩ := hrel
        have kw := below_tr hb3 hbw
        by_cases hlt2 : i < n
        · have i2 : (i : Int) < (n : Int) := by omega
          obtain ⟨N, hN⟩ : ∃ N, N = c + 1 := ⟨_, rfl⟩
          have i3 : (c : Int) < (N : Int) := by omega
          obtain ⟨bQ, oQ, rfl, ar, cr, hcr, hrd⟩ := (hQ.below hbw).rowIn HG.out.dm hlt2
          rw [← hN] at hcr
          obtain ⟨br, or_, rfl, _, hce⟩ := hrd.at (k := c) (by omega)
          replace hce := hce c (by omega)
          rw [show ix (rowOf Q i) c = en Q i c from rfl, ← colT_ix (Q := Q) (c := c) hlt2] at hce
          clear hrd hN
          by_cases hiq : i < qs.length
          · have i4 : (i : Int) < (qs.length : Int) := by omega
            have HS := hX.out
            rw [show min i qs.length = i from Nat.min_eq_left (by omega)] at HS
            have HS := Lib.hid (HS.step HG.out.st HG.out.pos hiq)
            obtain ⟨bp, op, rfl, _, hcp⟩ := (hqs.below hbw).at hiq
            replace hcp := hcp i hiq
            have hpi : ix qs i = (natsOf qs i : Int) := by unfold natsOf; have := HG.out.pos i hiq; omega
            have hpc : natsOf qs i < c := HG.out.st.lt i hiq
            rw [hpi] at hcp
            clear hpi
            generalize natsOf qs i = p at hcp hpc HS
            have hpc' : (p : Int) < (c : Int) := by omega
            obtain ⟨V, hV⟩ : ∃ V, V = ix (colT Q c n) i := ⟨_, rfl⟩
            rw [← hV] at hce HS
            obtain ⟨g5, hz, _, _, hcx, hfx⟩ := hx.at (by omega)
            cases hz
            replace hcx := hcx p hpc
            replace hfx := hfx p
            clear hV
            go_wp2
            go_still_tail 13, (by kernel_rfl)
            (try repeat still_step)
            (try refine wpStill_nil ?_)
            change wpList _ _ _ _ _ wr.drew
            go_wp2
            go_roundw
            case rel => exact ⟨i + 1, _, by omega, by go_num, (hx.set _).drew, by unfold Hid; rw [show min (i + 1) qs.length = i + 1 from Nat.min_eq_left (by omega)]; exact HS.out, fun k h1 h2 => absurd h2 (by omega), (hbw.setCell (p := ⟨w2.heap.size, p, none⟩) (Nat.le_refl _) _).drew⟩
            case measure => simp [intOf]; omega
          · have i4 : ¬ (i : Int) < (qs.length : Int) := by omega
            by_cases hv : ix (colT Q c n) i = 0
            · have z1 : (ix (colT Q c n) i != 0) = false := bne_eq_false_iff_eq.2 hv
              have HV := Lib.hid hv
              clear hv
              go_wp2
              go_roundw
              case rel => exact ⟨i + 1, xs, by omega, by go_num, hx, by unfold Hid; rw [show min (i + 1) qs.length = min i qs.length from by omega]; exact hX.out, fun k h1 h2 => by
                rcases Nat.lt_or_ge k i with h3 | h3
                · exact hZ.out k h1 h3
                · obtain rfl : k = i := by omega
                  exact HV.out, hbw⟩
              case measure => simp [intOf]; omega
            · have z1 : (ix (colT Q c n) i != 0) = true := bne_iff_ne.2 hv
              have HV := Lib.hid hv
              clear hv
              go_wp2
              go_ret2
              exact ⟨Q, qs, HI.out, .inr ⟨⟨i, by omega, hlt2, HV.out⟩, rfl⟩, kw⟩
        · obtain rfl : n = i := by omega
          have HX := hX.out
          rw [show min n qs.length = qs.length from Nat.min_eq_right hql] at HX
          have HX := Lib.hid HX
          go_wp2
          go_ret2
          exact ⟨Q, qs, HI.out, .inl ⟨fun k h1 h2 => hZ.out k h1 h2, xs, _, _, rfl, hx.mono hs2, ⟨HX.out.len, HX.out.piv, HX.out.zer⟩⟩, kw⟩
end Go.Proofs.YtefmllkimdaimaaDoor
namespace Go.Proofs.YtefmllkimdaimaaDoor
open Go.RowKit Go.Rk

theorem seqR_nz {l : List Int} {c : Int} (h : seqR l = some c) : c ≠ 0 := by
  unfold seqR at h
  (repeat' split at h) <;> first | (injection h with h; subst h; decide) | cases h

section
variable {a b : Option Addr} {n m ca cb : Nat} {l f : List Int} {w : World}
theorem M_Seq_any (h : RdI w a n ca l) :
    Calls Tryd.prog 41 #[.slice a n ca] w fun e w' => e = .returned (numV (seqR l)) ∧ w = w' := by
  have hm := h.len_max
  have e1 := h.len_eq
  have C := R_All_any 0 9972 h
  rw [allB_any] at C
  by_cases h16 : 16 < n
  · have hs : seqR l = some 4 := by unfold seqR; rw [if_pos (by omega)]
    rw [hs]
    have i1 : (16 : Int) < (n : Int) := by omega
    clear e1 h16 hs
    go_enter Tryd.func41, Tryd.ntmps41
    go_wp2
    go_ret
    exact ⟨rfl, rfl⟩
  · have i1 : ¬ (16 : Int) < (n : Int) := by omega
    rcases hy : anyB 0 9972 l
    · have hs : seqR l = none := by unfold seqR; rw [if_neg (by omega), hy]; rfl
      rw [hs]
      rw [hy] at C
      have C := Lib.hid C
      clear e1 h16 hs hy
      go_enter Tryd.func41, Tryd.ntmps41
      go_wp2_with (go_at_call 19; (with_reducible refine C.out.mono ?_); rintro e w2 ⟨rfl, rfl⟩)
      go_ret
      exact ⟨rfl, rfl⟩
    · have hs : seqR l = some 1 := by unfold seqR; rw [if_neg (by omega), hy]; rfl
      rw [hs]
      rw [hy] at C
      have C := Lib.hid C
      clear e1 h16 hs hy
      go_enter Tryd.func41, Tryd.ntmps41
      go_wp2_with (go_at_call 19; (with_reducible refine C.out.mono ?_); rintro e w2 ⟨rfl, rfl⟩)
      go_ret
      exact ⟨rfl, rfl⟩

set_option maxHeartbeats 4000000 in
set_option maxRecDepth 100000 in
theorem M_Goes_any (h : RdI w a n ca l) (hf : RdI w b m cb f) (hi : In 0 9972 l) (hfi : In 0 9972 f) (hn : n ≤ 16) (hm16 : m ≤ 16) :
    Calls Tryd.prog 47 #[.slice a n ca, .slice b m cb] w fun e w' => e = .returned (.bool (goB l f)) ∧ Below w.heap.size w w' := by
  have HL := Lib.hid h.len_eq
  have HF := Lib.hid hf.len_eq
  have HI := Lib.hid hi
  have HFI := Lib.hid hfi
  have HG := Lib.hid (goB_sums (l := l) (f := f) hi)
  clear hi hfi
  go_enter Tryd.func47, Tryd.ntmps47
  go_wp2
  go_loopw [5] (fun x wr => ∃ i q : Nat, m ≤ i ∧ (i ≤ n ∨ i = m) ∧ x = .int .i64 i ∧ Hid (∀ t, m ≤ t → t < i → goS l f t m % 9973 = ix l t) ∧ Hid (wr = w.drewN q)) (fun x _ => n - (intOf x).toNat)
  case atStart => exact ⟨m, 0, Nat.le_refl _, .inr rfl, rfl, fun t h1 h2 => absurd h2 (by omega), (World.drewN_zero _).symm⟩
  case round =>
    obtain ⟨i, q, hmi, hin, rfl, HT, HQ⟩ := hrel
    by_cases hlt : i < n
    · have i1 : (i : Int) < (n : Int) := by omega
      go_wp2
      go_loopw [6, 7] (fun v x wt => ∃ k q : Nat, k ≤ m ∧ x = .int .i64 k ∧ v = .int .i64 (goS l f i k) ∧ Hid (wt = w.drewN q)) (fun _ x _ => m - (intOf x).toNat)
      case atStart => exact ⟨0, q, Nat.zero_le _, rfl, rfl, HQ⟩
      case round =>
        clear HQ
        obtain ⟨k, q, hk, rfl, rfl, HQ⟩ := hrel
        have kb : Below w.heap.size w wr := by rw [HQ.out]; exact below_drewN (Below.refl _ _) q
        have bS := goS_bd HI.out HFI.out (i := i) (by rw [HL.out]; omega) k (by rw [HF.out]; omega) (by omega)
        obtain ⟨S, hS⟩ : ∃ S, S = goS l f i k := ⟨_, rfl⟩
        rw [← hS] at bS ⊢
        by_cases hkm : k < m
        · have i2 : (k : Int) < (m : Int) := by omega
          obtain ⟨bf, of_, rfl, _, hfc⟩ := (hf.below kb).at hkm
          have y1 := hfc k hkm
          obtain ⟨bl, ol, rfl, _, hlc⟩ := (h.below kb).at (k := i - 1 - k) (by omega)
          have y2 := hlc (i - 1 - k) (by omega)
          have m1 := HFI.out k (by rw [HF.out]; exact hkm)
          have m2 := HI.out (i - 1 - k) (by rw [HL.out]; omega)
          have HN : Hid (S + ix f k * ix l (i - 1 - k) = goS l f i (k + 1)) := by unfold Hid; rw [hS]; rfl
          obtain ⟨x, hx⟩ : ∃ x, x = ix f k := ⟨_, rfl⟩
          obtain ⟨y, hy⟩ : ∃ y, y = ix l (i - 1 - k) := ⟨_, rfl⟩
          rw [← hx] at y1 m1 HN
          rw [← hy] at y2 m2 HN
          have p1 := mul_bd m1 m2
          have t1 : ((i : Int) - 1 - (k : Int)).toNat = i - 1 - k := by omega
          have i3 : (0 : Int) ≤ (i : Int) - 1 - (k : Int) := by omega
          have i4 : (i : Int) - 1 - (k : Int) < (n : Int) := by omega
          have u1 : IntKind.i64.wrap ((i : Int) - 1) = (i : Int) - 1 := Go.IntWalk.i64_in _ (by omega)
          have u2 : IntKind.i64.wrap ((i : Int) - 1 - (k : Int)) = (i : Int) - 1 - k := Go.IntWalk.i64_in _ (by omega)
          have u3 : IntKind.i64.wrap (x * y) = x * y := Go.IntWalk.i64_in _ (by omega)
          have u4 : IntKind.i64.wrap (S + x * y) = S + x * y := Go.IntWalk.i64_in _ (by omega)
          clear hx hy hfc hlc hS
          go_wp2
          go_quiet (fail)
          clear u1 u2 u3 u4
          go_wp2
          go_roundw
          case rel => exact ⟨k + 1, q + nq, by omega, by go_num, by rw [HN.out], by unfold Hid; rw [HQ.out, World.drewN_drewN]⟩
          case measure => simp [intOf]; omega
        · obtain rfl : m = k := by omega
          obtain ⟨bl, ol, rfl, _, hlc⟩ := (h.below kb).at hlt
          have y2 := hlc i hlt
          have HS := Lib.hid hS
          clear hlc hS
          by_cases he : S % 9973 = ix l i
          · have z1 : (S % 9973 != ix l i) = false := bne_eq_false_iff_eq.2 he
            have HE := Lib.hid he
            clear he
            go_wp2
            go_quiet ((go_at_call 66; exact quietW (R_Mod_any _ _ (by omega) (by omega))))
            go_wp2
            go_roundw
            case rel => exact ⟨i + 1, q + nq, by omega, by omega, by go_num, fun t h1 h2 => by
              rcases Nat.lt_or_ge t i with h3 | h3
              · exact HT.out t h1 h3
              · obtain rfl : t = i := by omega
                rw [← HS.out]; exact HE.out, by unfold Hid; rw [HQ.out, World.drewN_drewN]⟩
            case measure => simp [intOf]; omega
          · have z1 : (S % 9973 != ix l i) = true := bne_iff_ne.2 he
            have HE := Lib.hid he
            clear he
            go_wp2
            go_quiet ((go_at_call 66; exact quietW (R_Mod_any _ _ (by omega) (by omega))))
            go_wp2
            go_ret
            refine ⟨congrArg (fun b => Ending.returned (.bool b)) ?_, by rw [HQ.out, World.drewN_drewN]; exact below_drewN (Below.refl _ _) _⟩
            rcases hg : goB l f with _ | _
            · rfl
            · have := HG.out.1 hg i (by rw [HF.out]; exact hmi) (by rw [HL.out]; exact hlt)
              rw [HF.out, ← HS.out] at this
              exact absurd this HE.out
    · have i1 : ¬ (i : Int) < (n : Int) := by omega
      go_wp2
      go_ret
      refine ⟨congrArg (fun b => Ending.returned (.bool b)) ?_, by rw [HQ.out]; exact below_drewN (Below.refl _ _) q⟩
      exact (HG.out.2 fun t h1 h2 => by
        rw [HF.out] at h1 ⊢
        rw [HL.out] at h2
        exact HT.out t h1 (by omega)).symm

/-- The fewest factors of a row. -/
structure FewP (l W : List Int) (N : Nat) : Prop where
  gen : GenF (ix l) (ix W) W.length N
  low : ∀ m h, m < W.length → ¬ GenF (ix l) h m N
  rng : In 0 9972 W
  le : W.length ≤ N

set_option maxHeartbeats 4000000 in
set_option maxRecDepth 100000 in
theorem M_Fewest_any (h : RdI w a n ca l) (hi : In 0 9972 l) (hn : n ≤ 16) :
    Calls Tryd.prog 43 #[.slice a n ca] w fun e w' => ∃ W aW cW, e = .returned (.slice aW W.length cW) ∧ RdI w' aW W.length cW W ∧ FewP l W n ∧ Below w.heap.size w w' := by
  have HL := Lib.hid h.len_eq
  have HI := Lib.hid hi
  have HM := Lib.hid matTy
  clear hi
  go_enter Tryd.func43, Tryd.ntmps43
  go_wp2
  go_loopw [3] (fun x wr => ∃ k : Nat, k ≤ n ∧ x = .int .i64 k ∧ Hid (∀ m h, m < k → ¬ GenF (ix l) h m n) ∧ Below w.heap.size w wr) (fun x _ => n - (intOf x).toNat)
  case atStart => exact ⟨0, Nat.zero_le _, rfl, fun m h hm => absurd hm (Nat.not_lt_zero _), Below.refl _ _⟩
  case round =>
    obtain ⟨k, hk, rfl, HLow, hb⟩ := hrel
    obtain ⟨wo, rfl⟩ : ∃ x, x = wr := ⟨_, rfl⟩
    have hw := h.below hb
    by_cases hkn : k < n
    · have i1 : (k : Int) < (n : Int) := by omega
      by_cases hk0 : 0 < k
      · have z1 : ((k : Int) == 0) = false := beq_eq_false_iff_ne.2 (by omega)
        obtain ⟨bl, ol, rfl, hbl, hlc⟩ := hw.at (k := 0) (by omega)
        have HLC := Lib.hid hlc
        clear hlc
        go_wp2
        go_loopw [4, 5, 6] (fun vm vt x wr => ∃ (r i : Nat) (am : Option Addr) (cm : Nat) (at_ : Option Addr) (ct : Nat), Hid (i = k + r) ∧ i ≤ n ∧ k ≤ i ∧ r ≤ 16 ∧ x = .int .i64 i ∧ vm = .slice am r cm ∧ vt = .slice at_ r ct ∧ OwP wr wo.heap.size 22 3 am r cm (rowsF (hankF l k) k r) at_ r ct (rowF (fun r => ix l (k + r)) r) ∧ Below wo.heap.size wo wr) (fun _ _ x _ => n - (intOf x).toNat)
        case atStart => exact ⟨0, k, none, 0, none, 0, rfl, by omega, Nat.le_refl _, by omega, rfl, rfl, rfl, OwP.nil _ _ _ _, Below.refl _ _⟩
        case round =>
          obtain ⟨r, i, am, cm, at_, ct, HR, hin, hki, hr16, rfl, rfl, rfl, ho, hbr⟩ := hrel
          obtain ⟨wp, rfl⟩ : ∃ x, x = wr := ⟨_, rfl⟩
          have hsp := hbr.size
          by_cases hlt : i < n
          · have i2 : (i : Int) < (n : Int) := by omega
            go_wp2
            go_loopw [7, 8] (fun v x wt => ∃ (c : Nat) (p : Option Addr) (cp : Nat), c ≤ k ∧ x = .int .i64 c ∧ v = .slice p c cp ∧ OwI wt wp.heap.size 3 p c cp (rowF (hankF l k r) c) ∧ Below wp.heap.size wp wt) (fun _ x _ => k - (intOf x).toNat)
            case atStart => exact ⟨0, none, 0, Nat.zero_le _, rfl, rfl, OwI.nil _ _ _, Below.refl _ _⟩
            case round =>
              obtain ⟨c, p, cp, hc, rfl, rfl, hp, hbt⟩ := hrel
              have kt := hbr.trans (hbt.mono hsp)
              by_cases hck : c < k
              · have i3 : (c : Int) < (k : Int) := by omega
                have y1 := kt.keep hbl (HLC.out (i - 1 - c) (by omega))
                have t1 : ((i : Int) - 1 - (c : Int)).toNat = i - 1 - c := by omega
                have i4 : (0 : Int) ≤ (i : Int) - 1 - (c : Int) := by omega
                have i5 : (i : Int) - 1 - (c : Int) < (n : Int) := by omega
                have hs1 := hbt.size
                go_wp2_with (first | (at_builtin; refine wpList_push_int HM.out.int rfl (.tmp 33) (.tmp 41) rfl rfl rfl (hp.alloc _) (z := ix l (i - 1 - c)) (by simp) (by decide) (by decide) (by omega) (by simp; omega) ?_; intro a4 c4 w4 ho4 hg4))
                have hb4 := below_grown (hbt.alloc hs1 (.cells #[.int .i64 (ix l (i - 1 - c))] 3)) (hp.alloc _) (by simp; omega) hg4
                go_roundw
                case rel => exact ⟨c + 1, a4, c4, by omega, by go_num, rfl, by rw [rowF_succ, show hankF l k r c = ix l (i - 1 - c) from by unfold hankF; rw [HR.out]]; exact ho4, hb4⟩
                case measure => simp [intOf]; omega
              · obtain rfl : k = c := by omega
                have y1 := kt.keep hbl (HLC.out i hlt)
                have hs1 := hbt.size
                have hblw : bl < wr.heap.size := by have := kt.size; omega
                go_wp2_with (first
                  | (at_builtin; refine wpList_push_rowP HM.out rfl (.tmp 43) (.tmp 45) rfl rfl rfl ho (hbt.alloc hs1 _) (hp.alloc _) (by simp) (by omega) hsp ?_; intro a5 c5 w5 ho5 hb5; have k5 := (kt.alloc kt.size (.cells #[.slice p k cp] 22)).trans hb5; have y2 := k5.keep hbl (HLC.out i hlt); have hs5 := k5.size)
                  | (at_builtin; refine wpList_push_intP HM.out rfl (.tmp 47) (.tmp 52) rfl rfl rfl (ho5.alloc _) (z := ix l i) (by simp) (by decide) (by decide) (by omega) (by simp; omega) ?_; intro a6 c6 w6 ho6 hb6))
                have k6 := (k5.alloc hs5 (.cells #[.int .i64 (ix l i)] 3)).trans hb6
                go_roundw
                case rel => exact ⟨r + 1, i + 1, a5, c5, a6, c6, by unfold Hid; rw [HR.out]; omega, by omega, by omega, by have := HR.out; omega, by go_num, rfl, rfl, by
                  rw [rowsF_succ, rowF_succ, ← HR.out]; exact ho6, k6⟩
                case measure => simp [intOf]; omega
          · obtain rfl : n = i := by omega
            have hr1 : 1 ≤ r := by have := HR.out; omega
            have k2 := below_tr hb hbr
            have hD := (rowsF_is (hankF l k) k r)
            have hE : EntR 0 9972 r k (rowsF (hankF l k) k r) := fun x y hx hy => by
              rw [hD.2 x y hx hy]
              exact HI.out _ (by rw [HL.out]; have := HR.out; omega)
            have hTi : In 0 9972 (rowF (fun r => ix l (k + r)) r) := fun x hx => by
              rw [rowF_len] at hx
              rw [rowF_ix hx]
              exact HI.out _ (by rw [HL.out]; have := HR.out; omega)
            have C := Lib.hid (M_Solve_any ho.mat.rd hD.1 hE (by omega) (by omega) ho.row.rd hTi)
            have HD := Lib.hid hD.1
            have HTI := Lib.hid hTi
            have HSV : Hid (∀ x : List Int, (∀ q, q < r → Eqm (sumTo (fun j => en (rowsF (hankF l k) k r) q j * ix x j) k) (ix (rowF (fun r => ix l (k + r)) r) q)) ↔ GenF (ix l) (ix x) k n) := fun x => by
              have hN : r = n - k := by have := HR.out; omega
              rw [← hank_solves (l := l) (x := x) (k := k) (N := n) (by omega)]
              constructor
              · intro hh q hq
                have := hh q (by omega)
                rw [rowF_ix (by omega)] at this
                rwa [sumTo_congr (h := fun j => hankF l k q j * ix x j) fun j hj => by rw [hD.2 q j (by omega) hj]] at this
              · intro hh q hq
                rw [rowF_ix hq, sumTo_congr (h := fun j => hankF l k q j * ix x j) fun j hj => by rw [hD.2 q j hq hj]]
                exact hh q (by omega)
            clear ho hD hE hTi hbr
            go_wp2_with (go_at_call 87; fail)
            (with_reducible refine C.out.mono ?_)
            clear C
            rintro e w4 ⟨Q, qs, hR, hor, b4⟩
            have k4 := below_tr k2 b4
            have HRR := Lib.hid hR
            clear hR k2
            rcases hor with ⟨hz, x, ax, cx, rfl, hx, xr⟩ | ⟨⟨i0, hq1, hq2, hq3⟩, rfl⟩
            · have hg := (HSV.out x).1 fun q hq => solves0 HD.out HRR.out xr hz hq
              have hxi := xr.range HRR.out.eT (by rw [HRR.out.lT]; exact (HRR.out.left HD.out).st.le) HRR.out.inv.pos
              have hxl := xr.len
              have hF : Hid (FewP l x n) := ⟨by rw [hxl]; exact hg, by rw [hxl]; exact HLow.out, hxi, by rw [hxl]; omega⟩
              have hx4 := hx.rd
              have HXL := Lib.hid hxl
              clear hz xr hg hxi hxl hx b4
              go_wp2
              go_ret
              refine ⟨x, ax, cx, ?_, ?_, hF.out, k4⟩
              · rw [HXL.out]; rfl
              · rw [HXL.out]; exact hx4
            · have hno : Hid (∀ hh, ¬ GenF (ix l) hh k n) := fun hh hg => by
                have hg2 : GenF (ix l) (ix (rowF (fun t => hh t) k)) k n := hg.congr (fun _ _ => Eqm.refl _) fun t ht => by rw [rowF_ix ht]; exact Eqm.refl _
                have hs := (HSV.out _).2 hg2
                refine solve_none (x := rowF (fun t => hh t) k) HD.out HRR.out hq1 hq2 hq3 (ix_ext (by rw [toN_len, rowF_len]) fun q hq => ?_)
                rw [toN_len] at hq
                rw [toN_ix hq]
                have e := hs q hq
                have b := HTI.out q (by rw [rowF_len]; exact hq)
                unfold toV
                unfold Eqm at e
                omega
              clear hq1 hq2 hq3 b4
              go_wp2
              go_roundw
              case rel => exact ⟨k + 1, by omega, by go_num, fun m hh hm => by
                rcases Nat.lt_or_ge m k with h5 | h5
                · exact HLow.out m hh h5
                · obtain rfl : m = k := by omega
                  exact hno.out hh, k4⟩
              case measure => simp [intOf]; omega
      · have z1 : ((k : Int) == 0) = true := beq_iff_eq.2 (by omega)
        have HZ : Hid (k = 0) := by unfold Hid; omega
        have C := M_Goes_any hw (RdI.nil wo) HI.out (fun _ h => absurd h (Nat.not_lt_zero _)) hn (by omega)
        clear hk0
        rcases hg : goB l [] with _ | _
        · rw [hg] at C
          have C := Lib.hid C
          have hno : Hid (∀ hh, ¬ GenF (ix l) hh 0 n) := fun hh h2 => by
            have := goB_iff.2 (show GenF (ix l) (ix []) 0 l.length from by rw [HL.out]; exact h2.congr (fun _ _ => Eqm.refl _) fun t ht => absurd ht (Nat.not_lt_zero _))
            rw [hg] at this
            cases this
          clear hg
          go_wp2_with (go_at_call 47; (with_reducible refine C.out.mono ?_); rintro e w4 ⟨rfl, b4⟩)
          have k4 := below_tr hb b4
          go_roundw
          case rel => exact ⟨k + 1, by omega, by go_num, fun m hh hm => by
            obtain rfl : m = 0 := by have := HZ.out; omega
            exact hno.out hh, k4⟩
          case measure => simp [intOf]; omega
        · rw [hg] at C
          have C := Lib.hid C
          have hF : Hid (FewP l [] n) := ⟨by have := goB_iff.1 hg; rw [HL.out] at this; exact this, fun m _ hm => absurd hm (Nat.not_lt_zero _), fun _ h => absurd h (Nat.not_lt_zero _), Nat.zero_le _⟩
          clear hg
          go_wp2_with (go_at_call 47; (with_reducible refine C.out.mono ?_); rintro e w4 ⟨rfl, b4⟩)
          have k4 := below_tr hb b4
          go_ret
          exact ⟨[], none, 0, rfl, RdI.nil _, hF.out, k4⟩
    · obtain rfl : n = k := by omega
      have i1 : ¬ (n : Int) < (n : Int) := by omega
      have hF : Hid (FewP l (List.replicate n 0) n) := ⟨by rw [List.length_replicate]; exact fun t h1 h2 => absurd h1 (by omega), by rw [List.length_replicate]; exact HLow.out, fun j hj => by
        rw [ix_lt hj]; simp, by simp⟩
      go_wp2_with (refine wpList_make_ints HM.out.int rfl (.tmp 63) (.tmp 63) rfl rfl rfl (by omega) ?_; intro w4 ho4 hb4)
      go_ret
      refine ⟨List.replicate n 0, some ⟨wo.heap.size, 0, none⟩, n, by rw [List.length_replicate]; rfl, by rw [List.length_replicate]; exact ho4.rd, hF.out, below_tr hb hb4⟩
end
end Go.Proofs.YtefmllkimdaimaaDoor
namespace Go.Proofs.YtefmllkimdaimaaDoor
open Go.RowKit Go.Rk

theorem Rows_eq {a a2 : Option Addr} {len len2 cap cap2 : Nat} {M N : List (List Int)} {w : World} (h : RdM w a len cap M) (h2 : RdM w a2 len2 cap2 N) (e : M = N) :
    Calls Tryd.prog 24 #[.slice a len cap, .slice a2 len2 cap2] w fun e w' => e = .returned (.bool true) ∧ Below w.heap.size w w' := by
  refine (Rows_any h h2).mono ?_
  rintro _ _ ⟨rfl, hb⟩
  exact ⟨by rw [decide_eq_true e], hb⟩
theorem Rows_none (w : World) : Calls Tryd.prog 24 #[.slice none 0 0, .slice none 0 0] w fun e w' => e = .returned (.bool true) ∧ Below w.heap.size w w' := Rows_eq (RdM.nil w) (RdM.nil w) rfl
theorem Ints_eq {a a2 : Option Addr} {len len2 cap cap2 : Nat} {l m : List Int} {w : World} (h : RdI w a len cap l) (h2 : RdI w a2 len2 cap2 m) (e : l = m) :
    Calls Tryd.prog 22 #[.slice a len cap, .slice a2 len2 cap2] w fun e w' => e = .returned (.bool true) ∧ Below w.heap.size w w' := by
  refine (Ints_any h h2).mono ?_
  rintro _ _ ⟨rfl, hb⟩
  exact ⟨by rw [decide_eq_true e], hb⟩
theorem Ints_none (w : World) : Calls Tryd.prog 22 #[.slice none 0 0, .slice none 0 0] w fun e w' => e = .returned (.bool true) ∧ Below w.heap.size w w' := Ints_eq (RdI.nil w) (RdI.nil w) rfl
end Go.Proofs.YtefmllkimdaimaaDoor
namespace Go.Proofs.YtefmllkimdaimaaDoor
open Go.RowKit Go.Rk

theorem FewP.len {l W F : List Int} {N L : Nat} (h : FewP l W N) (hB : BM (ix l) N (ix F) L) : L = W.length := by
  have h1 := hB.low W.length (ix W) h.gen
  rcases Nat.lt_or_ge L W.length with h2 | h2
  · exact absurd hB.gen (h.low L (ix F) h2)
  · omega
theorem FewP.one {l W F : List Int} {N L : Nat} (h : FewP l W N) (hB : BM (ix l) N (ix F) L) (hl : F.length = L) (hi : In 0 9972 F) (h2 : 2 * L ≤ N) : F = W := by
  have e := h.len hB
  refine ix_ext (by omega) fun k hk => ?_
  have e1 := few_unique hB.gen (show GenF (ix l) (ix W) L N by rw [e]; exact h.gen) hB.low h2 k (by omega)
  have b1 := hi k hk
  have b2 := h.rng k (by omega)
  unfold Eqm at e1
  omega

section
variable {a b : Option Addr} {n m ca cb : Nat} {l f : List Int} {w : World}
set_option maxHeartbeats 4000000 in
set_option maxRecDepth 100000 in
theorem masseySays_bad {c : Int} (hg : ErrT w) (h : RdI w a n ca l) (hf : RdI w b m cb f) (hc : seqR l = some c) :
    Calls Tryd.prog 7 #[.slice a n ca, .slice b m cb] w fun e w' => e = .returned (.bool true) ∧ Below w.heap.size w w' := by
  have C0 := M_Seq_any h
  rw [hc] at C0
  have C0 := Lib.hid C0
  have z1 : (c == 0) = false := beq_eq_false_iff_ne.2 (seqR_nz hc)
  have HC := Lib.hid hc
  have HFE : Hid (firstE (seqR l) (seqR f) = some c) := by unfold Hid; rw [hc]; rfl
  clear hc
  go_enter Tryd.func7, Tryd.ntmps7
  go_wp2_with (first
    | (go_at_call 41; (with_reducible refine C0.out.mono ?_); rintro e w1 ⟨rfl, rfl⟩; simp only [numV, Option.getD_some])
    | (go_at_call 42; refine (massey_Check_is h HC.out).mono ?_; rintro e w2 ⟨rfl, rfl⟩; simp only [errV])
    | (go_at_call 14; fail))
  refine (E_same hg).mono ?_
  rintro e w3 ⟨rfl, k3⟩
  go_wp2_with (first
    | (go_at_call 44; refine (Fewest_err (h.below k3) HC.out).mono ?_; rintro e w4 ⟨rfl, rfl⟩)
    | (go_at_call 14; fail))
  refine (E_same (hg.below k3)).mono ?_
  rintro e w5 ⟨rfl, b5⟩
  have k5 := below_tr k3 b5
  clear b5 k3
  go_wp2_with (first
    | (go_at_call 45; refine (Factors_err (h.below k5) HC.out).mono ?_; rintro e w6 ⟨rfl, rfl⟩)
    | (go_at_call 14; fail))
  refine (E_same (hg.below k5)).mono ?_
  rintro e w7 ⟨rfl, b7⟩
  have k7 := below_tr k5 b7
  clear b7 k5
  go_wp2_with (first
    | (go_at_call 22; refine (Ints_none _).mono ?_; rintro e w8 ⟨rfl, b8⟩; have k8 := below_tr k7 b8)
    | (go_at_call 46; refine (Goes_err (h.below k8) (hf.below k8) HFE.out).mono ?_; rintro e w9 ⟨rfl, b9⟩; have k9 := below_tr k8 b9)
    | (go_at_call 14; fail))
  refine (E_same (hg.below k9)).mono ?_
  rintro e w10 ⟨rfl, b10⟩
  have k10 := below_tr k9 b10
  go_wp2
  go_ret
  exact ⟨rfl, k10⟩

set_option maxHeartbeats 4000000 in
set_option maxRecDepth 100000 in
theorem masseySays_good (hg : ErrT w) (h : RdI w a n ca l) (hf : RdI w b m cb f) (hc : seqR l = none) :
    Calls Tryd.prog 7 #[.slice a n ca, .slice b m cb] w fun e w' => e = .returned (.bool true) ∧ Below w.heap.size w w' := by
  have C0 := M_Seq_any h
  rw [hc] at C0
  have C0 := Lib.hid C0
  have HC := Lib.hid hc
  obtain ⟨g1, g2⟩ := seqR_none hc
  rw [h.len_eq] at g1
  have HI := Lib.hid g2
  clear hc g2
  go_enter Tryd.func7, Tryd.ntmps7
  go_wp2_with (first
    | (go_at_call 41; (with_reducible refine C0.out.mono ?_); rintro e w1 ⟨rfl, rfl⟩; simp only [numV, Option.getD_none])
    | (go_at_call 42; refine (massey_Check_is h HC.out).mono ?_; rintro e w2 ⟨rfl, rfl⟩; simp only [errV])
    | (go_at_call 14; fail))
  refine (E_nil0 hg).mono ?_
  rintro e w3 ⟨rfl, k3⟩
  clear C0
  go_wp2_with (go_at_call 43; fail)
  refine (M_Fewest_any (h.below k3) HI.out g1).mono ?_
  rintro e w4 ⟨W, aW, cW, rfl, hW, hF, b4⟩
  have k4 := below_tr k3 b4
  clear b4 k3
  have HF := Lib.hid hF
  have hWn := hF.le
  clear hF
  go_wp2_with (go_at_call 44; fail)
  refine (Fewest_ok (h.below k4) HC.out).mono ?_
  rintro e w5 ⟨L, F, rfl, hB, _, _, b5⟩
  have k5 := below_tr k4 b5
  obtain rfl : L = W.length := HF.out.len hB
  obtain ⟨L, hL⟩ : ∃ L, L = W.length := ⟨_, rfl⟩
  rw [← hL]
  rw [← hL] at hW hWn
  have HL := Lib.hid hL
  have hW5 := hW.below b5
  clear hL hW b5 k4 hB
  go_wp2_with (go_at_call 14; fail)
  refine (E_nil0 (hg.below k5)).mono ?_
  rintro e w6 ⟨rfl, b6⟩
  have k6 := below_tr k5 b6
  have hW6 := hW5.below b6
  clear b6 k5 hW5
  have z1 : ((L : Int) == (L : Int)) = true := beq_iff_eq.2 rfl
  have u1 : IntKind.i64.wrap (2 * (L : Int)) = 2 * (L : Int) := Go.IntWalk.i64_in _ (by omega)
  have C1 := Lib.hid (fun (w' : World) (k : Below w.heap.size w w') => M_Seq_any (hf.below k))
  by_cases h2 : n < 2 * L
  · have i1 : (n : Int) < 2 * (L : Int) := by omega
    have H2 := Lib.hid h2
    clear h2
    go_wp2_with (go_at_call 45; fail)
    refine (Factors_ok (h.below k6) HC.out).mono ?_
    rintro e w7 ⟨L2, F2, hB, hl2, hi2, b7, hor⟩
    obtain rfl : L2 = L := (HF.out.len hB).trans HL.out.symm
    have k7 := below_tr k6 b7
    have hW7 := hW6.below b7
    clear b7 k6 hW6
    rcases hor with ⟨hh, _⟩ | ⟨_, rfl⟩
    · exact absurd hh (Nat.not_le.2 H2.out)
    have CI := Lib.hid (fun (w' : World) (_ : Below w7.heap.size w7 w') => Ints_none w')
    clear hB hl2 hi2
    go_wp2_with (go_at_call 14; fail)
    refine (E_same (hg.below k7)).mono ?_
    rintro e w8 ⟨rfl, b8⟩
    have k8 := below_tr k7 b8
    go_wp2_with (first | (go_at_call 22; (with_reducible refine (CI.out _ b8).mono ?_); rintro e w9 ⟨rfl, b9⟩; have k9 := below_tr k8 b9) | (go_at_call 41; fail))
    clear CI b8 b9 k8 k7 hW7
    rcases hs : seqR f with _ | c2
    · rw [hs] at C1
      have CG := Lib.hid (fun (w' : World) (k : Below w.heap.size w w') => Goes_ok (h.below k) (hf.below k) HC.out hs)
      obtain ⟨g3, g4⟩ := seqR_none hs
      rw [hf.len_eq] at g3
      have CM := Lib.hid (fun (w' : World) (k : Below w.heap.size w w') => M_Goes_any (h.below k) (hf.below k) HI.out g4 g1 g3)
      obtain ⟨G, hG⟩ : ∃ G, G = goB l f := ⟨_, rfl⟩
      rw [← hG] at CG CM
      have z9 : (G == G) = true := beq_iff_eq.2 rfl
      clear hs g4 hG
      go_wp2_with (first
        | (go_at_call 41; (with_reducible refine (C1.out _ k9).mono ?_); rintro e w10 ⟨rfl, rfl⟩; simp only [numV, Option.getD_none])
        | (go_at_call 46; (with_reducible refine (CG.out _ k9).mono ?_); rintro e w11 ⟨rfl, b11⟩; have k11 := below_tr k9 b11)
        | (go_at_call 14; fail))
      refine (E_nil0 (hg.below k11)).mono ?_
      rintro e w12 ⟨rfl, b12⟩
      have k12 := below_tr k11 b12
      clear C1 CG b11 b12
      go_wp2_with (go_at_call 47; (with_reducible refine (CM.out _ k12).mono ?_); rintro e w13 ⟨rfl, b13⟩; have k13 := below_tr k12 b13)
      go_ret
      exact ⟨rfl, k13⟩
    · rw [hs] at C1
      have CG := Lib.hid (fun (w' : World) (k : Below w.heap.size w w') => Goes_err (c := c2) (h.below k) (hf.below k) (by rw [HC.out, hs]; rfl))
      have z8 : (c2 == 0) = false := beq_eq_false_iff_ne.2 (seqR_nz hs)
      clear hs
      go_wp2_with (first
        | (go_at_call 41; (with_reducible refine (C1.out _ k9).mono ?_); rintro e w10 ⟨rfl, rfl⟩; simp only [numV, Option.getD_some])
        | (go_at_call 46; (with_reducible refine (CG.out _ k9).mono ?_); rintro e w11 ⟨rfl, b11⟩; have k11 := below_tr k9 b11)
        | (go_at_call 14; fail))
      refine (E_same (hg.below k11)).mono ?_
      rintro e w12 ⟨rfl, b12⟩
      have k12 := below_tr k11 b12
      go_wp2
      go_ret
      exact ⟨rfl, k12⟩
  · have i1 : ¬ (n : Int) < 2 * (L : Int) := by omega
    have H2 := Lib.hid h2
    clear h2
    go_wp2_with (go_at_call 45; fail)
    refine (Factors_ok (h.below k6) HC.out).mono ?_
    rintro e w7 ⟨L2, F2, hB, hl2, hi2, b7, hor⟩
    obtain rfl : L2 = L := (HF.out.len hB).trans HL.out.symm
    have k7 := below_tr k6 b7
    have hW7 := hW6.below b7
    clear b7 k6 hW6
    rcases hor with ⟨_, aF, cF, rfl, hF2⟩ | ⟨hh, _⟩
    rotate_left
    · exact absurd hh H2.out
    obtain rfl : F2 = W := HF.out.one hB hl2 hi2 (Nat.not_lt.1 H2.out)
    have CI := Lib.hid (fun (w' : World) (k : Below w7.heap.size w7 w') => Ints_eq (hF2.below k) (hW7.below k) rfl)
    clear hB hl2 hi2 hF2
    go_wp2_with (go_at_call 14; fail)
    refine (E_nil0 (hg.below k7)).mono ?_
    rintro e w8 ⟨rfl, b8⟩
    have k8 := below_tr k7 b8
    go_wp2_with (first | (go_at_call 22; (with_reducible refine (CI.out _ b8).mono ?_); rintro e w9 ⟨rfl, b9⟩; have k9 := below_tr k8 b9) | (go_at_call 41; fail))
    clear CI b8 b9 k8 k7 hW7
    rcases hs : seqR f with _ | c2
    · rw [hs] at C1
      have CG := Lib.hid (fun (w' : World) (k : Below w.heap.size w w') => Goes_ok (h.below k) (hf.below k) HC.out hs)
      obtain ⟨g3, g4⟩ := seqR_none hs
      rw [hf.len_eq] at g3
      have CM := Lib.hid (fun (w' : World) (k : Below w.heap.size w w') => M_Goes_any (h.below k) (hf.below k) HI.out g4 g1 g3)
      obtain ⟨G, hG⟩ : ∃ G, G = goB l f := ⟨_, rfl⟩
      rw [← hG] at CG CM
      have z9 : (G == G) = true := beq_iff_eq.2 rfl
      clear hs g4 hG
      go_wp2_with (first
        | (go_at_call 41; (with_reducible refine (C1.out _ k9).mono ?_); rintro e w10 ⟨rfl, rfl⟩; simp only [numV, Option.getD_none])
        | (go_at_call 46; (with_reducible refine (CG.out _ k9).mono ?_); rintro e w11 ⟨rfl, b11⟩; have k11 := below_tr k9 b11)
        | (go_at_call 14; fail))
      refine (E_nil0 (hg.below k11)).mono ?_
      rintro e w12 ⟨rfl, b12⟩
      have k12 := below_tr k11 b12
      clear C1 CG b11 b12
      go_wp2_with (go_at_call 47; (with_reducible refine (CM.out _ k12).mono ?_); rintro e w13 ⟨rfl, b13⟩; have k13 := below_tr k12 b13)
      go_ret
      exact ⟨rfl, k13⟩
    · rw [hs] at C1
      have CG := Lib.hid (fun (w' : World) (k : Below w.heap.size w w') => Goes_err (c := c2) (h.below k) (hf.below k) (by rw [HC.out, hs]; rfl))
      have z8 : (c2 == 0) = false := beq_eq_false_iff_ne.2 (seqR_nz hs)
      clear hs
      go_wp2_with (first
        | (go_at_call 41; (with_reducible refine (C1.out _ k9).mono ?_); rintro e w10 ⟨rfl, rfl⟩; simp only [numV, Option.getD_some])
        | (go_at_call 46; (with_reducible refine (CG.out _ k9).mono ?_); rintro e w11 ⟨rfl, b11⟩; have k11 := below_tr k9 b11)
        | (go_at_call 14; fail))
      refine (E_same (hg.below k11)).mono ?_
      rintro e w12 ⟨rfl, b12⟩
      have k12 := below_tr k11 b12
      go_wp2
      go_ret
      exact ⟨rfl, k12⟩

theorem masseySays_walk (hg : ErrT w) (h : RdI w a n ca l) (_ : Fit l) (hf : RdI w b m cb f) (_ : Fit f) :
    Calls Tryd.prog 7 #[.slice a n ca, .slice b m cb] w fun e w' => e = .returned (.bool true) ∧ Below w.heap.size w w' := by
  rcases hc : seqR l with _ | c
  · exact masseySays_good hg h hf hc
  · exact masseySays_bad hg h hf hc
end
end Go.Proofs.YtefmllkimdaimaaDoor
