/-
  What a matrix takes to noughts: a row for each column that no step has. No program in sight.
-/
import Derived.Test.YtohconpfpecldaaRank
import Derived.Test.YtohconpfpecldaaGauss
import Derived.Test.YtohconpfpecldaaGaussFact
import Derived.Test.YtohconpfpecldaaRSign
import Derived.Test.YtohconpfpecldaaRefTo
import Derived.Test.YtohconpfpecldaaSignLaw
namespace Go.Proofs.Ytohconpfpecldaa
open Go.RowKit Go.Rk

theorem getD_lt {l : List Nat} {t : Nat} (h : t < l.length) : l.getD t 0 = l[t] := by simp [List.getD, h]
/-- The columns below q that no step has. -/
def freeN (ps : List Int) (q : Nat) : List Nat := (List.range q).filter fun (j : Nat) => !hasB (j : Int) ps
theorem freeN_succ (ps : List Int) (q : Nat) : freeN ps (q + 1) = if hasB (q : Int) ps = true then freeN ps q else freeN ps q ++ [q] := by
  unfold freeN
  rw [List.range_succ, List.filter_append]
  split
  · next h => simp [h]
  · next h => simp [h]
/-- Free column t. -/
def freeAt (ps : List Int) (q t : Nat) : Nat := (freeN ps q).getD t 0
theorem freeAt_mem {ps : List Int} {q t : Nat} (h : t < (freeN ps q).length) : freeAt ps q t < q ∧ hasB (freeAt ps q t : Int) ps = false := by
  have : freeAt ps q t ∈ freeN ps q := by
    unfold freeAt
    rw [getD_lt h]
    exact List.getElem_mem h
  unfold freeN at this
  rw [List.mem_filter] at this
  exact ⟨List.mem_range.1 this.1, by simpa using this.2⟩
theorem freeAt_inj {ps : List Int} {q t s : Nat} (h : t < (freeN ps q).length) (k : s < (freeN ps q).length) (e : freeAt ps q t = freeAt ps q s) : t = s := by
  unfold freeAt at e
  rw [getD_lt h, getD_lt k] at e
  have hn : (freeN ps q).Nodup := List.Pairwise.filter _ List.nodup_range
  have hp := List.pairwise_iff_getElem.1 hn
  rcases Nat.lt_trichotomy t s with h1 | h1 | h1
  · exact absurd e (hp t s h k h1)
  · exact h1
  · exact absurd e.symm (hp s t k h h1)
theorem freeAt_onto {ps : List Int} {q j : Nat} (hj : j < q) (h : hasB (j : Int) ps = false) : ∃ t, t < (freeN ps q).length ∧ freeAt ps q t = j := by
  have : j ∈ freeN ps q := by
    unfold freeN
    rw [List.mem_filter]
    exact ⟨List.mem_range.2 hj, by simp [h]⟩
  obtain ⟨t, ht, e⟩ := List.getElem_of_mem this
  exact ⟨t, ht, by unfold freeAt; rw [getD_lt ht]; exact e⟩

/-- A row of the free column f. -/
structure NRow (c : Nat) (P : List (List Int)) (ps : List Int) (f : Nat) (x : List Int) : Prop where
  len : x.length = c
  one : ix x f = 1
  piv : ∀ i, i < ps.length → ix x (natsOf ps i) = -en P i f % 9973
  zer : ∀ j, j < c → j ≠ f → hasB (j : Int) ps = false → ix x j = 0

/-- A row for each free column below q. -/
structure Nul (c q : Nat) (P : List (List Int)) (ps : List Int) (L : List (List Int)) : Prop where
  len : L.length = (freeN ps q).length
  row : ∀ t, t < L.length → NRow c P ps (freeAt ps q t) (rowOf L t)

section
variable {n c q f : Nat} {A : Mx} {P L : List (List Int)} {ps x : List Int}
theorem hasB_pos (hp : ∀ i, i < ps.length → 0 ≤ ix ps i) {j : Nat} : hasB (j : Int) ps = true ↔ ∃ i, i < ps.length ∧ natsOf ps i = j := by
  rw [hasB_iff]
  constructor
  · rintro ⟨i, hi, e⟩
    exact ⟨i, hi, by unfold natsOf; omega⟩
  · rintro ⟨i, hi, e⟩
    have := hp i hi
    exact ⟨i, hi, by unfold natsOf at e; omega⟩

theorem Nul.start (c : Nat) (P : List (List Int)) (ps : List Int) : Nul c 0 P ps [] := ⟨rfl, fun _ h => absurd h (Nat.not_lt_zero _)⟩
theorem Nul.pass (h : Nul c q P ps L) (hq : hasB (q : Int) ps = true) : Nul c (q + 1) P ps L := by
  have e : freeN ps (q + 1) = freeN ps q := by rw [freeN_succ, if_pos hq]
  exact ⟨by rw [e]; exact h.len, fun t ht => by unfold freeAt; rw [e]; exact h.row t ht⟩
theorem Nul.push (h : Nul c q P ps L) (hq : hasB (q : Int) ps = false) (hx : NRow c P ps q x) : Nul c (q + 1) P ps (L ++ [x]) := by
  have e : freeN ps (q + 1) = freeN ps q ++ [q] := by rw [freeN_succ, if_neg (by rw [hq]; simp)]
  refine ⟨by rw [e, List.length_append, List.length_append, h.len]; rfl, fun t ht => ?_⟩
  unfold freeAt
  rw [e]
  rw [List.length_append] at ht
  simp at ht
  rcases Nat.lt_or_ge t L.length with h1 | h1
  · rw [rowOf_append_left h1]
    have h2 : t < (freeN ps q).length := by rw [← h.len]; exact h1
    have := h.row t h1
    unfold freeAt at this
    rw [getD_lt h2] at this
    rw [getD_lt (by rw [List.length_append]; omega), List.getElem_append_left h2]
    exact this
  · obtain rfl : t = L.length := by omega
    rw [rowOf_append_right (Nat.le_refl _), Nat.sub_self]
    have h2 : L.length = (freeN ps q).length := h.len
    rw [getD_lt (by rw [List.length_append]; simp [h2]), List.getElem_append_right (by omega)]
    simp only [h2, Nat.sub_self, List.getElem_cons_zero]
    exact hx

/-- As many as columns: steps and free columns. -/
theorem free_count {R : Mx} (h : Stairs n c ps.length R (natsOf ps)) (hp : ∀ i, i < ps.length → 0 ≤ ix ps i) : (freeN ps c).length + ps.length = c := by
  have key : ∀ q, q ≤ c → ∃ m, m ≤ ps.length ∧ (∀ i, i < m → natsOf ps i < q) ∧ (∀ i, m ≤ i → i < ps.length → q ≤ natsOf ps i) ∧ (freeN ps q).length + m = q := by
    intro q
    induction q with
    | zero => intro _; exact ⟨0, Nat.zero_le _, fun i hi => absurd hi (Nat.not_lt_zero _), fun i _ _ => Nat.zero_le _, rfl⟩
    | succ q ih =>
      intro hq
      obtain ⟨m, h1, h2, h3, h4⟩ := ih (by omega)
      rw [freeN_succ]
      by_cases hb : hasB (q : Int) ps = true
      · obtain ⟨i, hi, e⟩ := (hasB_pos hp).1 hb
        have him : i = m := by
          rcases Nat.lt_trichotomy i m with hlt | rfl | hgt
          · have := h2 i hlt; omega
          · rfl
          · have := h.inc m i hgt hi
            have := h3 m (Nat.le_refl _) (by omega)
            omega
        subst him
        rw [if_pos hb]
        refine ⟨i + 1, hi, fun k hk => ?_, fun k hk hk2 => ?_, by omega⟩
        · rcases Nat.lt_or_ge k i with h5 | h5
          · have := h2 k h5; omega
          · obtain rfl : k = i := by omega
            omega
        · have := h.inc i k (by omega) hk2
          omega
      · rw [if_neg hb]
        refine ⟨m, h1, fun k hk => by have := h2 k hk; omega, fun k hk hk2 => ?_, by simp; omega⟩
        have h5 := h3 k hk hk2
        rcases Nat.lt_or_ge q (natsOf ps k) with h6 | h6
        · omega
        · exact absurd ((hasB_pos hp).2 ⟨k, hk2, by omega⟩) hb
  obtain ⟨m, h1, h2, h3, h4⟩ := key c (Nat.le_refl _)
  have : m = ps.length := by
    rcases Nat.lt_or_ge m ps.length with h5 | h5
    · have := h3 m (Nat.le_refl _) h5
      have := h.lt m h5
      omega
    · omega
  omega

theorem NRow.range (h : NRow c P ps f x) (hp : ∀ i, i < ps.length → 0 ≤ ix ps i) : In 0 9972 x := by
  intro j hj
  rw [h.len] at hj
  by_cases e : j = f
  · rw [e, h.one]; omega
  · cases hb : hasB (j : Int) ps
    · rw [h.zer j hj e hb]; omega
    · obtain ⟨i, hi, e2⟩ := (hasB_pos hp).1 hb
      rw [← e2, h.piv i hi]
      omega

/-- Such a row, as a sum. -/
theorem NRow.sum {R : Mx} (h : NRow c P ps f x) (st : Stairs n c ps.length R (natsOf ps)) (hp : ∀ i, i < ps.length → 0 ≤ ix ps i) (hf : hasB (f : Int) ps = false) {j : Nat} (hj : j < c) :
    Eqm (ix x j) ((if f = j then 1 else 0) - sumTo (fun k => (if natsOf ps k = j then 1 else 0) * en P k f) ps.length) := by
  cases hb : hasB (j : Int) ps
  · have e0 : sumTo (fun k => (if natsOf ps k = j then 1 else 0) * en P k f) ps.length = 0 := by
      rw [sumTo_congr (h := fun _ => 0) fun k hk => by rw [if_neg (fun e => by rw [(hasB_pos hp).2 ⟨k, hk, e⟩] at hb; cases hb), Int.zero_mul]]
      exact sumTo_zero _
    rw [e0, Int.sub_zero]
    by_cases e : f = j
    · rw [if_pos e, ← e, h.one]; exact Eqm.refl _
    · rw [if_neg e, h.zer j hj (fun x => e x.symm) hb]; exact Eqm.refl _
  · obtain ⟨i, hi, e⟩ := (hasB_pos hp).1 hb
    have hfj : f ≠ j := fun e2 => by rw [e2, hb] at hf; cases hf
    rw [if_neg hfj, ← e, h.piv i hi]
    have e1 : sumTo (fun k => (if natsOf ps k = natsOf ps i then 1 else 0) * en P k f) ps.length = en P i f := by
      rw [sumTo_congr (h := fun k => (if i = k then 1 else 0) * en P k f) fun k hk => ?_]
      · exact sumTo_pick (fun k => en P k f) hi
      · by_cases e3 : i = k
        · rw [if_pos (by rw [e3]), if_pos e3]
        · rw [if_neg fun e4 => ?_, if_neg e3]
          rcases Nat.lt_trichotomy i k with h1 | h1 | h1
          · have := st.inc i k h1 hk; omega
          · exact e3 h1
          · have := st.inc k i h1 hi; omega
    rw [e1, Int.zero_sub]
    exact Eqm.mod _

/-- It is taken to noughts by the steps. -/
theorem NRow.nought {R : Mx} (h : NRow c P ps f x) (st : Stairs n c ps.length R (natsOf ps)) (hR : R = mx P) (hp : ∀ i, i < ps.length → 0 ≤ ix ps i) (hf : hasB (f : Int) ps = false) (hfc : f < c) {i : Nat} (hi : i < n) : Eqm (sumTo (fun j => mx P i j * ix x j) c) 0 := by
  subst hR
  have e1 : Eqm (sumTo (fun j => mx P i j * ix x j) c) (sumTo (fun j => (if f = j then 1 else 0) * mx P i j + sumTo (fun k => -((if natsOf ps k = j then 1 else 0) * (mx P i j * en P k f))) ps.length) c) := sumTo_eqm fun j hj => by
    refine (Eqm.mul (Eqm.refl _) (h.sum st hp hf hj)).trans (Eqm.of_eq ?_)
    rw [Int.mul_sub, ← sumTo_mul, show sumTo (fun k => -((if natsOf ps k = j then 1 else 0) * (mx P i j * en P k f))) ps.length = sumTo (fun k => (-1) * (mx P i j * ((if natsOf ps k = j then 1 else 0) * en P k f))) ps.length from sumTo_congr fun k _ => by grind, sumTo_mul (-1)]
    grind
  refine e1.trans ?_
  rw [sumTo_add, sumTo_pick (fun j => mx P i j) hfc, sumTo_swap]
  have e2 : ∀ k, k < ps.length → sumTo (fun j => -((if natsOf ps k = j then 1 else 0) * (mx P i j * en P k f))) c = -(mx P i (natsOf ps k) * en P k f) := fun k hk => by
    rw [show (fun j => -((if natsOf ps k = j then 1 else 0) * (mx P i j * en P k f))) = fun j => (-1) * ((if natsOf ps k = j then 1 else 0) * (mx P i j * en P k f)) from funext fun j => by grind, sumTo_mul, sumTo_pick (fun j => mx P i j * en P k f) (st.lt k hk)]
    omega
  rw [sumTo_congr e2]
  have e3 : Eqm (sumTo (fun k => -(mx P i (natsOf ps k) * en P k f)) ps.length) (sumTo (fun k => (if i = k then 1 else 0) * -en P k f) ps.length) := sumTo_eqm fun k hk => by
    refine (Eqm.neg (Eqm.mul (st.one i k hi hk) (Eqm.refl (en P k f)))).trans (Eqm.of_eq ?_)
    grind
  refine (Eqm.add (Eqm.refl _) e3).trans ?_
  rcases Nat.lt_or_ge i ps.length with h1 | h1
  · rw [sumTo_pick (fun k => -en P k f) h1]
    exact Eqm.of_eq (by show en P i f + _ = 0; omega)
  · rw [sumTo_congr (h := fun _ => 0) fun k hk => by rw [if_neg (by omega), Int.zero_mul], sumTo_zero, Int.add_zero]
    exact st.low i f h1 hi hfc
end
end Go.Proofs.Ytohconpfpecldaa
