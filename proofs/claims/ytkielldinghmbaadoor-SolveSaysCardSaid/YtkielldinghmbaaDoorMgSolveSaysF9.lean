/-
  The sign by cycles is the sign by pairs; two that change places turn it.
  What a matrix takes to noughts: a row for each column that no step has. No program in sight.
  slices.Index and slices.Contains at []int walked.
  solve.Null walked.
  A matrix with a right side: the steps of both together, and what solves it. No program in sight.
-/
import Derived.Test.YtkielldinghmbaaDoorRows
import Derived.Test.YtkielldinghmbaaDoorMgSolveSaysF0
import Derived.Test.YtkielldinghmbaaDoorMgSolveSaysF2
import Derived.Test.YtkielldinghmbaaDoorMgSolveSaysF3
import Derived.Test.YtkielldinghmbaaDoorMgSolveSaysF4
import Derived.Test.YtkielldinghmbaaDoorMgSolveSaysF5
import Derived.Test.YtkielldinghmbaaDoorMgSolveSaysF6
import Derived.Test.YtkielldinghmbaaDoorMgSolveSaysF8
namespace Go.Proofs.YtkielldinghmbaaDoor
open Go.RowKit Go.Rk

def natsOf (l : List Int) : Nat → Nat := fun j => (ix l j).toNat

theorem pairs_congr {F G : Nat → Nat → Int} {n : Nat} (h : ∀ k i, k < i → i < n → F k i = G k i) : pairs F n = pairs G n :=
  prodTo_congr fun i hi => prodTo_congr fun k hk => h k i hk hi

theorem signC_ord {l : List Int} {n : Nat} (e : l.length = n) (h : okN l n n = true) : signC l = det n (pm (natsOf l)) := by
  unfold signC
  rw [e, if_pos h]
  exact cycN_det (okN_ord h).1

theorem pairs_turn {l : List Int} {n : Nat} (h : okN l n n = true) : pairs (turnI l) n = det n (pm (natsOf l)) := by
  have h1 := okN_ord h
  rw [show natsOf l = fun j => (ix l j).toNat from rfl, det_pairs h1.1]
  refine pairs_congr fun k i hk hi => ?_
  have a := h1.2 k (by omega)
  have b := h1.2 i hi
  unfold turnI turnF
  dsimp only
  by_cases c : ix l i < ix l k
  · rw [if_pos c, if_pos (by omega)]
  · rw [if_neg c, if_neg (by omega)]

theorem okN_has {l : List Int} {n : Nat} (e : l.length = n) : okN l n n = true ↔ ∀ i : Nat, i < n → hasB i l = true := by
  constructor
  · intro h i hi
    have h1 := okN_ord h
    obtain ⟨p, hp, hpi⟩ := Ord.onto h1.1 i hi
    have := h1.2 p hp
    exact hasB_iff.2 ⟨p, by omega, by omega⟩
  · intro h
    have h1 := has_ord (l := l) (n := n) fun i hi => by
      obtain ⟨p, hp, e2⟩ := hasB_iff.1 (h i hi)
      exact ⟨p, by omega, e2⟩
    exact ord_okN h1.1 h1.2 n (Nat.le_refl _)

theorem sign_is {l : List Int} {n : Nat} (e : l.length = n) : (if (∀ i : Nat, i < n → hasB i l = true) then pairs (turnI l) n else 0) = signC l := by
  by_cases h : okN l n n = true
  · rw [if_pos ((okN_has e).1 h), pairs_turn h, signC_ord e h]
  · rw [if_neg fun h2 => h ((okN_has e).2 h2)]
    unfold signC
    rw [e, if_neg h]

theorem signC_pm (l : List Int) : signC l = 0 ∨ signC l = 1 ∨ signC l = -1 := by
  unfold signC
  split
  · exact .inr (cycN_len l _ _).2
  · exact .inl rfl
theorem signC_ok {l : List Int} {n : Nat} (e : l.length = n) (h : signC l ≠ 0) : okN l n n = true := by
  unfold signC at h
  rw [e] at h
  by_cases h2 : okN l n n = true
  · exact h2
  · rw [if_neg h2] at h; exact absurd rfl h

theorem natsOf_swap {l : List Int} {i j : Nat} (hi : i < l.length) (hj : j < l.length) : natsOf ((l.set i (ix l j)).set j (ix l i)) = swapN (natsOf l) i j := by
  funext r
  unfold natsOf swapN
  rw [ix_set, ix_set, List.length_set]
  by_cases h1 : r = j
  · subst h1
    rw [if_pos ⟨rfl, hj⟩, if_pos rfl]
  · rw [if_neg fun h => h1 h.1.symm, if_neg h1]
    by_cases h2 : r = i
    · subst h2
      rw [if_pos ⟨rfl, hi⟩, if_pos rfl]
    · rw [if_neg fun h => h2 h.1.symm, if_neg h2]

/-- Two that change places turn the sign. -/
theorem signC_swap {l : List Int} {i j : Nat} (h0 : signC l ≠ 0) (hi : i < l.length) (hj : j < l.length) (hij : i ≠ j) : signC ((l.set i (ix l j)).set j (ix l i)) = -signC l := by
  have h := signC_ok rfl h0
  have h1 := okN_ord h
  have e : ((l.set i (ix l j)).set j (ix l i)).length = l.length := by simp
  have hO : Ord l.length (natsOf ((l.set i (ix l j)).set j (ix l i))) := by
    rw [natsOf_swap hi hj]
    exact Ord.swap h1.1 hi hj
  have h2 : okN ((l.set i (ix l j)).set j (ix l i)) l.length l.length = true := by
    refine ord_okN hO (fun r hr => ?_) _ (Nat.le_refl _)
    rw [ix_set, ix_set]
    split
    · exact h1.2 i hi
    · split
      · exact h1.2 j hj
      · exact h1.2 r hr
  rw [signC_ord e h2, signC_ord rfl h, natsOf_swap hi hj, det_pm_swap _ hij hi hj]

/-- The matrix of an order. -/
def matO (l : List Int) (n : Nat) : List (List Int) := (List.range n).map fun r => (List.replicate n 0).set (natsOf l r) 1
end Go.Proofs.YtkielldinghmbaaDoor
namespace Go.Proofs.YtkielldinghmbaaDoor
open Go.RowKit Go.Rk

theorem getD_lt {l : List Nat} {t : Nat} (h : t < l.length) : l.getD t 0 = l[t] := by simp [List.getD, h]
/-- The columns below q that no step has. -/
def freeN (ps : List Int) (q : Nat) : List Nat := (List.range q).filter fun (j : Nat) => !hasB (j : Int) ps
theorem freeN_succ (ps : List Int) (q : Nat) : freeN ps (q + 1) = if hasB (q : Int) ps = true then freeN ps q else freeN ps q ++ [q] := by
  unfold freeN
  rw [List.range_succ, List.filter_append]
  split
  · next h => simp [h]
  · next h => simp [h]
/-- Free column t. -/
def freeAt (ps : List Int) (q t : Nat) : Nat := (freeN ps q).getD t 0
theorem freeAt_mem {ps : List Int} {q t : Nat} (h : t < (freeN ps q).length) : freeAt ps q t < q ∧ hasB (freeAt ps q t : Int) ps = false := by
  have : freeAt ps q t ∈ freeN ps q := by
    unfold freeAt
    rw [getD_lt h]
    exact List.getElem_mem h
  unfold freeN at this
  rw [List.mem_filter] at this
  exact ⟨List.mem_range.1 this.1, by simpa using this.2⟩
theorem freeAt_inj {ps : List Int} {q t s : Nat} (h : t < (freeN ps q).length) (k : s < (freeN ps q).length) (e : freeAt ps q t = freeAt ps q s) : t = s := by
  unfold freeAt at e
  rw [getD_lt h, getD_lt k] at e
  have hn : (freeN ps q).Nodup := List.Pairwise.filter _ List.nodup_range
  have hp := List.pairwise_iff_getElem.1 hn
  rcases Nat.lt_trichotomy t s with h1 | h1 | h1
  · exact absurd e (hp t s h k h1)
  · exact h1
  · exact absurd e.symm (hp s t k h h1)
theorem freeAt_onto {ps : List Int} {q j : Nat} (hj : j < q) (h : hasB (j : Int) ps = false) : ∃ t, t < (freeN ps q).length ∧ freeAt ps q t = j := by
  have : j ∈ freeN ps q := by
    unfold freeN
    rw [List.mem_filter]
    exact ⟨List.mem_range.2 hj, by simp [h]⟩
  obtain ⟨t, ht, e⟩ := List.getElem_of_mem this
  exact ⟨t, ht, by unfold freeAt; rw [getD_lt ht]; exact e⟩

/-- A row of the free column f. -/
structure NRow (c : Nat) (P : List (List Int)) (ps : List Int) (f : Nat) (x : List Int) : Prop where
  len : x.length = c
  one : ix x f = 1
  piv : ∀ i, i < ps.length → ix x (natsOf ps i) = -en P i f % 9973
  zer : ∀ j, j < c → j ≠ f → hasB (j : Int) ps = false → ix x j = 0

/-- A row for each free column below q. -/
structure Nul (c q : Nat) (P : List (List Int)) (ps : List Int) (L : List (List Int)) : Prop where
  len : L.length = (freeN ps q).length
  row : ∀ t, t < L.length → NRow c P ps (freeAt ps q t) (rowOf L t)

section
variable {n c q f : Nat} {A : Mx} {P L : List (List Int)} {ps x : List Int}
theorem hasB_pos (hp : ∀ i, i < ps.length → 0 ≤ ix ps i) {j : Nat} : hasB (j : Int) ps = true ↔ ∃ i, i < ps.length ∧ natsOf ps i = j := by
  rw [hasB_iff]
  constructor
  · rintro ⟨i, hi, e⟩
    exact ⟨i, hi, by unfold natsOf; omega⟩
  · rintro ⟨i, hi, e⟩
    have := hp i hi
    exact ⟨i, hi, by unfold natsOf at e; omega⟩

theorem Nul.start (c : Nat) (P : List (List Int)) (ps : List Int) : Nul c 0 P ps [] := ⟨rfl, fun _ h => absurd h (Nat.not_lt_zero _)⟩
theorem Nul.pass (h : Nul c q P ps L) (hq : hasB (q : Int) ps = true) : Nul c (q + 1) P ps L := by
  have e : freeN ps (q + 1) = freeN ps q := by rw [freeN_succ, if_pos hq]
  exact ⟨by rw [e]; exact h.len, fun t ht => by unfold freeAt; rw [e]; exact h.row t ht⟩
theorem Nul.push (h : Nul c q P ps L) (hq : hasB (q : Int) ps = false) (hx : NRow c P ps q x) : Nul c (q + 1) P ps (L ++ [x]) := by
  have e : freeN ps (q + 1) = freeN ps q ++ [q] := by rw [freeN_succ, if_neg (by rw [hq]; simp)]
  refine ⟨by rw [e, List.length_append, List.length_append, h.len]; rfl, fun t ht => ?_⟩
  unfold freeAt
  rw [e]
  rw [List.length_append] at ht
  simp at ht
  rcases Nat.lt_or_ge t L.length with h1 | h1
  · rw [rowOf_append_left h1]
    have h2 : t < (freeN ps q).length := by rw [← h.len]; exact h1
    have := h.row t h1
    unfold freeAt at this
    rw [getD_lt h2] at this
    rw [getD_lt (by rw [List.length_append]; omega), List.getElem_append_left h2]
    exact this
  · obtain rfl : t = L.length := by omega
    rw [rowOf_append_right (Nat.le_refl _), Nat.sub_self]
    have h2 : L.length = (freeN ps q).length := h.len
    rw [getD_lt (by rw [List.length_append]; simp [h2]), List.getElem_append_right (by omega)]
    simp only [h2, Nat.sub_self, List.getElem_cons_zero]
    exact hx

/-- As many as columns: steps and free columns. -/
theorem free_count {R : Mx} (h : Stairs n c ps.length R (natsOf ps)) (hp : ∀ i, i < ps.length → 0 ≤ ix ps i) : (freeN ps c).length + ps.length = c := by
  have key : ∀ q, q ≤ c → ∃ m, m ≤ ps.length ∧ (∀ i, i < m → natsOf ps i < q) ∧ (∀ i, m ≤ i → i < ps.length → q ≤ natsOf ps i) ∧ (freeN ps q).length + m = q := by
    intro q
    induction q with
    | zero => intro _; exact ⟨0, Nat.zero_le _, fun i hi => absurd hi (Nat.not_lt_zero _), fun i _ _ => Nat.zero_le _, rfl⟩
    | succ q ih =>
      intro hq
      obtain ⟨m, h1, h2, h3, h4⟩ := ih (by omega)
      rw [freeN_succ]
      by_cases hb : hasB (q : Int) ps = true
      · obtain ⟨i, hi, e⟩ := (hasB_pos hp).1 hb
        have him : i = m := by
          rcases Nat.lt_trichotomy i m with hlt | rfl | hgt
          · have := h2 i hlt; omega
          · rfl
          · have := h.inc m i hgt hi
            have := h3 m (Nat.le_refl _) (by omega)
            omega
        subst him
        rw [if_pos hb]
        refine ⟨i + 1, hi, fun k hk => ?_, fun k hk hk2 => ?_, by omega⟩
        · rcases Nat.lt_or_ge k i with h5 | h5
          · have := h2 k h5; omega
          · obtain rfl : k = i := by omega
            omega
        · have := h.inc i k (by omega) hk2
          omega
      · rw [if_neg hb]
        refine ⟨m, h1, fun k hk => by have := h2 k hk; omega, fun k hk hk2 => ?_, by simp; omega⟩
        have h5 := h3 k hk hk2
        rcases Nat.lt_or_ge q (natsOf ps k) with h6 | h6
        · omega
        · exact absurd ((hasB_pos hp).2 ⟨k, hk2, by omega⟩) hb
  obtain ⟨m, h1, h2, h3, h4⟩ := key c (Nat.le_refl _)
  have : m = ps.length := by
    rcases Nat.lt_or_ge m ps.length with h5 | h5
    · have := h3 m (Nat.le_refl _) h5
      have := h.lt m h5
      omega
    · omega
  omega

theorem NRow.range (h : NRow c P ps f x) (hp : ∀ i, i < ps.length → 0 ≤ ix ps i) : In 0 9972 x := by
  intro j hj
  rw [h.len] at hj
  by_cases e : j = f
  · rw [e, h.one]; omega
  · cases hb : hasB (j : Int) ps
    · rw [h.zer j hj e hb]; omega
    · obtain ⟨i, hi, e2⟩ := (hasB_pos hp).1 hb
      rw [← e2, h.piv i hi]
      omega

/-- Such a row, as a sum. -/
theorem NRow.sum {R : Mx} (h : NRow c P ps f x) (st : Stairs n c ps.length R (natsOf ps)) (hp : ∀ i, i < ps.length → 0 ≤ ix ps i) (hf : hasB (f : Int) ps = false) {j : Nat} (hj : j < c) :
    Eqm (ix x j) ((if f = j then 1 else 0) - sumTo (fun k => (if natsOf ps k = j then 1 else 0) * en P k f) ps.length) := by
  cases hb : hasB (j : Int) ps
  · have e0 : sumTo (fun k => (if natsOf ps k = j then 1 else 0) * en P k f) ps.length = 0 := by
      rw [sumTo_congr (h := fun _ => 0) fun k hk => by rw [if_neg (fun e => by rw [(hasB_pos hp).2 ⟨k, hk, e⟩] at hb; cases hb), Int.zero_mul]]
      exact sumTo_zero _
    rw [e0, Int.sub_zero]
    by_cases e : f = j
    · rw [if_pos e, ← e, h.one]; exact Eqm.refl _
    · rw [if_neg e, h.zer j hj (fun x => e x.symm) hb]; exact Eqm.refl _
  · obtain ⟨i, hi, e⟩ := (hasB_pos hp).1 hb
    have hfj : f ≠ j := fun e2 => by rw [e2, hb] at hf; cases hf
    rw [if_neg hfj, ← e, h.piv i hi]
    have e1 : sumTo (fun k => (if natsOf ps k = natsOf ps i then 1 else 0) * en P k f) ps.length = en P i f := by
      rw [sumTo_congr (h := fun k => (if i = k then 1 else 0) * en P k f) fun k hk => ?_]
      · exact sumTo_pick (fun k => en P k f) hi
      · by_cases e3 : i = k
        · rw [if_pos (by rw [e3]), if_pos e3]
        · rw [if_neg fun e4 => ?_, if_neg e3]
          rcases Nat.lt_trichotomy i k with h1 | h1 | h1
          · have := st.inc i k h1 hk; omega
          · exact e3 h1
          · have := st.inc k i h1 hi; omega
    rw [e1, Int.zero_sub]
    exact Eqm.mod _

/-- It is taken to noughts by the steps. -/
theorem NRow.nought {R : Mx} (h : NRow c P ps f x) (st : Stairs n c ps.length R (natsOf ps)) (hR : R = mx P) (hp : ∀ i, i < ps.length → 0 ≤ ix ps i) (hf : hasB (f : Int) ps = false) (hfc : f < c) {i : Nat} (hi : i < n) : Eqm (sumTo (fun j => mx P i j * ix x j) c) 0 := by
  subst hR
  have e1 : Eqm (sumTo (fun j => mx P i j * ix x j) c) (sumTo (fun j => (if f = j then 1 else 0) * mx P i j + sumTo (fun k => -((if natsOf ps k = j then 1 else 0) * (mx P i j * en P k f))) ps.length) c) := sumTo_eqm fun j hj => by
    refine (Eqm.mul (Eqm.refl _) (h.sum st hp hf hj)).trans (Eqm.of_eq ?_)
    rw [Int.mul_sub, ← sumTo_mul, show sumTo (fun k => -((if natsOf ps k = j then 1 else 0) * (mx P i j * en P k f))) ps.length = sumTo (fun k => (-1) * (mx P i j * ((if natsOf ps k = j then 1 else 0) * en P k f))) ps.length from sumTo_congr fun k _ => by grind, sumTo_mul (-1)]
    grind
  refine e1.trans ?_
  rw [sumTo_add, sumTo_pick (fun j => mx P i j) hfc, sumTo_swap]
  have e2 : ∀ k, k < ps.length → sumTo (fun j => -((if natsOf ps k = j then 1 else 0) * (mx P i j * en P k f))) c = -(mx P i (natsOf ps k) * en P k f) := fun k hk => by
    rw [show (fun j => -((if natsOf ps k = j then 1 else 0) * (mx P i j * en P k f))) = fun j => (-1) * ((if natsOf ps k = j then 1 else 0) * (mx P i j * en P k f)) from funext fun j => by grind, sumTo_mul, sumTo_pick (fun j => mx P i j * en P k f) (st.lt k hk)]
    omega
  rw [sumTo_congr e2]
  have e3 : Eqm (sumTo (fun k => -(mx P i (natsOf ps k) * en P k f)) ps.length) (sumTo (fun k => (if i = k then 1 else 0) * -en P k f) ps.length) := sumTo_eqm fun k hk => by
    refine (Eqm.neg (Eqm.mul (st.one i k hi hk) (Eqm.refl (en P k f)))).trans (Eqm.of_eq ?_)
    grind
  refine (Eqm.add (Eqm.refl _) e3).trans ?_
  rcases Nat.lt_or_ge i ps.length with h1 | h1
  · rw [sumTo_pick (fun k => -en P k f) h1]
    exact Eqm.of_eq (by show en P i f + _ = 0; omega)
  · rw [sumTo_congr (h := fun _ => 0) fun k hk => by rw [if_neg (by omega), Int.zero_mul], sumTo_zero, Int.add_zero]
    exact st.low i f h1 hi hfc
end
end Go.Proofs.YtkielldinghmbaaDoor
namespace Go.Proofs.YtkielldinghmbaaDoor
open Go.RowKit Go.Rk

/-- Index: below 0 if nothing is as v. -/
theorem Index_any {a : Option Addr} {len cap : Nat} {l : List Int} (n : Int) {w : World} (h : RdI w a len cap l) :
    Calls Tryd.prog 91 #[.slice a len cap, .int .i64 n] w fun e w' => (∃ z : Int, e = .returned (.int .i64 z) ∧ decide (0 ≤ z) = hasB n l) ∧ w = w' := by
  have hm := h.len_max
  have HL := Lib.hid h.len_eq
  go_enter Tryd.func91, Tryd.ntmps91
  go_wp2
  go_loop [8] (fun v => ∃ k : Nat, k ≤ len ∧ v = .int .i64 k ∧ Hid (∀ p, p < k → ix l p ≠ n)) (fun v => len - (intOf v).toNat)
  case atStart => exact ⟨0, Nat.zero_le _, rfl, fun p hp => absurd hp (Nat.not_lt_zero _)⟩
  case round =>
    obtain ⟨k, hk, rfl, hno⟩ := hrel
    by_cases hlt : k < len
    · obtain ⟨b, off, rfl, _, hc⟩ := h.at hlt
      have hc := hc k hlt
      have hlt' : (k : Int) < (len : Int) := by omega
      by_cases he : ix l k = n
      · subst he
        have z : (ix l k == ix l k) = true := beq_iff_eq.2 rfl
        go_wp2
        go_ret
        refine ⟨⟨_, rfl, ?_⟩, rfl⟩
        rw [decide_eq_true (by omega)]
        exact (hasB_iff.2 ⟨k, by rw [HL.out]; exact hlt, rfl⟩).symm
      · have z : (n == ix l k) = false := beq_eq_false_iff_ne.2 fun e => he e.symm
        have HE := Lib.hid he
        clear he
        go_wp2
        go_round
        case rel => exact ⟨k + 1, by omega, by go_num, fun p hp => by
          rcases Nat.lt_or_ge p k with h1 | h1
          · exact hno.out p h1
          · obtain rfl : p = k := by omega
            exact HE.out⟩
        case measure => simp [intOf]; omega
    · obtain rfl : k = len := by omega
      go_wp2
      go_ret
      refine ⟨⟨_, rfl, ?_⟩, rfl⟩
      cases e : hasB n l
      · decide
      · exfalso
        obtain ⟨p, hp, e⟩ := hasB_iff.1 e
        exact hno.out p (by rw [HL.out] at hp; exact hp) e
theorem Contains_any {a : Option Addr} {len cap : Nat} {l : List Int} (n : Int) {w : World} (h : RdI w a len cap l) :
    Calls Tryd.prog 79 #[.slice a len cap, .int .i64 n] w fun e w' => e = .returned (.bool (hasB n l)) ∧ w = w' := by
  have C := Lib.hid (Index_any n h)
  generalize hasB n l = B at C ⊢
  go_enter Tryd.func79, Tryd.ntmps79
  go_wp2_with (go_at_call 91; fail)
  (with_reducible refine C.out.mono ?_)
  rintro e w' ⟨⟨z, rfl, hz⟩, rfl⟩
  clear C
  by_cases h0 : 0 ≤ z
  · rw [decide_eq_true h0] at hz
    subst hz
    go_wp2
    go_ret
    exact ⟨rfl, rfl⟩
  · rw [decide_eq_false h0] at hz
    subst hz
    go_wp2
    go_ret
    exact ⟨congrArg (fun b => Ending.returned (.bool b)) (decide_eq_false (by omega)), rfl⟩
end Go.Proofs.YtkielldinghmbaaDoor
namespace Go.Proofs.YtkielldinghmbaaDoor
open Go.RowKit Go.Rk

theorem Null_err {a : Option Addr} {n ca : Nat} {M : List (List Int)} {w : World} {x : Int} (hM : RdM w a n ca M) (hq : groundsR 5 0 9972 M = some x) :
    Calls Tryd.prog 49 #[.slice a n ca] w fun e w' => e = .returned (.tuple #[.slice none 0 0, .iface 70 (.int .i64 x)]) ∧ w = w' := by
  have C := Lib.hid (Steps_err hM hq)
  clear hq
  go_enter Tryd.func49, Tryd.ntmps49
  go_wp2_with (go_at_call 31; (with_reducible refine C.out.mono ?_); rintro e w' ⟨rfl, rfl⟩)
  go_ret2
  exact ⟨rfl, rfl⟩

/-- A row of a free column, of its first i steps. -/
structure NPart (c : Nat) (P : List (List Int)) (ps : List Int) (f i : Nat) (x : List Int) : Prop where
  len : x.length = c
  one : ix x f = 1
  piv : ∀ k, k < i → ix x (natsOf ps k) = -en P k f % 9973
  zer : ∀ j, j < c → j ≠ f → hasB (j : Int) ps = false → ix x j = 0

theorem NPart.start {c f : Nat} (P : List (List Int)) (ps : List Int) (hf : f < c) : NPart c P ps f 0 ((List.replicate c 0).set f 1) := by
  refine ⟨by simp, by rw [ix_set, if_pos ⟨rfl, by simp; exact hf⟩], fun _ h => absurd h (Nat.not_lt_zero _), fun j hj hne _ => ?_⟩
  rw [ix_set, if_neg fun e => hne e.1.symm, ix_lt (by simp; exact hj)]
  simp
theorem NPart.step {n c f i : Nat} {P : List (List Int)} {ps x : List Int} {R : Mx} (h : NPart c P ps f i x) (st : Stairs n c ps.length R (natsOf ps)) (hp : ∀ i, i < ps.length → 0 ≤ ix ps i) (hf : hasB (f : Int) ps = false) (hi : i < ps.length) : NPart c P ps f (i + 1) (x.set (natsOf ps i) (-en P i f % 9973)) := by
  have hl := st.lt i hi
  have hb : hasB (natsOf ps i : Int) ps = true := (hasB_pos hp).2 ⟨i, hi, rfl⟩
  refine ⟨by rw [List.length_set]; exact h.len, ?_, fun k hk => ?_, fun j hj hne hz => ?_⟩
  · rw [ix_set, if_neg fun e => by rw [e.1, hf] at hb; cases hb]
    exact h.one
  · rw [ix_set]
    rcases Nat.lt_or_ge k i with h1 | h1
    · rw [if_neg fun e => by have := st.inc k i h1 hi; omega]
      exact h.piv k h1
    · obtain rfl : k = i := by omega
      rw [if_pos ⟨rfl, by rw [h.len]; exact hl⟩]
  · rw [ix_set, if_neg fun e => by rw [e.1, hz] at hb; cases hb]
    exact h.zer j hj hne hz

set_option maxHeartbeats 4000000 in
set_option maxRecDepth 100000 in
theorem Null_ok {a : Option Addr} {n c ca : Nat} {M : List (List Int)} {w : World} (hM : RdM w a n ca M) (G : Good n c M) :
    Calls Tryd.prog 49 #[.slice a n ca] w fun e w' => ∃ al cl L P ps, e = .returned (.tuple #[.slice al L.length cl, .nilIface]) ∧ OwM w' w.heap.size 32 3 al L.length cl L ∧ GInv n c (mx M) c P ps ∧ Nul c c P ps L ∧ Below w.heap.size w w' := by
  have HM := Lib.hid matTy
  have n1 := G.n1
  have c1 := G.c1
  have HG := Lib.hid G
  have C := Lib.hid (Steps_ok hM G)
  clear G
  go_enter Tryd.func49, Tryd.ntmps49
  go_wp2_with (go_at_call 31; fail)
  (with_reducible refine C.out.mono ?_)
  clear C
  rintro e w2 ⟨ao, co, ap, cp, P, ps, rfl, ho, hp, hi, hb2⟩
  have HI := Lib.hid hi
  have hP := ho.rd
  have hps := hp.rd
  clear ho hp hi
  have hMw := hM.below hb2
  obtain ⟨bm, om, rfl, am, cm, hm0, _⟩ := hMw.rowIn HG.out.dm (k := 0) (by omega)
  rw [Nat.add_zero] at hm0
  have b1 : (0 : Int) < (n : Int) := by omega
  have b2 : (1 : Int) ≤ (n : Int) := by omega
  have hpl : ps.length ≤ 5 := by have := HI.out.st.le; omega
  have hMh := Lib.hid hm0
  go_wp2
  clear hm0
  go_loopw [7, 25] (fun v x wr => ∃ (q : Nat) (al : Option Addr) (cl : Nat) (L : List (List Int)), q ≤ c ∧ x = .int .i64 q ∧ v = .slice al L.length cl ∧ OwM wr w2.heap.size 32 3 al L.length cl L ∧ Hid (Nul c q P ps L) ∧ Below w2.heap.size w2 wr) (fun _ x _ => c - (intOf x).toNat)
  case atStart => exact ⟨0, none, 0, [], Nat.zero_le _, rfl, rfl, OwM.nil _ _ _ _, Nul.start _ _ _, Below.refl _ _⟩
  case round =>
    obtain ⟨q, al, cl, L, hq, rfl, rfl, ho, hN, hb⟩ := hrel
    obtain ⟨wo, hwo⟩ : ∃ wo, wo = wr := ⟨_, rfl⟩
    subst hwo
    by_cases hqc : q < c
    · have hps := hps.below hb
      have hm0 := hb.keep (World.block_lt_of_cell? _ _ hMh.out) hMh.out
      have hLl : L.length ≤ q := by
        rw [hN.out.len]
        have := List.length_filter_le (fun (j : Nat) => !hasB (j : Int) ps) (List.range q)
        simp at this
        exact this
      have C := Lib.hid (Contains_any (q : Int) hps)
      have hsz := hb.size
      cases hbq : hasB (q : Int) ps
      · rw [hbq] at C
        have HB := Lib.hid hbq
        clear hbq
        go_wp2_with (first
          | (go_at_call 79; (with_reducible refine C.out.mono ?_); rintro e w' ⟨rfl, rfl⟩)
          | (refine wpList_make_ints HM.out.int rfl (.tmp 34) (.tmp 34) rfl rfl rfl (by omega) ?_; intro w4 ho4 hb4; obtain ⟨g4, hz, hg41, hg42, hc4, hf4⟩ := ho4.at (by omega); cases hz; have y3 := hc4 q hqc; have y4 := hf4 q; have hb5 := hb4.setCell (p := ⟨wo.heap.size, q, none⟩) (Nat.le_refl _) (.int .i64 1); clear hc4 hf4))
        clear C
        have ho5 := ho4.set (k := q) 1
        clear y3 y4 ho4 hb4
        generalize w4.setCell ⟨wo.heap.size, q, none⟩ (.int .i64 1) = w5 at *
        go_loopw [41] (fun v wt => ∃ (i : Nat) (xs : List Int), i ≤ ps.length ∧ v = .int .i64 i ∧ OwI wt wo.heap.size 3 (some ⟨wo.heap.size, 0, none⟩) c c xs ∧ Hid (NPart c P ps q i xs) ∧ Below wo.heap.size wo wt) (fun v _ => ps.length - (intOf v).toNat)
        case atStart => exact ⟨0, _, Nat.zero_le _, rfl, ho5, NPart.start P ps hqc, hb5⟩
        case round =>
          clear ho5 hb5 hm0
          obtain ⟨i, xs, hi, rfl, hx, hX, hbt⟩ := hrel
          by_cases hir : i < ps.length
          · have hir' : (i : Int) < (ps.length : Int) := by omega
            have hin : i < n := by have := HI.out.st.le; omega
            have hin' : (i : Int) < (n : Int) := by omega
            have hqc' : (q : Int) < (c : Int) := by omega
            have kt := hb.trans (hbt.mono hsz)
            obtain ⟨bp, op, rfl, _, hcp⟩ := (hps.below hbt).at hir
            replace hcp := hcp i hir
            have hpi : ix ps i = (natsOf ps i : Int) := by unfold natsOf; have := HI.out.pos i hir; omega
            have hpc : natsOf ps i < c := HI.out.st.lt i hir
            rw [hpi] at hcp
            have HS := Lib.hid (hX.out.step HI.out.st HI.out.pos HB.out hir)
            clear hpi
            generalize natsOf ps i = p at hcp hpc HS
            have hpc' : (p : Int) < (c : Int) := by omega
            obtain ⟨bP, oP, rfl, ar, cr, hcr, hrd⟩ := (hP.below kt).rowIn HI.out.dm hin
            obtain ⟨br, or_, rfl, _, hce⟩ := hrd.at hqc
            replace hce := hce q hqc
            rw [show ix (rowOf P i) q = en P i q from rfl] at hce
            have be := HI.out.ent i q hin hqc
            generalize en P i q = E at hce be HS
            obtain ⟨g5, hz, _, _, hcx, hfx⟩ := hx.at (by omega)
            cases hz
            replace hcx := hcx p hpc
            replace hfx := hfx p
            have u1 : IntKind.i64.wrap (-E) = -E := Go.IntWalk.i64_in _ (by omega)
            clear hrd
            go_wp2_with (go_at_call 68; refine (Field_any _ _).mono ?_; rintro e w' ⟨rfl, rfl⟩)
            go_roundw
            case rel => exact ⟨i + 1, _, by omega, by go_num, hx.set _, HS, hbt.setCell (p := ⟨wo.heap.size, p, none⟩) (Nat.le_refl _) _⟩
            case measure => simp [intOf]; omega
          · obtain rfl : i = ps.length := by omega
            go_wp2_with (at_builtin; refine wpList_push_row HM.out rfl (.tmp 59) (.tmp 61) rfl rfl rfl ho (hbt.alloc hbt.size _) (hx.below ((Below.refl _ _).alloc (Nat.le_refl _) _)) (by rw [World.cell?_alloc_at _ _ _ _ (by simp)]; rfl) (by omega) hsz ?_; intro a5 cap5 w5 ho5 hb6)
            have hb7 := ((hb.trans (hbt.mono hsz)).alloc (by have := hbt.size; omega) _).trans hb6
            have e1 : (L ++ [xs]).length = L.length + 1 := by simp
            go_roundw
            case rel => exact ⟨q + 1, a5, cap5, L ++ [xs], by omega, by go_num, by rw [e1], by rw [e1]; exact ho5, hN.out.push HB.out ⟨hX.out.len, hX.out.one, hX.out.piv, hX.out.zer⟩, hb7⟩
            case measure => simp [intOf]; omega
      · rw [hbq] at C
        have HB := Lib.hid hbq
        clear hbq
        go_wp2_with (first
          | (go_at_call 79; (with_reducible refine C.out.mono ?_); rintro e w' ⟨rfl, rfl⟩))
        clear C
        go_roundw
        case rel => exact ⟨q + 1, al, cl, L, by omega, by go_num, rfl, ho, hN.out.pass HB.out, hb⟩
        case measure => simp [intOf]; omega
    · obtain rfl : q = c := by omega
      go_wp2
      go_ret2
      exact ⟨al, cl, L, P, ps, rfl, ho.mono hb2.size, HI.out, hN.out, below_tr hb2 hb⟩
end Go.Proofs.YtkielldinghmbaaDoor
namespace Go.Proofs.YtkielldinghmbaaDoor
open Go.RowKit Go.Rk

/-- What is null stays null. -/
theorem _root_.Go.Rk.Made.null {n c : Nat} {A B : Mx} (h : Made n c A B) {v : Nat → Int} (hv : ∀ i, i < n → Eqm (sumTo (fun j => A i j * v j) c) 0) {i : Nat} (hi : i < n) : Eqm (sumTo (fun j => B i j * v j) c) 0 := by
  obtain ⟨K, hK⟩ := h
  have e1 : Eqm (sumTo (fun j => B i j * v j) c) (sumTo (fun j => sumTo (fun k => K i k * (A k j * v j)) n) c) := sumTo_eqm fun j hj => by
    refine (Eqm.mul (hK i j hi hj) (Eqm.refl (v j))).trans (Eqm.of_eq ?_)
    show sumTo (fun k => K i k * A k j) n * v j = _
    rw [Int.mul_comm, ← sumTo_mul]
    exact sumTo_congr fun k _ => by rw [Int.mul_comm, Int.mul_assoc]
  refine e1.trans ?_
  rw [sumTo_swap]
  have e2 : Eqm (sumTo (fun k => sumTo (fun j => K i k * (A k j * v j)) c) n) (sumTo (fun _ => 0) n) := sumTo_eqm fun k hk => by
    rw [sumTo_mul]
    have := Eqm.mul (Eqm.refl (K i k)) (hv k hk)
    rwa [Int.mul_zero] at this
  rw [sumTo_zero] at e2
  exact e2

/-- What is null and has nothing in the free columns is nothing. -/
theorem null_zero {n c : Nat} {R : Mx} {ps : List Int} (st : Stairs n c ps.length R (natsOf ps)) (hp : ∀ i, i < ps.length → 0 ≤ ix ps i) {v : Nat → Int} (hv : ∀ i, i < n → Eqm (sumTo (fun j => R i j * v j) c) 0) (hf : ∀ j, j < c → hasB (j : Int) ps = false → Eqm (v j) 0) {j : Nat} (hj : j < c) : Eqm (v j) 0 := by
  cases hb : hasB (j : Int) ps
  · exact hf j hj hb
  · obtain ⟨i, hi, rfl⟩ := (hasB_pos hp).1 hb
    have hin : i < n := by have := st.le; omega
    have e1 : Eqm (sumTo (fun j => R i j * v j) c) (sumTo (fun j => (if natsOf ps i = j then 1 else 0) * v j) c) := sumTo_eqm fun j hj => by
      cases hb2 : hasB (j : Int) ps
      · have := Eqm.mul (Eqm.refl (R i j)) (hf j hj hb2)
        rw [Int.mul_zero] at this
        refine this.trans ?_
        have := Eqm.mul (Eqm.refl (if natsOf ps i = j then (1 : Int) else 0)) (hf j hj hb2)
        rw [Int.mul_zero] at this
        exact this.symm
      · obtain ⟨k, hk, rfl⟩ := (hasB_pos hp).1 hb2
        refine (Eqm.mul (st.one i k hin hk) (Eqm.refl _)).trans (Eqm.of_eq ?_)
        by_cases e : i = k
        · subst e; rw [if_pos rfl, if_pos rfl]
        · rw [if_neg e, if_neg fun e2 => ?_]
          rcases Nat.lt_trichotomy i k with h1 | h1 | h1
          · have := st.inc i k h1 hk; omega
          · exact e h1
          · have := st.inc k i h1 hi; omega
    rw [sumTo_pick v hj] at e1
    exact e1.symm.trans (hv i hin)

def augL (n : Nat) (P : List (List Int)) (T : List Int) : List (List Int) := (List.range n).map fun i => rowOf P i ++ [ix T i]
section
variable {n c q : Nat} {A : Mx} {P M : List (List Int)} {T t ps : List Int}
theorem augL_row {i : Nat} (hi : i < n) : rowOf (augL n P T) i = rowOf P i ++ [ix T i] := by
  unfold augL
  rw [rowOf_lt (by simp; exact hi)]
  simp
theorem augL_dm (h : Dm n c P) : Dm n (c + 1) (augL n P T) := ⟨by simp [augL], fun i hi => by rw [augL_row hi, List.length_append, h.2 i hi]; rfl⟩
theorem augL_l (h : Dm n c P) {i j : Nat} (hi : i < n) (hj : j < c) : en (augL n P T) i j = en P i j := by
  unfold en
  rw [augL_row hi, ix_append_left (by rw [h.2 i hi]; exact hj)]
theorem augL_r (h : Dm n c P) {i : Nat} (hi : i < n) : en (augL n P T) i c = ix T i := by
  unfold en
  rw [augL_row hi, ix_append_right (by rw [h.2 i hi]; exact Nat.le_refl _), h.2 i hi, Nat.sub_self]
  rfl
theorem aug_ext {N : List (List Int)} (h : Dm n c P) (hN : Dm n (c + 1) N) (e1 : ∀ i j, i < n → j < c → en N i j = en P i j) (e2 : ∀ i, i < n → en N i c = ix T i) : N = augL n P T := hN.ext (augL_dm h) fun i j hi hj => by
  rcases Nat.lt_or_ge j c with h1 | h1
  · rw [augL_l h hi h1]; exact e1 i j hi h1
  · obtain rfl : j = c := by omega
    rw [augL_r h hi]; exact e2 i hi

/-- What holds when the first q columns are done. -/
structure RInv (n c : Nat) (A : Mx) (q : Nat) (P : List (List Int)) (T ps : List Int) : Prop where
  inv : GInv n (c + 1) A q (augL n P T) ps
  dP : Dm n c P
  lT : T.length = n

theorem RInv.eP (h : RInv n c A q P T ps) : EntR 0 9972 n c P := fun i j hi hj => by
  have := h.inv.ent i j hi (by omega)
  rwa [augL_l h.dP hi hj] at this
theorem RInv.eT (h : RInv n c A q P T ps) : In 0 9972 T := fun i hi => by
  rw [h.lT] at hi
  have := h.inv.ent i c hi (by omega)
  rwa [augL_r h.dP hi] at this
theorem RInv.start (hd : Dm n c M) (he : EntR 0 9972 n c M) (hl : t.length = n) (ht : In 0 9972 t) : RInv n c (mx (augL n M t)) 0 M t [] :=
  ⟨GInv.start (augL_dm hd) fun i j hi hj => by
    rcases Nat.lt_or_ge j c with h1 | h1
    · rw [augL_l hd hi h1]; exact he i j hi h1
    · obtain rfl : j = c := by omega
      rw [augL_r hd hi]; exact ht i (by rw [hl]; exact hi), hd, hl⟩
theorem RInv.pass (h : RInv n c A q P T ps) (hq : q < c) (hz : ∀ i, ps.length ≤ i → i < n → en P i q = 0) : RInv n c A (q + 1) P T ps :=
  ⟨h.inv.pass fun i h1 h2 => by rw [augL_l h.dP h2 hq]; exact hz i h1 h2, h.dP, h.lT⟩
theorem RInv.swap (h : RInv n c A q P T ps) {k : Nat} (h1 : ps.length ≤ k) (hk : k < n) : RInv n c A q (swapL P ps.length k) ((T.set ps.length (ix T k)).set k (ix T ps.length)) ps := by
  have hr : ps.length < n := by omega
  have hs := h.inv.swap h1 hk
  have e : swapL (augL n P T) ps.length k = augL n (swapL P ps.length k) ((T.set ps.length (ix T k)).set k (ix T ps.length)) := by
    refine aug_ext (h.dP.swap hr hk) hs.dm (fun i j hi hj => ?_) fun i hi => ?_
    · rw [en_swap h.inv.dm hr hk, en_swap h.dP hr hk]
      exact augL_l h.dP (swap_lt hr hk hi) hj
    · rw [en_swap h.inv.dm hr hk, augL_r h.dP (swap_lt hr hk hi), ix_set, ix_set]
      by_cases e1 : i = k
      · rw [if_pos e1, if_pos ⟨e1.symm, by rw [List.length_set, h.lT]; omega⟩]
      · by_cases e2 : i = ps.length
        · rw [if_neg e1, if_pos e2, if_neg (fun x => e1 x.1.symm), if_pos ⟨e2.symm, by rw [h.lT]; omega⟩]
        · rw [if_neg e1, if_neg e2, if_neg (fun x => e1 x.1.symm), if_neg (fun x => e2 x.1.symm)]
  rw [e] at hs
  exact ⟨hs, h.dP.swap hr hk, by rw [List.length_set, List.length_set, h.lT]⟩

/-- What clearing a column makes of the right side. -/
def clearT (P : List (List Int)) (T : List Int) (r q i : Nat) : Int :=
  if i = r then ix T r * powm (en P r q) 9971 % 9973 else (ix T i - en P i q * (ix T r * powm (en P r q) 9971 % 9973)) % 9973
theorem RInv.clear (h : RInv n c A q P T ps) (hr : ps.length < n) (hq : q < c) (hp : en P ps.length q ≠ 0) {P2 : List (List Int)} {T2 : List Int} (hi : IsR n c P2 (clearE P ps.length q)) (hl : T2.length = n) (ht : ∀ i, i < n → ix T2 i = clearT P T ps.length q i) : RInv n c A (q + 1) P2 T2 (ps ++ [(q : Int)]) := by
  refine ⟨h.inv.clear hr (by omega) (by rw [augL_l h.dP hr hq]; exact hp) ⟨augL_dm hi.1, fun i j h1 h2 => ?_⟩, hi.1, hl⟩
  unfold clearE
  rw [augL_l h.dP hr hq, augL_l h.dP h1 hq]
  rcases Nat.lt_or_ge j c with h3 | h3
  · rw [augL_l hi.1 h1 h3, augL_l h.dP hr h3, augL_l h.dP h1 h3]
    exact hi.2 i j h1 h3
  · obtain rfl : j = c := by omega
    rw [augL_r hi.1 h1, augL_r h.dP hr, augL_r h.dP h1]
    exact ht i h1

/-- In the end the left side is in steps by itself. -/
theorem RInv.left (hd : Dm n c M) (h : RInv n c (mx (augL n M t)) c P T ps) : GInv n c (mx M) c P ps := by
  have eM : EqM n c (mx M) (mx (augL n M t)) := fun i j hi hj => Eqm.of_eq (augL_l hd hi hj).symm
  have eP : EqM n c (mx P) (mx (augL n P T)) := fun i j hi hj => Eqm.of_eq (augL_l h.dP hi hj).symm
  have st := h.inv.st
  refine ⟨h.dP, h.eP, (Made.eqm eM).trans ((h.inv.made.cols (Nat.le_succ c)).trans (Made.eqm eP.symm)), (Made.eqm eP).trans ((h.inv.back.cols (Nat.le_succ c)).trans (Made.eqm eM.symm)), ⟨st.le, st.lt, st.inc, fun i j hi hj => ?_, fun i s h1 h2 h3 => ?_, fun i s h1 h2 => ?_⟩, h.inv.pos⟩
  · exact (eP i _ hi (st.lt j hj)).trans (st.one i j hi hj)
  · exact (eP i s h2 h3).trans (st.low i s h1 h2 h3)
  · have h5 := st.lt i h1
    exact (eP i s (by have := st.le; omega) (by omega)).trans (st.lead i s h1 h2)

/-- What is told: the right side at the steps, 0 elsewhere. -/
structure XRow (c : Nat) (T ps x : List Int) : Prop where
  len : x.length = c
  piv : ∀ i, i < ps.length → ix x (natsOf ps i) = ix T i
  zer : ∀ j, j < c → hasB (j : Int) ps = false → ix x j = 0

theorem XRow.range {x : List Int} (h : XRow c T ps x) (hT : In 0 9972 T) (hle : ps.length ≤ T.length) (hp : ∀ i, i < ps.length → 0 ≤ ix ps i) : In 0 9972 x := by
  intro j hj
  rw [h.len] at hj
  cases hb : hasB (j : Int) ps
  · rw [h.zer j hj hb]; omega
  · obtain ⟨i, hi, e⟩ := (hasB_pos hp).1 hb
    rw [← e, h.piv i hi]
    exact hT i (by omega)

/-- A row and -1 behind it. -/
def withM (y : Nat → Int) (c : Nat) : Nat → Int := fun j => if j < c then y j else -1
theorem aug_null (h : Dm n c P) (y : Nat → Int) {i : Nat} (hi : i < n) : sumTo (fun j => mx (augL n P T) i j * withM y c j) (c + 1) = sumTo (fun j => en P i j * y j) c - ix T i := by
  rw [sumTo]
  have e1 : mx (augL n P T) i c * withM y c c = -ix T i := by
    show en (augL n P T) i c * _ = _
    rw [augL_r h hi]
    unfold withM
    rw [if_neg (Nat.lt_irrefl _)]
    omega
  rw [e1, sumTo_congr (h := fun j => en P i j * y j) fun j hj => by
    show en (augL n P T) i j * _ = _
    rw [augL_l h hi hj]
    unfold withM
    rw [if_pos hj]]
  omega

/-- If anything is taken to the right side, what is told is. -/
theorem solves {x : List Int} (hd : Dm n c M) (h : RInv n c (mx (augL n M t)) c P T ps) (hx : XRow c T ps x) {y : Nat → Int} (hy : ∀ i, i < n → Eqm (sumTo (fun j => en M i j * y j) c) (ix t i)) {i : Nat} (hi : i < n) : Eqm (sumTo (fun j => en M i j * ix x j) c) (ix t i) := by
  have st : Stairs n c ps.length (mx P) (natsOf ps) := (h.left hd).st
  have hp := h.inv.pos
  -- what solves, solves the steps
  have n1 : ∀ i, i < n → Eqm (sumTo (fun j => mx (augL n P T) i j * withM y c j) (c + 1)) 0 := fun i hi => h.inv.made.null (v := withM y c) (fun k hk => by
    rw [aug_null hd y hk]
    have := Eqm.sub (hy k hk) (Eqm.refl (ix t k))
    rwa [Int.sub_self] at this) hi
  -- what is told does
  have n2 : ∀ i, i < n → Eqm (sumTo (fun j => en P i j * ix x j) c) (ix T i) := fun i hi => by
    have e1 : ∀ j, j < c → ix x j = sumTo (fun k => (if natsOf ps k = j then 1 else 0) * ix T k) ps.length := fun j hj => by
      cases hb : hasB (j : Int) ps
      · rw [hx.zer j hj hb, sumTo_congr (h := fun _ => 0) fun k hk => by rw [if_neg (fun e => by rw [(hasB_pos hp).2 ⟨k, hk, e⟩] at hb; cases hb), Int.zero_mul]]
        exact (sumTo_zero _).symm
      · obtain ⟨k, hk, rfl⟩ := (hasB_pos hp).1 hb
        rw [hx.piv k hk, sumTo_congr (h := fun m => (if k = m then 1 else 0) * ix T m) fun m hm => ?_]
        · exact (sumTo_pick (fun m => ix T m) hk).symm
        · by_cases e3 : k = m
          · rw [if_pos (by rw [e3]), if_pos e3]
          · rw [if_neg fun e4 => ?_, if_neg e3]
            rcases Nat.lt_trichotomy k m with h1 | h1 | h1
            · have := st.inc k m h1 hm; omega
            · exact e3 h1
            · have := st.inc m k h1 hk; omega
    have e2 : sumTo (fun j => en P i j * ix x j) c = sumTo (fun k => en P i (natsOf ps k) * ix T k) ps.length := by
      rw [sumTo_congr (h := fun j => sumTo (fun k => (if natsOf ps k = j then 1 else 0) * (en P i j * ix T k)) ps.length) fun j hj => by
        rw [e1 j hj, ← sumTo_mul]
        exact sumTo_congr fun k _ => by grind, sumTo_swap]
      exact sumTo_congr fun k hk => sumTo_pick (fun j => en P i j * ix T k) (st.lt k hk)
    rw [e2]
    have e3 : Eqm (sumTo (fun k => en P i (natsOf ps k) * ix T k) ps.length) (sumTo (fun k => (if i = k then 1 else 0) * ix T k) ps.length) := sumTo_eqm fun k hk => Eqm.mul (st.one i k hi hk) (Eqm.refl _)
    refine e3.trans ?_
    rcases Nat.lt_or_ge i ps.length with h1 | h1
    · rw [sumTo_pick (fun k => ix T k) h1]
      exact Eqm.refl _
    · rw [sumTo_congr (h := fun _ => 0) fun k hk => by rw [if_neg (by omega), Int.zero_mul], sumTo_zero]
      have := n1 i hi
      rw [aug_null h.dP y hi] at this
      have e4 : Eqm (sumTo (fun j => en P i j * y j) c) (sumTo (fun _ => 0) c) := sumTo_eqm fun j hj => by
        have := Eqm.mul (st.low i j h1 hi hj) (Eqm.refl (y j))
        rwa [Int.zero_mul] at this
      rw [sumTo_zero] at e4
      unfold Eqm at this e4 ⊢
      omega
  have n3 := h.inv.back.null (v := withM (ix x) c) (fun k hk => by
    rw [aug_null h.dP (ix x) hk]
    have := Eqm.sub (n2 k hk) (Eqm.refl (ix T k))
    rwa [Int.sub_self] at this) hi
  rw [aug_null hd (ix x) hi] at n3
  unfold Eqm at n3 ⊢
  omega
end
end Go.Proofs.YtkielldinghmbaaDoor
