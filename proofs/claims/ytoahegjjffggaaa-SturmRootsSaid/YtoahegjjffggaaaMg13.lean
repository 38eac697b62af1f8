/-
  The reference's Has and Sign walked.
  The sign by cycles is the sign by pairs; two that change places turn it.
  What a matrix takes to noughts: a row for each column that no step has. No program in sight.
  slices.Index and slices.Contains at []int walked.
  solve.Null walked.
  solve.scale, slices.Clone, slices.Equal, solve.product walked.
  A matrix with a right side: the steps of both together, and what solves it. No program in sight.
-/
import Derived.Test.YtoahegjjffggaaaRows
import Derived.StillTailTactics
import Derived.Test.YtoahegjjffggaaaMg0
import Derived.Test.YtoahegjjffggaaaMg2
import Derived.Test.YtoahegjjffggaaaMg3
import Derived.Test.YtoahegjjffggaaaMg6
import Derived.Test.YtoahegjjffggaaaMg7
import Derived.Test.YtoahegjjffggaaaMg10
import Derived.Test.YtoahegjjffggaaaMg12
namespace Go.Proofs.Ytoahegjjffggaaa
open Go.RowKit Go.Rk

def hasB (n : Int) (l : List Int) : Bool := l.any (· == n)
theorem hasB_iff {n : Int} {l : List Int} : hasB n l = true ↔ ∃ p, p < l.length ∧ ix l p = n := by
  unfold hasB
  rw [List.any_eq_true]
  constructor
  · rintro ⟨x, hx, e⟩
    obtain ⟨p, hp, rfl⟩ := List.getElem_of_mem hx
    exact ⟨p, hp, by rw [ix_lt hp]; exact beq_iff_eq.1 e⟩
  · rintro ⟨p, hp, e⟩
    exact ⟨_, ix_mem hp, beq_iff_eq.2 e⟩

theorem R_Has_any {a : Option Addr} {len cap : Nat} {l : List Int} (n : Int) {w : World} (h : RdI w a len cap l) :
    Calls Try.prog 23 #[.slice a len cap, .int .i64 n] w fun e w' => e = .returned (.bool (hasB n l)) ∧ w = w' := by
  have hm := h.len_max
  go_enter Try.func23, Try.ntmps23
  go_wp2
  go_loop [5] (fun i => ∃ k : Nat, k ≤ len ∧ i = .int .i64 k ∧ Hid (∀ p, p < k → ix l p ≠ n)) (fun i => len - (intOf i).toNat)
  case atStart => exact ⟨0, Nat.zero_le _, rfl, fun p hp => absurd hp (Nat.not_lt_zero _)⟩
  case round =>
    obtain ⟨k, hk, rfl, hno⟩ := hrel
    by_cases hlt : k < len
    · obtain ⟨b, off, rfl, _, hc⟩ := h.at hlt
      have hc := hc k hlt
      by_cases ho : ix l k = n
      · have z : (ix l k == n) = true := beq_iff_eq.2 ho
        have Ho := Lib.hid ho
        clear ho
        go_wp2
        go_ret
        exact ⟨congrArg (fun b => Ending.returned (.bool b)) (hasB_iff.2 ⟨k, by rw [h.len_eq]; exact hlt, Ho.out⟩).symm, rfl⟩
      · have z : (ix l k == n) = false := beq_eq_false_iff_ne.2 ho
        have Ho := Lib.hid ho
        clear ho
        go_wp2
        go_round
        case rel => exact ⟨k + 1, by omega, by go_num, fun p hp => by
          rcases Nat.lt_or_ge p k with h1 | h1
          · exact hno.out p h1
          · obtain rfl : p = k := by omega
            exact Ho.out⟩
        case measure => simp [intOf]; omega
    · go_wp2
      go_ret
      refine ⟨congrArg (fun b => Ending.returned (.bool b)) (Bool.eq_false_iff.2 fun e => ?_).symm, rfl⟩
      obtain ⟨p, hp, e⟩ := hasB_iff.1 e
      exact hno.out p (by rw [h.len_eq] at hp; omega) e

/-- The sign by the pairs, as the reference counts it. -/
def turnI (l : List Int) (k i : Nat) : Int := if ix l i < ix l k then -1 else 1

theorem prodTo_pm {g : Nat → Int} {n : Nat} (h : ∀ i, i < n → g i = 1 ∨ g i = -1) : prodTo g n = 1 ∨ prodTo g n = -1 := by
  induction n with
  | zero => exact .inl rfl
  | succ n ih =>
    rw [prodTo]
    rcases ih fun i hi => h i (by omega) with e | e <;> rcases h n (by omega) with e2 | e2 <;> rw [e, e2] <;> simp
theorem turnI_pm (l : List Int) (k i : Nat) : turnI l k i = 1 ∨ turnI l k i = -1 := by unfold turnI; split <;> simp
theorem pairs_pm (l : List Int) (n : Nat) : pairs (turnI l) n = 1 ∨ pairs (turnI l) n = -1 := prodTo_pm fun i _ => prodTo_pm fun k _ => turnI_pm l k i

end Go.Proofs.Ytoahegjjffggaaa
namespace Go.Proofs.Ytoahegjjffggaaa
open Go.RowKit Go.Rk

def natsOf (l : List Int) : Nat → Nat := fun j => (ix l j).toNat

theorem pairs_congr {F G : Nat → Nat → Int} {n : Nat} (h : ∀ k i, k < i → i < n → F k i = G k i) : pairs F n = pairs G n :=
  prodTo_congr fun i hi => prodTo_congr fun k hk => h k i hk hi

theorem signC_ord {l : List Int} {n : Nat} (e : l.length = n) (h : okN l n n = true) : signC l = det n (pm (natsOf l)) := by
  unfold signC
  rw [e, if_pos h]
  exact cycN_det (okN_ord h).1

theorem pairs_turn {l : List Int} {n : Nat} (h : okN l n n = true) : pairs (turnI l) n = det n (pm (natsOf l)) := by
  have h1 := okN_ord h
  rw [show natsOf l = fun j => (ix l j).toNat from rfl, det_pairs h1.1]
  refine pairs_congr fun k i hk hi => ?_
  have a := h1.2 k (by omega)
  have b := h1.2 i hi
  unfold turnI turnF
  dsimp only
  by_cases c : ix l i < ix l k
  · rw [if_pos c, if_pos (by omega)]
  · rw [if_neg c, if_neg (by omega)]

theorem okN_has {l : List Int} {n : Nat} (e : l.length = n) : okN l n n = true ↔ ∀ i : Nat, i < n → hasB i l = true := by
  constructor
  · intro h i hi
    have h1 := okN_ord h
    obtain ⟨p, hp, hpi⟩ := Ord.onto h1.1 i hi
    have := h1.2 p hp
    exact hasB_iff.2 ⟨p, by omega, by omega⟩
  · intro h
    have h1 := has_ord (l := l) (n := n) fun i hi => by
      obtain ⟨p, hp, e2⟩ := hasB_iff.1 (h i hi)
      exact ⟨p, by omega, e2⟩
    exact ord_okN h1.1 h1.2 n (Nat.le_refl _)

theorem sign_is {l : List Int} {n : Nat} (e : l.length = n) : (if (∀ i : Nat, i < n → hasB i l = true) then pairs (turnI l) n else 0) = signC l := by
  by_cases h : okN l n n = true
  · rw [if_pos ((okN_has e).1 h), pairs_turn h, signC_ord e h]
  · rw [if_neg fun h2 => h ((okN_has e).2 h2)]
    unfold signC
    rw [e, if_neg h]

theorem signC_pm (l : List Int) : signC l = 0 ∨ signC l = 1 ∨ signC l = -1 := by
  unfold signC
  split
  · exact .inr (cycN_len l _ _).2
  · exact .inl rfl
theorem signC_ok {l : List Int} {n : Nat} (e : l.length = n) (h : signC l ≠ 0) : okN l n n = true := by
  unfold signC at h
  rw [e] at h
  by_cases h2 : okN l n n = true
  · exact h2
  · rw [if_neg h2] at h; exact absurd rfl h

theorem natsOf_swap {l : List Int} {i j : Nat} (hi : i < l.length) (hj : j < l.length) : natsOf ((l.set i (ix l j)).set j (ix l i)) = swapN (natsOf l) i j := by
  funext r
  unfold natsOf swapN
  rw [ix_set, ix_set, List.length_set]
  by_cases h1 : r = j
  · subst h1
    rw [if_pos ⟨rfl, hj⟩, if_pos rfl]
  · rw [if_neg fun h => h1 h.1.symm, if_neg h1]
    by_cases h2 : r = i
    · subst h2
      rw [if_pos ⟨rfl, hi⟩, if_pos rfl]
    · rw [if_neg fun h => h2 h.1.symm, if_neg h2]

/-- Two that change places turn the sign. -/
theorem signC_swap {l : List Int} {i j : Nat} (h0 : signC l ≠ 0) (hi : i < l.length) (hj : j < l.length) (hij : i ≠ j) : signC ((l.set i (ix l j)).set j (ix l i)) = -signC l := by
  have h := signC_ok rfl h0
  have h1 := okN_ord h
  have e : ((l.set i (ix l j)).set j (ix l i)).length = l.length := by simp
  have hO : Ord l.length (natsOf ((l.set i (ix l j)).set j (ix l i))) := by
    rw [natsOf_swap hi hj]
    exact Ord.swap h1.1 hi hj
  have h2 : okN ((l.set i (ix l j)).set j (ix l i)) l.length l.length = true := by
    refine ord_okN hO (fun r hr => ?_) _ (Nat.le_refl _)
    rw [ix_set, ix_set]
    split
    · exact h1.2 i hi
    · split
      · exact h1.2 j hj
      · exact h1.2 r hr
  rw [signC_ord e h2, signC_ord rfl h, natsOf_swap hi hj, det_pm_swap _ hij hi hj]

/-- The matrix of an order. -/
def matO (l : List Int) (n : Nat) : List (List Int) := (List.range n).map fun r => (List.replicate n 0).set (natsOf l r) 1
end Go.Proofs.Ytoahegjjffggaaa
namespace Go.Proofs.Ytoahegjjffggaaa
open Go.RowKit Go.Rk

theorem getD_lt {l : List Nat} {t : Nat} (h : t < l.length) : l.getD t 0 = l[t] := by simp [List.getD, h]
/-- The columns below q that no step has. -/
def freeN (ps : List Int) (q : Nat) : List Nat := (List.range q).filter fun (j : Nat) => !hasB (j : Int) ps
theorem freeN_succ (ps : List Int) (q : Nat) : freeN ps (q + 1) = if hasB (q : Int) ps = true then freeN ps q else freeN ps q ++ [q] := by
  unfold freeN
  rw [List.range_succ, List.filter_append]
  split
  · next h => simp [h]
  · next h => simp [h]
/-- Free column t. -/
def freeAt (ps : List Int) (q t : Nat) : Nat := (freeN ps q).getD t 0
theorem freeAt_mem {ps : List Int} {q t : Nat} (h : t < (freeN ps q).length) : freeAt ps q t < q ∧ hasB (freeAt ps q t : Int) ps = false := by
  have : freeAt ps q t ∈ freeN ps q := by
    unfold freeAt
    rw [getD_lt h]
    exact List.getElem_mem h
  unfold freeN at this
  rw [List.mem_filter] at this
  exact ⟨List.mem_range.1 this.1, by simpa using this.2⟩
theorem freeAt_inj {ps : List Int} {q t s : Nat} (h : t < (freeN ps q).length) (k : s < (freeN ps q).length) (e : freeAt ps q t = freeAt ps q s) : t = s := by
  unfold freeAt at e
  rw [getD_lt h, getD_lt k] at e
  have hn : (freeN ps q).Nodup := List.Pairwise.filter _ List.nodup_range
  have hp := List.pairwise_iff_getElem.1 hn
  rcases Nat.lt_trichotomy t s with h1 | h1 | h1
  · exact absurd e (hp t s h k h1)
  · exact h1
  · exact absurd e.symm (hp s t k h h1)
theorem freeAt_onto {ps : List Int} {q j : Nat} (hj : j < q) (h : hasB (j : Int) ps = false) : ∃ t, t < (freeN ps q).length ∧ freeAt ps q t = j := by
  have : j ∈ freeN ps q := by
    unfold freeN
    rw [List.mem_filter]
    exact ⟨List.mem_range.2 hj, by simp [h]⟩
  obtain ⟨t, ht, e⟩ := List.getElem_of_mem this
  exact ⟨t, ht, by unfold freeAt; rw [getD_lt ht]; exact e⟩

/-- A row of the free column f. -/
structure NRow (c : Nat) (P : List (List Int)) (ps : List Int) (f : Nat) (x : List Int) : Prop where
  len : x.length = c
  one : ix x f = 1
  piv : ∀ i, i < ps.length → ix x (natsOf ps i) = -en P i f % 9973
  zer : ∀ j, j < c → j ≠ f → hasB (j : Int) ps = false → ix x j = 0

/-- A row for each free column below q. -/
structure Nul (c q : Nat) (P : List (List Int)) (ps : List Int) (L : List (List Int)) : Prop where
  len : L.length = (freeN ps q).length
  row : ∀ t, t < L.length → NRow c P ps (freeAt ps q t) (rowOf L t)

section
variable {n c q f : Nat} {A : Mx} {P L : List (List Int)} {ps x : List Int}
theorem hasB_pos (hp : ∀ i, i < ps.length → 0 ≤ ix ps i) {j : Nat} : hasB (j : Int) ps = true ↔ ∃ i, i < ps.length ∧ natsOf ps i = j := by
  rw [hasB_iff]
  constructor
  · rintro ⟨i, hi, e⟩
    exact ⟨i, hi, by unfold natsOf; omega⟩
  · rintro ⟨i, hi, e⟩
    have := hp i hi
    exact ⟨i, hi, by unfold natsOf at e; omega⟩

theorem Nul.start (c : Nat) (P : List (List Int)) (ps : List Int) : Nul c 0 P ps [] := ⟨rfl, fun _ h => absurd h (Nat.not_lt_zero _)⟩
theorem Nul.pass (h : Nul c q P ps L) (hq : hasB (q : Int) ps = true) : Nul c (q + 1) P ps L := by
  have e : freeN ps (q + 1) = freeN ps q := by rw [freeN_succ, if_pos hq]
  exact ⟨by rw [e]; exact h.len, fun t ht => by unfold freeAt; rw [e]; exact h.row t ht⟩
theorem Nul.push (h : Nul c q P ps L) (hq : hasB (q : Int) ps = false) (hx : NRow c P ps q x) : Nul c (q + 1) P ps (L ++ [x]) := by
  have e : freeN ps (q + 1) = freeN ps q ++ [q] := by rw [freeN_succ, if_neg (by rw [hq]; simp)]
  refine ⟨by rw [e, List.length_append, List.length_append, h.len]; rfl, fun t ht => ?_⟩
  unfold freeAt
  rw [e]
  rw [List.length_append] at ht
  simp at ht
  rcases Nat.lt_or_ge t L.length with h1 | h1
  · rw [rowOf_append_left h1]
    have h2 : t < (freeN ps q).length := by rw [← h.len]; exact h1
    have := h.row t h1
    unfold freeAt at this
    rw [getD_lt h2] at this
    rw [getD_lt (by rw [List.length_append]; omega), List.getElem_append_left h2]
    exact this
  · obtain rfl : t = L.length := by omega
    rw [rowOf_append_right (Nat.le_refl _), Nat.sub_self]
    have h2 : L.length = (freeN ps q).length := h.len
    rw [getD_lt (by rw [List.length_append]; simp [h2]), List.getElem_append_right (by omega)]
    simp only [h2, Nat.sub_self, List.getElem_cons_zero]
    exact hx

/-- As many as columns: steps and free columns. -/
theorem free_count {R : Mx} (h : Stairs n c ps.length R (natsOf ps)) (hp : ∀ i, i < ps.length → 0 ≤ ix ps i) : (freeN ps c).length + ps.length = c := by
  have key : ∀ q, q ≤ c → ∃ m, m ≤ ps.length ∧ (∀ i, i < m → natsOf ps i < q) ∧ (∀ i, m ≤ i → i < ps.length → q ≤ natsOf ps i) ∧ (freeN ps q).length + m = q := by
    intro q
    induction q with
    | zero => intro _; exact ⟨0, Nat.zero_le _, fun i hi => absurd hi (Nat.not_lt_zero _), fun i _ _ => Nat.zero_le _, rfl⟩
    | succ q ih =>
      intro hq
      obtain ⟨m, h1, h2, h3, h4⟩ := ih (by omega)
      rw [freeN_succ]
      by_cases hb : hasB (q : Int) ps = true
      · obtain ⟨i, hi, e⟩ := (hasB_pos hp).1 hb
        have him : i = m := by
          rcases Nat.lt_trichotomy i m with hlt | rfl | hgt
          · have := h2 i hlt; omega
          · rfl
          · have := h.inc m i hgt hi
            have := h3 m (Nat.le_refl _) (by omega)
            omega
        subst him
        rw [if_pos hb]
        refine ⟨i + 1, hi, fun k hk => ?_, fun k hk hk2 => ?_, by omega⟩
        · rcases Nat.lt_or_ge k i with h5 | h5
          · have := h2 k h5; omega
          · obtain rfl : k = i := by omega
            omega
        · have := h.inc i k (by omega) hk2
          omega
      · rw [if_neg hb]
        refine ⟨m, h1, fun k hk => by have := h2 k hk; omega, fun k hk hk2 => ?_, by simp; omega⟩
        have h5 := h3 k hk hk2
        rcases Nat.lt_or_ge q (natsOf ps k) with h6 | h6
        · omega
        · exact absurd ((hasB_pos hp).2 ⟨k, hk2, by omega⟩) hb
  obtain ⟨m, h1, h2, h3, h4⟩ := key c (Nat.le_refl _)
  have : m = ps.length := by
    rcases Nat.lt_or_ge m ps.length with h5 | h5
    · have := h3 m (Nat.le_refl _) h5
      have := h.lt m h5
      omega
    · omega
  omega

theorem NRow.range (h : NRow c P ps f x) (hp : ∀ i, i < ps.length → 0 ≤ ix ps i) : In 0 9972 x := by
  intro j hj
  rw [h.len] at hj
  by_cases e : j = f
  · rw [e, h.one]; omega
  · cases hb : hasB (j : Int) ps
    · rw [h.zer j hj e hb]; omega
    · obtain ⟨i, hi, e2⟩ := (hasB_pos hp).1 hb
      rw [← e2, h.piv i hi]
      omega

/-- Such a row, as a sum. -/
theorem NRow.sum {R : Mx} (h : NRow c P ps f x) (st : Stairs n c ps.length R (natsOf ps)) (hp : ∀ i, i < ps.length → 0 ≤ ix ps i) (hf : hasB (f : Int) ps = false) {j : Nat} (hj : j < c) :
    Eqm (ix x j) ((if f = j then 1 else 0) - sumTo (fun k => (if natsOf ps k = j then 1 else 0) * en P k f) ps.length) := by
  cases hb : hasB (j : Int) ps
  · have e0 : sumTo (fun k => (if natsOf ps k = j then 1 else 0) * en P k f) ps.length = 0 := by
      rw [sumTo_congr (h := fun _ => 0) fun k hk => by rw [if_neg (fun e => by rw [(hasB_pos hp).2 ⟨k, hk, e⟩] at hb; cases hb), Int.zero_mul]]
      exact sumTo_zero _
    rw [e0, Int.sub_zero]
    by_cases e : f = j
    · rw [if_pos e, ← e, h.one]; exact Eqm.refl _
    · rw [if_neg e, h.zer j hj (fun x => e x.symm) hb]; exact Eqm.refl _
  · obtain ⟨i, hi, e⟩ := (hasB_pos hp).1 hb
    have hfj : f ≠ j := fun e2 => by rw [e2, hb] at hf; cases hf
    rw [if_neg hfj, ← e, h.piv i hi]
    have e1 : sumTo (fun k => (if natsOf ps k = natsOf ps i then 1 else 0) * en P k f) ps.length = en P i f := by
      rw [sumTo_congr (h := fun k => (if i = k then 1 else 0) * en P k f) fun k hk => ?_]
      · exact sumTo_pick (fun k => en P k f) hi
      · by_cases e3 : i = k
        · rw [if_pos (by rw [e3]), if_pos e3]
        · rw [if_neg fun e4 => ?_, if_neg e3]
          rcases Nat.lt_trichotomy i k with h1 | h1 | h1
          · have := st.inc i k h1 hk; omega
          · exact e3 h1
          · have := st.inc k i h1 hi; omega
    rw [e1, Int.zero_sub]
    exact Eqm.mod _

/-- It is taken to noughts by the steps. -/
theorem NRow.nought {R : Mx} (h : NRow c P ps f x) (st : Stairs n c ps.length R (natsOf ps)) (hR : R = mx P) (hp : ∀ i, i < ps.length → 0 ≤ ix ps i) (hf : hasB (f : Int) ps = false) (hfc : f < c) {i : Nat} (hi : i < n) : Eqm (sumTo (fun j => mx P i j * ix x j) c) 0 := by
  subst hR
  have e1 : Eqm (sumTo (fun j => mx P i j * ix x j) c) (sumTo (fun j => (if f = j then 1 else 0) * mx P i j + sumTo (fun k => -((if natsOf ps k = j then 1 else 0) * (mx P i j * en P k f))) ps.length) c) := sumTo_eqm fun j hj => by
    refine (Eqm.mul (Eqm.refl _) (h.sum st hp hf hj)).trans (Eqm.of_eq ?_)
    rw [Int.mul_sub, ← sumTo_mul, show sumTo (fun k => -((if natsOf ps k = j then 1 else 0) * (mx P i j * en P k f))) ps.length = sumTo (fun k => (-1) * (mx P i j * ((if natsOf ps k = j then 1 else 0) * en P k f))) ps.length from sumTo_congr fun k _ => by grind, sumTo_mul (-1)]
    grind
  refine e1.trans ?_
  rw [sumTo_add, sumTo_pick (fun j => mx P i j) hfc, sumTo_swap]
  have e2 : ∀ k, k < ps.length → sumTo (fun j => -((if natsOf ps k = j then 1 else 0) * (mx P i j * en P k f))) c = -(mx P i (natsOf ps k) * en P k f) := fun k hk => by
    rw [show (fun j => -((if natsOf ps k = j then 1 else 0) * (mx P i j * en P k f))) = fun j => (-1) * ((if natsOf ps k = j then 1 else 0) * (mx P i j * en P k f)) from funext fun j => by grind, sumTo_mul, sumTo_pick (fun j => mx P i j * en P k f) (st.lt k hk)]
    omega
  rw [sumTo_congr e2]
  have e3 : Eqm (sumTo (fun k => -(mx P i (natsOf ps k) * en P k f)) ps.length) (sumTo (fun k => (if i = k then 1 else 0) * -en P k f) ps.length) := sumTo_eqm fun k hk => by
    refine (Eqm.neg (Eqm.mul (st.one i k hi hk) (Eqm.refl (en P k f)))).trans (Eqm.of_eq ?_)
    grind
  refine (Eqm.add (Eqm.refl _) e3).trans ?_
  rcases Nat.lt_or_ge i ps.length with h1 | h1
  · rw [sumTo_pick (fun k => -en P k f) h1]
    exact Eqm.of_eq (by show en P i f + _ = 0; omega)
  · rw [sumTo_congr (h := fun _ => 0) fun k hk => by rw [if_neg (by omega), Int.zero_mul], sumTo_zero, Int.add_zero]
    exact st.low i f h1 hi hfc
end
end Go.Proofs.Ytoahegjjffggaaa
namespace Go.Proofs.Ytoahegjjffggaaa
open Go.RowKit Go.Rk

end Go.Proofs.Ytoahegjjffggaaa
namespace Go.Proofs.Ytoahegjjffggaaa
open Go.RowKit Go.Rk

/-- A row of a free column, of its first i steps. -/
structure NPart (c : Nat) (P : List (List Int)) (ps : List Int) (f i : Nat) (x : List Int) : Prop where
  len : x.length = c
  one : ix x f = 1
  piv : ∀ k, k < i → ix x (natsOf ps k) = -en P k f % 9973
  zer : ∀ j, j < c → j ≠ f → hasB (j : Int) ps = false → ix x j = 0

theorem NPart.start {c f : Nat} (P : List (List Int)) (ps : List Int) (hf : f < c) : NPart c P ps f 0 ((List.replicate c 0).set f 1) := by
  refine ⟨by simp, by rw [ix_set, if_pos ⟨rfl, by simp; exact hf⟩], fun _ h => absurd h (Nat.not_lt_zero _), fun j hj hne _ => ?_⟩
  rw [ix_set, if_neg fun e => hne e.1.symm, ix_lt (by simp; exact hj)]
  simp
theorem NPart.step {n c f i : Nat} {P : List (List Int)} {ps x : List Int} {R : Mx} (h : NPart c P ps f i x) (st : Stairs n c ps.length R (natsOf ps)) (hp : ∀ i, i < ps.length → 0 ≤ ix ps i) (hf : hasB (f : Int) ps = false) (hi : i < ps.length) : NPart c P ps f (i + 1) (x.set (natsOf ps i) (-en P i f % 9973)) := by
  have hl := st.lt i hi
  have hb : hasB (natsOf ps i : Int) ps = true := (hasB_pos hp).2 ⟨i, hi, rfl⟩
  refine ⟨by rw [List.length_set]; exact h.len, ?_, fun k hk => ?_, fun j hj hne hz => ?_⟩
  · rw [ix_set, if_neg fun e => by rw [e.1, hf] at hb; cases hb]
    exact h.one
  · rw [ix_set]
    rcases Nat.lt_or_ge k i with h1 | h1
    · rw [if_neg fun e => by have := st.inc k i h1 hi; omega]
      exact h.piv k h1
    · obtain rfl : k = i := by omega
      rw [if_pos ⟨rfl, by rw [h.len]; exact hl⟩]
  · rw [ix_set, if_neg fun e => by rw [e.1, hz] at hb; cases hb]
    exact h.zer j hj hne hz

end Go.Proofs.Ytoahegjjffggaaa
namespace Go.Proofs.Ytoahegjjffggaaa
open Go.RowKit Go.Rk

set_option maxHeartbeats 4000000 in
theorem scale_any {B g r n c cap : Nat} {D C : Nat → Nat} {M : List (List Int)} {ov : Int} {w : World} (h : OwMD w B 22 3 g D C n cap M) (dM : Dm n c M) (eM : EntR 0 9972 n c M) (hr : r < n) (hov : 0 ≤ ov ∧ ov ≤ 9972) (hc : 1 ≤ c ∧ c ≤ 100) :
    Calls Try.prog 91 #[.slice (some ⟨D r, 0, none⟩) c (C r), .int .i64 ov] w fun e w' => e = .returned (.tuple #[]) ∧ ∃ P, OwMD w' B 22 3 g D C n cap P ∧ IsR n c P (scaleE M r ov) ∧ KeptBut n D w w' ∧ Below B w w' := by
  have HD := Lib.hid dM
  have HE := Lib.hid eM
  clear dM eM
  go_enter Try.func91, Try.ntmps91
  go_wp2
  go_loopw [7] (fun v wr => ∃ (k : Nat) (P : List (List Int)), k ≤ c ∧ v = .int .i64 k ∧ OwMD wr B 22 3 g D C n cap P ∧ Hid (IsR n c P (fun i j => if i = r ∧ j < k then en M r j * ov % 9973 else en M i j)) ∧ KeptBut n D w wr ∧ Below B w wr) (fun v _ => c - (intOf v).toNat)
  case atStart => exact ⟨0, M, Nat.zero_le _, rfl, h, ⟨HD.out, fun i j _ _ => by simp⟩, KeptBut.refl _ _ _, Below.refl _ _⟩
  case round =>
    obtain ⟨k, P, hk, rfl, hd, hi, kb, hb⟩ := hrel
    by_cases hlt : k < c
    · have x2 := hd.cellI hr (j := k) (by rw [hi.out.1.2 r hr]; exact hlt)
      have x3 := hd.frozenI hr (by rw [hi.out.1.2 r hr]; omega) k
      have x4 : en P r k = en M r k := by rw [hi.out.2 r k hr hlt]; simp
      rw [x4] at x2
      have m1 := HE.out r k hr hlt
      have p1 := mul_bd m1 hov
      obtain ⟨T, hT⟩ : ∃ T, T = en M r k * ov := ⟨_, rfl⟩
      rw [← hT] at p1
      have u1 : IntKind.i64.wrap (en M r k * ov) = T := by rw [hT]; exact Go.IntWalk.i64_in _ (by omega)
      have u2 : T.tmod 9973 = T % 9973 := Int.tmod_eq_emod_of_nonneg (by omega)
      have u3 : IntKind.i64.wrap (T % 9973) = T % 9973 := Go.IntWalk.i64_in _ (by omega)
      have b3 : (k : Int) < (c : Int) := by omega
      have HT := Lib.hid hT
      clear hT x4
      go_wp2
      go_roundw
      case rel => exact ⟨k + 1, _, by omega, by go_num, hd.set matTy.ne hr _, ⟨hi.out.1.setE _ _ _, fun i j h3 h4 => by
        rw [hi.out.1.en_set _ h3 h4]
        by_cases e : r = i ∧ k = j
        · rw [if_pos e, HT.out]; dsimp only; rw [if_pos ⟨e.1.symm, by omega⟩, e.2]
        · rw [if_neg e, hi.out.2 i j h3 h4]; dsimp only
          by_cases e2 : i = r ∧ j < k
          · rw [if_pos e2, if_pos ⟨e2.1, by omega⟩]
          · rw [if_neg e2, if_neg fun e3 => by omega]⟩, kb.set hr _, hb.setCell (p := ⟨D r, k, none⟩) (hd.lowI hr).1 _⟩
      case measure => simp [intOf]; omega
    · obtain rfl : k = c := by omega
      go_wp2
      go_end0
      refine ⟨by simp, P, hd, hi.out.congr fun i j _ h4 => ?_, kb, hb⟩
      unfold scaleE
      by_cases e : i = r
      · rw [if_pos ⟨e, h4⟩, if_pos e]
      · rw [if_neg fun e2 => e e2.1, if_neg e]

theorem Clone_any {b off n cap : Nat} {l : List Int} {w : World} (h : RdI w (some ⟨b, off, none⟩) n cap l) (hn : n ≤ 1000) :
    Calls Try.prog 90 #[.slice (some ⟨b, off, none⟩) n cap] w fun e w' => ∃ a' cap', e = .returned (.slice a' n cap') ∧ OwI w' w.heap.size 3 a' n cap' l ∧ Below w.heap.size w w' := by
  have HIT := Lib.hid intTy
  have he : ∀ w : World, (binOp .eql 22 (.slice (some ⟨b, off, none⟩) n cap) (.slice none 0 0)).run Try.prog w = .ok (.bool false) w := fun _ => by kernel_rfl
  go_enter Try.func90, Try.ntmps90
  have h2 := h.below ((Below.refl w.heap.size w).alloc (Nat.le_refl _) (.cells #[] 3))
  have ho : OwI (w.alloc (.cells #[] 3)) w.heap.size 3 (some ⟨w.heap.size, 0, none⟩) 0 0 [] := ⟨rfl, World.ownsRow_made w #[] 0 (Nat.le_refl _) (Nat.zero_le _) rfl⟩
  go_wp2_with (at_builtin; refine wpList_append_ints HIT.out rfl (.tmp 5) (.tmp 6) rfl rfl rfl ho h2 (by omega) (by simp) ?_; intro a3 cap3 w3 ho3 hg3)
  have hb3 := below_grown ((Below.refl w.heap.size w).alloc (Nat.le_refl _) (.cells #[] 3)) ho (by simp) hg3
  rw [Nat.zero_add] at ho3
  go_ret
  exact ⟨a3, cap3, rfl, by simpa using ho3, hb3⟩
set_option maxHeartbeats 400000 in
theorem Equal_q {a a2 : Option Addr} {len cap len2 cap2 : Nat} {l m : List Int} {w : World} (h : RdI w a len cap l) (h2 : RdI w a2 len2 cap2 m) :
    Calls Try.prog 70 #[.slice a len cap, .slice a2 len2 cap2] w fun e w' => e = .returned (.bool (decide (l = m))) ∧ ∃ q, w' = w.drewN q := by
  have hm := h.len_max
  have E1 := Lib.hid h.len_eq
  have E2 := Lib.hid h2.len_eq
  by_cases hl : len = len2
  · subst hl
    go_enter Try.func70, Try.ntmps70
    go_wp2
    go_loopw [13] (fun i wr => ∃ k : Nat, k ≤ len ∧ i = .int .i64 k ∧ Hid (l.take k = m.take k) ∧ ∃ q, wr = w.drewN q) (fun i _ => len - (intOf i).toNat)
    case atStart => exact ⟨0, Nat.zero_le _, rfl, rfl, 0, rfl⟩
    case round =>
      obtain ⟨k, hk, rfl, heq, q, rfl⟩ := hrel
      by_cases hlt : k < len
      · obtain ⟨b, off, rfl, _, hc⟩ := h.at hlt
        obtain ⟨b2, off2, rfl, _, hc2⟩ := h2.at hlt
        have hc := hc k hlt
        have hc2 := hc2 k hlt
        have hlt' : (k : Int) < (len : Int) := by omega
        by_cases he : ix l k = ix m k
        · have He : (ix l k != ix m k) = false := by simp [he]
          have He2 := Lib.hid he
          clear he
          go_wp2
          go_quiet (fail)
          go_wp2
          go_roundw
          case rel => exact ⟨k + 1, by omega, by go_num, by unfold Hid; rw [take_succ_ix (by rw [E1.out]; exact hlt), take_succ_ix (by rw [E2.out]; exact hlt), heq.out, He2.out], q + nq, by simp⟩
          case measure => simp [intOf]; omega
        · have He : (ix l k != ix m k) = true := by simp [he]
          have He2 := Lib.hid he
          clear he
          go_wp2
          go_quiet (fail)
          go_wp2
          go_ret
          refine ⟨congrArg (fun b => Ending.returned (.bool b)) (decide_eq_false ?_).symm, q + nq, by simp [World.drewN_drewN]⟩
          intro hlm
          exact He2.out (by rw [hlm])
      · go_wp2
        go_ret
        refine ⟨congrArg (fun b => Ending.returned (.bool b)) (decide_eq_true ?_).symm, q, rfl⟩
        have := heq.out
        rwa [List.take_of_length_le (by rw [E1.out]; omega), List.take_of_length_le (by rw [E2.out]; omega)] at this
  · have hne : ((len : Int) != (len2 : Int)) = true := by simp; omega
    have Hl := Lib.hid hl
    clear hl
    go_enter Try.func70, Try.ntmps70
    go_wp2
    go_ret
    refine ⟨congrArg (fun b => Ending.returned (.bool b)) (decide_eq_false ?_).symm, 0, rfl⟩
    intro hlm
    exact Hl.out (by rw [← E1.out, ← E2.out, hlm])

/-- One row times x. -/
theorem at_any {ar ax : Option Addr} {c cr cx Bx : Nat} {row x : List Int} {w : World} (hr : RdI w ar c cr row) (hx : RdI w ax c cx x) (hb : w.cell? ⟨Bx, 0, none⟩ = some (.slice ax c cx)) (er : In 0 9972 row) (ex : In 0 9972 x) (hc : c ≤ 100) :
    Calls Try.prog 92 #[.slice ar c cr, .pointer (some ⟨Bx, 0, none⟩)] w fun e w' => e = .returned (.int .i64 (sumTo (fun j => ix row j * ix x j) c % 9973)) ∧ w = w' := by
  have bd : ∀ k, k ≤ c → 0 ≤ sumTo (fun j => ix row j * ix x j) k ∧ sumTo (fun j => ix row j * ix x j) k ≤ k * 99440784 := by
    intro k
    induction k with
    | zero => intro _; exact ⟨Int.le_refl _, Int.le_refl _⟩
    | succ k ih =>
      intro hk
      have h1 := ih (by omega)
      have m1 := er k (by rw [hr.len_eq]; omega)
      have m2 := ex k (by rw [hx.len_eq]; omega)
      have m3 := mul_bd m1 m2
      rw [sumTo]
      omega
  have HER := Lib.hid er
  have HEX := Lib.hid ex
  have HBD := Lib.hid bd
  have l1 := hr.len_eq
  have l2 := hx.len_eq
  clear er ex bd
  go_enter Try.func92, Try.ntmps92
  go_wp2
  go_loop [4, 9] (fun s v => ∃ (k : Nat) (S : Int), k ≤ c ∧ v = .int .i64 k ∧ s = .int .i64 S ∧ Hid (S = sumTo (fun j => ix row j * ix x j) k)) (fun _ v => c - (intOf v).toNat)
  case atStart => exact ⟨0, 0, Nat.zero_le _, rfl, rfl, rfl⟩
  case round =>
    obtain ⟨k, S, hk, rfl, rfl, HS⟩ := hrel
    have bS : 0 ≤ S ∧ S ≤ 9944078400 := by have := HBD.out k hk; have := HS.out; omega
    by_cases hlt : k < c
    · obtain ⟨p1, o1, rfl, _, hc1⟩ := hr.at hlt
      obtain ⟨p2, o2, rfl, _, hc2⟩ := hx.at hlt
      replace hc1 := hc1 k hlt
      replace hc2 := hc2 k hlt
      have m1 := HER.out k (by omega)
      have m2 := HEX.out k (by omega)
      have m3 := mul_bd m1 m2
      have HS2 : Hid (S + ix row k * ix x k = sumTo (fun j => ix row j * ix x j) (k + 1)) := by unfold Hid; rw [sumTo, HS.out]
      generalize ix row k = X at *
      generalize ix x k = Y at *
      obtain ⟨T, hT⟩ : ∃ T, T = X * Y := ⟨_, rfl⟩
      rw [← hT] at m3 HS2
      have u1 : IntKind.i64.wrap (X * Y) = T := by rw [hT]; exact Go.IntWalk.i64_in _ (by omega)
      have u2 : IntKind.i64.wrap (S + T) = S + T := Go.IntWalk.i64_in _ (by omega)
      have hlt' : (k : Int) < (c : Int) := by omega
      clear hT
      go_wp2
      go_round
      case rel => exact ⟨k + 1, S + T, by omega, by go_num, rfl, HS2⟩
      case measure => simp [intOf]; omega
    · obtain rfl : k = c := by omega
      go_wp2_with (go_at_call 62; refine (Field_any _ _).mono ?_; rintro e w' ⟨rfl, rfl⟩)
      go_ret
      exact ⟨by rw [← HS.out]; rfl, rfl⟩

set_option maxHeartbeats 2000000 in
theorem product_any {a b : Option Addr} {n c ca cb : Nat} {M : List (List Int)} {x : List Int} {w : World} (hM : RdM w a n ca M) (d : Dm n c M) (he : EntR 0 9972 n c M) (hx : RdI w b c cb x) (hi : In 0 9972 x) (hn : n ≤ 1000) (hc : 1 ≤ c ∧ c ≤ 100) :
    Calls Try.prog 71 #[.slice a n ca, .slice b c cb] w fun e w' => ∃ a' cap', e = .returned (.slice a' n cap') ∧ OwI w' w.heap.size 3 a' n cap' (toN M x c n) ∧ Below w.heap.size w w' := by
  have HIT := Lib.hid intTy
  have HD := Lib.hid d
  have HE := Lib.hid he
  have HI := Lib.hid hi
  clear d he hi
  have hmf : ∀ (fn : Fn) (first cap : Array Value) (w : World), (Instr.makeFunc fn first cap).run Try.prog w = .ok (.func fn first cap) w := fun _ _ _ _ => rfl
  have hb0 := (Below.refl w.heap.size w).alloc (Nat.le_refl _) (.cells #[.slice b c cb] 22)
  have hbx : (w.alloc (.cells #[.slice b c cb] 22)).cell? ⟨w.heap.size, 0, none⟩ = some (.slice b c cb) := by simp
  have hM0 := hM.below hb0
  have hx0 := hx.below hb0
  go_enter Try.func71, Try.ntmps71
  go_wp2
  generalize w.alloc (.cells #[.slice b c cb] 22) = w0 at *
  go_loopw [6, 12] (fun v i wr => ∃ (k : Nat) (q : Option Addr) (cq : Nat), k ≤ n ∧ i = .int .i64 k ∧ v = .slice q k cq ∧ OwI wr w0.heap.size 3 q k cq (toN M x c k) ∧ Below w0.heap.size w0 wr) (fun _ i _ => n - (intOf i).toNat)
  case atStart => exact ⟨0, none, 0, Nat.zero_le _, rfl, rfl, OwI.nil _ _ _, Below.refl _ _⟩
  case round =>
    obtain ⟨k, q, cq, hk, rfl, rfl, ho, hb⟩ := hrel
    by_cases hlt : k < n
    · have hlt' : (k : Int) < (n : Int) := by omega
      obtain ⟨bm, om, rfl, ar, cr, hcr, hrd⟩ := (hM0.below hb).rowIn HD.out hlt
      have C := Lib.hid (at_any hrd (hx0.below hb) (hb.keep (World.block_lt_of_cell? _ _ hbx) hbx) (fun j hj => by
        rw [HD.out.2 k hlt] at hj
        exact HE.out k j hlt hj) HI.out hc.2)
      rw [show sumTo (fun j => ix (rowOf M k) j * ix x j) c % 9973 = toV M x c k from rfl] at C
      obtain ⟨V, hV⟩ : ∃ V, toV M x c k = V := ⟨_, rfl⟩
      rw [hV] at C
      have HV := Lib.hid hV
      have hsz := hb.size
      clear hV hrd
      go_wp2_with (first | (go_at_call 92; (with_reducible refine C.out.mono ?_); rintro e w' ⟨rfl, rfl⟩) | (at_builtin; refine wpList_push_int HIT.out rfl (.tmp 16) (.tmp 20) rfl rfl rfl (ho.alloc _) (z := V) (by simp) (by decide) (by decide) (by omega) (by simp; omega) ?_; intro a4 cap4 w4 ho4 hg4))
      have hb4 := below_grown (hb.alloc hsz (.cells #[.int .i64 V] 3)) (ho.alloc (.cells #[.int .i64 V] 3)) (by simp; omega) hg4
      go_roundw
      case rel => exact ⟨k + 1, a4, cap4, by omega, by go_num, rfl, by rw [toN_succ, HV.out]; exact ho4, hb4⟩
      case measure => simp [intOf]; omega
    · obtain rfl : k = n := by omega
      go_wp2
      go_ret
      exact ⟨q, cq, rfl, ho.mono hb0.size, hb0.trans (hb.mono hb0.size)⟩
end Go.Proofs.Ytoahegjjffggaaa
namespace Go.Proofs.Ytoahegjjffggaaa
open Go.RowKit Go.Rk

/-- What is null stays null. -/
theorem _root_.Go.Rk.Made.null {n c : Nat} {A B : Mx} (h : Made n c A B) {v : Nat → Int} (hv : ∀ i, i < n → Eqm (sumTo (fun j => A i j * v j) c) 0) {i : Nat} (hi : i < n) : Eqm (sumTo (fun j => B i j * v j) c) 0 := by
  obtain ⟨K, hK⟩ := h
  have e1 : Eqm (sumTo (fun j => B i j * v j) c) (sumTo (fun j => sumTo (fun k => K i k * (A k j * v j)) n) c) := sumTo_eqm fun j hj => by
    refine (Eqm.mul (hK i j hi hj) (Eqm.refl (v j))).trans (Eqm.of_eq ?_)
    show sumTo (fun k => K i k * A k j) n * v j = _
    rw [Int.mul_comm, ← sumTo_mul]
    exact sumTo_congr fun k _ => by rw [Int.mul_comm, Int.mul_assoc]
  refine e1.trans ?_
  rw [sumTo_swap]
  have e2 : Eqm (sumTo (fun k => sumTo (fun j => K i k * (A k j * v j)) c) n) (sumTo (fun _ => 0) n) := sumTo_eqm fun k hk => by
    rw [sumTo_mul]
    have := Eqm.mul (Eqm.refl (K i k)) (hv k hk)
    rwa [Int.mul_zero] at this
  rw [sumTo_zero] at e2
  exact e2

/-- What is null and has nothing in the free columns is nothing. -/
theorem null_zero {n c : Nat} {R : Mx} {ps : List Int} (st : Stairs n c ps.length R (natsOf ps)) (hp : ∀ i, i < ps.length → 0 ≤ ix ps i) {v : Nat → Int} (hv : ∀ i, i < n → Eqm (sumTo (fun j => R i j * v j) c) 0) (hf : ∀ j, j < c → hasB (j : Int) ps = false → Eqm (v j) 0) {j : Nat} (hj : j < c) : Eqm (v j) 0 := by
  cases hb : hasB (j : Int) ps
  · exact hf j hj hb
  · obtain ⟨i, hi, rfl⟩ := (hasB_pos hp).1 hb
    have hin : i < n := by have := st.le; omega
    have e1 : Eqm (sumTo (fun j => R i j * v j) c) (sumTo (fun j => (if natsOf ps i = j then 1 else 0) * v j) c) := sumTo_eqm fun j hj => by
      cases hb2 : hasB (j : Int) ps
      · have := Eqm.mul (Eqm.refl (R i j)) (hf j hj hb2)
        rw [Int.mul_zero] at this
        refine this.trans ?_
        have := Eqm.mul (Eqm.refl (if natsOf ps i = j then (1 : Int) else 0)) (hf j hj hb2)
        rw [Int.mul_zero] at this
        exact this.symm
      · obtain ⟨k, hk, rfl⟩ := (hasB_pos hp).1 hb2
        refine (Eqm.mul (st.one i k hin hk) (Eqm.refl _)).trans (Eqm.of_eq ?_)
        by_cases e : i = k
        · subst e; rw [if_pos rfl, if_pos rfl]
        · rw [if_neg e, if_neg fun e2 => ?_]
          rcases Nat.lt_trichotomy i k with h1 | h1 | h1
          · have := st.inc i k h1 hk; omega
          · exact e h1
          · have := st.inc k i h1 hi; omega
    rw [sumTo_pick v hj] at e1
    exact e1.symm.trans (hv i hin)

def augL (n : Nat) (P : List (List Int)) (T : List Int) : List (List Int) := (List.range n).map fun i => rowOf P i ++ [ix T i]
section
variable {n c q : Nat} {A : Mx} {P M : List (List Int)} {T t ps : List Int}
theorem augL_row {i : Nat} (hi : i < n) : rowOf (augL n P T) i = rowOf P i ++ [ix T i] := by
  unfold augL
  rw [rowOf_lt (by simp; exact hi)]
  simp
theorem augL_dm (h : Dm n c P) : Dm n (c + 1) (augL n P T) := ⟨by simp [augL], fun i hi => by rw [augL_row hi, List.length_append, h.2 i hi]; rfl⟩
theorem augL_l (h : Dm n c P) {i j : Nat} (hi : i < n) (hj : j < c) : en (augL n P T) i j = en P i j := by
  unfold en
  rw [augL_row hi, ix_append_left (by rw [h.2 i hi]; exact hj)]
theorem augL_r (h : Dm n c P) {i : Nat} (hi : i < n) : en (augL n P T) i c = ix T i := by
  unfold en
  rw [augL_row hi, ix_append_right (by rw [h.2 i hi]; exact Nat.le_refl _), h.2 i hi, Nat.sub_self]
  rfl
theorem aug_ext {N : List (List Int)} (h : Dm n c P) (hN : Dm n (c + 1) N) (e1 : ∀ i j, i < n → j < c → en N i j = en P i j) (e2 : ∀ i, i < n → en N i c = ix T i) : N = augL n P T := hN.ext (augL_dm h) fun i j hi hj => by
  rcases Nat.lt_or_ge j c with h1 | h1
  · rw [augL_l h hi h1]; exact e1 i j hi h1
  · obtain rfl : j = c := by omega
    rw [augL_r h hi]; exact e2 i hi

/-- What holds when the first q columns are done. -/
structure RInv (n c : Nat) (A : Mx) (q : Nat) (P : List (List Int)) (T ps : List Int) : Prop where
  inv : GInv n (c + 1) A q (augL n P T) ps
  dP : Dm n c P
  lT : T.length = n

theorem RInv.eP (h : RInv n c A q P T ps) : EntR 0 9972 n c P := fun i j hi hj => by
  have := h.inv.ent i j hi (by omega)
  rwa [augL_l h.dP hi hj] at this
theorem RInv.eT (h : RInv n c A q P T ps) : In 0 9972 T := fun i hi => by
  rw [h.lT] at hi
  have := h.inv.ent i c hi (by omega)
  rwa [augL_r h.dP hi] at this
theorem RInv.start (hd : Dm n c M) (he : EntR 0 9972 n c M) (hl : t.length = n) (ht : In 0 9972 t) : RInv n c (mx (augL n M t)) 0 M t [] :=
  ⟨GInv.start (augL_dm hd) fun i j hi hj => by
    rcases Nat.lt_or_ge j c with h1 | h1
    · rw [augL_l hd hi h1]; exact he i j hi h1
    · obtain rfl : j = c := by omega
      rw [augL_r hd hi]; exact ht i (by rw [hl]; exact hi), hd, hl⟩
theorem RInv.pass (h : RInv n c A q P T ps) (hq : q < c) (hz : ∀ i, ps.length ≤ i → i < n → en P i q = 0) : RInv n c A (q + 1) P T ps :=
  ⟨h.inv.pass fun i h1 h2 => by rw [augL_l h.dP h2 hq]; exact hz i h1 h2, h.dP, h.lT⟩
theorem RInv.swap (h : RInv n c A q P T ps) {k : Nat} (h1 : ps.length ≤ k) (hk : k < n) : RInv n c A q (swapL P ps.length k) ((T.set ps.length (ix T k)).set k (ix T ps.length)) ps := by
  have hr : ps.length < n := by omega
  have hs := h.inv.swap h1 hk
  have e : swapL (augL n P T) ps.length k = augL n (swapL P ps.length k) ((T.set ps.length (ix T k)).set k (ix T ps.length)) := by
    refine aug_ext (h.dP.swap hr hk) hs.dm (fun i j hi hj => ?_) fun i hi => ?_
    · rw [en_swap h.inv.dm hr hk, en_swap h.dP hr hk]
      exact augL_l h.dP (swap_lt hr hk hi) hj
    · rw [en_swap h.inv.dm hr hk, augL_r h.dP (swap_lt hr hk hi), ix_set, ix_set]
      by_cases e1 : i = k
      · rw [if_pos e1, if_pos ⟨e1.symm, by rw [List.length_set, h.lT]; omega⟩]
      · by_cases e2 : i = ps.length
        · rw [if_neg e1, if_pos e2, if_neg (fun x => e1 x.1.symm), if_pos ⟨e2.symm, by rw [h.lT]; omega⟩]
        · rw [if_neg e1, if_neg e2, if_neg (fun x => e1 x.1.symm), if_neg (fun x => e2 x.1.symm)]
  rw [e] at hs
  exact ⟨hs, h.dP.swap hr hk, by rw [List.length_set, List.length_set, h.lT]⟩

/-- What clearing a column makes of the right side. -/
def clearT (P : List (List Int)) (T : List Int) (r q i : Nat) : Int :=
  if i = r then ix T r * powm (en P r q) 9971 % 9973 else (ix T i - en P i q * (ix T r * powm (en P r q) 9971 % 9973)) % 9973
theorem RInv.clear (h : RInv n c A q P T ps) (hr : ps.length < n) (hq : q < c) (hp : en P ps.length q ≠ 0) {P2 : List (List Int)} {T2 : List Int} (hi : IsR n c P2 (clearE P ps.length q)) (hl : T2.length = n) (ht : ∀ i, i < n → ix T2 i = clearT P T ps.length q i) : RInv n c A (q + 1) P2 T2 (ps ++ [(q : Int)]) := by
  refine ⟨h.inv.clear hr (by omega) (by rw [augL_l h.dP hr hq]; exact hp) ⟨augL_dm hi.1, fun i j h1 h2 => ?_⟩, hi.1, hl⟩
  unfold clearE
  rw [augL_l h.dP hr hq, augL_l h.dP h1 hq]
  rcases Nat.lt_or_ge j c with h3 | h3
  · rw [augL_l hi.1 h1 h3, augL_l h.dP hr h3, augL_l h.dP h1 h3]
    exact hi.2 i j h1 h3
  · obtain rfl : j = c := by omega
    rw [augL_r hi.1 h1, augL_r h.dP hr, augL_r h.dP h1]
    exact ht i h1

/-- In the end the left side is in steps by itself. -/
theorem RInv.left (hd : Dm n c M) (h : RInv n c (mx (augL n M t)) c P T ps) : GInv n c (mx M) c P ps := by
  have eM : EqM n c (mx M) (mx (augL n M t)) := fun i j hi hj => Eqm.of_eq (augL_l hd hi hj).symm
  have eP : EqM n c (mx P) (mx (augL n P T)) := fun i j hi hj => Eqm.of_eq (augL_l h.dP hi hj).symm
  have st := h.inv.st
  refine ⟨h.dP, h.eP, (Made.eqm eM).trans ((h.inv.made.cols (Nat.le_succ c)).trans (Made.eqm eP.symm)), (Made.eqm eP).trans ((h.inv.back.cols (Nat.le_succ c)).trans (Made.eqm eM.symm)), ⟨st.le, st.lt, st.inc, fun i j hi hj => ?_, fun i s h1 h2 h3 => ?_, fun i s h1 h2 => ?_⟩, h.inv.pos⟩
  · exact (eP i _ hi (st.lt j hj)).trans (st.one i j hi hj)
  · exact (eP i s h2 h3).trans (st.low i s h1 h2 h3)
  · have h5 := st.lt i h1
    exact (eP i s (by have := st.le; omega) (by omega)).trans (st.lead i s h1 h2)

/-- What is told: the right side at the steps, 0 elsewhere. -/
structure XRow (c : Nat) (T ps x : List Int) : Prop where
  len : x.length = c
  piv : ∀ i, i < ps.length → ix x (natsOf ps i) = ix T i
  zer : ∀ j, j < c → hasB (j : Int) ps = false → ix x j = 0

theorem XRow.range {x : List Int} (h : XRow c T ps x) (hT : In 0 9972 T) (hle : ps.length ≤ T.length) (hp : ∀ i, i < ps.length → 0 ≤ ix ps i) : In 0 9972 x := by
  intro j hj
  rw [h.len] at hj
  cases hb : hasB (j : Int) ps
  · rw [h.zer j hj hb]; omega
  · obtain ⟨i, hi, e⟩ := (hasB_pos hp).1 hb
    rw [← e, h.piv i hi]
    exact hT i (by omega)

/-- A row and -1 behind it. -/
def withM (y : Nat → Int) (c : Nat) : Nat → Int := fun j => if j < c then y j else -1
theorem aug_null (h : Dm n c P) (y : Nat → Int) {i : Nat} (hi : i < n) : sumTo (fun j => mx (augL n P T) i j * withM y c j) (c + 1) = sumTo (fun j => en P i j * y j) c - ix T i := by
  rw [sumTo]
  have e1 : mx (augL n P T) i c * withM y c c = -ix T i := by
    show en (augL n P T) i c * _ = _
    rw [augL_r h hi]
    unfold withM
    rw [if_neg (Nat.lt_irrefl _)]
    omega
  rw [e1, sumTo_congr (h := fun j => en P i j * y j) fun j hj => by
    show en (augL n P T) i j * _ = _
    rw [augL_l h hi hj]
    unfold withM
    rw [if_pos hj]]
  omega

/-- If anything is taken to the right side, what is told is. -/
theorem solves {x : List Int} (hd : Dm n c M) (h : RInv n c (mx (augL n M t)) c P T ps) (hx : XRow c T ps x) {y : Nat → Int} (hy : ∀ i, i < n → Eqm (sumTo (fun j => en M i j * y j) c) (ix t i)) {i : Nat} (hi : i < n) : Eqm (sumTo (fun j => en M i j * ix x j) c) (ix t i) := by
  have st : Stairs n c ps.length (mx P) (natsOf ps) := (h.left hd).st
  have hp := h.inv.pos
  -- what solves, solves the steps
  have n1 : ∀ i, i < n → Eqm (sumTo (fun j => mx (augL n P T) i j * withM y c j) (c + 1)) 0 := fun i hi => h.inv.made.null (v := withM y c) (fun k hk => by
    rw [aug_null hd y hk]
    have := Eqm.sub (hy k hk) (Eqm.refl (ix t k))
    rwa [Int.sub_self] at this) hi
  -- what is told does
  have n2 : ∀ i, i < n → Eqm (sumTo (fun j => en P i j * ix x j) c) (ix T i) := fun i hi => by
    have e1 : ∀ j, j < c → ix x j = sumTo (fun k => (if natsOf ps k = j then 1 else 0) * ix T k) ps.length := fun j hj => by
      cases hb : hasB (j : Int) ps
      · rw [hx.zer j hj hb, sumTo_congr (h := fun _ => 0) fun k hk => by rw [if_neg (fun e => by rw [(hasB_pos hp).2 ⟨k, hk, e⟩] at hb; cases hb), Int.zero_mul]]
        exact (sumTo_zero _).symm
      · obtain ⟨k, hk, rfl⟩ := (hasB_pos hp).1 hb
        rw [hx.piv k hk, sumTo_congr (h := fun m => (if k = m then 1 else 0) * ix T m) fun m hm => ?_]
        · exact (sumTo_pick (fun m => ix T m) hk).symm
        · by_cases e3 : k = m
          · rw [if_pos (by rw [e3]), if_pos e3]
          · rw [if_neg fun e4 => ?_, if_neg e3]
            rcases Nat.lt_trichotomy k m with h1 | h1 | h1
            · have := st.inc k m h1 hm; omega
            · exact e3 h1
            · have := st.inc m k h1 hk; omega
    have e2 : sumTo (fun j => en P i j * ix x j) c = sumTo (fun k => en P i (natsOf ps k) * ix T k) ps.length := by
      rw [sumTo_congr (h := fun j => sumTo (fun k => (if natsOf ps k = j then 1 else 0) * (en P i j * ix T k)) ps.length) fun j hj => by
        rw [e1 j hj, ← sumTo_mul]
        exact sumTo_congr fun k _ => by grind, sumTo_swap]
      exact sumTo_congr fun k hk => sumTo_pick (fun j => en P i j * ix T k) (st.lt k hk)
    rw [e2]
    have e3 : Eqm (sumTo (fun k => en P i (natsOf ps k) * ix T k) ps.length) (sumTo (fun k => (if i = k then 1 else 0) * ix T k) ps.length) := sumTo_eqm fun k hk => Eqm.mul (st.one i k hi hk) (Eqm.refl _)
    refine e3.trans ?_
    rcases Nat.lt_or_ge i ps.length with h1 | h1
    · rw [sumTo_pick (fun k => ix T k) h1]
      exact Eqm.refl _
    · rw [sumTo_congr (h := fun _ => 0) fun k hk => by rw [if_neg (by omega), Int.zero_mul], sumTo_zero]
      have := n1 i hi
      rw [aug_null h.dP y hi] at this
      have e4 : Eqm (sumTo (fun j => en P i j * y j) c) (sumTo (fun _ => 0) c) := sumTo_eqm fun j hj => by
        have := Eqm.mul (st.low i j h1 hi hj) (Eqm.refl (y j))
        rwa [Int.zero_mul] at this
      rw [sumTo_zero] at e4
      unfold Eqm at this e4 ⊢
      omega
  have n3 := h.inv.back.null (v := withM (ix x) c) (fun k hk => by
    rw [aug_null h.dP (ix x) hk]
    have := Eqm.sub (n2 k hk) (Eqm.refl (ix T k))
    rwa [Int.sub_self] at this) hi
  rw [aug_null hd (ix x) hi] at n3
  unfold Eqm at n3 ⊢
  omega
end
end Go.Proofs.Ytoahegjjffggaaa
