/-
  Elimination to steps: what one column's work keeps. No program in sight.
-/
import Derived.Test.YtfocfgddlnjfmaaRank
import Derived.Test.YtfocfgddlnjfmaaGaussW
namespace Go.Rk
open Go.RowKit Go.Proofs.Ytfocfgddlnjfmaa

theorem Made.perm {n c : Nat} (A : Mx) {σ : Nat → Nat} (h : ∀ i, i < n → σ i < n) : Made n c A (fun i j => A (σ i) j) :=
  ⟨fun i t => if σ i = t then 1 else 0, fun i j hi _ => Eqm.of_eq (sumTo_pick (fun t => A t j) (h i hi)).symm⟩
theorem Made.add {n c r : Nat} (A : Mx) (x : Nat → Int) (h : r < n) : Made n c A (fun i j => A i j + x i * A r j) := by
  refine ⟨fun i t => (if i = t then 1 else 0) + (if r = t then 1 else 0) * x i, fun i j hi _ => Eqm.of_eq ?_⟩
  unfold mulM
  rw [sumTo_congr (h := fun t => (if i = t then 1 else 0) * A t j + (if r = t then 1 else 0) * (x i * A t j)) fun t _ => by rw [Int.add_mul, Int.mul_assoc], sumTo_add, sumTo_pick (fun t => A t j) hi, sumTo_pick (fun t => x i * A t j) h]

/-- What holds when the first q columns are done, and begin at the columns of ps. -/
structure GInv (n c : Nat) (A : Mx) (q : Nat) (M : List (List Int)) (ps : List Int) : Prop where
  dm : Dm n c M
  ent : EntR 0 9972 n c M
  made : Made n c A (mx M)
  back : Made n c (mx M) A
  st : Stairs n q ps.length (mx M) (fun i => (ix ps i).toNat)
  pos : ∀ i, i < ps.length → 0 ≤ ix ps i

section
variable {n c q : Nat} {A : Mx} {M : List (List Int)} {ps : List Int}
theorem GInv.start {M : List (List Int)} (hd : Dm n c M) (he : EntR 0 9972 n c M) : GInv n c (mx M) 0 M [] :=
  ⟨hd, he, Made.refl _ _ _, Made.refl _ _ _, ⟨Nat.zero_le _, fun _ hi => absurd hi (Nat.not_lt_zero _), fun _ _ _ hj => absurd hj (Nat.not_lt_zero _), fun _ _ _ hj => absurd hj (Nat.not_lt_zero _), fun _ _ _ _ hs => absurd hs (Nat.not_lt_zero _), fun _ _ hi => absurd hi (Nat.not_lt_zero _)⟩, fun _ hi => absurd hi (Nat.not_lt_zero _)⟩

/-- Nothing below in this column. -/
theorem GInv.pass (h : GInv n c A q M ps) (hz : ∀ i, ps.length ≤ i → i < n → en M i q = 0) : GInv n c A (q + 1) M ps :=
  ⟨h.dm, h.ent, h.made, h.back, ⟨h.st.le, fun i hi => Nat.lt_succ_of_lt (h.st.lt i hi), h.st.inc, h.st.one, fun i s h1 h2 h3 => by
    rcases Nat.lt_or_ge s q with h4 | h4
    · exact h.st.low i s h1 h2 h4
    · obtain rfl : s = q := by omega
      exact Eqm.of_eq (hz i h1 h2), h.st.lead⟩, h.pos⟩

theorem en_swap {r k i : Nat} (h : Dm n c M) (hr : r < n) (hk : k < n) (j : Nat) : en (swapL M r k) i j = en M (if i = k then r else if i = r then k else i) j := by
  unfold en
  rw [rowOf_swapL (by rw [h.1]; exact hr) (by rw [h.1]; exact hk)]
  by_cases e : i = k
  · rw [if_pos e, if_pos e]
  · rw [if_neg e, if_neg e]
    by_cases e2 : i = r
    · rw [if_pos e2, if_pos e2]
    · rw [if_neg e2, if_neg e2]
theorem Dm.swap {r k : Nat} (h : Dm n c M) (hr : r < n) (hk : k < n) : Dm n c (swapL M r k) := by
  refine ⟨by rw [swapL_len]; exact h.1, fun i hi => ?_⟩
  rw [rowOf_swapL (by rw [h.1]; exact hr) (by rw [h.1]; exact hk)]
  (repeat' split) <;> exact h.2 _ (by assumption)
theorem swap_lt {r k i : Nat} (hr : r < n) (hk : k < n) (hi : i < n) : (if i = k then r else if i = r then k else i) < n := by
  (repeat' split) <;> assumption

/-- Rows that are not done change places. -/
theorem GInv.swap (h : GInv n c A q M ps) {k : Nat} (h1 : ps.length ≤ k) (hk : k < n) : GInv n c A q (swapL M ps.length k) ps := by
  have hr : ps.length < n := by omega
  have ee : ∀ i j, en (swapL M ps.length k) i j = en M (if i = k then ps.length else if i = ps.length then k else i) j := fun i j => en_swap h.dm hr hk j
  have lo : ∀ i, i < ps.length → (if i = k then ps.length else if i = ps.length then k else i) = i := fun i hi => by rw [if_neg (by omega), if_neg (by omega)]
  have hi' : ∀ i, ps.length ≤ i → ps.length ≤ (if i = k then ps.length else if i = ps.length then k else i) := fun i hi => by (repeat' split) <;> omega
  have em : mx (swapL M ps.length k) = fun i j => mx M (if i = k then ps.length else if i = ps.length then k else i) j := by
    funext i j
    exact ee i j
  have em2 : mx M = fun i j => mx (swapL M ps.length k) (if i = k then ps.length else if i = ps.length then k else i) j := by
    funext i j
    show en M i j = en (swapL M ps.length k) _ j
    rw [ee]
    congr 1
    by_cases e : i = k
    · rw [if_pos e]
      by_cases e2 : ps.length = k
      · rw [if_pos e2]; omega
      · rw [if_neg e2, if_pos rfl]; exact e
    · rw [if_neg e]
      by_cases e2 : i = ps.length
      · rw [if_pos e2, if_pos rfl]; exact e2
      · rw [if_neg e2, if_neg e, if_neg e2]
  have mb : Made n c (mx (swapL M ps.length k)) (mx M) := by
    have := Made.perm (n := n) (c := c) (mx (swapL M ps.length k)) (σ := fun i => if i = k then ps.length else if i = ps.length then k else i) fun i hi => swap_lt hr hk hi
    rwa [← em2] at this
  refine ⟨h.dm.swap hr hk, fun i j hi hj => by rw [ee]; exact h.ent _ j (swap_lt hr hk hi) hj, h.made.trans (by rw [em]; exact Made.perm _ fun i hi => swap_lt hr hk hi), Made.trans mb h.back, ⟨h.st.le, h.st.lt, h.st.inc, fun i j hi hj => ?_, fun i s h1 h2 h3 => ?_, fun i s h1 h2 => ?_⟩, h.pos⟩
  · show Eqm (en (swapL M ps.length k) i _) _
    rw [ee]
    rcases Nat.lt_or_ge i ps.length with h4 | h4
    · rw [lo i h4]; exact h.st.one i j hi hj
    · have e1 : (if i = j then (1 : Int) else 0) = 0 := if_neg (by omega)
      have e2 : (if (if i = k then ps.length else if i = ps.length then k else i) = j then (1 : Int) else 0) = 0 := if_neg (by have := hi' i h4; omega)
      rw [e1, ← e2]
      exact h.st.one _ j (swap_lt hr hk hi) hj
  · show Eqm (en (swapL M ps.length k) i s) _
    rw [ee]
    exact h.st.low _ s (hi' i h1) (swap_lt hr hk h2) h3
  · show Eqm (en (swapL M ps.length k) i s) _
    rw [ee, lo i h1]
    exact h.st.lead i s h1 h2

/-- The pivot's column is cleared. -/
theorem GInv.clear (h : GInv n c A q M ps) (hr : ps.length < n) (hq : q < c) (hp : en M ps.length q ≠ 0) {P : List (List Int)} (hi : IsR n c P (clearE M ps.length q)) : GInv n c A (q + 1) P (ps ++ [(q : Int)]) := by
  have b := h.ent ps.length q hr hq
  have ho := over_mul b.1 b.2 hp
  obtain ⟨ov, hov⟩ : ∃ ov, powm (en M ps.length q) 9971 = ov := ⟨_, rfl⟩
  rw [hov] at ho
  -- by the prime
  have er : ∀ j, j < c → Eqm (en P ps.length j) (ov * en M ps.length j) := fun j hj => by
    rw [hi.2 _ j hr hj]
    unfold clearE
    rw [if_pos rfl, hov, Int.mul_comm]
    exact Eqm.mod _
  have ei : ∀ i j, i < n → j < c → i ≠ ps.length → Eqm (en P i j) (en M i j - en M i q * (ov * en M ps.length j)) := fun i j h1 hj hne => by
    rw [hi.2 i j h1 hj]
    unfold clearE
    rw [if_neg hne, hov, Int.mul_comm (en M ps.length j) ov]
    exact (Eqm.mod _).trans (Eqm.sub (Eqm.refl _) (Eqm.mul (Eqm.refl _) (Eqm.mod _)))
  have o1 : Eqm (ov * en M ps.length q) 1 := by unfold Eqm; rw [ho]; rfl
  have zr : ∀ s, s < q → Eqm (en M ps.length s) 0 := fun s hs => h.st.low _ s (Nat.le_refl _) hr hs
  have hl : (ps ++ [(q : Int)]).length = ps.length + 1 := by simp
  have pl : ∀ i, i < ps.length → ix (ps ++ [(q : Int)]) i = ix ps i := fun i hi => by rw [ix_lt (by simp; omega), ix_lt hi, List.getElem_append_left hi]
  have pe : ix (ps ++ [(q : Int)]) ps.length = q := by rw [ix_lt (by simp)]; simp
  have pz : ∀ s, s < q → ∀ i, i < n → Eqm (en P i s) (en M i s) := fun s hs i h1 => by
    by_cases e : i = ps.length
    · subst e
      refine (er s (by omega)).trans ?_
      have := Eqm.mul (Eqm.refl ov) (zr s hs)
      rw [Int.mul_zero] at this
      exact this.trans (zr s hs).symm
    · refine (ei i s h1 (by omega) e).trans ?_
      have := Eqm.sub (Eqm.refl (en M i s)) (Eqm.mul (Eqm.refl (en M i q)) (Eqm.mul (Eqm.refl ov) (zr s hs)))
      rwa [Int.mul_zero, Int.mul_zero, Int.sub_zero] at this
  have pq : ∀ i, i < n → Eqm (en P i q) (if i = ps.length then 1 else 0) := fun i h1 => by
    by_cases e : i = ps.length
    · subst e
      rw [if_pos rfl]
      exact (er q hq).trans o1
    · rw [if_neg e]
      refine (ei i q h1 hq e).trans ?_
      have := Eqm.sub (Eqm.refl (en M i q)) (Eqm.mul (Eqm.refl (en M i q)) o1)
      rwa [Int.mul_one, Int.sub_self] at this
  refine ⟨hi.1, fun i j h1 h2 => by rw [hi.2 i j h1 h2]; unfold clearE; split <;> omega, ?_, ?_, ⟨by rw [hl]; omega, fun i h1 => ?_, fun i j h1 h2 => ?_, fun i j h1 h2 => ?_, fun i s h1 h2 h3 => ?_, fun i s h1 h2 => ?_⟩, fun i h1 => ?_⟩
  · -- the rows are made of those before
    refine h.made.trans ((Made.add (mx M) (fun i => if i = ps.length then ov - 1 else -(en M i q * ov)) hr).trans (Made.eqm fun i j h1 h2 => Eqm.symm ?_))
    show Eqm (en P i j) (en M i j + _ * en M ps.length j)
    by_cases e : i = ps.length
    · rw [if_pos e, e]
      refine (er j h2).trans (Eqm.of_eq ?_)
      rw [Int.sub_mul]; omega
    · rw [if_neg e]
      refine (ei i j h1 h2 e).trans (Eqm.of_eq ?_)
      rw [Int.neg_mul, Int.mul_assoc]; omega
  · refine Made.trans ?_ h.back
    refine (Made.add (mx P) (fun i => if i = ps.length then en M ps.length q - 1 else en M i q) hr).trans (Made.eqm fun i j h1 h2 => ?_)
    show Eqm (en P i j + _ * en P ps.length j) (en M i j)
    by_cases e : i = ps.length
    · rw [if_pos e, e]
      have h3 : Eqm (en M ps.length q * en P ps.length j) (en M ps.length j) := by
        refine (Eqm.mul (Eqm.refl _) (er j h2)).trans ?_
        have := Eqm.mul o1 (Eqm.refl (en M ps.length j))
        rw [Int.one_mul] at this
        exact (Eqm.of_eq (by rw [← Int.mul_assoc, Int.mul_comm (en M ps.length q) ov])).trans this
      exact (Eqm.of_eq (by rw [Int.sub_mul]; omega)).trans h3
    · rw [if_neg e]
      refine (Eqm.add (ei i j h1 h2 e) (Eqm.mul (Eqm.refl (en M i q)) (er j h2))).trans (Eqm.of_eq (by omega))
  · rw [hl] at h1
    rcases Nat.lt_or_ge i ps.length with h4 | h4
    · rw [pl i h4]; have := h.st.lt i h4; omega
    · obtain rfl : i = ps.length := by omega
      rw [pe]; omega
  · rw [hl] at h2
    rcases Nat.lt_or_ge j ps.length with h4 | h4
    · rw [pl i (by omega), pl j h4]; exact h.st.inc i j h1 h4
    · obtain rfl : j = ps.length := by omega
      rw [pl i h1, pe]; have := h.st.lt i h1; omega
  · rw [hl] at h2
    rcases Nat.lt_or_ge j ps.length with h4 | h4
    · rw [pl j h4]
      have := h.st.lt j h4
      exact (pz _ this i h1).trans (h.st.one i j h1 h4)
    · obtain rfl : j = ps.length := by omega
      rw [pe]
      exact pq i h1
  · rw [hl] at h1
    rcases Nat.lt_or_ge s q with h4 | h4
    · exact (pz s h4 i h2).trans (h.st.low i s (by omega) h2 h4)
    · obtain rfl : s = q := by omega
      have := pq i h2
      rwa [if_neg (by omega)] at this
  · rw [hl] at h1
    rcases Nat.lt_or_ge i ps.length with h4 | h4
    · rw [pl i h4] at h2
      have h5 := h.st.lt i h4
      exact (pz s (by omega) i (by omega)).trans (h.st.lead i s h4 h2)
    · obtain rfl : i = ps.length := by omega
      rw [pe] at h2
      exact (pz s (by omega) _ hr).trans (zr s (by omega))
  · rw [hl] at h1
    rcases Nat.lt_or_ge i ps.length with h4 | h4
    · rw [pl i h4]; exact h.pos i h4
    · obtain rfl : i = ps.length := by omega
      rw [pe]; omega
end
end Go.Rk
