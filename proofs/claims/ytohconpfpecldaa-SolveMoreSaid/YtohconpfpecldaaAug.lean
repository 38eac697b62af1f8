/-
  A matrix with a right side: the steps of both together, and what solves it. No program in sight.
-/
import Derived.Test.YtohconpfpecldaaNull
namespace Go.Proofs.Ytohconpfpecldaa
open Go.RowKit Go.Rk

/-- What is null stays null. -/
theorem _root_.Go.Rk.Made.null {n c : Nat} {A B : Mx} (h : Made n c A B) {v : Nat → Int} (hv : ∀ i, i < n → Eqm (sumTo (fun j => A i j * v j) c) 0) {i : Nat} (hi : i < n) : Eqm (sumTo (fun j => B i j * v j) c) 0 := by
  obtain ⟨K, hK⟩ := h
  have e1 : Eqm (sumTo (fun j => B i j * v j) c) (sumTo (fun j => sumTo (fun k => K i k * (A k j * v j)) n) c) := sumTo_eqm fun j hj => by
    refine (Eqm.mul (hK i j hi hj) (Eqm.refl (v j))).trans (Eqm.of_eq ?_)
    show sumTo (fun k => K i k * A k j) n * v j = _
    rw [Int.mul_comm, ← sumTo_mul]
    exact sumTo_congr fun k _ => by rw [Int.mul_comm, Int.mul_assoc]
  refine e1.trans ?_
  rw [sumTo_swap]
  have e2 : Eqm (sumTo (fun k => sumTo (fun j => K i k * (A k j * v j)) c) n) (sumTo (fun _ => 0) n) := sumTo_eqm fun k hk => by
    rw [sumTo_mul]
    have := Eqm.mul (Eqm.refl (K i k)) (hv k hk)
    rwa [Int.mul_zero] at this
  rw [sumTo_zero] at e2
  exact e2

/-- What is null and has nothing in the free columns is nothing. -/
theorem null_zero {n c : Nat} {R : Mx} {ps : List Int} (st : Stairs n c ps.length R (natsOf ps)) (hp : ∀ i, i < ps.length → 0 ≤ ix ps i) {v : Nat → Int} (hv : ∀ i, i < n → Eqm (sumTo (fun j => R i j * v j) c) 0) (hf : ∀ j, j < c → hasB (j : Int) ps = false → Eqm (v j) 0) {j : Nat} (hj : j < c) : Eqm (v j) 0 := by
  cases hb : hasB (j : Int) ps
  · exact hf j hj hb
  · obtain ⟨i, hi, rfl⟩ := (hasB_pos hp).1 hb
    have hin : i < n := by have := st.le; omega
    have e1 : Eqm (sumTo (fun j => R i j * v j) c) (sumTo (fun j => (if natsOf ps i = j then 1 else 0) * v j) c) := sumTo_eqm fun j hj => by
      cases hb2 : hasB (j : Int) ps
      · have := Eqm.mul (Eqm.refl (R i j)) (hf j hj hb2)
        rw [Int.mul_zero] at this
        refine this.trans ?_
        have := Eqm.mul (Eqm.refl (if natsOf ps i = j then (1 : Int) else 0)) (hf j hj hb2)
        rw [Int.mul_zero] at this
        exact this.symm
      · obtain ⟨k, hk, rfl⟩ := (hasB_pos hp).1 hb2
        refine (Eqm.mul (st.one i k hin hk) (Eqm.refl _)).trans (Eqm.of_eq ?_)
        by_cases e : i = k
        · subst e; rw [if_pos rfl, if_pos rfl]
        · rw [if_neg e, if_neg fun e2 => ?_]
          rcases Nat.lt_trichotomy i k with h1 | h1 | h1
          · have := st.inc i k h1 hk; omega
          · exact e h1
          · have := st.inc k i h1 hi; omega
    rw [sumTo_pick v hj] at e1
    exact e1.symm.trans (hv i hin)

def augL (n : Nat) (P : List (List Int)) (T : List Int) : List (List Int) := (List.range n).map fun i => rowOf P i ++ [ix T i]
section
variable {n c q : Nat} {A : Mx} {P M : List (List Int)} {T t ps : List Int}
theorem augL_row {i : Nat} (hi : i < n) : rowOf (augL n P T) i = rowOf P i ++ [ix T i] := by
  unfold augL
  rw [rowOf_lt (by simp; exact hi)]
  simp
theorem augL_dm (h : Dm n c P) : Dm n (c + 1) (augL n P T) := ⟨by simp [augL], fun i hi => by rw [augL_row hi, List.length_append, h.2 i hi]; rfl⟩
theorem augL_l (h : Dm n c P) {i j : Nat} (hi : i < n) (hj : j < c) : en (augL n P T) i j = en P i j := by
  unfold en
  rw [augL_row hi, ix_append_left (by rw [h.2 i hi]; exact hj)]
theorem augL_r (h : Dm n c P) {i : Nat} (hi : i < n) : en (augL n P T) i c = ix T i := by
  unfold en
  rw [augL_row hi, ix_append_right (by rw [h.2 i hi]; exact Nat.le_refl _), h.2 i hi, Nat.sub_self]
  rfl
theorem aug_ext {N : List (List Int)} (h : Dm n c P) (hN : Dm n (c + 1) N) (e1 : ∀ i j, i < n → j < c → en N i j = en P i j) (e2 : ∀ i, i < n → en N i c = ix T i) : N = augL n P T := hN.ext (augL_dm h) fun i j hi hj => by
  rcases Nat.lt_or_ge j c with h1 | h1
  · rw [augL_l h hi h1]; exact e1 i j hi h1
  · obtain rfl : j = c := by omega
    rw [augL_r h hi]; exact e2 i hi

/-- What holds when the first q columns are done. -/
structure RInv (n c : Nat) (A : Mx) (q : Nat) (P : List (List Int)) (T ps : List Int) : Prop where
  inv : GInv n (c + 1) A q (augL n P T) ps
  dP : Dm n c P
  lT : T.length = n

theorem RInv.eP (h : RInv n c A q P T ps) : EntR 0 9972 n c P := fun i j hi hj => by
  have := h.inv.ent i j hi (by omega)
  rwa [augL_l h.dP hi hj] at this
theorem RInv.eT (h : RInv n c A q P T ps) : In 0 9972 T := fun i hi => by
  rw [h.lT] at hi
  have := h.inv.ent i c hi (by omega)
  rwa [augL_r h.dP hi] at this
theorem RInv.start (hd : Dm n c M) (he : EntR 0 9972 n c M) (hl : t.length = n) (ht : In 0 9972 t) : RInv n c (mx (augL n M t)) 0 M t [] :=
  ⟨GInv.start (augL_dm hd) fun i j hi hj => by
    rcases Nat.lt_or_ge j c with h1 | h1
    · rw [augL_l hd hi h1]; exact he i j hi h1
    · obtain rfl : j = c := by omega
      rw [augL_r hd hi]; exact ht i (by rw [hl]; exact hi), hd, hl⟩
theorem RInv.pass (h : RInv n c A q P T ps) (hq : q < c) (hz : ∀ i, ps.length ≤ i → i < n → en P i q = 0) : RInv n c A (q + 1) P T ps :=
  ⟨h.inv.pass fun i h1 h2 => by rw [augL_l h.dP h2 hq]; exact hz i h1 h2, h.dP, h.lT⟩
theorem RInv.swap (h : RInv n c A q P T ps) {k : Nat} (h1 : ps.length ≤ k) (hk : k < n) : RInv n c A q (swapL P ps.length k) ((T.set ps.length (ix T k)).set k (ix T ps.length)) ps := by
  have hr : ps.length < n := by omega
  have hs := h.inv.swap h1 hk
  have e : swapL (augL n P T) ps.length k = augL n (swapL P ps.length k) ((T.set ps.length (ix T k)).set k (ix T ps.length)) := by
    refine aug_ext (h.dP.swap hr hk) hs.dm (fun i j hi hj => ?_) fun i hi => ?_
    · rw [en_swap h.inv.dm hr hk, en_swap h.dP hr hk]
      exact augL_l h.dP (swap_lt hr hk hi) hj
    · rw [en_swap h.inv.dm hr hk, augL_r h.dP (swap_lt hr hk hi), ix_set, ix_set]
      by_cases e1 : i = k
      · rw [if_pos e1, if_pos ⟨e1.symm, by rw [List.length_set, h.lT]; omega⟩]
      · by_cases e2 : i = ps.length
        · rw [if_neg e1, if_pos e2, if_neg (fun x => e1 x.1.symm), if_pos ⟨e2.symm, by rw [h.lT]; omega⟩]
        · rw [if_neg e1, if_neg e2, if_neg (fun x => e1 x.1.symm), if_neg (fun x => e2 x.1.symm)]
  rw [e] at hs
  exact ⟨hs, h.dP.swap hr hk, by rw [List.length_set, List.length_set, h.lT]⟩

/-- What clearing a column makes of the right side. -/
def clearT (P : List (List Int)) (T : List Int) (r q i : Nat) : Int :=
  if i = r then ix T r * powm (en P r q) 9971 % 9973 else (ix T i - en P i q * (ix T r * powm (en P r q) 9971 % 9973)) % 9973
theorem RInv.clear (h : RInv n c A q P T ps) (hr : ps.length < n) (hq : q < c) (hp : en P ps.length q ≠ 0) {P2 : List (List Int)} {T2 : List Int} (hi : IsR n c P2 (clearE P ps.length q)) (hl : T2.length = n) (ht : ∀ i, i < n → ix T2 i = clearT P T ps.length q i) : RInv n c A (q + 1) P2 T2 (ps ++ [(q : Int)]) := by
  refine ⟨h.inv.clear hr (by omega) (by rw [augL_l h.dP hr hq]; exact hp) ⟨augL_dm hi.1, fun i j h1 h2 => ?_⟩, hi.1, hl⟩
  unfold clearE
  rw [augL_l h.dP hr hq, augL_l h.dP h1 hq]
  rcases Nat.lt_or_ge j c with h3 | h3
  · rw [augL_l hi.1 h1 h3, augL_l h.dP hr h3, augL_l h.dP h1 h3]
    exact hi.2 i j h1 h3
  · obtain rfl : j = c := by omega
    rw [augL_r hi.1 h1, augL_r h.dP hr, augL_r h.dP h1]
    exact ht i h1

/-- In the end the left side is in steps by itself. -/
theorem RInv.left (hd : Dm n c M) (h : RInv n c (mx (augL n M t)) c P T ps) : GInv n c (mx M) c P ps := by
  have eM : EqM n c (mx M) (mx (augL n M t)) := fun i j hi hj => Eqm.of_eq (augL_l hd hi hj).symm
  have eP : EqM n c (mx P) (mx (augL n P T)) := fun i j hi hj => Eqm.of_eq (augL_l h.dP hi hj).symm
  have st := h.inv.st
  refine ⟨h.dP, h.eP, (Made.eqm eM).trans ((h.inv.made.cols (Nat.le_succ c)).trans (Made.eqm eP.symm)), (Made.eqm eP).trans ((h.inv.back.cols (Nat.le_succ c)).trans (Made.eqm eM.symm)), ⟨st.le, st.lt, st.inc, fun i j hi hj => ?_, fun i s h1 h2 h3 => ?_, fun i s h1 h2 => ?_⟩, h.inv.pos⟩
  · exact (eP i _ hi (st.lt j hj)).trans (st.one i j hi hj)
  · exact (eP i s h2 h3).trans (st.low i s h1 h2 h3)
  · have h5 := st.lt i h1
    exact (eP i s (by have := st.le; omega) (by omega)).trans (st.lead i s h1 h2)

/-- What is told: the right side at the steps, 0 elsewhere. -/
structure XRow (c : Nat) (T ps x : List Int) : Prop where
  len : x.length = c
  piv : ∀ i, i < ps.length → ix x (natsOf ps i) = ix T i
  zer : ∀ j, j < c → hasB (j : Int) ps = false → ix x j = 0

theorem XRow.range {x : List Int} (h : XRow c T ps x) (hT : In 0 9972 T) (hle : ps.length ≤ T.length) (hp : ∀ i, i < ps.length → 0 ≤ ix ps i) : In 0 9972 x := by
  intro j hj
  rw [h.len] at hj
  cases hb : hasB (j : Int) ps
  · rw [h.zer j hj hb]; omega
  · obtain ⟨i, hi, e⟩ := (hasB_pos hp).1 hb
    rw [← e, h.piv i hi]
    exact hT i (by omega)

/-- A row and -1 behind it. -/
def withM (y : Nat → Int) (c : Nat) : Nat → Int := fun j => if j < c then y j else -1
theorem aug_null (h : Dm n c P) (y : Nat → Int) {i : Nat} (hi : i < n) : sumTo (fun j => mx (augL n P T) i j * withM y c j) (c + 1) = sumTo (fun j => en P i j * y j) c - ix T i := by
  rw [sumTo]
  have e1 : mx (augL n P T) i c * withM y c c = -ix T i := by
    show en (augL n P T) i c * _ = _
    rw [augL_r h hi]
    unfold withM
    rw [if_neg (Nat.lt_irrefl _)]
    omega
  rw [e1, sumTo_congr (h := fun j => en P i j * y j) fun j hj => by
    show en (augL n P T) i j * _ = _
    rw [augL_l h hi hj]
    unfold withM
    rw [if_pos hj]]
  omega

/-- If anything is taken to the right side, what is told is. -/
theorem solves {x : List Int} (hd : Dm n c M) (h : RInv n c (mx (augL n M t)) c P T ps) (hx : XRow c T ps x) {y : Nat → Int} (hy : ∀ i, i < n → Eqm (sumTo (fun j => en M i j * y j) c) (ix t i)) {i : Nat} (hi : i < n) : Eqm (sumTo (fun j => en M i j * ix x j) c) (ix t i) := by
  have st : Stairs n c ps.length (mx P) (natsOf ps) := (h.left hd).st
  have hp := h.inv.pos
  -- what solves, solves the steps
  have n1 : ∀ i, i < n → Eqm (sumTo (fun j => mx (augL n P T) i j * withM y c j) (c + 1)) 0 := fun i hi => h.inv.made.null (v := withM y c) (fun k hk => by
    rw [aug_null hd y hk]
    have := Eqm.sub (hy k hk) (Eqm.refl (ix t k))
    rwa [Int.sub_self] at this) hi
  -- what is told does
  have n2 : ∀ i, i < n → Eqm (sumTo (fun j => en P i j * ix x j) c) (ix T i) := fun i hi => by
    have e1 : ∀ j, j < c → ix x j = sumTo (fun k => (if natsOf ps k = j then 1 else 0) * ix T k) ps.length := fun j hj => by
      cases hb : hasB (j : Int) ps
      · rw [hx.zer j hj hb, sumTo_congr (h := fun _ => 0) fun k hk => by rw [if_neg (fun e => by rw [(hasB_pos hp).2 ⟨k, hk, e⟩] at hb; cases hb), Int.zero_mul]]
        exact (sumTo_zero _).symm
      · obtain ⟨k, hk, rfl⟩ := (hasB_pos hp).1 hb
        rw [hx.piv k hk, sumTo_congr (h := fun m => (if k = m then 1 else 0) * ix T m) fun m hm => ?_]
        · exact (sumTo_pick (fun m => ix T m) hk).symm
        · by_cases e3 : k = m
          · rw [if_pos (by rw [e3]), if_pos e3]
          · rw [if_neg fun e4 => ?_, if_neg e3]
            rcases Nat.lt_trichotomy k m with h1 | h1 | h1
            · have := st.inc k m h1 hm; omega
            · exact e3 h1
            · have := st.inc m k h1 hk; omega
    have e2 : sumTo (fun j => en P i j * ix x j) c = sumTo (fun k => en P i (natsOf ps k) * ix T k) ps.length := by
      rw [sumTo_congr (h := fun j => sumTo (fun k => (if natsOf ps k = j then 1 else 0) * (en P i j * ix T k)) ps.length) fun j hj => by
        rw [e1 j hj, ← sumTo_mul]
        exact sumTo_congr fun k _ => by grind, sumTo_swap]
      exact sumTo_congr fun k hk => sumTo_pick (fun j => en P i j * ix T k) (st.lt k hk)
    rw [e2]
    have e3 : Eqm (sumTo (fun k => en P i (natsOf ps k) * ix T k) ps.length) (sumTo (fun k => (if i = k then 1 else 0) * ix T k) ps.length) := sumTo_eqm fun k hk => Eqm.mul (st.one i k hi hk) (Eqm.refl _)
    refine e3.trans ?_
    rcases Nat.lt_or_ge i ps.length with h1 | h1
    · rw [sumTo_pick (fun k => ix T k) h1]
      exact Eqm.refl _
    · rw [sumTo_congr (h := fun _ => 0) fun k hk => by rw [if_neg (by omega), Int.zero_mul], sumTo_zero]
      have := n1 i hi
      rw [aug_null h.dP y hi] at this
      have e4 : Eqm (sumTo (fun j => en P i j * y j) c) (sumTo (fun _ => 0) c) := sumTo_eqm fun j hj => by
        have := Eqm.mul (st.low i j h1 hi hj) (Eqm.refl (y j))
        rwa [Int.zero_mul] at this
      rw [sumTo_zero] at e4
      unfold Eqm at this e4 ⊢
      omega
  have n3 := h.inv.back.null (v := withM (ix x) c) (fun k hk => by
    rw [aug_null h.dP (ix x) hk]
    have := Eqm.sub (n2 k hk) (Eqm.refl (ix T k))
    rwa [Int.sub_self] at this) hi
  rw [aug_null hd (ix x) hi] at n3
  unfold Eqm at n3 ⊢
  omega
end
end Go.Proofs.Ytohconpfpecldaa
