/-
  Decomposing: what one column's work keeps. No program in sight.
-/
import Derived.Test.YtfocfgddlnjfmaaGauss
import Derived.Test.YtfocfgddlnjfmaaSignLaw
namespace Go.Rk
open Go.RowKit Go.Proofs.Ytfocfgddlnjfmaa

/-- What holds when the first c columns are done. -/
structure LInv (n : Nat) (A : List (List Int)) (c : Nat) (U L : List (List Int)) (o : List Int) : Prop where
  dU : Dm n n U
  eU : EntR 0 9972 n n U
  dL : Dm n n L
  eL : EntR 0 9972 n n L
  ol : o.length = n
  oo : Ord n (natsOf o)
  op : ∀ i, i < n → 0 ≤ ix o i
  zL : ∀ i t, i < n → t < n → (c ≤ t ∨ i ≤ t) → en L i t = 0
  zU : ∀ i t, i < n → t < i → t < c → en U i t = 0
  rel : ∀ i j, i < n → j < n → Eqm (en A (natsOf o i) j) (en U i j + sumTo (fun t => en L i t * en U t j) n)

section
variable {n c : Nat} {A U L : List (List Int)} {o : List Int}
theorem LInv.start (hd : Dm n n A) (he : EntR 0 9972 n n A) (ho : o.length = n) (hi : ∀ i, i < n → ix o i = i) : LInv n A 0 A (List.replicate n (List.replicate n 0)) o := by
  have h0 : ∀ i j, i < n → j < n → en (List.replicate n (List.replicate n (0 : Int))) i j = 0 := fun i j h1 h2 => by
    unfold en
    rw [rowOf_lt (by simp; exact h1), ix_lt (by simp; exact h2)]
    simp
  have hN : ∀ i, i < n → natsOf o i = i := fun i h1 => by unfold natsOf; rw [hi i h1]; rfl
  refine ⟨hd, he, Dm.replicate n n 0, fun i j h1 h2 => by rw [h0 i j h1 h2]; omega, ho, ⟨fun i h1 => by rw [hN i h1]; exact h1, fun i j h1 h2 e => by rwa [hN i h1, hN j h2] at e⟩, fun i h1 => by rw [hi i h1]; omega, fun i t h1 h2 _ => h0 i t h1 h2, fun i t _ _ h3 => absurd h3 (Nat.not_lt_zero _), fun i j h1 h2 => ?_⟩
  rw [hN i h1, sumTo_congr (h := fun _ => 0) fun t ht => by rw [h0 i t h1 ht, Int.zero_mul], sumTo_zero, Int.add_zero]
  exact Eqm.refl _

theorem LInv.pass (h : LInv n A c U L o) (hz : ∀ i, c ≤ i → i < n → en U i c = 0) : LInv n A (c + 1) U L o :=
  ⟨h.dU, h.eU, h.dL, h.eL, h.ol, h.oo, h.op, fun i t h1 h2 h3 => h.zL i t h1 h2 (by omega), fun i t h1 h2 h3 => by
    rcases Nat.lt_or_ge t c with h4 | h4
    · exact h.zU i t h1 h2 h4
    · obtain rfl : t = c := by omega
      exact hz i (by omega) h1, h.rel⟩

theorem LInv.swap (h : LInv n A c U L o) {k : Nat} (hc : c < n) (hck : c ≤ k) (hk : k < n) : LInv n A c (swapL U c k) (swapL L c k) ((o.set c (ix o k)).set k (ix o c)) := by
  have eu : ∀ i j, en (swapL U c k) i j = en U (if i = k then c else if i = c then k else i) j := fun i j => en_swap h.dU hc hk j
  have el : ∀ i j, en (swapL L c k) i j = en L (if i = k then c else if i = c then k else i) j := fun i j => en_swap h.dL hc hk j
  have lo : ∀ i, i < c → (if i = k then c else if i = c then k else i) = i := fun i hi => by rw [if_neg (by omega), if_neg (by omega)]
  have hi' : ∀ i, c ≤ i → c ≤ (if i = k then c else if i = c then k else i) := fun i hi => by (repeat' split) <;> omega
  have lt : ∀ i, i < n → (if i = k then c else if i = c then k else i) < n := fun i hi => swap_lt hc hk hi
  have hno : natsOf ((o.set c (ix o k)).set k (ix o c)) = swapN (natsOf o) c k := natsOf_swap (by rw [h.ol]; exact hc) (by rw [h.ol]; exact hk)
  have hno2 : ∀ i, natsOf ((o.set c (ix o k)).set k (ix o c)) i = natsOf o (if i = k then c else if i = c then k else i) := fun i => by
    rw [hno]
    unfold swapN
    (repeat' split) <;> rfl
  refine ⟨h.dU.swap hc hk, fun i j h1 h2 => by rw [eu]; exact h.eU _ j (lt i h1) h2, h.dL.swap hc hk, fun i j h1 h2 => by rw [el]; exact h.eL _ j (lt i h1) h2, by simp [h.ol], by rw [hno]; exact h.oo.swap hc hk, fun i h1 => ?_, fun i t h1 h2 h3 => ?_, fun i t h1 h2 h3 => ?_, fun i j h1 h2 => ?_⟩
  · rw [ix_set, ix_set]
    split
    · exact h.op c hc
    · split
      · exact h.op k hk
      · exact h.op i h1
  · rw [el]
    rcases Nat.lt_or_ge t c with h4 | h4
    · rw [lo i (by omega)]; exact h.zL i t h1 h2 h3
    · exact h.zL _ t (lt i h1) h2 (.inl h4)
  · rw [eu]
    rcases Nat.lt_or_ge i c with h4 | h4
    · rw [lo i h4]; exact h.zU i t h1 h2 h3
    · exact h.zU _ t (lt i h1) (by have := hi' i h4; omega) h3
  · rw [hno2, eu, sumTo_congr (h := fun t => en L (if i = k then c else if i = c then k else i) t * en U t j) fun t ht => ?_]
    · exact h.rel _ j (lt i h1) h2
    · rw [el, eu]
      rcases Nat.lt_or_ge t c with h4 | h4
      · rw [lo t h4]
      · rw [h.zL _ t (lt i h1) ht (.inl h4), Int.zero_mul, Int.zero_mul]

/-- How often the pivot's row is taken from row i. -/
def byE (U : List (List Int)) (c : Nat) (i : Nat) : Int := en U i c * powm (en U c c) 9971 % 9973

theorem LInv.elim (h : LInv n A c U L o) (hc : c < n) (hp : en U c c ≠ 0) {U2 L2 : List (List Int)}
    (hL : IsR n n L2 (fun i t => if c < i ∧ t = c then byE U c i else en L i t)) (hU : IsR n n U2 (fun i j => if c < i then (en U i j - byE U c i * en U c j) % 9973 else en U i j)) : LInv n A (c + 1) U2 L2 o := by
  have b := h.eU c c hc hc
  have ho := over_mul b.1 b.2 hp
  have o1 : ∀ i, Eqm (byE U c i * en U c c) (en U i c) := fun i => by
    unfold byE
    refine (Eqm.mul (Eqm.mod _) (Eqm.refl _)).trans ?_
    rw [Int.mul_assoc]
    have : Eqm (powm (en U c c) 9971 * en U c c) 1 := by unfold Eqm; rw [ho]; rfl
    have := Eqm.mul (Eqm.refl (en U i c)) this
    rwa [Int.mul_one] at this
  have bb : ∀ i, 0 ≤ byE U c i ∧ byE U c i ≤ 9972 := fun i => by unfold byE; omega
  refine ⟨hU.1, fun i j h1 h2 => ?_, hL.1, fun i j h1 h2 => ?_, h.ol, h.oo, h.op, fun i t h1 h2 h3 => ?_, fun i t h1 h2 h3 => ?_, fun i j h1 h2 => ?_⟩
  · rw [hU.2 i j h1 h2]
    dsimp only
    split
    · omega
    · exact h.eU i j h1 h2
  · rw [hL.2 i j h1 h2]
    dsimp only
    split
    · exact bb i
    · exact h.eL i j h1 h2
  · rw [hL.2 i t h1 h2]
    dsimp only
    rw [if_neg (by omega)]
    exact h.zL i t h1 h2 (by omega)
  · rw [hU.2 i t h1 (by omega)]
    dsimp only
    split
    · rcases Nat.lt_or_ge t c with h4 | h4
      · rw [h.zU i t h1 h2 h4, h.zU c t hc h4 h4, Int.mul_zero]; rfl
      · obtain rfl : t = c := by omega
        have := Eqm.sub (Eqm.refl (en U i t)) (o1 i)
        rw [Int.sub_self] at this
        exact this
    · exact h.zU i t h1 h2 (by omega)
  · refine (h.rel i j h1 h2).trans ?_
    rw [hU.2 i j h1 h2]
    dsimp only
    have e : ∀ t, t < n → en L2 i t * en U2 t j = en L i t * en U t j + (if c = t then 1 else 0) * (if c < i then byE U c i * en U t j else 0) := fun t ht => by
      rw [hL.2 i t h1 ht, hU.2 t j ht h2]
      dsimp only
      by_cases e1 : t = c
      · subst e1
        rw [if_neg (Nat.lt_irrefl _), if_pos rfl, h.zL i t h1 ht (.inl (Nat.le_refl _))]
        by_cases e2 : t < i
        · rw [if_pos ⟨e2, rfl⟩, if_pos e2]; omega
        · rw [if_neg fun x => e2 x.1, if_neg e2]; omega
      · rw [if_neg (fun x : c < i ∧ t = c => e1 x.2), if_neg (fun x : c = t => e1 x.symm), Int.zero_mul, Int.add_zero]
        by_cases e2 : c < t
        · rw [h.zL i t h1 ht (.inl (by omega)), Int.zero_mul, Int.zero_mul]
        · rw [if_neg e2]
    rw [sumTo_congr e, sumTo_add, sumTo_pick (fun t => if c < i then byE U c i * en U t j else 0) hc]
    by_cases e2 : c < i
    · rw [if_pos e2, if_pos e2]
      have := Eqm.add (Eqm.mod (en U i j - byE U c i * en U c j)) (Eqm.refl (sumTo (fun t => en L i t * en U t j) n + byE U c i * en U c j))
      exact (Eqm.of_eq (by omega)).trans this.symm
    · rw [if_neg e2, if_neg e2, Int.add_zero]
      exact Eqm.refl _

/-- What is told in the end. -/
structure LFin (n : Nat) (A U L : List (List Int)) (o : List Int) : Prop where
  dU : Dm n n U
  eU : EntR 0 9972 n n U
  dL : Dm n n L
  eL : EntR 0 9972 n n L
  ol : o.length = n
  oo : Ord n (natsOf o)
  op : ∀ i, i < n → 0 ≤ ix o i
  one : ∀ i, i < n → en L i i = 1
  zL : ∀ i t, i < n → t < n → i < t → en L i t = 0
  zU : ∀ i t, i < n → t < i → en U i t = 0
  rel : ∀ i j, i < n → j < n → Eqm (en A (natsOf o i) j) (mulM n (mx L) (mx U) i j)

theorem LInv.fin (h : LInv n A n U L o) {L2 : List (List Int)} (hL : IsR n n L2 (fun i t => if i = t then 1 else en L i t)) : LFin n A U L2 o := by
  refine ⟨h.dU, h.eU, hL.1, fun i j h1 h2 => ?_, h.ol, h.oo, h.op, fun i h1 => ?_, fun i t h1 h2 h3 => ?_, fun i t h1 h2 => h.zU i t h1 h2 (by omega), fun i j h1 h2 => ?_⟩
  · rw [hL.2 i j h1 h2]
    dsimp only
    split
    · omega
    · exact h.eL i j h1 h2
  · rw [hL.2 i i h1 h1]; dsimp only; rw [if_pos rfl]
  · rw [hL.2 i t h1 h2]; dsimp only; rw [if_neg (by omega)]; exact h.zL i t h1 h2 (.inr (by omega))
  · refine (h.rel i j h1 h2).trans (Eqm.of_eq ?_)
    have e : ∀ t, t < n → mx L2 i t * mx U t j = en L i t * en U t j + (if i = t then 1 else 0) * en U t j := fun t ht => by
      show en L2 i t * en U t j = _
      rw [hL.2 i t h1 ht]
      dsimp only
      by_cases e : i = t
      · subst e; rw [if_pos rfl, if_pos rfl, h.zL i i h1 h1 (.inr (Nat.le_refl _))]; omega
      · rw [if_neg e, if_neg e]; omega
    unfold mulM
    rw [sumTo_congr e, sumTo_add, sumTo_pick (fun t => en U t j) h1]
    omega

/-- The determinant is the product of the middle, with the order's sign. -/
theorem LFin.det (h : LFin n A U L o) : Eqm (signC o * prodTo (fun i => en U i i) n) (Go.Rk.det n (mx A)) := by
  have hs : okN o n n = true := ord_okN h.oo h.op n (Nat.le_refl _)
  have e1 := signC_ord h.ol hs
  have e2 : Eqm (Go.Rk.det n (mulM n (pm (natsOf o)) (mx A))) (Go.Rk.det n (mulM n (mx L) (mx U))) := det_eqm fun i j h1 h2 => by
    refine Eqm.trans (Eqm.of_eq ?_) (h.rel i j h1 h2)
    have : ∀ t, t < n → pm (natsOf o) i t * mx A t j = (if natsOf o i = t then 1 else 0) * mx A t j := fun t _ => by
      unfold pm unit_
      by_cases e : t = natsOf o i
      · rw [if_pos e, if_pos e.symm]
      · rw [if_neg e, if_neg fun x => e x.symm]
    unfold mulM
    rw [sumTo_congr this]
    exact sumTo_pick (fun t => mx A t j) (h.oo.lt i h1)
  rw [det_mul, det_mul, det_lower (mx L) (fun i j h1 h2 h3 => h.zL i j h1 h2 h3), det_upper (mx U) (fun i j h1 _ h3 => h.zU i j h1 h3), prodTo_one (g := fun i => mx L i i) (fun i hi => h.one i hi), Int.one_mul, ← e1] at e2
  have hpm : signC o = 1 ∨ signC o = -1 := by
    rcases signC_pm o with e | e | e
    · exfalso
      unfold signC at e
      rw [h.ol, if_pos hs] at e
      have := (cycN_len o n n).2
      omega
    · exact .inl e
    · exact .inr e
  have e3 := Eqm.mul (Eqm.refl (signC o)) e2
  rw [← Int.mul_assoc, show signC o * signC o = 1 by rcases hpm with e | e <;> rw [e] <;> rfl, Int.one_mul] at e3
  exact e3.symm
end
end Go.Rk
