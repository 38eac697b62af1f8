/-
  Elimination to steps: what one column's work keeps. No program in sight.
  What goes together, for the statements on matrices.
  gauss.steps, gauss.Steps and gauss.Rank walked.
-/
import Derived.Test.YtkielldinghmbaaDoorRows
import Derived.Test.YtkielldinghmbaaDoorMgTopRankF0
import Derived.Test.YtkielldinghmbaaDoorMgTopRankF3
import Derived.Test.YtkielldinghmbaaDoorMgTopRankF8
import Derived.Test.YtkielldinghmbaaDoorMgTopRankF10
import Derived.Test.YtkielldinghmbaaDoorMgTopRankF11
namespace Go.Rk
open Go.RowKit Go.Proofs.YtkielldinghmbaaDoor

theorem Made.perm {n c : Nat} (A : Mx) {σ : Nat → Nat} (h : ∀ i, i < n → σ i < n) : Made n c A (fun i j => A (σ i) j) :=
  ⟨fun i t => if σ i = t then 1 else 0, fun i j hi _ => Eqm.of_eq (sumTo_pick (fun t => A t j) (h i hi)).symm⟩
theorem Made.add {n c r : Nat} (A : Mx) (x : Nat → Int) (h : r < n) : Made n c A (fun i j => A i j + x i * A r j) := by
  refine ⟨fun i t => (if i = t then 1 else 0) + (if r = t then 1 else 0) * x i, fun i j hi _ => Eqm.of_eq ?_⟩
  unfold mulM
  rw [sumTo_congr (h := fun t => (if i = t then 1 else 0) * A t j + (if r = t then 1 else 0) * (x i * A t j)) fun t _ => by rw [Int.add_mul, Int.mul_assoc], sumTo_add, sumTo_pick (fun t => A t j) hi, sumTo_pick (fun t => x i * A t j) h]

/-- What holds when the first q columns are done, and begin at the columns of ps. -/
structure GInv (n c : Nat) (A : Mx) (q : Nat) (M : List (List Int)) (ps : List Int) : Prop where
  dm : Dm n c M
  ent : EntR 0 9972 n c M
  made : Made n c A (mx M)
  back : Made n c (mx M) A
  st : Stairs n q ps.length (mx M) (fun i => (ix ps i).toNat)
  pos : ∀ i, i < ps.length → 0 ≤ ix ps i

section
variable {n c q : Nat} {A : Mx} {M : List (List Int)} {ps : List Int}
theorem GInv.start {M : List (List Int)} (hd : Dm n c M) (he : EntR 0 9972 n c M) : GInv n c (mx M) 0 M [] :=
  ⟨hd, he, Made.refl _ _ _, Made.refl _ _ _, ⟨Nat.zero_le _, fun _ hi => absurd hi (Nat.not_lt_zero _), fun _ _ _ hj => absurd hj (Nat.not_lt_zero _), fun _ _ _ hj => absurd hj (Nat.not_lt_zero _), fun _ _ _ _ hs => absurd hs (Nat.not_lt_zero _), fun _ _ hi => absurd hi (Nat.not_lt_zero _)⟩, fun _ hi => absurd hi (Nat.not_lt_zero _)⟩

/-- Nothing below in this column. -/
theorem GInv.pass (h : GInv n c A q M ps) (hz : ∀ i, ps.length ≤ i → i < n → en M i q = 0) : GInv n c A (q + 1) M ps :=
  ⟨h.dm, h.ent, h.made, h.back, ⟨h.st.le, fun i hi => Nat.lt_succ_of_lt (h.st.lt i hi), h.st.inc, h.st.one, fun i s h1 h2 h3 => by
    rcases Nat.lt_or_ge s q with h4 | h4
    · exact h.st.low i s h1 h2 h4
    · obtain rfl : s = q := by omega
      exact Eqm.of_eq (hz i h1 h2), h.st.lead⟩, h.pos⟩

theorem en_swap {r k i : Nat} (h : Dm n c M) (hr : r < n) (hk : k < n) (j : Nat) : en (swapL M r k) i j = en M (if i = k then r else if i = r then k else i) j := by
  unfold en
  rw [rowOf_swapL (by rw [h.1]; exact hr) (by rw [h.1]; exact hk)]
  by_cases e : i = k
  · rw [if_pos e, if_pos e]
  · rw [if_neg e, if_neg e]
    by_cases e2 : i = r
    · rw [if_pos e2, if_pos e2]
    · rw [if_neg e2, if_neg e2]
theorem Dm.swap {r k : Nat} (h : Dm n c M) (hr : r < n) (hk : k < n) : Dm n c (swapL M r k) := by
  refine ⟨by rw [swapL_len]; exact h.1, fun i hi => ?_⟩
  rw [rowOf_swapL (by rw [h.1]; exact hr) (by rw [h.1]; exact hk)]
  (repeat' split) <;> exact h.2 _ (by assumption)
theorem swap_lt {r k i : Nat} (hr : r < n) (hk : k < n) (hi : i < n) : (if i = k then r else if i = r then k else i) < n := by
  (repeat' split) <;> assumption

/-- Rows that are not done change places. -/
theorem GInv.swap (h : GInv n c A q M ps) {k : Nat} (h1 : ps.length ≤ k) (hk : k < n) : GInv n c A q (swapL M ps.length k) ps := by
  have hr : ps.length < n := by omega
  have ee : ∀ i j, en (swapL M ps.length k) i j = en M (if i = k then ps.length else if i = ps.length then k else i) j := fun i j => en_swap h.dm hr hk j
  have lo : ∀ i, i < ps.length → (if i = k then ps.length else if i = ps.length then k else i) = i := fun i hi => by rw [if_neg (by omega), if_neg (by omega)]
  have hi' : ∀ i, ps.length ≤ i → ps.length ≤ (if i = k then ps.length else if i = ps.length then k else i) := fun i hi => by (repeat' split) <;> omega
  have em : mx (swapL M ps.length k) = fun i j => mx M (if i = k then ps.length else if i = ps.length then k else i) j := by
    funext i j
    exact ee i j
  have em2 : mx M = fun i j => mx (swapL M ps.length k) (if i = k then ps.length else if i = ps.length then k else i) j := by
    funext i j
    show en M i j = en (swapL M ps.length k) _ j
    rw [ee]
    congr 1
    by_cases e : i = k
    · rw [if_pos e]
      by_cases e2 : ps.length = k
      · rw [if_pos e2]; omega
      · rw [if_neg e2, if_pos rfl]; exact e
    · rw [if_neg e]
      by_cases e2 : i = ps.length
      · rw [if_pos e2, if_pos rfl]; exact e2
      · rw [if_neg e2, if_neg e, if_neg e2]
  have mb : Made n c (mx (swapL M ps.length k)) (mx M) := by
    have := Made.perm (n := n) (c := c) (mx (swapL M ps.length k)) (σ := fun i => if i = k then ps.length else if i = ps.length then k else i) fun i hi => swap_lt hr hk hi
    rwa [← em2] at this
  refine ⟨h.dm.swap hr hk, fun i j hi hj => by rw [ee]; exact h.ent _ j (swap_lt hr hk hi) hj, h.made.trans (by rw [em]; exact Made.perm _ fun i hi => swap_lt hr hk hi), Made.trans mb h.back, ⟨h.st.le, h.st.lt, h.st.inc, fun i j hi hj => ?_, fun i s h1 h2 h3 => ?_, fun i s h1 h2 => ?_⟩, h.pos⟩
  · show Eqm (en (swapL M ps.length k) i _) _
    rw [ee]
    rcases Nat.lt_or_ge i ps.length with h4 | h4
    · rw [lo i h4]; exact h.st.one i j hi hj
    · have e1 : (if i = j then (1 : Int) else 0) = 0 := if_neg (by omega)
      have e2 : (if (if i = k then ps.length else if i = ps.length then k else i) = j then (1 : Int) else 0) = 0 := if_neg (by have := hi' i h4; omega)
      rw [e1, ← e2]
      exact h.st.one _ j (swap_lt hr hk hi) hj
  · show Eqm (en (swapL M ps.length k) i s) _
    rw [ee]
    exact h.st.low _ s (hi' i h1) (swap_lt hr hk h2) h3
  · show Eqm (en (swapL M ps.length k) i s) _
    rw [ee, lo i h1]
    exact h.st.lead i s h1 h2

/-- The pivot's column is cleared. -/
theorem GInv.clear (h : GInv n c A q M ps) (hr : ps.length < n) (hq : q < c) (hp : en M ps.length q ≠ 0) {P : List (List Int)} (hi : IsR n c P (clearE M ps.length q)) : GInv n c A (q + 1) P (ps ++ [(q : Int)]) := by
  have b := h.ent ps.length q hr hq
  have ho := over_mul b.1 b.2 hp
  obtain ⟨ov, hov⟩ : ∃ ov, powm (en M ps.length q) 9971 = ov := ⟨_, rfl⟩
  rw [hov] at ho
  -- by the prime
  have er : ∀ j, j < c → Eqm (en P ps.length j) (ov * en M ps.length j) := fun j hj => by
    rw [hi.2 _ j hr hj]
    unfold clearE
    rw [if_pos rfl, hov, Int.mul_comm]
    exact Eqm.mod _
  have ei : ∀ i j, i < n → j < c → i ≠ ps.length → Eqm (en P i j) (en M i j - en M i q * (ov * en M ps.length j)) := fun i j h1 hj hne => by
    rw [hi.2 i j h1 hj]
    unfold clearE
    rw [if_neg hne, hov, Int.mul_comm (en M ps.length j) ov]
    exact (Eqm.mod _).trans (Eqm.sub (Eqm.refl _) (Eqm.mul (Eqm.refl _) (Eqm.mod _)))
  have o1 : Eqm (ov * en M ps.length q) 1 := by unfold Eqm; rw [ho]; rfl
  have zr : ∀ s, s < q → Eqm (en M ps.length s) 0 := fun s hs => h.st.low _ s (Nat.le_refl _) hr hs
  have hl : (ps ++ [(q : Int)]).length = ps.length + 1 := by simp
  have pl : ∀ i, i < ps.length → ix (ps ++ [(q : Int)]) i = ix ps i := fun i hi => by rw [ix_lt (by simp; omega), ix_lt hi, List.getElem_append_left hi]
  have pe : ix (ps ++ [(q : Int)]) ps.length = q := by rw [ix_lt (by simp)]; simp
  have pz : ∀ s, s < q → ∀ i, i < n → Eqm (en P i s) (en M i s) := fun s hs i h1 => by
    by_cases e : i = ps.length
    · subst e
      refine (er s (by omega)).trans ?_
      have := Eqm.mul (Eqm.refl ov) (zr s hs)
      rw [Int.mul_zero] at this
      exact this.trans (zr s hs).symm
    · refine (ei i s h1 (by omega) e).trans ?_
      have := Eqm.sub (Eqm.refl (en M i s)) (Eqm.mul (Eqm.refl (en M i q)) (Eqm.mul (Eqm.refl ov) (zr s hs)))
      rwa [Int.mul_zero, Int.mul_zero, Int.sub_zero] at this
  have pq : ∀ i, i < n → Eqm (en P i q) (if i = ps.length then 1 else 0) := fun i h1 => by
    by_cases e : i = ps.length
    · subst e
      rw [if_pos rfl]
      exact (er q hq).trans o1
    · rw [if_neg e]
      refine (ei i q h1 hq e).trans ?_
      have := Eqm.sub (Eqm.refl (en M i q)) (Eqm.mul (Eqm.refl (en M i q)) o1)
      rwa [Int.mul_one, Int.sub_self] at this
  refine ⟨hi.1, fun i j h1 h2 => by rw [hi.2 i j h1 h2]; unfold clearE; split <;> omega, ?_, ?_, ⟨by rw [hl]; omega, fun i h1 => ?_, fun i j h1 h2 => ?_, fun i j h1 h2 => ?_, fun i s h1 h2 h3 => ?_, fun i s h1 h2 => ?_⟩, fun i h1 => ?_⟩
  · -- the rows are made of those before
    refine h.made.trans ((Made.add (mx M) (fun i => if i = ps.length then ov - 1 else -(en M i q * ov)) hr).trans (Made.eqm fun i j h1 h2 => Eqm.symm ?_))
    show Eqm (en P i j) (en M i j + _ * en M ps.length j)
    by_cases e : i = ps.length
    · rw [if_pos e, e]
      refine (er j h2).trans (Eqm.of_eq ?_)
      rw [Int.sub_mul]; omega
    · rw [if_neg e]
      refine (ei i j h1 h2 e).trans (Eqm.of_eq ?_)
      rw [Int.neg_mul, Int.mul_assoc]; omega
  · refine Made.trans ?_ h.back
    refine (Made.add (mx P) (fun i => if i = ps.length then en M ps.length q - 1 else en M i q) hr).trans (Made.eqm fun i j h1 h2 => ?_)
    show Eqm (en P i j + _ * en P ps.length j) (en M i j)
    by_cases e : i = ps.length
    · rw [if_pos e, e]
      have h3 : Eqm (en M ps.length q * en P ps.length j) (en M ps.length j) := by
        refine (Eqm.mul (Eqm.refl _) (er j h2)).trans ?_
        have := Eqm.mul o1 (Eqm.refl (en M ps.length j))
        rw [Int.one_mul] at this
        exact (Eqm.of_eq (by rw [← Int.mul_assoc, Int.mul_comm (en M ps.length q) ov])).trans this
      exact (Eqm.of_eq (by rw [Int.sub_mul]; omega)).trans h3
    · rw [if_neg e]
      refine (Eqm.add (ei i j h1 h2 e) (Eqm.mul (Eqm.refl (en M i q)) (er j h2))).trans (Eqm.of_eq (by omega))
  · rw [hl] at h1
    rcases Nat.lt_or_ge i ps.length with h4 | h4
    · rw [pl i h4]; have := h.st.lt i h4; omega
    · obtain rfl : i = ps.length := by omega
      rw [pe]; omega
  · rw [hl] at h2
    rcases Nat.lt_or_ge j ps.length with h4 | h4
    · rw [pl i (by omega), pl j h4]; exact h.st.inc i j h1 h4
    · obtain rfl : j = ps.length := by omega
      rw [pl i h1, pe]; have := h.st.lt i h1; omega
  · rw [hl] at h2
    rcases Nat.lt_or_ge j ps.length with h4 | h4
    · rw [pl j h4]
      have := h.st.lt j h4
      exact (pz _ this i h1).trans (h.st.one i j h1 h4)
    · obtain rfl : j = ps.length := by omega
      rw [pe]
      exact pq i h1
  · rw [hl] at h1
    rcases Nat.lt_or_ge s q with h4 | h4
    · exact (pz s h4 i h2).trans (h.st.low i s (by omega) h2 h4)
    · obtain rfl : s = q := by omega
      have := pq i h2
      rwa [if_neg (by omega)] at this
  · rw [hl] at h1
    rcases Nat.lt_or_ge i ps.length with h4 | h4
    · rw [pl i h4] at h2
      have h5 := h.st.lt i h4
      exact (pz s (by omega) i (by omega)).trans (h.st.lead i s h4 h2)
    · obtain rfl : i = ps.length := by omega
      rw [pe] at h2
      exact (pz s (by omega) _ hr).trans (zr s (by omega))
  · rw [hl] at h1
    rcases Nat.lt_or_ge i ps.length with h4 | h4
    · rw [pl i h4]; exact h.pos i h4
    · obtain rfl : i = ps.length := by omega
      rw [pe]; omega
end
end Go.Rk
namespace Go.Proofs.YtkielldinghmbaaDoor
open Go.RowKit Go.Rk

theorem grounds_of {n c : Nat} {M : List (List Int)} (hn : 1 ≤ n ∧ n ≤ 5) (hc : 1 ≤ c ∧ c ≤ 5) (hd : Dm n c M) (he : EntR 0 9972 n c M) : groundsR 5 0 9972 M = none := by
  have hr0 := hd.2 0 (by omega)
  unfold groundsR
  rw [if_neg (by rw [hd.1, hr0]; omega), if_neg (by rw [hd.1, hr0]; omega)]
  refine rowsErr_of fun l hl => ?_
  obtain ⟨k, hk, rfl⟩ := List.mem_iff_getElem.1 hl
  rw [← rowOf_lt hk, hr0]
  rw [hd.1] at hk
  refine ⟨hd.2 k hk, any_of_in fun j hj => ?_⟩
  rw [hd.2 k hk] at hj
  exact he k j hk hj

theorem mulErr_of {A B : List (List Int)} (g1 : groundsR 5 0 9972 A = none) (g2 : groundsR 5 0 9972 B = none) (h : (rowOf A 0).length = B.length) : mulErr A B = none := by
  unfold mulErr
  rw [g1, g2]
  show (if _ then _ else _) = _
  rw [if_pos h]
theorem addErr_of {A B : List (List Int)} (g1 : groundsR 5 0 9972 A = none) (g2 : groundsR 5 0 9972 B = none) (h : A.length = B.length) (h2 : (rowOf A 0).length = (rowOf B 0).length) : addErr A B = none := by
  unfold addErr
  rw [g1, g2]
  show (if _ then _ else _) = _
  rw [if_pos ⟨h, h2⟩]

/-- A matrix that passes, of n rows of c numbers. -/
structure Good (n c : Nat) (M : List (List Int)) : Prop where
  n1 : 1 ≤ n ∧ n ≤ 5
  c1 : 1 ≤ c ∧ c ≤ 5
  dm : Dm n c M
  ent : EntR 0 9972 n c M
theorem Good.gr {n c : Nat} {M : List (List Int)} (h : Good n c M) : groundsR 5 0 9972 M = none := grounds_of h.n1 h.c1 h.dm h.ent
theorem Good.of {n : Nat} {M : List (List Int)} (e : M.length = n) (g : groundsR 5 0 9972 M = none) : Good n (rowOf M 0).length M :=
  let ⟨a, b, c, d⟩ := grounds_dm e g
  ⟨a, b, c, d⟩
theorem Good.r0 {n c : Nat} {M : List (List Int)} (h : Good n c M) : (rowOf M 0).length = c := h.dm.2 0 (by have := h.n1; omega)
theorem Good.mulOk {n k c : Nat} {A B : List (List Int)} (h : Good n k A) (g : Good k c B) : mulErr A B = none := mulErr_of h.gr g.gr (by rw [h.r0, g.dm.1])
theorem Good.addOk {n c : Nat} {A B : List (List Int)} (h : Good n c A) (g : Good n c B) : addErr A B = none := addErr_of h.gr g.gr (by rw [h.dm.1, g.dm.1]) (by rw [h.r0, g.r0])
/-- The product passes, and is the product by the prime. -/
theorem Good.prod {n k c : Nat} {A B P : List (List Int)} (h : Good n k A) (g : Good k c B) (hp : IsR n c P (fun i j => mulE A B k i j % 9973)) : Good n c P ∧ EqM n c (mx P) (mulM k (mx A) (mx B)) :=
  ⟨⟨h.n1, g.c1, hp.1, fun i j hi hj => by rw [hp.2 i j hi hj]; dsimp only; omega⟩, fun i j hi hj => by
    show Eqm (en P i j) _
    rw [hp.2 i j hi hj]
    exact Eqm.mod _⟩
theorem Good.sum {n c : Nat} {A B P : List (List Int)} (h : Good n c A) (_ : Good n c B) (hp : IsR n c P (fun i j => (en A i j + en B i j) % 9973)) : Good n c P ∧ EqM n c (mx P) (fun i j => mx A i j + mx B i j) :=
  ⟨⟨h.n1, h.c1, hp.1, fun i j hi hj => by rw [hp.2 i j hi hj]; dsimp only; omega⟩, fun i j hi hj => by
    show Eqm (en P i j) _
    rw [hp.2 i j hi hj]
    exact Eqm.mod _⟩
theorem Good.tr {n c : Nat} {A P : List (List Int)} (h : Good n c A) (hp : IsR c n P (fun i j => en A j i)) : Good c n P ∧ EqM c n (mx P) (trM (mx A)) :=
  ⟨⟨h.c1, h.n1, hp.1, fun i j hi hj => by rw [hp.2 i j hi hj]; exact h.ent j i hj hi⟩, fun i j hi hj => Eqm.of_eq (hp.2 i j hi hj)⟩
/-- Two that pass and are one by the prime are one. -/
theorem Good.same {n c : Nat} {A B : List (List Int)} (h : Good n c A) (g : Good n c B) (e : EqM n c (mx A) (mx B)) : A = B :=
  h.dm.ext g.dm fun i j hi hj => by
    have h1 := h.ent i j hi hj
    have h2 := g.ent i j hi hj
    have h3 : en A i j % 9973 = en B i j % 9973 := e i j hi hj
    omega
end Go.Proofs.YtkielldinghmbaaDoor
namespace Go.Proofs.YtkielldinghmbaaDoor
open Go.RowKit Go.Rk

set_option maxHeartbeats 4000000 in
set_option maxRecDepth 100000 in
theorem steps_any {a : Option Addr} {n c ca : Nat} {M : List (List Int)} {w : World} (hM : RdM w a n ca M) (G : Good n c M) :
    Calls Tryd.prog 73 #[.slice a n ca] w fun e w' => ∃ ao co ap cp P ps, e = .returned (.tuple #[.slice ao n co, .slice ap ps.length cp]) ∧ OwM w' w.heap.size 32 3 ao n co P ∧ OwI w' w.heap.size 3 ap ps.length cp ps ∧ GInv n c (mx M) c P ps ∧ Below w.heap.size w w' := by
  have n1 := G.n1
  have c1 := G.c1
  have S0 := Lib.hid (GInv.start G.dm G.ent)
  have HM := Lib.hid matTy
  have C1 := Lib.hid (Copy_any hM (by omega) fun r hr => by rw [G.dm.2 r hr]; omega)
  obtain ⟨ba, oa, hz, hba, hra⟩ := hM.at (k := 0) (by omega)
  subst hz
  obtain ⟨ai, ci, hc0, _⟩ := hra 0 (by omega)
  rw [Nat.add_zero, G.r0] at hc0
  have HG := Lib.hid G
  clear hra G
  go_enter Tryd.func73, Tryd.ntmps73
  go_wp2_with (go_at_call 67; fail)
  (with_reducible refine C1.out.mono ?_)
  clear C1
  rintro e w3 ⟨a3, cap3, rfl, ho3, hb3⟩
  obtain ⟨g, D, C, hz, hd3⟩ := ho3.named (by omega) fun r hr => by rw [HG.out.dm.2 r hr]; omega
  subst hz
  have hc0 := hb3.keep hba hc0
  have hlt : Hid (g < w3.heap.size ∧ ∀ i, i < n → D i < w3.heap.size) := ⟨hd3.lowO.2, fun i hi => (hd3.lowI hi).2⟩
  have b1 : (0 : Int) < (n : Int) := by omega
  have b2 : (1 : Int) ≤ (n : Int) := by omega
  clear ho3
  go_wp2
  clear hc0
  go_loopw [5, 15] (fun vp v wr => ∃ (q : Nat) (D C : Nat → Nat) (P : List (List Int)) (ps : List Int) (ap : Option Addr) (cp : Nat), q ≤ c ∧ v = .int .i64 q ∧ vp = .slice ap ps.length cp ∧ OwMD wr w.heap.size 32 3 g D C n cap3 P ∧ OwI wr w3.heap.size 3 ap ps.length cp ps ∧ Hid (g < w3.heap.size ∧ ∀ i, i < n → D i < w3.heap.size) ∧ Hid (GInv n c (mx M) q P ps) ∧ w3.heap.size ≤ wr.heap.size ∧ Below w.heap.size w wr) (fun _ v _ => c - (intOf v).toNat)
  case atStart => exact ⟨0, D, C, M, [], none, 0, Nat.zero_le _, rfl, rfl, hd3, OwI.nil _ _ _, hlt, S0, Nat.le_refl _, hb3⟩
  case round =>
    clear hd3 hlt S0
    obtain ⟨q, D, C, P, ps, ap, cp, hq, rfl, rfl, hd, hp, hl, hi, hs, hb⟩ := hrel
    have hle := hi.out.st.le
    by_cases hqc : q < c
    · go_wp2
      go_loop [5, 8] (fun vp v => ∃ k : Nat, ps.length ≤ k ∧ k ≤ n ∧ v = .int .i64 k ∧ vp = .slice ap ps.length cp ∧ Hid (∀ i, ps.length ≤ i → i < k → en P i q = 0)) (fun _ v => n - (intOf v).toNat)
      case atStart => exact ⟨ps.length, Nat.le_refl _, hle, rfl, rfl, fun i h1 h2 => absurd h2 (by omega)⟩
      case round =>
        obtain ⟨k, hk1, hk2, rfl, rfl, hz⟩ := hrel
        by_cases hkn : k < n
        · have x1 := hd.cellO hkn
          rw [hi.out.dm.2 k hkn] at x1
          have x2 := hd.cellI hkn (j := q) (by rw [hi.out.dm.2 k hkn]; exact hqc)
          have b3 : (k : Int) < (n : Int) := by omega
          have b4 : (q : Int) < (c : Int) := by omega
          by_cases hp0 : en P k q = 0
          · have z1 : (en P k q != 0) = false := bne_eq_false_iff_eq.2 hp0
            have HP := Lib.hid hp0
            clear hp0
            go_wp2
            go_round
            case rel => exact ⟨k + 1, by omega, by omega, by go_num, rfl, fun i h1 h2 => by
              rcases Nat.lt_or_ge i k with h3 | h3
              · exact hz.out i h1 h3
              · obtain rfl : i = k := by omega
                exact HP.out⟩
            case measure => simp [intOf]; omega
          · have z1 : (en P k q != 0) = true := bne_iff_ne.2 hp0
            have HP := Lib.hid hp0
            clear hp0
            have hrn : ps.length < n := by omega
            have b5 : (ps.length : Int) < (n : Int) := by omega
            have y1 := hd.cellO hrn
            rw [hi.out.dm.2 _ hrn] at y1
            have f1 := hd.frozenO k
            have f2 := hd.frozenO ps.length
            have hsw := hd.swap HM.out.ne hrn hkn
            rw [hi.out.dm.2 k hkn, hi.out.dm.2 _ hrn] at hsw
            have y3 : (wr.setCell ⟨g, ps.length, none⟩ (.slice (some ⟨D k, 0, none⟩) c (C k))).cell? ⟨g, k, none⟩ = some (.slice (some ⟨D k, 0, none⟩) c (C k)) := by
              by_cases e : k = ps.length
              · subst e; exact World.cell?_setCell_same _ _ _ y1
              · rw [World.cell?_setCell_other _ _ _ _ (by first | (simp; done) | (simp; exact fun h => e h.symm))]; exact x1
            have hisw := hi.out.swap hk1 hkn
            have hpne : en (swapL P ps.length k) ps.length q ≠ 0 := by
              rw [en_swap hi.out.dm hrn hkn]
              by_cases e : ps.length = k
              · rw [if_pos e, e]; exact HP.out
              · rw [if_neg e, if_pos rfl]; exact HP.out
            have HI := Lib.hid hisw
            have HPN := Lib.hid hpne
            have hbs := ((hb.setCell (p := ⟨g, ps.length, none⟩) hd.lowO.1 (.slice (some ⟨D k, 0, none⟩) c (C k))).setCell (p := ⟨g, k, none⟩) hd.lowO.1 (.slice (some ⟨D ps.length, 0, none⟩) c (C ps.length))).drew
            have hps : OwI ((wr.setCell ⟨g, ps.length, none⟩ (.slice (some ⟨D k, 0, none⟩) c (C k))).setCell ⟨g, k, none⟩ (.slice (some ⟨D ps.length, 0, none⟩) c (C ps.length))).drew w3.heap.size 3 ap ps.length cp ps := by
              refine ⟨hp.len_eq, ownsRow_same hp.own fun b hbk => ?_⟩
              have hbl := hp.own.lt b hbk
              have hg' := hl.out.1
              show (((wr.setCell _ _).setCell _ _).heap)[b]? = _
              rw [Below.heap_setCell _ _ _ _ (by show b ≠ g; omega), Below.heap_setCell _ _ _ _ (by show b ≠ g; omega)]
            have hl2 : Hid (g < w3.heap.size ∧ ∀ i, i < n → swapF D ps.length k i < w3.heap.size) := ⟨hl.out.1, fun i hi => by
              unfold swapF
              (repeat' split) <;> exact hl.out.2 _ (by assumption)⟩
            have hss : w3.heap.size ≤ (((wr.setCell ⟨g, ps.length, none⟩ (.slice (some ⟨D k, 0, none⟩) c (C k))).setCell ⟨g, k, none⟩ (.slice (some ⟨D ps.length, 0, none⟩) c (C ps.length))).drew).heap.size := by simpa using hs
            have hsw2 := hsw.drew
            clear hisw hpne
            go_wp2
            go_region
            clear x1 x2 y1 y3 f1 f2 hsw hd hp hl hi hb hz HP
            generalize ((wr.setCell ⟨g, ps.length, none⟩ (.slice (some ⟨D k, 0, none⟩) c (C k))).setCell ⟨g, k, none⟩ (.slice (some ⟨D ps.length, 0, none⟩) c (C ps.length))).drew = w4 at *
            generalize swapF D ps.length k = D4 at *
            generalize swapF C ps.length k = C4 at *
            generalize swapL P ps.length k = P4 at *
            have C5 := Lib.hid (clear_any hsw2 HI.out.dm HI.out.ent hrn hqc (by omega) (by omega))
            go_wp2_with (go_at_call 87; fail)
            (with_reducible refine C5.out.mono ?_)
            clear C5
            rintro e w5 ⟨rfl, P5, hd5, hi5, hk5, hb5⟩
            have HI5 := Lib.hid (HI.out.clear hrn hqc HPN.out hi5)
            have hp5 := hps.keptBut hk5 hl2.out.2
            have hs5 : w3.heap.size ≤ w5.heap.size := Nat.le_trans hss hk5.1
            have hbb5 := hbs.trans hb5
            clear hps hsw2 hi5 hk5 hb5 hbs hss HI HPN
            have hl5 := hp5.len_eq
            go_wp2_with (at_builtin; refine wpList_push_int HM.out.int rfl (.tmp 53) (.tmp 55) rfl rfl rfl (hp5.alloc _) (z := (q : Int)) (by simp) (by decide) (by decide) (by omega) (by simp; omega) ?_; intro a6 cap6 w6 ho6 hg6)
            have hle6 : (ps ++ [(q : Int)]).length = ps.length + 1 := by simp
            have hd6 := (hd5.alloc (.cells #[.int .i64 (q : Int)] 3)).grownPast hg6 (fun r e => (hp5.own.lt r e).1) hl2.out.1 hl2.out.2
            have hb6 := (hbb5.alloc hbb5.size (.cells #[.int .i64 (q : Int)] 3)).grown hg6 (by have := hbb5.size; simp; omega) (fun r e => Nat.le_trans hb3.size (hp5.own.lt r e).1)
            have hs6 : w3.heap.size ≤ w6.heap.size := by have := hg6.size; simp at this; omega
            rw [← hle6] at ho6
            go_roundw
            case rel => exact ⟨q + 1, D4, C4, P5, ps ++ [(q : Int)], a6, cap6, by omega, by go_num, by rw [hle6], hd6, ho6, hl2, HI5.out, hs6, hb6⟩
            case measure => simp [intOf]; omega
        · obtain rfl : k = n := by omega
          go_wp2
          go_roundw
          case rel => exact ⟨q + 1, D, C, P, ps, ap, cp, by omega, by go_num, rfl, hd, hp, hl, hi.out.pass hz.out, hs, hb⟩
          case measure => simp [intOf]; omega
    · obtain rfl : q = c := by omega
      go_wp2
      go_ret2
      exact ⟨_, cap3, ap, cp, P, ps, rfl, hd.toM, hp.mono hb3.size, hi.out, hb⟩

section
variable {a : Option Addr} {n c ca : Nat} {M : List (List Int)} {w : World}
theorem Steps_err {x : Int} (hM : RdM w a n ca M) (hq : groundsR 5 0 9972 M = some x) :
    Calls Tryd.prog 31 #[.slice a n ca] w fun e w' => e = .returned (.tuple #[.slice none 0 0, .slice none 0 0, .iface 70 (.int .i64 x)]) ∧ w = w' := by
  have C := Lib.hid (mat_Check_is hM hq)
  clear hq
  go_enter Tryd.func31, Tryd.ntmps31
  go_wp2_with (go_at_call 18; (with_reducible refine C.out.mono ?_); rintro e w' ⟨rfl, rfl⟩; simp only [errV])
  go_ret3
  exact ⟨rfl, rfl⟩
theorem Steps_ok (hM : RdM w a n ca M) (G : Good n c M) :
    Calls Tryd.prog 31 #[.slice a n ca] w fun e w' => ∃ ao co ap cp P ps, e = .returned (.tuple #[.slice ao n co, .slice ap ps.length cp, .nilIface]) ∧ OwM w' w.heap.size 32 3 ao n co P ∧ OwI w' w.heap.size 3 ap ps.length cp ps ∧ GInv n c (mx M) c P ps ∧ Below w.heap.size w w' := by
  have C := Lib.hid (mat_Check_is hM G.gr)
  have C2 := Lib.hid (steps_any hM G)
  go_enter Tryd.func31, Tryd.ntmps31
  go_wp2_with (first | (go_at_call 18; (with_reducible refine C.out.mono ?_); rintro e w' ⟨rfl, rfl⟩; simp only [errV]) | (go_at_call 73; (with_reducible refine C2.out.mono ?_); rintro e w2 ⟨ao, co, ap, cp, P, ps, rfl, h1, h2, h3, h4⟩))
  go_ret3
  exact ⟨ao, co, ap, cp, P, ps, rfl, h1, h2, h3, h4⟩
theorem Rank_err {x : Int} (hM : RdM w a n ca M) (hq : groundsR 5 0 9972 M = some x) :
    Calls Tryd.prog 33 #[.slice a n ca] w fun e w' => e = .returned (.tuple #[.int .i64 0, .iface 70 (.int .i64 x)]) ∧ w = w' := by
  have C := Lib.hid (mat_Check_is hM hq)
  clear hq
  go_enter Tryd.func33, Tryd.ntmps33
  go_wp2_with (go_at_call 18; (with_reducible refine C.out.mono ?_); rintro e w' ⟨rfl, rfl⟩; simp only [errV])
  go_ret2
  exact ⟨rfl, rfl⟩
theorem Rank_ok (hM : RdM w a n ca M) (G : Good n c M) :
    Calls Tryd.prog 33 #[.slice a n ca] w fun e w' => ∃ P ps, e = .returned (.tuple #[.int .i64 (List.length ps), .nilIface]) ∧ GInv n c (mx M) c P ps ∧ Below w.heap.size w w' := by
  have C := Lib.hid (mat_Check_is hM G.gr)
  have C2 := Lib.hid (steps_any hM G)
  go_enter Tryd.func33, Tryd.ntmps33
  go_wp2_with (first | (go_at_call 18; (with_reducible refine C.out.mono ?_); rintro e w' ⟨rfl, rfl⟩; simp only [errV]) | (go_at_call 73; (with_reducible refine C2.out.mono ?_); rintro e w2 ⟨ao, co, ap, cp, P, ps, rfl, h1, h2, h3, h4⟩))
  go_ret2
  exact ⟨P, ps, rfl, h3, h4⟩
end
end Go.Proofs.YtkielldinghmbaaDoor
