/-
  Elimination to steps: what one column's work keeps. No program in sight.
  The walks of package det: the checks, the exchange of two rows, the determinant by elimination.
  A region in a round of a range over a function: what is walked of a region elsewhere holds in a round too, if none of its operations is a defer statement. No program in sight.
  mat.mul walked: the product of two matrices that go together.
-/
import Derived.Test.YtkielldinghmbaaDoorRows
import Derived.Deep.QuietTactic
import Derived.BigQuiet
import Derived.Deep.RegionHeld3
import Derived.RangeFuncNested
import Derived.RangeFuncCalls
import Derived.OrdersIn
import Derived.TacticsIn
import Derived.Deep.Quiet
import Derived.StillTail
import Derived.StillTailTactics
import Derived.Test.YtkielldinghmbaaDoorMgSolveSaysF0
import Derived.Test.YtkielldinghmbaaDoorMgSolveSaysF1
import Derived.Test.YtkielldinghmbaaDoorMgSolveSaysF4
import Derived.Test.YtkielldinghmbaaDoorMgSolveSaysF5
namespace Go.Rk
open Go.RowKit Go.Proofs.YtkielldinghmbaaDoor

theorem Made.perm {n c : Nat} (A : Mx) {σ : Nat → Nat} (h : ∀ i, i < n → σ i < n) : Made n c A (fun i j => A (σ i) j) :=
  ⟨fun i t => if σ i = t then 1 else 0, fun i j hi _ => Eqm.of_eq (sumTo_pick (fun t => A t j) (h i hi)).symm⟩
theorem Made.add {n c r : Nat} (A : Mx) (x : Nat → Int) (h : r < n) : Made n c A (fun i j => A i j + x i * A r j) := by
  refine ⟨fun i t => (if i = t then 1 else 0) + (if r = t then 1 else 0) * x i, fun i j hi _ => Eqm.of_eq ?_⟩
  unfold mulM
  rw [sumTo_congr (h := fun t => (if i = t then 1 else 0) * A t j + (if r = t then 1 else 0) * (x i * A t j)) fun t _ => by rw [Int.add_mul, Int.mul_assoc], sumTo_add, sumTo_pick (fun t => A t j) hi, sumTo_pick (fun t => x i * A t j) h]

/-- What holds when the first q columns are done, and begin at the columns of ps. -/
structure GInv (n c : Nat) (A : Mx) (q : Nat) (M : List (List Int)) (ps : List Int) : Prop where
  dm : Dm n c M
  ent : EntR 0 9972 n c M
  made : Made n c A (mx M)
  back : Made n c (mx M) A
  st : Stairs n q ps.length (mx M) (fun i => (ix ps i).toNat)
  pos : ∀ i, i < ps.length → 0 ≤ ix ps i

section
variable {n c q : Nat} {A : Mx} {M : List (List Int)} {ps : List Int}
theorem GInv.start {M : List (List Int)} (hd : Dm n c M) (he : EntR 0 9972 n c M) : GInv n c (mx M) 0 M [] :=
  ⟨hd, he, Made.refl _ _ _, Made.refl _ _ _, ⟨Nat.zero_le _, fun _ hi => absurd hi (Nat.not_lt_zero _), fun _ _ _ hj => absurd hj (Nat.not_lt_zero _), fun _ _ _ hj => absurd hj (Nat.not_lt_zero _), fun _ _ _ _ hs => absurd hs (Nat.not_lt_zero _), fun _ _ hi => absurd hi (Nat.not_lt_zero _)⟩, fun _ hi => absurd hi (Nat.not_lt_zero _)⟩

/-- Nothing below in this column. -/
theorem GInv.pass (h : GInv n c A q M ps) (hz : ∀ i, ps.length ≤ i → i < n → en M i q = 0) : GInv n c A (q + 1) M ps :=
  ⟨h.dm, h.ent, h.made, h.back, ⟨h.st.le, fun i hi => Nat.lt_succ_of_lt (h.st.lt i hi), h.st.inc, h.st.one, fun i s h1 h2 h3 => by
    rcases Nat.lt_or_ge s q with h4 | h4
    · exact h.st.low i s h1 h2 h4
    · obtain rfl : s = q := by omega
      exact Eqm.of_eq (hz i h1 h2), h.st.lead⟩, h.pos⟩

theorem en_swap {r k i : Nat} (h : Dm n c M) (hr : r < n) (hk : k < n) (j : Nat) : en (swapL M r k) i j = en M (if i = k then r else if i = r then k else i) j := by
  unfold en
  rw [rowOf_swapL (by rw [h.1]; exact hr) (by rw [h.1]; exact hk)]
  by_cases e : i = k
  · rw [if_pos e, if_pos e]
  · rw [if_neg e, if_neg e]
    by_cases e2 : i = r
    · rw [if_pos e2, if_pos e2]
    · rw [if_neg e2, if_neg e2]
theorem Dm.swap {r k : Nat} (h : Dm n c M) (hr : r < n) (hk : k < n) : Dm n c (swapL M r k) := by
  refine ⟨by rw [swapL_len]; exact h.1, fun i hi => ?_⟩
  rw [rowOf_swapL (by rw [h.1]; exact hr) (by rw [h.1]; exact hk)]
  (repeat' split) <;> exact h.2 _ (by assumption)
theorem swap_lt {r k i : Nat} (hr : r < n) (hk : k < n) (hi : i < n) : (if i = k then r else if i = r then k else i) < n := by
  (repeat' split) <;> assumption

/-- Rows that are not done change places. -/
theorem GInv.swap (h : GInv n c A q M ps) {k : Nat} (h1 : ps.length ≤ k) (hk : k < n) : GInv n c A q (swapL M ps.length k) ps := by
  have hr : ps.length < n := by omega
  have ee : ∀ i j, en (swapL M ps.length k) i j = en M (if i = k then ps.length else if i = ps.length then k else i) j := fun i j => en_swap h.dm hr hk j
  have lo : ∀ i, i < ps.length → (if i = k then ps.length else if i = ps.length then k else i) = i := fun i hi => by rw [if_neg (by omega), if_neg (by omega)]
  have hi' : ∀ i, ps.length ≤ i → ps.length ≤ (if i = k then ps.length else if i = ps.length then k else i) := fun i hi => by (repeat' split) <;> omega
  have em : mx (swapL M ps.length k) = fun i j => mx M (if i = k then ps.length else if i = ps.length then k else i) j := by
    funext i j
    exact ee i j
  have em2 : mx M = fun i j => mx (swapL M ps.length k) (if i = k then ps.length else if i = ps.length then k else i) j := by
    funext i j
    show en M i j = en (swapL M ps.length k) _ j
    rw [ee]
    congr 1
    by_cases e : i = k
    · rw [if_pos e]
      by_cases e2 : ps.length = k
      · rw [if_pos e2]; omega
      · rw [if_neg e2, if_pos rfl]; exact e
    · rw [if_neg e]
      by_cases e2 : i = ps.length
      · rw [if_pos e2, if_pos rfl]; exact e2
      · rw [if_neg e2, if_neg e, if_neg e2]
  have mb : Made n c (mx (swapL M ps.length k)) (mx M) := by
    have := Made.perm (n := n) (c := c) (mx (swapL M ps.length k)) (σ := fun i => if i = k then ps.length else if i = ps.length then k else i) fun i hi => swap_lt hr hk hi
    rwa [← em2] at this
  refine ⟨h.dm.swap hr hk, fun i j hi hj => by rw [ee]; exact h.ent _ j (swap_lt hr hk hi) hj, h.made.trans (by rw [em]; exact Made.perm _ fun i hi => swap_lt hr hk hi), Made.trans mb h.back, ⟨h.st.le, h.st.lt, h.st.inc, fun i j hi hj => ?_, fun i s h1 h2 h3 => ?_, fun i s h1 h2 => ?_⟩, h.pos⟩
  · show Eqm (en (swapL M ps.length k) i _) _
    rw [ee]
    rcases Nat.lt_or_ge i ps.length with h4 | h4
    · rw [lo i h4]; exact h.st.one i j hi hj
    · have e1 : (if i = j then (1 : Int) else 0) = 0 := if_neg (by omega)
      have e2 : (if (if i = k then ps.length else if i = ps.length then k else i) = j then (1 : Int) else 0) = 0 := if_neg (by have := hi' i h4; omega)
      rw [e1, ← e2]
      exact h.st.one _ j (swap_lt hr hk hi) hj
  · show Eqm (en (swapL M ps.length k) i s) _
    rw [ee]
    exact h.st.low _ s (hi' i h1) (swap_lt hr hk h2) h3
  · show Eqm (en (swapL M ps.length k) i s) _
    rw [ee, lo i h1]
    exact h.st.lead i s h1 h2

/-- The pivot's column is cleared. -/
theorem GInv.clear (h : GInv n c A q M ps) (hr : ps.length < n) (hq : q < c) (hp : en M ps.length q ≠ 0) {P : List (List Int)} (hi : IsR n c P (clearE M ps.length q)) : GInv n c A (q + 1) P (ps ++ [(q : Int)]) := by
  have b := h.ent ps.length q hr hq
  have ho := over_mul b.1 b.2 hp
  obtain ⟨ov, hov⟩ : ∃ ov, powm (en M ps.length q) 9971 = ov := ⟨_, rfl⟩
  rw [hov] at ho
  -- by the prime
  have er : ∀ j, j < c → Eqm (en P ps.length j) (ov * en M ps.length j) := fun j hj => by
    rw [hi.2 _ j hr hj]
    unfold clearE
    rw [if_pos rfl, hov, Int.mul_comm]
    exact Eqm.mod _
  have ei : ∀ i j, i < n → j < c → i ≠ ps.length → Eqm (en P i j) (en M i j - en M i q * (ov * en M ps.length j)) := fun i j h1 hj hne => by
    rw [hi.2 i j h1 hj]
    unfold clearE
    rw [if_neg hne, hov, Int.mul_comm (en M ps.length j) ov]
    exact (Eqm.mod _).trans (Eqm.sub (Eqm.refl _) (Eqm.mul (Eqm.refl _) (Eqm.mod _)))
  have o1 : Eqm (ov * en M ps.length q) 1 := by unfold Eqm; rw [ho]; rfl
  have zr : ∀ s, s < q → Eqm (en M ps.length s) 0 := fun s hs => h.st.low _ s (Nat.le_refl _) hr hs
  have hl : (ps ++ [(q : Int)]).length = ps.length + 1 := by simp
  have pl : ∀ i, i < ps.length → ix (ps ++ [(q : Int)]) i = ix ps i := fun i hi => by rw [ix_lt (by simp; omega), ix_lt hi, List.getElem_append_left hi]
  have pe : ix (ps ++ [(q : Int)]) ps.length = q := by rw [ix_lt (by simp)]; simp
  have pz : ∀ s, s < q → ∀ i, i < n → Eqm (en P i s) (en M i s) := fun s hs i h1 => by
    by_cases e : i = ps.length
    · subst e
      refine (er s (by omega)).trans ?_
      have := Eqm.mul (Eqm.refl ov) (zr s hs)
      rw [Int.mul_zero] at this
      exact this.trans (zr s hs).symm
    · refine (ei i s h1 (by omega) e).trans ?_
      have := Eqm.sub (Eqm.refl (en M i s)) (Eqm.mul (Eqm.refl (en M i q)) (Eqm.mul (Eqm.refl ov) (zr s hs)))
      rwa [Int.mul_zero, Int.mul_zero, Int.sub_zero] at this
  have pq : ∀ i, i < n → Eqm (en P i q) (if i = ps.length then 1 else 0) := fun i h1 => by
    by_cases e : i = ps.length
    · subst e
      rw [if_pos rfl]
      exact (er q hq).trans o1
    · rw [if_neg e]
      refine (ei i q h1 hq e).trans ?_
      have := Eqm.sub (Eqm.refl (en M i q)) (Eqm.mul (Eqm.refl (en M i q)) o1)
      rwa [Int.mul_one, Int.sub_self] at this
  refine ⟨hi.1, fun i j h1 h2 => by rw [hi.2 i j h1 h2]; unfold clearE; split <;> omega, ?_, ?_, ⟨by rw [hl]; omega, fun i h1 => ?_, fun i j h1 h2 => ?_, fun i j h1 h2 => ?_, fun i s h1 h2 h3 => ?_, fun i s h1 h2 => ?_⟩, fun i h1 => ?_⟩
  · -- the rows are made of those before
    refine h.made.trans ((Made.add (mx M) (fun i => if i = ps.length then ov - 1 else -(en M i q * ov)) hr).trans (Made.eqm fun i j h1 h2 => Eqm.symm ?_))
    show Eqm (en P i j) (en M i j + _ * en M ps.length j)
    by_cases e : i = ps.length
    · rw [if_pos e, e]
      refine (er j h2).trans (Eqm.of_eq ?_)
      rw [Int.sub_mul]; omega
    · rw [if_neg e]
      refine (ei i j h1 h2 e).trans (Eqm.of_eq ?_)
      rw [Int.neg_mul, Int.mul_assoc]; omega
  · refine Made.trans ?_ h.back
    refine (Made.add (mx P) (fun i => if i = ps.length then en M ps.length q - 1 else en M i q) hr).trans (Made.eqm fun i j h1 h2 => ?_)
    show Eqm (en P i j + _ * en P ps.length j) (en M i j)
    by_cases e : i = ps.length
    · rw [if_pos e, e]
      have h3 : Eqm (en M ps.length q * en P ps.length j) (en M ps.length j) := by
        refine (Eqm.mul (Eqm.refl _) (er j h2)).trans ?_
        have := Eqm.mul o1 (Eqm.refl (en M ps.length j))
        rw [Int.one_mul] at this
        exact (Eqm.of_eq (by rw [← Int.mul_assoc, Int.mul_comm (en M ps.length q) ov])).trans this
      exact (Eqm.of_eq (by rw [Int.sub_mul]; omega)).trans h3
    · rw [if_neg e]
      refine (Eqm.add (ei i j h1 h2 e) (Eqm.mul (Eqm.refl (en M i q)) (er j h2))).trans (Eqm.of_eq (by omega))
  · rw [hl] at h1
    rcases Nat.lt_or_ge i ps.length with h4 | h4
    · rw [pl i h4]; have := h.st.lt i h4; omega
    · obtain rfl : i = ps.length := by omega
      rw [pe]; omega
  · rw [hl] at h2
    rcases Nat.lt_or_ge j ps.length with h4 | h4
    · rw [pl i (by omega), pl j h4]; exact h.st.inc i j h1 h4
    · obtain rfl : j = ps.length := by omega
      rw [pl i h1, pe]; have := h.st.lt i h1; omega
  · rw [hl] at h2
    rcases Nat.lt_or_ge j ps.length with h4 | h4
    · rw [pl j h4]
      have := h.st.lt j h4
      exact (pz _ this i h1).trans (h.st.one i j h1 h4)
    · obtain rfl : j = ps.length := by omega
      rw [pe]
      exact pq i h1
  · rw [hl] at h1
    rcases Nat.lt_or_ge s q with h4 | h4
    · exact (pz s h4 i h2).trans (h.st.low i s (by omega) h2 h4)
    · obtain rfl : s = q := by omega
      have := pq i h2
      rwa [if_neg (by omega)] at this
  · rw [hl] at h1
    rcases Nat.lt_or_ge i ps.length with h4 | h4
    · rw [pl i h4] at h2
      have h5 := h.st.lt i h4
      exact (pz s (by omega) i (by omega)).trans (h.st.lead i s h4 h2)
    · obtain rfl : i = ps.length := by omega
      rw [pe] at h2
      exact (pz s (by omega) _ hr).trans (zr s (by omega))
  · rw [hl] at h1
    rcases Nat.lt_or_ge i ps.length with h4 | h4
    · rw [pl i h4]; exact h.pos i h4
    · obtain rfl : i = ps.length := by omega
      rw [pe]; omega
end
end Go.Rk
namespace Go.Proofs.YtkielldinghmbaaDoor
open Go.RowKit Go.Rk

theorem mat_Check_any {a : Option Addr} {n cap : Nat} {M : List (List Int)} {w : World} (h : RdM w a n cap M) :
    Calls Tryd.prog 18 #[.slice a n cap] w fun e w' => e = .returned (errV (groundsR 5 0 9972 M)) ∧ w = w' := by
  have C := Lib.hid (Grounds_any 5 0 9972 h)
  go_enter Tryd.func18, Tryd.ntmps18
  go_wp2_with (go_at_call 63; refine C.out.mono ?_; rintro e w' ⟨rfl, rfl⟩)
  go_ret
  exact ⟨rfl, rfl⟩
theorem mat_Check_is {a : Option Addr} {n cap : Nat} {M : List (List Int)} {w : World} {o : Option Int} (h : RdM w a n cap M) (ho : groundsR 5 0 9972 M = o) :
    Calls Tryd.prog 18 #[.slice a n cap] w fun e w' => e = .returned (errV o) ∧ w = w' := by
  have := mat_Check_any h
  rw [ho] at this
  exact this
theorem det_Check_any {a : Option Addr} {n cap : Nat} {M : List (List Int)} {w : World} (h : RdM w a n cap M) :
    Calls Tryd.prog 37 #[.slice a n cap] w fun e w' => e = .returned (errV (squareR 5 0 9972 M)) ∧ w = w' := by
  have E1 := Lib.hid h.len_eq
  have hm := h.len_max
  rcases hg : groundsR 5 0 9972 M with _ | c
  · have HG := Lib.hid (mat_Check_is h hg)
    obtain ⟨g1, g2, _⟩ := groundsR_none hg
    have e1 := E1.out
    obtain ⟨b, off, rfl, hbl, hr⟩ := h.at (k := 0) (by omega)
    obtain ⟨ar0, cr0, hc0, hrd0⟩ := hr 0 (by omega)
    rw [Nat.add_zero] at hc0
    have hm0 := hrd0.len_max
    have hn0 : 0 < n := by omega
    by_cases hs : n = (rowOf M 0).length
    · have z : ((n : Int) != ((rowOf M 0).length : Int)) = false := bne_eq_false_iff_eq.2 (by omega)
      have HS := Lib.hid hs
      have Hg := Lib.hid hg
      clear hs hg e1
      go_enter Tryd.func37, Tryd.ntmps37
      go_wp2_with (go_at_call 18; refine HG.out.mono ?_; rintro e w' ⟨rfl, rfl⟩; simp only [errV])
      go_ret
      exact ⟨by unfold squareR; rw [if_pos Hg.out, if_pos (by rw [E1.out]; exact HS.out)]; rfl, rfl⟩
    · have z : ((n : Int) != ((rowOf M 0).length : Int)) = true := bne_iff_ne.2 (by omega)
      have HS := Lib.hid hs
      have Hg := Lib.hid hg
      clear hs hg e1
      go_enter Tryd.func37, Tryd.ntmps37
      go_wp2_with (go_at_call 18; refine HG.out.mono ?_; rintro e w' ⟨rfl, rfl⟩; simp only [errV])
      go_ret
      exact ⟨by unfold squareR; rw [if_pos Hg.out, if_neg (by rw [E1.out]; exact HS.out)]; rfl, rfl⟩
  · have HG := Lib.hid (mat_Check_is h hg)
    have Hg := Lib.hid hg
    clear hg
    go_enter Tryd.func37, Tryd.ntmps37
    go_wp2_with (go_at_call 18; refine HG.out.mono ?_; rintro e w' ⟨rfl, rfl⟩; simp only [errV])
    go_ret
    exact ⟨by unfold squareR; rw [if_neg (by rw [Hg.out]; simp), Hg.out]; rfl, rfl⟩
theorem det_Check_is {a : Option Addr} {n cap : Nat} {M : List (List Int)} {w : World} {o : Option Int} (h : RdM w a n cap M) (ho : squareR 5 0 9972 M = o) :
    Calls Tryd.prog 37 #[.slice a n cap] w fun e w' => e = .returned (errV o) ∧ w = w' := by
  have := det_Check_any h
  rw [ho] at this
  exact this
/-- What the exchange of two rows leaves. -/
def Exch (w : World) (L B g Bm Bo : Nat) (D C : Nat → Nat) (n cap : Nat) (M : List (List Int)) (o : Int) (i k : Nat) (e : Ending) (w' : World) : Prop :=
  e = .returned (.tuple #[]) ∧ OwMD w' B 32 3 g (if i = k then D else swapF D i k) (if i = k then C else swapF C i k) n cap (if i = k then M else swapL M i k) ∧
    w'.cell? ⟨Bm, 0, none⟩ = some (.slice (some ⟨g, 0, none⟩) n cap) ∧ w'.cell? ⟨Bo, 0, none⟩ = some (.int .i64 (if i = k then o else -o % 9973)) ∧ w'.frozen? ⟨Bo, 0, none⟩ = false ∧ Below L w w'

set_option maxHeartbeats 1000000 in
theorem exchange_any {L B g Bm Bo : Nat} {D C : Nat → Nat} {n cap : Nat} {M : List (List Int)} {o : Int} {i k : Nat} {w : World} (h : OwMD w B 32 3 g D C n cap M) (hi : i < n) (hk : k < n)
    (hm : w.cell? ⟨Bm, 0, none⟩ = some (.slice (some ⟨g, 0, none⟩) n cap)) (ho : w.cell? ⟨Bo, 0, none⟩ = some (.int .i64 o)) (hf : w.frozen? ⟨Bo, 0, none⟩ = false) (ho1 : 0 ≤ o) (ho2 : o ≤ 9972)
    (n1 : Bm ≠ g) (n2 : Bo ≠ g) (n3 : Bm ≠ Bo) (n4 : ∀ j, j < n → Bo ≠ D j) (hL : L ≤ g) (hL2 : L ≤ Bo) :
    Calls Tryd.prog 89 #[.int .i64 i, .int .i64 k, .pointer (some ⟨Bm, 0, none⟩), .pointer (some ⟨Bo, 0, none⟩)] w (Exch w L B g Bm Bo D C n cap M o i k) := by
  by_cases hik : i = k
  · have z : ((i : Int) != (k : Int)) = false := bne_eq_false_iff_eq.2 (by omega)
    have HK := Lib.hid hik
    clear hik
    go_enter Tryd.func89, Tryd.ntmps89
    go_wp2
    go_end0
    unfold Exch
    simp only [if_pos HK.out]
    exact ⟨by simp, h, hm, ho, hf, Below.refl _ _⟩
  · have z : ((i : Int) != (k : Int)) = true := bne_iff_ne.2 (by omega)
    have HK := Lib.hid hik
    have hki : ¬ k = i := fun e => hik e.symm
    have c1 := h.cellO hi
    have c2 := h.cellO hk
    have f1 := h.frozenO i
    have f2 := h.frozenO k
    have m1 : (i : Int) < (n : Int) := by omega
    have m2 : (k : Int) < (n : Int) := by omega
    have m3 : ¬ Bm = g := n1
    have m4 : ¬ Bo = g := n2
    have m5 : ¬ Bm = Bo := n3
    have m6 : ¬ g = Bm := fun e => n1 e.symm
    have m7 : ¬ g = Bo := fun e => n2 e.symm
    have c3 : (w.setCell ⟨g, i, none⟩ (.slice (some ⟨D k, 0, none⟩) (rowOf M k).length (C k))).cell? ⟨g, k, none⟩ = some (.slice (some ⟨D k, 0, none⟩) (rowOf M k).length (C k)) := by rw [World.cell?_setCell_other _ _ _ _ (by simp)]; exact c2
    have HNE := Lib.hid matTy.ne
    have N1 := Lib.hid n1
    have N2 := Lib.hid n2
    have N3 := Lib.hid n3
    clear n1 n2 n3
    go_enter Tryd.func89, Tryd.ntmps89
    go_wp2
    go_region
    go_wp2_with fail
    have hs := (h.swap HNE.out hi hk).drew
    have hm2 : (((w.setCell ⟨g, i, none⟩ (.slice (some ⟨D k, 0, none⟩) (rowOf M k).length (C k))).setCell ⟨g, k, none⟩ (.slice (some ⟨D i, 0, none⟩) (rowOf M i).length (C i))).drew).cell? ⟨Bm, 0, none⟩ = some (.slice (some ⟨g, 0, none⟩) n cap) := by
      show World.cell? ((w.setCell _ _).setCell _ _) _ = _
      rw [World.cell?_setCell_other _ _ _ _ (by simp), World.cell?_setCell_other _ _ _ _ (by simp)]; exact hm
    have ho2' : (((w.setCell ⟨g, i, none⟩ (.slice (some ⟨D k, 0, none⟩) (rowOf M k).length (C k))).setCell ⟨g, k, none⟩ (.slice (some ⟨D i, 0, none⟩) (rowOf M i).length (C i))).drew).cell? ⟨Bo, 0, none⟩ = some (.int .i64 o) := by
      show World.cell? ((w.setCell _ _).setCell _ _) _ = _
      rw [World.cell?_setCell_other _ _ _ _ (by simp), World.cell?_setCell_other _ _ _ _ (by simp)]; exact ho
    have hf2 : (((w.setCell ⟨g, i, none⟩ (.slice (some ⟨D k, 0, none⟩) (rowOf M k).length (C k))).setCell ⟨g, k, none⟩ (.slice (some ⟨D i, 0, none⟩) (rowOf M i).length (C i))).drew).frozen? ⟨Bo, 0, none⟩ = false := by
      show World.frozen? ((w.setCell _ _).setCell _ _) _ = _
      simp [hf]
    have hbl : Below L w (((w.setCell ⟨g, i, none⟩ (.slice (some ⟨D k, 0, none⟩) (rowOf M k).length (C k))).setCell ⟨g, k, none⟩ (.slice (some ⟨D i, 0, none⟩) (rowOf M i).length (C i))).drew) := (((Below.refl L w).setCell hL _).setCell hL _).drew
    clear c1 c2 c3 f1 f2 hm ho hf m6 m7
    generalize (((w.setCell ⟨g, i, none⟩ (.slice (some ⟨D k, 0, none⟩) (rowOf M k).length (C k))).setCell ⟨g, k, none⟩ (.slice (some ⟨D i, 0, none⟩) (rowOf M i).length (C i))).drew) = w2 at *
    refine (Field_any _ _).mono ?_
    rintro e w' ⟨rfl, rfl⟩
    go_wp2
    go_end0
    unfold Exch
    simp only [if_neg HK.out]
    refine ⟨by simp, hs.setElse (p := ⟨Bo, 0, none⟩) N2.out (fun j hj => ?_) _, ?_, World.cell?_setCell_same _ _ _ ho2', by simp [hf2], hbl.setCell hL2 _⟩
    · simp only [swapF]
      (repeat' split) <;> first | exact n4 _ hi | exact n4 _ hk | exact n4 _ hj
    · rw [World.cell?_setCell_other _ _ _ _ (by simp)]; exact hm2
end Go.Proofs.YtkielldinghmbaaDoor
namespace Go.Rk
open Go.RowKit

def noDefer (ops : Array Oper) : Bool := ops.all fun o => match o.op with | .defer _ => false | _ => true
theorem noDefer_at {ops : Array Oper} (h : noDefer ops = true) {i : Nat} {o : Oper} (ho : ops[i]? = some o) : ∀ c, o.op ≠ .defer c := by
  intro c e
  obtain ⟨hi, rfl⟩ := Array.getElem?_eq_some_iff.1 ho
  have := Array.all_eq_true.1 h i hi
  rw [e] at this
  cases this

section
variable {l n : Nat} {P : Program} {ops : Array Oper} {Q : Exit → Act → World → Prop} {md : Region.Mode}

theorem rowsIn_of {row : String} {args : Array Value} {w : World} {R : Value → World → Prop} (h : Rows P row args w R) : RowsIn (Fence.wide.inRound l) n P row args w R :=
  fun c cs _ => let ⟨v, w', r, s⟩ := h c cs; ⟨v, w', r, stepsIn_wide.2 s⟩

theorem op_round {o : Oper} {a : Act} {w : World} {K : Act → World → Prop} (hnd : ∀ c, o.op ≠ .defer c) (h : o.wp P a w K Q) : o.wpIn (Fence.wide.inRound l) n P a w K Q := by
  refine ⟨fun _ _ => trivial, ?_⟩
  rw [show (Fence.wide.inRound l).round = some l from rfl, Oper.semAt_some l _ _ hnd]
  unfold Oper.wp at h
  generalize (execOp a.eval o).run P w = r at h ⊢
  cases r with
  | ok x w' =>
    cases x <;> simp only [Oper.upon, Oper.uponIn] at h ⊢ <;>
      first
        | exact h
        | exact ⟨fun e => by simp [Fence.wide] at e, callsIn_wide.2 h⟩
        | exact ⟨fun e => by simp [Fence.wide] at e, rowsIn_of h⟩
  | halt x w' => cases x <;> simp only [Oper.upon, Oper.uponIn] at h ⊢ <;> exact h

theorem wpOp_round {i : Nat} {K K' : Act → World → Prop} {a : Act} {w : World} (hnd : noDefer ops = true) (hL : ¬ LetsOut Q) (hK : ∀ a w, K a w → K' a w) (h : wpOp P ops Q i K a w) : wpOpIn (Fence.wide.inRound l) n P ops Q i K' a w := by
  unfold wpOp at h
  unfold wpOpIn
  cases ho : ops[i]? with
  | none => rw [ho] at h; exact hK _ _ h
  | some o =>
    rw [ho] at h
    dsimp only at h ⊢
    split
    · next hw =>
      rw [if_pos hw] at h
      rcases h with h | h
      · exact op_round (noDefer_at hnd ho) (Oper.wp_mono hK h)
      · exact absurd h.2 hL
    · next hw =>
      rw [if_neg hw] at h
      exact ⟨fun _ _ => trivial, hK _ _ h⟩

theorem wpAny_round (hnd : noDefer ops = true) (hL : ¬ LetsOut Q) : ∀ (fuel : Nat) (listed : Array Bool) (a : Act) (w : World), wpAny P md ops Q fuel listed a w → wpAnyIn (Fence.wide.inRound l) n P md ops Q fuel listed a w
  | 0, _, _, _, h => h
  | fuel + 1, _, _, _, h => ⟨h.1, fun i hi => wpOp_round hnd hL (wpAny_round hnd hL fuel _) (h.2 i hi)⟩

theorem region_round {id : Nat} {a : Act} {w : World} (hm : P.follows .mixedOrders = true) (hnd : noDefer ops = true) (hL : ¬ LetsOut Q)
    (h : wpAny P .any ops Q ops.size (Array.replicate ops.size false) a { w with drawn := w.drawn + 1 }) : (Code.region id ops true).wpIn (Fence.wide.inRound l) n P Q a w :=
  wpIn_region_any hm (wpAny_round hnd hL _ _ _ _ h)

/-- A region of reads, arithmetic and quiet calls that draws its order, in a round. -/
theorem region_round_quiet {id : Nat} {a : Act} {w : World} {os : List Oper} (hm : P.follows .mixedOrders = true) (hnd : noDefer os.toArray = true) (hL : ¬ LetsOut Q) (hB : Region.lexB .any os.toArray = true)
    (h : wpQuiet P os.toArray (fun w' => ∃ k, w' = w.drewN k) (fun a' => ∀ w', (∃ k, w' = w.drewN k) → Q .normal a' w') os a) : (Code.region id os.toArray true).wpIn (Fence.wide.inRound l) n P Q a w := by
  obtain ⟨b1, b2⟩ : Region.noSelect os.toArray = true ∧ _ := by simpa only [Region.lexB, Bool.and_eq_true] using hB
  have q := wpAnyQ_lex (md := .any) b1 os 0 (Array.replicate os.toArray.size false) a (by simp) (by simpa using b2) h
  exact region_round hm hnd hL (wpAny_of_quiet (C := fun w' => ∃ k, w' = w.drewN k) (Q := fun a' => ∀ w', (∃ k, w' = w.drewN k) → Q .normal a' w') (fun _ w' hw' h => h w' hw') _ _ _ _ ⟨1, rfl⟩ (by simpa using q))

/-- The same, and at its end, in order, what writes. -/
theorem region_round_tail {id : Nat} {a : Act} {w : World} {os : List Oper} (m : Nat) (hm : P.follows .mixedOrders = true) (hnd : noDefer os.toArray = true) (hL : ¬ LetsOut Q) (hB : Region.lexTailB .any os.toArray m = true)
    (h : wpStill P os.toArray w.drew (fun a' => wpList P os.toArray Q (os.drop m) a' w.drew) (os.take m) a) : (Code.region id os.toArray true).wpIn (Fence.wide.inRound l) n P Q a w := by
  simp only [Region.lexTailB, Bool.and_eq_true, decide_eq_true_eq] at hB
  have t1 : (os.take m).length = m := by have := hB.1.1.1.2; simp at this ⊢; omega
  have t2 : (os.drop m).length = os.toArray.size - m := by simp
  have i0 : HeadInv .any os.toArray m (Array.replicate os.toArray.size false) :=
    ⟨by simp, fun j _ _ (e : _ = true) => (by rw [getD_replicate_false] at e; cases e), fun t _ ht => getD_in (by simpa using ht) (getD_replicate_false _ _)⟩
  have q := wpAnyL_lex (md := .any) (g := os.toArray.size - m) hB.1.1.1.1 hB.1.1.2 hB.1.2 hB.1.1.1.2 (os.take m) 0 _ a (fun j hj => by rw [t1] at hj; simp [hj]) (by simpa using t1) i0 (by rw [t1]; exact hB.2) h
  have q2 := wpAny_of_head (Q' := Q) (g := os.toArray.size - m) (fun listed a' e => by
    have := wpAny_of_seq (md := .any) (Q' := Q) (os.drop m) m listed a' w.drew (fun j => by simp [List.getElem?_drop]) (by rw [t2]; exact e.1) e.2
    rwa [t2] at this) _ _ _ q
  rw [t1, show m + (os.toArray.size - m) = os.toArray.size by have := hB.1.1.1.2; omega] at q2
  exact region_round hm hnd hL q2

end
end Go.Rk
namespace Go.Proofs.YtkielldinghmbaaDoor
open Go.RowKit Go.Shelf Go.Rk
attribute [local go_sem] Oper.semAt_some

/-- An element of the product. -/
def mulE (A B : List (List Int)) (k i j : Nat) : Int := sumTo (fun t => en A i t * en B t j) k

theorem mulE_le {A B : List (List Int)} {n k c t i j : Nat} (eA : EntR 0 9972 n k A) (eB : EntR 0 9972 k c B) (ht : t ≤ k) (hi : i < n) (hj : j < c) : 0 ≤ mulE A B t i j ∧ mulE A B t i j ≤ 99440784 * t := by
  induction t with
  | zero => exact ⟨Int.le_refl _, Int.le_refl _⟩
  | succ t ih =>
    have h := ih (by omega)
    have m1 := eA i t hi (by omega)
    have m2 := eB t j (by omega) hj
    have m3 : 0 ≤ en A i t * en B t j ∧ en A i t * en B t j ≤ 9972 * 9972 := ⟨Int.mul_nonneg m1.1 m2.1, Int.mul_le_mul m1.2 m2.2 m2.1 (by omega)⟩
    unfold mulE at h ⊢
    rw [sumTo]
    omega

set_option maxRecDepth 100000 in
set_option maxHeartbeats 4000000 in
theorem mul_any {a b : Option Addr} {n k c ca cb : Nat} {A B : List (List Int)} {w : World} (hA : RdM w a n ca A) (hB : RdM w b k cb B) (dA : Dm n k A) (dB : Dm k c B) (eA : EntR 0 9972 n k A) (eB : EntR 0 9972 k c B)
    (hn : 1 ≤ n ∧ n ≤ 100) (hk : 1 ≤ k ∧ k ≤ 100) (hc : 1 ≤ c ∧ c ≤ 100) :
    Calls Tryd.prog 69 #[.slice a n ca, .slice b k cb] w fun e w' => ∃ a' cap' P, e = .returned (.slice a' n cap') ∧ OwM w' w.heap.size 32 3 a' n cap' P ∧ IsR n c P (fun i j => mulE A B k i j % 9973) ∧ Below w.heap.size w w' := by
  have HM := Lib.hid matTy
  have HDA := Lib.hid dA
  have HDB := Lib.hid dB
  have HEA := Lib.hid eA
  have HEB := Lib.hid eB
  clear dA dB eA eB
  refine (callsIn_wide (n := 6)).1 ?_
  refine callsIn_of_wp_marks Tryd.func69 rfl trivial ?_ rfl
  simp only [Tryd.ntmps69, List.size_toArray, List.length_cons, List.length_nil, Nat.reduceAdd, Nat.reduceSub, Array.replicate_succ, Array.replicate_zero, List.push_toArray, List.append_toArray, List.nil_append, List.cons_append]
  refine wpIn_wide.2 ?_
  go_wp2
  have k2 : Below w.heap.size w ((w.alloc (.cells #[.slice a n ca] 22)).alloc (.cells #[.slice b k cb] 22)) := ((Below.refl _ w).alloc (Nat.le_refl _) _).alloc (by simp) _
  have s2 : ((w.alloc (.cells #[.slice a n ca] 22)).alloc (.cells #[.slice b k cb] 22)).heap.size = w.heap.size + 2 := by simp
  have p1 : ((w.alloc (.cells #[.slice a n ca] 22)).alloc (.cells #[.slice b k cb] 22)).cell? ⟨w.heap.size, 0, none⟩ = some (.slice a n ca) := by simp
  have p2 : ((w.alloc (.cells #[.slice a n ca] 22)).alloc (.cells #[.slice b k cb] 22)).cell? ⟨w.heap.size + 1, 0, none⟩ = some (.slice b k cb) := by simp
  generalize ((w.alloc (.cells #[.slice a n ca] 22)).alloc (.cells #[.slice b k cb] 22)) = w2 at *
  have s3 : w.heap.size + 1 < w2.heap.size := by omega
  have S2 := Lib.hid s2
  clear s2
  have hA2 := hA.below k2
  have hB2 := hB.below k2
  obtain ⟨bb, ob, rfl, hbb, hrb⟩ := hB2.at (k := 0) (by omega)
  obtain ⟨ar, cr, hc0, _⟩ := hrb 0 (by omega)
  rw [HDB.out.2 0 (by omega), Nat.add_zero] at hc0
  have b1 : (0 : Int) < (k : Int) := by omega
  have b2 : (1 : Int) ≤ (k : Int) := by omega
  have b3 : 0 < k := by omega
  go_region_held3 (fun w' => w'.cell? ⟨w.heap.size, 0, none⟩ = some (.slice a n ca) ∧ w'.cell? ⟨w.heap.size + 1, 0, none⟩ = some (.slice (some ⟨bb, ob, none⟩) k cb) ∧ w'.cell? ⟨bb, ob, none⟩ = some (.slice ar c cr))
    (((try go_split_ands); (try dsimp only); (repeat' (apply And.intro)); all_goals (first | assumption | (refine alloc_keep ?_; assumption) | (refine hb3.keep ?_ ?_ <;> (first | assumption | (refine alloc_keep ?_; assumption) | (simp; omega))) | (refine alloc_keep ?_; refine hb3.keep ?_ ?_ <;> (first | assumption | (refine alloc_keep ?_; assumption) | (simp; omega))) | (refine set_keep ?_ ?_; (first | assumption | (refine hb3.keep ?_ ?_ <;> (first | assumption | (refine alloc_keep ?_; assumption) | (simp; omega)))); (first | (simp; omega) | omega)) | (go_keep; done))))
    (first | (go_at_call 64; refine (Grid_any n c _ (by omega) (by omega)).mono ?_; rintro e w3 ⟨a3, cap3, rfl, ho3, hb3⟩; try (refine keepBox hb3 ?_; intro x1 x2 x3 x4)))
  focus
    obtain ⟨g, D, C, hz, hd3⟩ := ho3.named (by omega) fun r hr => by rw [(Dm.replicate n c 0).2 r hr]; omega
    cases hz
    have k3 : Below w2.heap.size w2 (w3.alloc (.cells #[.slice (some ⟨g, 0, none⟩) n cap3] 22)) := (((Below.refl _ w2).drew).trans (hb3.mono (Nat.le_refl _))).alloc hb3.size _
    have hd4 := (hd3.mono (B' := w2.heap.size) (by simp)).alloc (.cells #[.slice (some ⟨g, 0, none⟩) n cap3] 22)
    have px : (w3.alloc (.cells #[.slice (some ⟨g, 0, none⟩) n cap3] 22)).cell? ⟨w3.heap.size, 0, none⟩ = some (.slice (some ⟨g, 0, none⟩) n cap3) := by simp
    clear hd3 ho3 hb3
    generalize (w3.alloc (.cells #[.slice (some ⟨g, 0, none⟩) n cap3] 22)) = W4 at *
    generalize w3.heap.size = PO at *
  rotate_left
  focus
    obtain ⟨g, D, C, hz, hd3⟩ := ho3.named (by omega) fun r hr => by rw [(Dm.replicate n c 0).2 r hr]; omega
    cases hz
    have k3 : Below w2.heap.size w2 (w3.setCell ⟨w2.heap.size, 0, none⟩ (.slice (some ⟨g, 0, none⟩) n cap3)) := ((((Below.refl _ w2).alloc (Nat.le_refl _) (.cells #[.slice none 0 0] 22)).drew).trans (hb3.mono (by simp))).setCell (p := ⟨w2.heap.size, 0, none⟩) (Nat.le_refl _) _
    have px : (w3.setCell ⟨w2.heap.size, 0, none⟩ (.slice (some ⟨g, 0, none⟩) n cap3)).cell? ⟨w2.heap.size, 0, none⟩ = some (.slice (some ⟨g, 0, none⟩) n cap3) := World.cell?_setCell_same _ _ _ x1
    have hd4 := (hd3.setElse (p := ⟨w2.heap.size, 0, none⟩) (fun e => by have := hd3.lowO.1; simp at this e; omega) (fun r hr e => by have := (hd3.lowI hr).1; simp at this e; omega) (.slice (some ⟨g, 0, none⟩) n cap3)).mono (B' := w2.heap.size) (by simp)
    clear x1 x2 x3 x4 hd3 ho3 hb3
    generalize (w3.setCell ⟨w2.heap.size, 0, none⟩ (.slice (some ⟨g, 0, none⟩) n cap3)) = W4 at *
    obtain ⟨PO, hPO⟩ : ∃ PO, PO = w2.heap.size := ⟨_, rfl⟩
    rw [← hPO] at px ⊢
    clear hPO
  all_goals
    clear hc0
    have q1 := (k3.cell (p := ⟨w.heap.size, 0, none⟩) (by simp; omega)).trans p1
    have q2 := (k3.cell (p := ⟨w.heap.size + 1, 0, none⟩) s3).trans p2
    have k4 := k2.trans (k3.mono k2.size)
    have kB4 : W4.heap.size ≥ w2.heap.size := k3.size
    clear p1 p2 hA2 hB2 k3
    go_wp2_with (go_at_call 65; refine (callsIn_wide.1 (each_in 0 (some ⟨g, 0, none⟩) n cap3 W4)).mono ?_; rintro e w' ⟨rfl, rfl⟩)
    refine (wpIn_wide (n := 6)).1 ?_
    have hd5 := hd4.alloc (.cells #[.slice (some ⟨g, 0, none⟩) n cap3] 22)
    have hG : Grid n c g 0 D (fun _ => 0) C (fun _ _ _ => True) (W4.alloc (.cells #[.slice (some ⟨g, 0, none⟩) n cap3] 22)) := hd5.grid (Dm.replicate n c 0) fun _ _ _ _ => trivial
    have hBm : (W4.alloc (.cells #[.slice (some ⟨g, 0, none⟩) n cap3] 22)).cell? ⟨W4.heap.size, 0, none⟩ = some (.slice (some ⟨g, 0, none⟩) n cap3) := by simp
    have k5 := k4.alloc (Nat.le_trans k2.size kB4) (.cells #[.slice (some ⟨g, 0, none⟩) n cap3] 22)
    have q3 := alloc_keep (o := .cells #[.slice (some ⟨g, 0, none⟩) n cap3] 22) q1
    have q4 := alloc_keep (o := .cells #[.slice (some ⟨g, 0, none⟩) n cap3] 22) q2
    have q5 := alloc_keep (o := .cells #[.slice (some ⟨g, 0, none⟩) n cap3] 22) px
    have hBl : W4.heap.size < (W4.alloc (.cells #[.slice (some ⟨g, 0, none⟩) n cap3] 22)).heap.size := by simp
    have hbl : g < (W4.alloc (.cells #[.slice (some ⟨g, 0, none⟩) n cap3] 22)).heap.size := hd5.lowO.2
    have hDl : ∀ r, r < n → D r < (W4.alloc (.cells #[.slice (some ⟨g, 0, none⟩) n cap3] 22)).heap.size := fun r hr => (hd5.lowI hr).2
    have h5w : w.heap.size ≤ (W4.alloc (.cells #[.slice (some ⟨g, 0, none⟩) n cap3] 22)).heap.size := k5.size
    clear q1 q2 px k4
    refine wpIn_rangeFunc_ownH rfl (by decide) (gf := 85) (lb := #[.pointer (some ⟨W4.heap.size, 0, none⟩)]) rfl trivial (enters_of Tryd.func85 (by kernel_rfl) rfl)
      (each_stops 5 (cap := cap3) (by omega) (by omega) _ hBm hBl hG hbl hDl) (fun h h' g => h' (h g)) (fun W l o o' _ h1 h2 _ g => g.passes (grownBy_putObj' W l o') (fun r e => by cases e; exact ⟨o, h1, h2⟩)) (Below.refl _ _) (fun _ => rfl)
      (fun pre W => (∃ P, OwMD W w2.heap.size 32 3 g D C n cap3 P ∧ Dm n c P ∧ ∀ p ∈ plcs pre, en P p.1 p.2 = mulE A B k p.1 p.2 % 9973) ∧ W.cell? ⟨w.heap.size, 0, none⟩ = some (.slice a n ca) ∧ W.cell? ⟨w.heap.size + 1, 0, none⟩ = some (.slice (some ⟨bb, ob, none⟩) k cb) ∧ W.cell? ⟨PO, 0, none⟩ = some (.slice (some ⟨g, 0, none⟩) n cap3) ∧ Below w.heap.size w W)
      (fun _ _ _ => False)
      (fun s X Y row hs hgr hr => ⟨let ⟨P, e1, e2, e3⟩ := hs.1; ⟨P, e1.passes hgr (fun r e => (hr r e).2), e2, e3⟩, cell_kept hs.2.1 hgr (fun r e => (hr r e).2), cell_kept hs.2.2.1 hgr (fun r e => (hr r e).2), cell_kept hs.2.2.2.1 hgr (fun r e => (hr r e).2), hs.2.2.2.2.grown hgr hs.2.2.2.2.size (fun r e => Nat.le_trans h5w (hr r e).1)⟩)
      (fun _ _ _ _ _ hs _ _ => hs)
      ⟨⟨_, hd5, Dm.replicate n c 0, fun p hp => by cases hp⟩, q3, q4, q5, k5⟩
      (fun x a' W => ∃ Bx, W.cell? ⟨Bx, 0, none⟩ = some (.int .i64 (x.1.1 : Int)) ∧ W.cell? ⟨Bx, 1, none⟩ = some (.int .i64 (x.1.2.1 : Int)) ∧ a' = { tmps := #[Value.slice a n ca, Value.slice (some { block := bb, off := ob }) k cb, Value.pointer (some { block := w.heap.size, off := 0 }), Value.pointer (some { block := w.heap.size + 1, off := 0 }), Value.slice none 0 0, Value.pointer (some { block := PO, off := 0 }), Value.pointer (some { block := Bx, off := 0 }), undef, undef, Value.slice a n ca, Value.int IntKind.i64 ↑n, Value.slice (some { block := bb, off := ob }) k cb, Value.pointer (some { block := bb, off := ob }), Value.slice ar c cr, Value.int IntKind.i64 ↑c, Value.slice (some { block := g, off := 0 }) n cap3, Value.slice (some { block := g, off := 0 }) n cap3, Value.func (.func 85) #[] #[.pointer (some ⟨W4.heap.size, 0, none⟩)], .agg #[.int .i64 (x.1.1 : Int), .int .i64 (x.1.2.1 : Int)], .int .i64 x.1.2.2, undef, undef, undef, undef, undef, undef, undef, undef, undef, undef, undef, undef, undef, undef, undef, undef, undef, undef, undef, undef, undef, undef, undef, undef, undef, undef, undef, undef, undef, undef, undef, undef, undef, undef, undef, undef], defers := [] })
      (fun x a' _ X Y row hs hgr hr => let ⟨Bx, e1, e2, e3⟩ := hs; ⟨Bx, cell_kept e1 hgr (fun r e => (hr r e).2), cell_kept e2 hgr (fun r e => (hr r e).2), e3⟩)
      ?assign ?body ?done ?stop
    case assign =>
      rintro l pre x W K ⟨⟨P, e1, e2, e3⟩, c1, c2, c3, hbW⟩ hK
      dsimp only [encP]
      gi_wp2
      exact hK _ _ ((KeepsOthers.alloc _ _).from _) (fun g => g.fresh ((Below.refl _ _).alloc (Nat.le_refl _) _)) ⟨⟨P, e1.alloc _, e2, e3⟩, alloc_keep c1, alloc_keep c2, alloc_keep c3, hbW.alloc hbW.size _⟩ ⟨W.heap.size, by simp, by simp, rfl⟩
    case body =>
      rintro l pre ⟨⟨i, j, v⟩, hi, hj, _⟩ a' W hl ⟨r, hr⟩ ⟨⟨P, e1, e2, e3⟩, c1, c2, c3, hbW⟩ ⟨Bx, y1, y2, rfl⟩ hlt
      clear hG hBm hBl hbl hDl q3 q4 q5 hd4 hd5
      dsimp only at y1 y2 hi hj ⊢
      gi_wp2
      gi_loopw [7, 22] (fun s t wr => ∃ (t' q : Nat) (S : Int), t' ≤ k ∧ t = .int .i64 t' ∧ s = .int .i64 S ∧ Hid (S = mulE A B t' i j) ∧ Hid (wr = W.drewN q)) (fun _ t _ => k - (intOf t).toNat)
      case atStart => exact ⟨0, 0, 0, Nat.zero_le _, rfl, rfl, rfl, (World.drewN_zero _).symm⟩
      case round =>
        obtain ⟨t', q, S, ht, rfl, rfl, HS, HQ⟩ := hrel
        have kq : Below W.heap.size W wr := by rw [HQ.out]; exact below_drewN (Below.refl _ _) q
        have kw : Below w.heap.size w wr := by rw [HQ.out]; exact below_drewN hbW q
        have c1 := kq.keep (World.block_lt_of_cell? W _ c1) c1
        have c2 := kq.keep (World.block_lt_of_cell? W _ c2) c2
        have c3 := kq.keep (World.block_lt_of_cell? W _ c3) c3
        have y1 := kq.keep (World.block_lt_of_cell? W _ y1) y1
        have y2 := kq.keep (World.block_lt_of_cell? W _ y2) y2
        have hS := mulE_le HEA.out HEB.out ht hi hj
        rw [← HS.out] at hS
        by_cases htk : t' < k
        · obtain ⟨ba, oa, hz, hba, hra⟩ := (hA.below kw).at hi
          subst hz
          obtain ⟨ai, ci, a1, hai⟩ := hra i hi
          rw [HDA.out.2 i hi] at a1 hai
          obtain ⟨pa, qa, hz, hpa, hca⟩ := hai.at htk
          subst hz
          have a2 := hca t' htk
          obtain ⟨bb', ob', hz, hbb, hrb⟩ := (hB.below kw).at htk
          cases hz
          obtain ⟨bi, di, b1, hbi⟩ := hrb t' htk
          rw [HDB.out.2 t' htk] at b1 hbi
          obtain ⟨pb, qb, hz, hpb, hcb⟩ := hbi.at hj
          subst hz
          have b2 := hcb j hj
          change World.cell? _ _ = some (.int .i64 (en A i t')) at a2
          change World.cell? _ _ = some (.int .i64 (en B t' j)) at b2
          have m1 := HEA.out i t' hi htk
          have m2 := HEB.out t' j htk hj
          have m3 : 0 ≤ en A i t' * en B t' j ∧ en A i t' * en B t' j ≤ 9972 * 9972 := ⟨Int.mul_nonneg m1.1 m2.1, Int.mul_le_mul m1.2 m2.2 m2.1 (by omega)⟩
          obtain ⟨T, hT⟩ : ∃ T : Int, T = en A i t' * en B t' j := ⟨_, rfl⟩
          rw [← hT] at m3
          have u1 : IntKind.i64.wrap (en A i t' * en B t' j) = T := by rw [hT]; exact Go.IntWalk.i64_in _ (by omega)
          have u2 : IntKind.i64.wrap (S + T) = S + T := Go.IntWalk.i64_in _ (by omega)
          have HT := Lib.hid hT
          have i1 : (i : Int) < (n : Int) := by omega
          have i2 : (j : Int) < (c : Int) := by omega
          have i3 : (t' : Int) < (k : Int) := by omega
          clear hT hca hcb hra hrb hai hbi
          gi_wp2
          refine region_round_quiet (by kernel_rfl) (by kernel_rfl) (fun ⟨_, _, h⟩ => h) (by kernel_rfl) ?_
          repeat (go_big_quiet_step (fail))
          refine wpQuiet_nil ?_
          rintro _ ⟨nq, rfl⟩
          gi_wp2
          go_roundw
          case rel => exact ⟨t' + 1, _, _, by omega, by go_num, rfl, by unfold Hid mulE; rw [sumTo, HT.out, HS.out]; rfl, by unfold Hid; rw [HQ.out, World.drewN_drewN]⟩
          case measure => simp [intOf]; omega
        · obtain rfl : t' = k := by omega
          have hP := e1.below kq
          have a1 := hP.cellO hi
          have a2 := hP.cellI hi (j := j) (by rw [e2.2 i hi]; exact hj)
          have a3 := hP.frozenI hi (by rw [e2.2 i hi]; omega) j
          rw [e2.2 i hi] at a1
          have i1 : (i : Int) < (n : Int) := by omega
          have i2 : (j : Int) < (c : Int) := by omega
          gi_wp2
          refine region_round_tail 10 (by kernel_rfl) (by kernel_rfl) (fun ⟨_, _, h⟩ => h) (by kernel_rfl) ?_
          simp only [List.take_succ_cons, List.take_zero, List.drop_succ_cons, List.drop_zero]
          repeat still_step
          still_call (stillW (Field_any _ _))
          repeat still_step
          refine wpStill_nil ?_
          change wpList _ _ _ _ _ wr.drew
          go_wp2
          refine ⟨(((HQ.out ▸ keepsOthers_drewN W q : KeepsOthers W wr).trans (KeepsOthers.setCell _ _ _)).trans (KeepsOthers.drew _)).from _, fun g => ((g.fresh kq).setInt a2 fun _ _ _ _ => trivial).fresh (Below.refl _ _).drew, ⟨_, (hP.set matTy.ne hi _).drew, e2.setE _ _ _, fun p hp => ?_⟩, set_keepS c1 a2, set_keepS c2 a2, set_keepS c3 a2, (kw.setCell (p := ⟨D i, j, none⟩) (Nat.le_trans k2.size (hP.lowI hi).1) _).drew⟩
          rw [plcs_snoc] at hp
          have hpl : p.1 < n ∧ p.2 < c := by
            rcases List.mem_append.1 hp with h | h
            · exact plcs_in h
            · cases List.mem_singleton.1 h
              exact ⟨hi, hj⟩
          rw [e2.en_set _ hpl.1 hpl.2]
          split
          · next h => rw [← h.1, ← h.2, HS.out]
          · next h =>
            rcases List.mem_append.1 hp with h2 | h2
            · exact e3 p h2
            · cases List.mem_singleton.1 h2
              exact absurd ⟨rfl, rfl⟩ h
    case done =>
      rintro Dd ys W hDd hS ⟨⟨P, e1, e2, e3⟩, c1, c2, c3, hbW⟩ hK
      go_wp2
      refine ⟨by simp, .inl ⟨_, _, rfl, run_takeDeferred hK, ?_⟩⟩
      have hgr := grownBy_putObj' W Dd (.deferred none)
      have hno : ∀ r, some Dd = some r → ∃ o : Obj, W.heap[r]? = some o ∧ o.isCells = false := fun r e => by cases e; exact ⟨_, hK, rfl⟩
      exact ⟨_, results_tmp rfl _ _ _, _, _, P, rfl, ((e1.passes hgr hno).mono k2.size).toM, ⟨e2, fun i j hi hj => e3 (i, j) (by rw [hS]; exact locs_mem hi hj)⟩, hbW.grown hgr hbW.size (fun r e => by cases e; exact Nat.le_trans h5w hDd)⟩
    case stop =>
      rintro D c pre W _ _ h _
      exact h.elim
end Go.Proofs.YtkielldinghmbaaDoor
