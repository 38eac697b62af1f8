/-
  mat.one, mat.One and mat.Pow walked.
  mat.Pow where something is wrong; the closed fact of the statements on matrices.
  The closed fact of the statements on steps; and that steps are one form.
  An order's sign: by its cycles, by its pairs, and as the determinant of its matrix. Plain Lean.
  The reference's Has and Sign walked.
  The references' To (a matrix taken to a row), Unit, Pow walked.
  The sign by cycles is the sign by pairs; two that change places turn it.
  What a matrix takes to noughts: a row for each column that no step has. No program in sight.
  A row of a matrix, read at once. No program in sight.
  slices.Index and slices.Contains at []int walked.
  solve.Null walked.
  A matrix without a row and a column; num.Cut walked.
  minors.of, minors.Of, minors.Adj walked.
  A range over a function whose body always goes on, and where what is yielded may hang on what the rounds ahead have done: the caller's word (of how many rounds are over) tells the iterator what it reads. No program in sight.
  num.Each once more: a range over all places of a matrix whose numbers the loop's body may turn, so long as each number lies as it lay when its place is come to.
  inv.Of walked: what is wrong, or the inverse by the adjugate.
  TopRank walked: a square matrix has all its rows' rank if its determinant is not 0, and then alone; and then alone nothing but zeros is taken to zeros, and it has an inverse.
-/
import Derived.Test.YtkielldinghmbaaDoorRows
import Derived.Deep.QuietTactic
import Derived.BigQuiet
import Derived.StillTailTactics
import Derived.RangeFuncNested
import Derived.RangeFuncCalls
import Derived.Test.YtkielldinghmbaaDoorMgTopRankF0
import Derived.Test.YtkielldinghmbaaDoorMgTopRankF2
import Derived.Test.YtkielldinghmbaaDoorMgTopRankF3
import Derived.Test.YtkielldinghmbaaDoorMgTopRankF4
import Derived.Test.YtkielldinghmbaaDoorMgTopRankF5
import Derived.Test.YtkielldinghmbaaDoorMgTopRankF6
import Derived.Test.YtkielldinghmbaaDoorMgTopRankF7
import Derived.Test.YtkielldinghmbaaDoorMgTopRankF8
import Derived.Test.YtkielldinghmbaaDoorMgTopRankF10
import Derived.Test.YtkielldinghmbaaDoorMgTopRankF11
import Derived.Test.YtkielldinghmbaaDoorMgTopRankF12
namespace Go.Proofs.YtkielldinghmbaaDoor
open Go.RowKit Go.Rk

set_option maxHeartbeats 1000000 in
theorem one_any (n : Nat) (w : World) (h1 : 1 ≤ n) (h2 : n ≤ 1000) :
    Calls Tryd.prog 71 #[.int .i64 n] w fun e w' => ∃ a' cap' P, e = .returned (.slice a' n cap') ∧ OwM w' w.heap.size 32 3 a' n cap' P ∧ IsR n n P oneM ∧ Below w.heap.size w w' := by
  go_enter Tryd.func71, Tryd.ntmps71
  go_wp2_with (go_at_call 64; refine (Grid_any n n _ (by omega) (by omega)).mono ?_; rintro e w3 ⟨a3, cap3, rfl, ho3, hb3⟩)
  obtain ⟨g, D, C, hz, hd3⟩ := ho3.named (by omega) fun r hr => by rw [(Dm.replicate n n 0).2 r hr]; omega
  cases hz
  have h0 : ∀ i j, i < n → j < n → en (List.replicate n (List.replicate n (0 : Int))) i j = 0 := fun i j hi hj => by
    unfold en
    rw [rowOf_lt (by simp; exact hi), ix_lt (by simp; exact hj)]
    simp
  clear ho3
  go_loopw [10] (fun v wr => ∃ (k : Nat) (P : List (List Int)), k ≤ n ∧ v = .int .i64 k ∧ OwMD wr w.heap.size 32 3 g D C n cap3 P ∧ Hid (IsR n n P (fun i j => if i = j ∧ i < k then 1 else 0)) ∧ Below w.heap.size w wr) (fun v _ => n - (intOf v).toNat)
  case atStart => exact ⟨0, _, Nat.zero_le _, rfl, hd3, ⟨Dm.replicate n n 0, fun i j hi hj => by rw [h0 i j hi hj]; simp⟩, hb3⟩
  case round =>
    obtain ⟨k, P, hk, rfl, hd, hi, hb⟩ := hrel
    by_cases hlt : k < n
    · have a1 := hd.cellO hlt
      have a2 := hd.cellI hlt (j := k) (by rw [hi.out.1.2 k hlt]; exact hlt)
      have a3 := hd.frozenI hlt (by rw [hi.out.1.2 k hlt]; omega) k
      rw [hi.out.1.2 k hlt] at a1
      have b1 : (k : Int) < (n : Int) := by omega
      go_wp2
      go_roundw
      case rel => exact ⟨k + 1, _, by omega, by go_num, hd.set matTy.ne hlt 1, ⟨hi.out.1.setE _ _ _, fun i j h3 h4 => by
        rw [hi.out.1.en_set _ h3 h4]
        by_cases e : k = i ∧ k = j
        · rw [if_pos e]; dsimp only; rw [if_pos ⟨by omega, by omega⟩]
        · rw [if_neg e, hi.out.2 i j h3 h4]; dsimp only
          by_cases e2 : i = j ∧ i < k
          · rw [if_pos e2, if_pos ⟨e2.1, by omega⟩]
          · rw [if_neg e2, if_neg fun e3 => by omega]⟩, hb.setCell (p := ⟨D k, k, none⟩) (hd.lowI hlt).1 _⟩
      case measure => simp [intOf]; omega
    · obtain rfl : k = n := by omega
      go_wp2
      go_ret
      exact ⟨_, cap3, P, rfl, hd.toM, hi.out.congr fun i j h3 h4 => by
        unfold oneM
        by_cases e : i = j
        · simp only [e, if_true]; rw [if_pos ⟨trivial, by omega⟩]
        · simp [e], hb⟩

theorem One_any (n : Nat) (w : World) (h1 : 1 ≤ n) (h2 : n ≤ 5) :
    Calls Tryd.prog 29 #[.int .i64 n] w fun e w' => ∃ a' cap' P, e = .returned (.tuple #[.slice a' n cap', .nilIface]) ∧ OwM w' w.heap.size 32 3 a' n cap' P ∧ IsR n n P oneM ∧ Below w.heap.size w w' := by
  have HO : Hid (outB (n : Int) 1 5 = false) := by unfold Hid outB; simp; omega
  go_enter Tryd.func29, Tryd.ntmps29
  go_wp2_with (first | (go_at_call 70; refine (out_any _ _ _ _).mono ?_; rintro e w' ⟨rfl, rfl⟩; rw [HO.out]) | (go_at_call 71; refine (one_any n _ h1 (by omega)).mono ?_; rintro e w3 ⟨a3, cap3, P, rfl, ho3, hi3, hb3⟩))
  go_ret2
  exact ⟨a3, cap3, P, rfl, ho3, hi3, hb3⟩

theorem mulE_sq {n : Nat} {X Y P : List (List Int)} (h : IsR n n P (fun i j => mulE X Y n i j % 9973)) : (Dm n n P ∧ EntR 0 9972 n n P) ∧ EqM n n (mx P) (mulM n (mx X) (mx Y)) :=
  ⟨⟨h.1, fun i j hi hj => by rw [h.2 i j hi hj]; dsimp only; omega⟩, fun i j hi hj => by
    show Eqm (en P i j) _
    rw [h.2 i j hi hj]
    exact Eqm.mod _⟩

/-- What is wrong with a power. -/
def powErr (A : List (List Int)) (e : Int) : Option Int :=
  match squareR 5 0 9972 A with
  | some x => some x
  | none => if outB e 0 1000 then some 1 else none

set_option maxRecDepth 100000 in
set_option maxHeartbeats 2000000 in
theorem Pow_ok {a : Option Addr} {n ca e : Nat} {A : List (List Int)} {w : World} (hA : RdM w a n ca A) (hq : squareR 5 0 9972 A = none) (he : e ≤ 1000) :
    Calls Tryd.prog 28 #[.slice a n ca, .int .i64 e] w fun x w' => ∃ a' cap' P, x = .returned (.tuple #[.slice a' n cap', .nilIface]) ∧ OwM w' w.heap.size 32 3 a' n cap' P ∧ IsR n n P (fun i j => powM n (mx A) e i j % 9973) ∧ Below w.heap.size w w' := by
  obtain ⟨g1, g2⟩ := squareR_grounds hq
  have C1 := Lib.hid (mat_Check_is hA g1)
  have e1 := hA.len_eq
  obtain ⟨n1, _, dA, eA⟩ := grounds_dm e1 g1
  rw [e1] at g2
  rw [g2] at dA eA
  have HO : Hid (outB (e : Int) 0 1000 = false) := by unfold Hid outB; simp; omega
  have z1 : ((n : Int) != (n : Int)) = false := bne_eq_false_iff_eq.2 rfl
  obtain ⟨ba, oa, hz, _, hra⟩ := hA.at (k := 0) (by omega)
  subst hz
  obtain ⟨ai, ci, hc0, _⟩ := hra 0 (by omega)
  rw [Nat.add_zero, g2] at hc0
  have b1 : (0 : Int) < (n : Int) := by omega
  have b2 : (1 : Int) ≤ (n : Int) := by omega
  have HD := Lib.hid dA
  have HE := Lib.hid eA
  clear hq g1 g2 hra dA eA
  go_enter Tryd.func28, Tryd.ntmps28
  go_wp2_with (first | (go_at_call 18; (with_reducible refine C1.out.mono ?_); rintro e w' ⟨rfl, rfl⟩; simp only [errV]) | (go_at_call 70; refine (out_any _ _ _ _).mono ?_; rintro e w' ⟨rfl, rfl⟩; rw [HO.out]) | (go_at_call 71; refine (one_any n _ n1.1 (by omega)).mono ?_; rintro e w3 ⟨a3, cap3, P3, rfl, ho3, hi3, hb3⟩) | (go_at_call 67; fail))
  have C4 := Lib.hid (Copy_any (hA.below hb3) (by omega) fun r hr => by rw [HD.out.2 r hr]; omega)
  (with_reducible refine C4.out.mono ?_)
  clear C4
  rintro x w4 ⟨a4, cap4, rfl, ho4, hb4⟩
  have k4 := hb3.trans (hb4.mono hb3.size)
  have ho3 := ho3.below hb4
  have ho4 := ho4.mono hb3.size
  clear hb4
  go_wp2
  go_loopw [1, 7, 8] (fun ve vo vb wr => ∃ (e' : Nat) (ao ab : Option Addr) (co cb : Nat) (X Y : List (List Int)), e' ≤ e ∧ ve = .int .i64 e' ∧ vo = .slice ao n co ∧ vb = .slice ab n cb ∧ OwM wr w.heap.size 32 3 ao n co X ∧ OwM wr w.heap.size 32 3 ab n cb Y ∧
    Hid (Dm n n X ∧ EntR 0 9972 n n X) ∧ Hid (Dm n n Y ∧ EntR 0 9972 n n Y) ∧ Hid (EqM n n (mulM n (mx X) (powM n (mx Y) e')) (powM n (mx A) e)) ∧ Below w.heap.size w wr) (fun ve _ _ _ => (intOf ve).toNat)
  case atStart =>
    refine ⟨e, a3, a4, cap3, cap4, P3, A, Nat.le_refl _, rfl, rfl, rfl, ho3, ho4, ⟨hi3.1, fun i j hi hj => ?_⟩, ⟨HD.out, HE.out⟩, ?_, k4⟩
    · rw [hi3.2 i j hi hj]
      unfold oneM
      split <;> omega
    · intro i j hi hj
      refine (EqM.mul (n := n) (A' := oneM) (fun i j hi hj => Eqm.of_eq (hi3.2 i j hi hj)) (EqM.refl n n _) i j hi hj).trans (Eqm.of_eq (one_mulM _ hi j))
  case round =>
    obtain ⟨e', ao, ab, co, cb, X, Y, he', rfl, rfl, rfl, hX, hY, HX, HY, HI, hb⟩ := hrel
    by_cases h0 : 0 < e'
    · rcases Nat.mod_two_eq_zero_or_one e' with hp | hp
      · have hp' : ((e' : Int) % 2 == 1) = false := by simp; omega
        have Hp := Lib.hid hp
        have C5 := Lib.hid (mul_any hY.rd hY.rd HY.out.1 HY.out.1 HY.out.2 HY.out.2 ⟨n1.1, by omega⟩ ⟨n1.1, by omega⟩ ⟨n1.1, by omega⟩)
        clear hp
        go_wp2_with (go_at_call 69; fail)
        (with_reducible refine C5.out.mono ?_)
        clear C5
        rintro x w5 ⟨a5, cap5, P, rfl, ho5, hi5, hb5⟩
        have HP := Lib.hid (mulE_sq hi5)
        have hX5 := hX.below hb5
        have k5 := hb.trans (hb5.mono hb.size)
        go_wp2
        go_roundw
        case rel => exact ⟨e' / 2, ao, a5, co, cap5, X, P, by omega, by go_num, rfl, rfl, hX5, ho5.mono hb.size, HX, HP.out.1, by
          refine EqM.trans ?_ HI.out
          refine (EqM.mul (EqM.refl _ _ _) (powM_congr HP.out.2 _)).trans ((pow_even _ _ _).trans ?_)
          rw [show 2 * (e' / 2) = e' by have := Hp.out; omega]
          exact EqM.refl _ _ _, k5⟩
        case measure => simp [intOf]; omega
      · have hp' : ((e' : Int) % 2 == 1) = true := by simp; omega
        have Hp := Lib.hid hp
        have C5 := Lib.hid (mul_any hX.rd hY.rd HX.out.1 HY.out.1 HX.out.2 HY.out.2 ⟨n1.1, by omega⟩ ⟨n1.1, by omega⟩ ⟨n1.1, by omega⟩)
        clear hp
        go_wp2_with (go_at_call 69; fail)
        (with_reducible refine C5.out.mono ?_)
        clear C5
        rintro x w5 ⟨a5, cap5, P, rfl, ho5, hi5, hb5⟩
        have HP := Lib.hid (mulE_sq hi5)
        have hY5 := hY.below hb5
        have k5 := hb.trans (hb5.mono hb.size)
        have C6 := Lib.hid (mul_any hY5.rd hY5.rd HY.out.1 HY.out.1 HY.out.2 HY.out.2 ⟨n1.1, by omega⟩ ⟨n1.1, by omega⟩ ⟨n1.1, by omega⟩)
        go_wp2_with (go_at_call 69; fail)
        (with_reducible refine C6.out.mono ?_)
        clear C6
        rintro x w6 ⟨a6, cap6, R, rfl, ho6, hi6, hb6⟩
        have HR := Lib.hid (mulE_sq hi6)
        have hP6 := ho5.below hb6
        have k6 := k5.trans (hb6.mono k5.size)
        go_wp2
        go_roundw
        case rel => exact ⟨e' / 2, a5, a6, cap5, cap6, P, R, by omega, by go_num, rfl, rfl, hP6.mono hb.size, ho6.mono k5.size, HP.out.1, HR.out.1, by
          refine EqM.trans ?_ HI.out
          refine (EqM.mul HP.out.2 (powM_congr HR.out.2 _)).trans ((pow_odd _ _ _).trans ?_)
          rw [show 2 * (e' / 2) + 1 = e' by have := Hp.out; omega]
          exact EqM.refl _ _ _, k6⟩
        case measure => simp [intOf]; omega
    · obtain rfl : e' = 0 := by omega
      go_wp2
      go_ret2
      exact ⟨ao, co, X, rfl, hX, ⟨HX.out.1, fun i j hi hj => by
        have h1 := HX.out.2 i j hi hj
        have h2 := HI.out i j hi hj
        have h3 : mulM n (mx X) (powM n (mx Y) 0) i j = en X i j := mulM_one (mx X) i hj
        rw [h3] at h2
        unfold Eqm at h2
        dsimp only
        omega⟩, hb⟩
end Go.Proofs.YtkielldinghmbaaDoor
namespace Go.Proofs.YtkielldinghmbaaDoor
open Go.RowKit Go.Rk

set_option maxHeartbeats 1000000 in
theorem Pow_err {a : Option Addr} {n ca : Nat} {e : Int} {A : List (List Int)} {w : World} {x : Int} (hA : RdM w a n ca A) (hq : powErr A e = some x) :
    Calls Tryd.prog 28 #[.slice a n ca, .int .i64 e] w fun r w' => r = .returned (.tuple #[.slice none 0 0, .iface 70 (.int .i64 x)]) ∧ Below w.heap.size w w' := by
  rcases hg : groundsR 5 0 9972 A with _ | y
  · have C1 := Lib.hid (mat_Check_is hA hg)
    have e1 := hA.len_eq
    obtain ⟨n1, n2, dA, _⟩ := grounds_dm e1 hg
    obtain ⟨ba, oa, hz, _, hra⟩ := hA.at (k := 0) (by omega)
    subst hz
    obtain ⟨ai, ci, hc0, _⟩ := hra 0 (by omega)
    rw [Nat.add_zero] at hc0
    have b1 : (0 : Int) < (n : Int) := by omega
    have b2 : (1 : Int) ≤ (n : Int) := by omega
    by_cases hs : n = (rowOf A 0).length
    · have hq2 : squareR 5 0 9972 A = none := by unfold squareR; rw [if_pos hg, if_pos (by rw [e1]; exact hs)]
      unfold powErr at hq
      rw [hq2] at hq
      dsimp only at hq
      split at hq
      · next ho =>
        injection hq with hq
        subst hq
        rw [← hs] at hc0
        have z1 : ((n : Int) != (n : Int)) = false := bne_eq_false_iff_eq.2 rfl
        have HO := Lib.hid ho
        clear ho hg hq2 hra dA hs
        go_enter Tryd.func28, Tryd.ntmps28
        go_wp2_with (first | (go_at_call 18; (with_reducible refine C1.out.mono ?_); rintro e w' ⟨rfl, rfl⟩; simp only [errV]) | (go_at_call 70; refine (out_any _ _ _ _).mono ?_; rintro e w' ⟨rfl, rfl⟩; rw [HO.out]))
        go_ret2
        exact ⟨rfl, Below.refl _ _⟩
      · cases hq
    · have hq2 : squareR 5 0 9972 A = some 3 := by unfold squareR; rw [if_pos hg, if_neg (by rw [e1]; exact hs)]
      unfold powErr at hq
      rw [hq2] at hq
      dsimp only at hq
      injection hq with hq
      subst hq
      have z1 : ((n : Int) != ((rowOf A 0).length : Int)) = true := bne_iff_ne.2 (by omega)
      clear hg hq2 hra dA hs
      go_enter Tryd.func28, Tryd.ntmps28
      go_wp2_with (first | (go_at_call 18; (with_reducible refine C1.out.mono ?_); rintro e w' ⟨rfl, rfl⟩; simp only [errV]))
      go_ret2
      exact ⟨rfl, Below.refl _ _⟩
  · have hq2 : squareR 5 0 9972 A = some y := by unfold squareR; rw [hg]; rfl
    unfold powErr at hq
    rw [hq2] at hq
    dsimp only at hq
    injection hq with hq
    subst hq
    have C1 := Lib.hid (mat_Check_is hA hg)
    clear hg hq2
    go_enter Tryd.func28, Tryd.ntmps28
    go_wp2_with (first | (go_at_call 18; (with_reducible refine C1.out.mono ?_); rintro e w' ⟨rfl, rfl⟩; simp only [errV]))
    go_ret2
    exact ⟨rfl, Below.refl _ _⟩


end Go.Proofs.YtkielldinghmbaaDoor
namespace Go.Proofs.YtkielldinghmbaaDoor
open Go.RowKit Go.Rk

theorem _root_.Go.Rk.GInv.good {n c q : Nat} {A : Mx} {M : List (List Int)} {ps : List Int} (h : GInv n c A q M ps) (hn : 1 ≤ n ∧ n ≤ 5) (hc : 1 ≤ c ∧ c ≤ 5) : Good n c M := ⟨hn, hc, h.dm, h.ent⟩
theorem _root_.Go.Rk.GInv.fac {n c : Nat} {A : Mx} {M : List (List Int)} {ps : List Int} (h : GInv n c A c M ps) : Fac n c ps.length A := h.st.fac h.back
theorem _root_.Go.Rk.GInv.least {n c s : Nat} {A : Mx} {M : List (List Int)} {ps : List Int} (h : GInv n c A c M ps) (f : Fac n c s A) : ps.length ≤ s := h.st.no_less h.made f
theorem _root_.Go.Rk.GInv.same {n c : Nat} {A A' : Mx} {M M' : List (List Int)} {ps ps' : List Int} (h : GInv n c A c M ps) (g : GInv n c A' c M' ps') (m : Made n c A A') (m' : Made n c A' A) : M = M' ∧ ps = ps' := by
  obtain ⟨e1, e2, e3⟩ := h.st.unique g.st (h.back.trans (m.trans g.made)) (g.back.trans (m'.trans h.made))
  refine ⟨h.dm.ext g.dm fun i j hi hj => ?_, ix_ext e1 fun i hi => ?_⟩
  · have h1 := h.ent i j hi hj
    have h2 := g.ent i j hi hj
    have h3 : en M i j % 9973 = en M' i j % 9973 := e3 i j hi hj
    omega
  · have h1 := h.pos i hi
    have h2 := g.pos i (by omega)
    have h3 := e2 i hi
    omega

theorem gaussLit : Go.Rk.GInv 2 2 (mx [[0, 2], [0, 4]]) 2 [[0, 1], [0, 0]] [1] := by
  have two : ∀ {P : Nat → Nat → Prop}, P 0 0 → P 0 1 → P 1 0 → P 1 1 → ∀ i j, i < 2 → j < 2 → P i j := by
    intro P h0 h1 h2 h3 i j hi hj
    rcases (show i = 0 ∨ i = 1 by omega) with rfl | rfl <;> rcases (show j = 0 ∨ j = 1 by omega) with rfl | rfl <;> assumption
  refine ⟨⟨rfl, fun i hi => ?_⟩, two (by decide) (by decide) (by decide) (by decide), ⟨mx [[4987, 0], [-2, 1]], two (by unfold Eqm; decide) (by unfold Eqm; decide) (by unfold Eqm; decide) (by unfold Eqm; decide)⟩, ⟨mx [[2, 0], [4, 0]], two (by unfold Eqm; decide) (by unfold Eqm; decide) (by unfold Eqm; decide) (by unfold Eqm; decide)⟩,
    ⟨by decide, fun i hi => ?_, fun i j h1 h2 => ?_, fun i j h1 h2 => ?_, fun i s h1 h2 h3 => ?_, fun i s h1 h2 => ?_⟩, fun i hi => ?_⟩
  · rcases (show i = 0 ∨ i = 1 by omega) with rfl | rfl <;> rfl
  · obtain rfl : i = 0 := by simp at hi; omega
    decide
  · simp at h2; omega
  · obtain rfl : j = 0 := by simp at h2; omega
    rcases (show i = 0 ∨ i = 1 by omega) with rfl | rfl <;> (unfold Eqm; decide)
  · obtain rfl : i = 1 := by simp at h1; omega
    rcases (show s = 0 ∨ s = 1 by omega) with rfl | rfl <;> (unfold Eqm; decide)
  · obtain rfl : i = 0 := by simp at h1; omega
    have : (ix [1] 0).toNat = 1 := by decide
    rw [this] at h2
    obtain rfl : s = 0 := by omega
    unfold Eqm; decide
  · obtain rfl : i = 0 := by simp at hi; omega
    decide

end Go.Proofs.YtkielldinghmbaaDoor
namespace Go.Rk

/-- The matrix of an order. -/
def pm (m : Nat → Nat) : Mx := fun r => unit_ (m r)

/-- What m is when two places exchange what they hold. -/
def swapN (m : Nat → Nat) (i j : Nat) : Nat → Nat := fun r => if r = j then m i else if r = i then m j else m r

theorem det_pm_swap (m : Nat → Nat) {n i j : Nat} (hij : i ≠ j) (hi : i < n) (hj : j < n) : det n (pm (swapN m i j)) = -det n (pm m) := by
  rw [← (det_alt n).swap (pm m) hij hi hj]
  refine det_congr fun r c _ _ => ?_
  simp only [pm, swapN, swapM, setRow]
  by_cases h1 : r = j
  · simp [h1]
  · by_cases h2 : r = i
    · simp [h2, hij]
    · simp [h1, h2]

/-- An order that takes each place to a place, none twice. -/
structure Ord (n : Nat) (m : Nat → Nat) : Prop where
  lt : ∀ a, a < n → m a < n
  inj : ∀ a b, a < n → b < n → m a = m b → a = b

theorem Ord.swap {n : Nat} {m : Nat → Nat} (h : Ord n m) {i j : Nat} (hi : i < n) (hj : j < n) : Ord n (swapN m i j) := by
  have e (r : Nat) : swapN m i j r = m (if r = j then i else if r = i then j else r) := by
    unfold swapN
    (repeat' split) <;> rfl
  have hlt (r : Nat) (hr : r < n) : (if r = j then i else if r = i then j else r) < n := by (repeat' split) <;> omega
  refine ⟨fun a ha => ?_, fun a b ha hb e2 => ?_⟩
  · rw [e]; exact h.lt _ (hlt a ha)
  · rw [e, e] at e2
    have e3 := h.inj _ _ (hlt a ha) (hlt b hb) e2
    revert e3
    (repeat' split) <;> omega

/-- Each place is some place's, as soon as no two have the same. -/
theorem Ord.onto : ∀ {n : Nat} {m : Nat → Nat}, Ord n m → ∀ b, b < n → ∃ a, a < n ∧ m a = b := by
  intro n
  induction n with
  | zero => intro m _ b hb; omega
  | succ n ih =>
    intro m h b hb
    -- the place that goes to the last one is put last
    by_cases hx : ∃ a, a < n + 1 ∧ m a = n
    · obtain ⟨a, ha, ea⟩ := hx
      by_cases hbn : b = n
      · exact ⟨a, ha, by omega⟩
      have h' : Ord n (swapN m a n) := by
        have hs := h.swap ha (Nat.lt_succ_self n)
        refine ⟨fun x hx => ?_, fun x y hx hy e => hs.inj x y (by omega) (by omega) e⟩
        have h1 := hs.lt x (by omega)
        have h2 : swapN m a n x ≠ n := fun e => by
          have : swapN m a n n = n := by simp [swapN, ea]
          have := hs.inj x n (by omega) (by omega) (by omega)
          omega
        omega
      obtain ⟨c, hc, ec⟩ := ih h' b (by omega)
      unfold swapN at ec
      by_cases h1 : c = n
      · omega
      · rw [if_neg h1] at ec
        by_cases h2 : c = a
        · rw [if_pos h2] at ec; exact ⟨n, Nat.lt_succ_self n, ec⟩
        · rw [if_neg h2] at ec; exact ⟨c, by omega, ec⟩
    · exfalso
      have h' : Ord n m := ⟨fun x hx2 => by
        have h1 := h.lt x (by omega)
        have h2 : m x ≠ n := fun e => hx ⟨x, by omega, e⟩
        omega, fun x y hx hy e => h.inj x y (by omega) (by omega) e⟩
      have h1 := h.lt n (Nat.lt_succ_self n)
      have h2 : m n ≠ n := fun e => hx ⟨n, Nat.lt_succ_self n, e⟩
      obtain ⟨a, ha, ea⟩ := ih h' (m n) (by omega)
      have := h.inj a n (by omega) (by omega) ea
      omega

/-- What is not yet done of an order, in a cycle that began at i and stands at k. -/
structure Mid (n : Nat) (l : List Int) (d : List Bool) (i k : Nat) (m : Nat → Nat) : Prop where
  ord : Ord n m
  len : d.length = n
  isdone : ∀ j, j < n → bx d j = true → j ≠ i → m j = j
  left : ∀ j, j < n → bx d j = false → m j = (ix l j).toNat
  di : bx d i = true
  at_ : m i = k

theorem Mid.step {n : Nat} {l : List Int} {d : List Bool} {i k : Nat} {m : Nat → Nat} (h : Mid n l d i k m) (hi : i < n) (hd : bx d k = false) :
    Mid n l (d.set k true) i (ix l k).toNat (swapN m i k) ∧ det n (pm (swapN m i k)) = -det n (pm m) := by
  have hk : k < n := h.at_ ▸ h.ord.lt i hi
  have hik : i ≠ k := fun e => by subst e; rw [h.di] at hd; cases hd
  refine ⟨⟨h.ord.swap hi hk, by rw [List.length_set]; exact h.len, fun j hj hb hji => ?_, fun j hj hb => ?_, ?_, ?_⟩, det_pm_swap m hik hi hk⟩
  · unfold swapN
    by_cases e : j = k
    · rw [if_pos e, h.at_, e]
    · rw [if_neg e, if_neg hji]
      rw [bx_set, if_neg (by rintro ⟨e2, _⟩; exact e e2.symm)] at hb
      exact h.isdone j hj hb hji
  · rw [bx_set] at hb
    by_cases e : k = j
    · rw [if_pos ⟨e, by rw [h.len]; exact hj⟩] at hb; cases hb
    · rw [if_neg fun e2 => e e2.1] at hb
      unfold swapN
      rw [if_neg fun e2 => e e2.symm, if_neg (by rintro rfl; rw [h.di] at hb; cases hb)]
      exact h.left j hj hb
  · rw [bx_set]
    split
    · rfl
    · exact h.di
  · unfold swapN
    rw [if_neg hik, if_pos rfl]
    exact h.left k hk hd

/-- Once the cycle is back, it is at its beginning. -/
theorem Mid.back {n : Nat} {l : List Int} {d : List Bool} {i k : Nat} {m : Nat → Nat} (h : Mid n l d i k m) (hi : i < n) (hd : bx d k = true) : k = i := by
  have hk : k < n := h.at_ ▸ h.ord.lt i hi
  by_cases e : k = i
  · exact e
  · have h1 := h.isdone k hk hd e
    exact (h.ord.inj i k hi hk (by rw [h.at_, h1])).symm

theorem cyc_mid {n : Nat} {l : List Int} {i : Nat} (hi : i < n) : ∀ (f : Nat) (d : List Bool) (k g : Nat) (m : Nat → Nat), Mid n l d i k m → cntF d < f →
    ∃ m', Mid n l (cycF l f d k g).1 i i m' ∧ g ≤ (cycF l f d k g).2 ∧ det n (pm m) = sg ((cycF l f d k g).2 - g) * det n (pm m') := by
  intro f
  induction f with
  | zero => intro d k g m _ hf; omega
  | succ f ih =>
    intro d k g m h hf
    rw [cycF]
    rcases hd : bx d k
    · obtain ⟨h2, e2⟩ := h.step hi hd
      have hk : k < n := h.at_ ▸ h.ord.lt i hi
      have hc := cntF_set (d := d) (k := k) (by rw [h.len]; exact hk) hd
      obtain ⟨m', h3, h4, e3⟩ := ih (d.set k true) (ix l k).toNat (g + 1) _ h2 (by omega)
      simp only [Bool.false_eq_true, if_false]
      refine ⟨m', h3, by omega, ?_⟩
      have e4 : (cycF l f (d.set k true) (ix l k).toNat (g + 1)).2 - g = (cycF l f (d.set k true) (ix l k).toNat (g + 1)).2 - (g + 1) + 1 := by omega
      rw [e4, sg_succ, Int.neg_mul, ← e3, e2]
      omega
    · simp only [if_true]
      have := h.back hi hd
      subst this
      exact ⟨m, h, Nat.le_refl _, by simp [sg]⟩

/-- What is left of an order when the cycles through the first i places are done. -/
structure Gone (n : Nat) (l : List Int) (d : List Bool) (i : Nat) (m : Nat → Nat) : Prop where
  ord : Ord n m
  len : d.length = n
  isdone : ∀ j, j < n → bx d j = true → m j = j
  left : ∀ j, j < n → bx d j = false → m j = (ix l j).toNat
  upto : ∀ j, j < i → bx d j = true

theorem cycF_keeps (l : List Int) : ∀ (f : Nat) (d : List Bool) (k g j : Nat), j < d.length → bx d j = true → bx (cycF l f d k g).1 j = true := by
  intro f
  induction f with
  | zero => intro d k g j _ h; exact h
  | succ f ih =>
    intro d k g j hj h
    rw [cycF]
    split
    · exact h
    · refine ih _ _ _ _ (by rw [List.length_set]; exact hj) ?_
      rw [bx_set]
      split
      · rfl
      · exact h

theorem Gone.step {n : Nat} {l : List Int} {i : Nat} {m : Nat → Nat} (hi : i < n) (h : Gone n l (cycN l n i).1 i m) :
    ∃ m', Gone n l (cycN l n (i + 1)).1 (i + 1) m' ∧ (cycN l n (i + 1)).2 * det n (pm m') = (cycN l n i).2 * det n (pm m) := by
  rw [cycN]
  generalize (cycN l n i).2 = s at *
  generalize (cycN l n i).1 = d at *
  dsimp only
  rcases hd : bx d i
  · have hM : Mid n l (d.set i true) i (ix l i).toNat m := by
      refine ⟨h.ord, by rw [List.length_set]; exact h.len, fun j hj hb hji => ?_, fun j hj hb => ?_, ?_, h.left i hi hd⟩
      · rw [bx_set, if_neg (by rintro ⟨e2, _⟩; exact hji e2.symm)] at hb
        exact h.isdone j hj hb
      · rw [bx_set] at hb
        by_cases e : i = j
        · rw [if_pos ⟨e, by rw [h.len]; exact hj⟩] at hb; cases hb
        · rw [if_neg fun e2 => e e2.1] at hb
          exact h.left j hj hb
      · rw [bx_set, if_pos ⟨rfl, by rw [h.len]; exact hi⟩]
    have hc := cntF_set (d := d) (k := i) (by rw [h.len]; exact hi) hd
    have hc2 := cntF_le d
    rw [h.len] at hc2
    obtain ⟨m', h3, h4, e3⟩ := cyc_mid hi n (d.set i true) (ix l i).toNat 1 m hM (by omega)
    have e5 : cycF l (n + 1) d i 0 = cycF l n (d.set i true) (ix l i).toNat 1 := by
      rw [cycF, hd]
      simp
    rw [e5]
    have hk := fun j (hj : j < (d.set i true).length) (hb : bx (d.set i true) j = true) => cycF_keeps l n (d.set i true) (ix l i).toNat 1 j hj hb
    generalize cycF l n (d.set i true) (ix l i).toNat 1 = r at *
    refine ⟨m', ⟨h3.ord, h3.len, fun j hj hb => ?_, h3.left, fun j hj => ?_⟩, ?_⟩
    · by_cases e : j = i
      · subst e; exact h3.at_
      · exact h3.isdone j hj hb e
    · refine hk j (by rw [List.length_set, h.len]; omega) ?_
      rw [bx_set]
      by_cases e : i = j
      · rw [if_pos ⟨e, by rw [h.len]; omega⟩]
      · rw [if_neg fun e2 => e e2.1]; exact h.upto j (by omega)
    · rw [e3]
      unfold sg
      by_cases h6 : r.2 % 2 = 0
      · rw [if_pos ⟨by omega, h6⟩, if_neg (by omega)]; grind
      · rw [if_neg fun e => h6 e.2, if_pos (by omega)]; grind
  · have e5 : cycF l (n + 1) d i 0 = (d, 0) := by
      rw [cycF, hd]
      simp
    rw [e5]
    refine ⟨m, ⟨h.ord, h.len, h.isdone, h.left, fun j hj => ?_⟩, by simp⟩
    by_cases e : j = i
    · subst e; exact hd
    · exact h.upto j (by omega)

/-- The sign by the cycles is the determinant of the order's matrix. -/
theorem cycN_det {n : Nat} {l : List Int} (h : Ord n fun j => (ix l j).toNat) : (cycN l n n).2 = det n (pm fun j => (ix l j).toNat) := by
  have key : ∀ i, i ≤ n → ∃ m, Gone n l (cycN l n i).1 i m ∧ (cycN l n i).2 * det n (pm m) = det n (pm fun j => (ix l j).toNat) := by
    intro i
    induction i with
    | zero =>
      intro _
      refine ⟨_, ⟨h, by simp [cycN], fun j hj hb => ?_, fun j _ _ => rfl, fun j hj => by omega⟩, by simp [cycN]⟩
      simp [cycN, bx, List.getD, hj] at hb
    | succ i ih =>
      intro hi
      obtain ⟨m, h1, e1⟩ := ih (by omega)
      obtain ⟨m', h2, e2⟩ := h1.step (by omega)
      exact ⟨m', h2, e2.trans e1⟩
  obtain ⟨m, h1, e1⟩ := key n (Nat.le_refl _)
  rw [← e1, det_congr (B := idM) fun r c hr _ => by
    show unit_ (m r) c = unit_ r c
    rw [h1.isdone r hr (h1.upto r hr)], det_id]
  omega

theorem prodTo_skip (g : Nat → Int) {a : Nat} : ∀ {n}, a ≤ n → prodTo g (n + 1) = prodTo (fun k => g (skip a k)) n * g a := by
  intro n
  induction n with
  | zero =>
    intro h
    obtain rfl : a = 0 := by omega
    simp [prodTo]
  | succ n ih =>
    intro h
    rcases Nat.lt_or_ge n a with h1 | h1
    · obtain rfl : a = n + 1 := by omega
      rw [prodTo, prodTo_congr (h := fun k => g (skip (n + 1) k)) fun i hi => by simp [skip, hi]]
    · rw [prodTo, ih h1]
      conv => rhs; rw [prodTo]
      have : skip a n = n + 1 := by unfold skip; rw [if_neg (by omega)]
      rw [this]
      grind

/-- The product over all the pairs. -/
def pairs (F : Nat → Nat → Int) (n : Nat) : Int := prodTo (fun i => prodTo (fun k => F k i) i) n

theorem pairs_skip (F : Nat → Nat → Int) {a : Nat} : ∀ {n}, a ≤ n → pairs F (n + 1) = pairs (fun k i => F (skip a k) (skip a i)) n * (prodTo (fun k => F k a) a * prodTo (fun i => F a (a + 1 + i)) (n - a)) := by
  intro n
  induction n with
  | zero =>
    intro h
    obtain rfl : a = 0 := by omega
    simp [pairs, prodTo]
  | succ n ih =>
    intro h
    rcases Nat.lt_or_ge n a with h1 | h1
    · obtain rfl : a = n + 1 := by omega
      have e1 : pairs F (n + 1 + 1) = pairs F (n + 1) * prodTo (fun k => F k (n + 1)) (n + 1) := rfl
      have e2 : pairs (fun k i => F (skip (n + 1) k) (skip (n + 1) i)) (n + 1) = pairs F (n + 1) := by
        unfold pairs
        refine prodTo_congr fun i hi => prodTo_congr fun k hk => ?_
        simp only [skip]
        rw [if_pos (by omega), if_pos hi]
      have e3 : prodTo (fun i => F (n + 1) (n + 1 + 1 + i)) (n + 1 - (n + 1)) = 1 := by rw [Nat.sub_self]; rfl
      rw [e1, e2, e3, Int.mul_one]
    · have e1 : pairs F (n + 1 + 1) = pairs F (n + 1) * prodTo (fun k => F k (n + 1)) (n + 1) := rfl
      have e2 : pairs (fun k i => F (skip a k) (skip a i)) (n + 1) = pairs (fun k i => F (skip a k) (skip a i)) n * prodTo (fun k => F (skip a k) (skip a n)) n := rfl
      have e3 : n + 1 - a = n - a + 1 := by omega
      have e4 : skip a n = n + 1 := by unfold skip; rw [if_neg (by omega)]
      have e5 : a + 1 + (n - a) = n + 1 := by omega
      rw [e1, ih h1, e2, e3, prodTo_skip (fun k => F k (n + 1)) h1, e4]
      conv => rhs; rw [prodTo, e5]
      grind

theorem prodTo_one {g : Nat → Int} {n : Nat} (h : ∀ i, i < n → g i = 1) : prodTo g n = 1 := by
  induction n with
  | zero => rfl
  | succ n ih => rw [prodTo, ih fun i hi => h i (by omega), h n (by omega)]; rfl
theorem prodTo_neg {g : Nat → Int} {n : Nat} (h : ∀ i, i < n → g i = -1) : prodTo g n = sg n := by
  induction n with
  | zero => rfl
  | succ n ih => rw [prodTo, ih fun i hi => h i (by omega), h n (by omega), sg_succ]; omega

/-- What a pair does to an order's sign. -/
def turnF (m : Nat → Nat) (k i : Nat) : Int := if m i < m k then -1 else 1

/-- The sign by the pairs is the determinant of the order's matrix. -/
theorem det_pairs : ∀ {n : Nat} {m : Nat → Nat}, Ord n m → det n (pm m) = pairs (turnF m) n := by
  intro n
  induction n with
  | zero => intro m _; rfl
  | succ n ih =>
    intro m h
    obtain ⟨a, ha, ea⟩ := h.onto n (Nat.lt_succ_self n)
    have hne : ∀ r, r < n + 1 → r ≠ a → m r < n := fun r hr h1 => by
      have h2 := h.lt r hr
      have h3 : m r ≠ n := fun e => h1 (h.inj r a hr ha (by omega))
      omega
    have h' : Ord n (fun r => m (skip a r)) := by
      refine ⟨fun r hr => hne _ (skip_lt hr) (skip_ne a r), fun x y hx hy e => ?_⟩
      have := h.inj _ _ (skip_lt hx) (skip_lt hy) e
      revert this
      unfold skip
      split <;> split <;> omega
    have e1 : det (n + 1) (pm m) = sg (a + n) * det n (pm fun r => m (skip a r)) := by
      rw [det_row (pm m) ha, sumTo_congr (g := fun j => sg (a + j) * pm m a j * det n (minor (pm m) a j)) (h := fun k => unit_ n k * (sg (a + k) * det n (minor (pm m) a k))) fun j _ => by
        show sg (a + j) * unit_ (m a) j * _ = _
        rw [ea]
        grind]
      rw [unit_pick (fun k => sg (a + k) * det n (minor (pm m) a k)) (Nat.lt_succ_self n)]
      congr 1
      refine det_congr fun r c hr hc => ?_
      show unit_ (m (skip a r)) (skip n c) = unit_ (m (skip a r)) c
      rw [show skip n c = c by unfold skip; rw [if_pos hc]]
    rw [e1, ih h', pairs_skip _ (by omega : a ≤ n)]
    have e2 : prodTo (fun k => turnF m k a) a = 1 := prodTo_one fun k hk => by
      have := h.lt k (by omega)
      unfold turnF
      rw [if_neg (by omega)]
    have e3 : prodTo (fun i => turnF m a (a + 1 + i)) (n - a) = sg (n - a) := prodTo_neg fun i hi => by
      have := hne (a + 1 + i) (by omega) (by omega)
      unfold turnF
      rw [if_pos (by omega)]
    have e4 : sg (n - a) = sg (a + n) := by
      unfold sg
      by_cases h1 : (n - a) % 2 = 0
      · rw [if_pos h1, if_pos (by omega)]
      · rw [if_neg h1, if_neg (by omega)]
    rw [e2, e3, e4]
    have e5 : pairs (turnF fun r => m (skip a r)) n = pairs (fun k i => turnF m (skip a k) (skip a i)) n := rfl
    rw [e5]
    grind

theorem bx_metN {l : List Int} {n : Nat} : ∀ {k}, ∀ v, v < n → (bx (metN l n k) v = true ↔ ∃ j, j < k ∧ (ix l j).toNat = v) := by
  intro k
  induction k with
  | zero =>
    intro v hv
    simp [metN, bx, List.getD, hv]
  | succ k ih =>
    intro v hv
    rw [metN, bx_set, metN_len]
    by_cases h1 : (ix l k).toNat = v
    · rw [if_pos ⟨h1, hv⟩]
      exact ⟨fun _ => ⟨k, by omega, h1⟩, fun _ => rfl⟩
    · rw [if_neg fun e => h1 e.1, ih v hv]
      constructor
      · rintro ⟨j, hj, e⟩; exact ⟨j, by omega, e⟩
      · rintro ⟨j, hj, e⟩
        by_cases h2 : j = k
        · subst h2; exact absurd e h1
        · exact ⟨j, by omega, e⟩

theorem okN_inj {l : List Int} {n : Nat} : ∀ {k}, okN l n k = true → ∀ a b, a < b → b < k → (ix l a).toNat ≠ (ix l b).toNat := by
  intro k
  induction k with
  | zero => intro _ a b _ hb; omega
  | succ k ih =>
    intro h a b hab hb e
    have hle := okN_le h
    rw [okN, Bool.and_eq_true, Bool.and_eq_true] at h
    rcases Nat.lt_or_ge b k with h1 | h1
    · exact ih h.1.1 a b hab h1 e
    · obtain rfl : b = k := by omega
      have h2 := hle b (by omega)
      have := (bx_metN (l := l) (n := n) (k := b) (ix l b).toNat (by omega)).2 ⟨a, hab, e⟩
      rw [this] at h
      exact absurd h.2 (by simp)

theorem okN_ord {l : List Int} {n : Nat} (h : okN l n n = true) : Ord n (fun j => (ix l j).toNat) ∧ ∀ j, j < n → 0 ≤ ix l j := by
  have hle := okN_le h
  refine ⟨⟨fun a ha => by have := hle a ha; show (ix l a).toNat < n; omega, fun a b ha hb e => ?_⟩, fun j hj => (hle j hj).1⟩
  rcases Nat.lt_trichotomy a b with h1 | h1 | h1
  · exact absurd e (okN_inj h a b h1 hb)
  · exact h1
  · exact absurd e.symm (okN_inj h b a h1 ha)

theorem ord_okN {l : List Int} {n : Nat} (h : Ord n (fun j => (ix l j).toNat)) (h0 : ∀ j, j < n → 0 ≤ ix l j) : ∀ k, k ≤ n → okN l n k = true := by
  intro k
  induction k with
  | zero => intro _; rfl
  | succ k ih =>
    intro hk
    have h1 := h.lt k (by omega)
    have h2 := h0 k (by omega)
    change (ix l k).toNat < n at h1
    have h3 : bx (metN l n k) (ix l k).toNat = false := by
      rcases hb : bx (metN l n k) (ix l k).toNat
      · rfl
      · obtain ⟨j, hj, e⟩ := (bx_metN _ h1).1 hb
        have := h.inj j k (by omega) (by omega) e
        omega
    rw [okN, ih (by omega), h3]
    simp
    omega

/-- If each number has its place, it is an order. -/
theorem has_ord {l : List Int} {n : Nat} (h : ∀ i : Nat, i < n → ∃ p, p < n ∧ ix l p = i) : Ord n (fun j => (ix l j).toNat) ∧ ∀ j, j < n → 0 ≤ ix l j := by
  let f : Nat → Nat := fun i => if hi : i < n then (h i hi).choose else 0
  have hf : ∀ i, i < n → f i < n ∧ ix l (f i) = i := fun i hi => by
    have := (h i hi).choose_spec
    simp only [f, dif_pos hi]
    exact this
  have hF : Ord n f := ⟨fun a ha => (hf a ha).1, fun a b ha hb e => by
    have h1 := (hf a ha).2
    have h2 := (hf b hb).2
    rw [e] at h1
    omega⟩
  refine ⟨⟨fun p hp => ?_, fun p q hp hq e => ?_⟩, fun p hp => ?_⟩
  · obtain ⟨i, hi, rfl⟩ := hF.onto p hp
    have := (hf i hi).2
    show (ix l (f i)).toNat < n
    omega
  · obtain ⟨i, hi, rfl⟩ := hF.onto p hp
    obtain ⟨j, hj, rfl⟩ := hF.onto q hq
    have h1 := (hf i hi).2
    have h2 := (hf j hj).2
    change (ix l (f i)).toNat = (ix l (f j)).toNat at e
    have : i = j := by omega
    rw [this]
  · obtain ⟨i, hi, rfl⟩ := hF.onto p hp
    have := (hf i hi).2
    omega
end Go.Rk
namespace Go.Proofs.YtkielldinghmbaaDoor
open Go.RowKit Go.Rk

def hasB (n : Int) (l : List Int) : Bool := l.any (· == n)
theorem hasB_iff {n : Int} {l : List Int} : hasB n l = true ↔ ∃ p, p < l.length ∧ ix l p = n := by
  unfold hasB
  rw [List.any_eq_true]
  constructor
  · rintro ⟨x, hx, e⟩
    obtain ⟨p, hp, rfl⟩ := List.getElem_of_mem hx
    exact ⟨p, hp, by rw [ix_lt hp]; exact beq_iff_eq.1 e⟩
  · rintro ⟨p, hp, e⟩
    exact ⟨_, ix_mem hp, beq_iff_eq.2 e⟩

theorem R_Has_any {a : Option Addr} {len cap : Nat} {l : List Int} (n : Int) {w : World} (h : RdI w a len cap l) :
    Calls Tryd.prog 76 #[.slice a len cap, .int .i64 n] w fun e w' => e = .returned (.bool (hasB n l)) ∧ w = w' := by
  have hm := h.len_max
  go_enter Tryd.func76, Tryd.ntmps76
  go_wp2
  go_loop [5] (fun i => ∃ k : Nat, k ≤ len ∧ i = .int .i64 k ∧ Hid (∀ p, p < k → ix l p ≠ n)) (fun i => len - (intOf i).toNat)
  case atStart => exact ⟨0, Nat.zero_le _, rfl, fun p hp => absurd hp (Nat.not_lt_zero _)⟩
  case round =>
    obtain ⟨k, hk, rfl, hno⟩ := hrel
    by_cases hlt : k < len
    · obtain ⟨b, off, rfl, _, hc⟩ := h.at hlt
      have hc := hc k hlt
      by_cases ho : ix l k = n
      · have z : (ix l k == n) = true := beq_iff_eq.2 ho
        have Ho := Lib.hid ho
        clear ho
        go_wp2
        go_ret
        exact ⟨congrArg (fun b => Ending.returned (.bool b)) (hasB_iff.2 ⟨k, by rw [h.len_eq]; exact hlt, Ho.out⟩).symm, rfl⟩
      · have z : (ix l k == n) = false := beq_eq_false_iff_ne.2 ho
        have Ho := Lib.hid ho
        clear ho
        go_wp2
        go_round
        case rel => exact ⟨k + 1, by omega, by go_num, fun p hp => by
          rcases Nat.lt_or_ge p k with h1 | h1
          · exact hno.out p h1
          · obtain rfl : p = k := by omega
            exact Ho.out⟩
        case measure => simp [intOf]; omega
    · go_wp2
      go_ret
      refine ⟨congrArg (fun b => Ending.returned (.bool b)) (Bool.eq_false_iff.2 fun e => ?_).symm, rfl⟩
      obtain ⟨p, hp, e⟩ := hasB_iff.1 e
      exact hno.out p (by rw [h.len_eq] at hp; omega) e

/-- The sign by the pairs, as the reference counts it. -/
def turnI (l : List Int) (k i : Nat) : Int := if ix l i < ix l k then -1 else 1

theorem prodTo_pm {g : Nat → Int} {n : Nat} (h : ∀ i, i < n → g i = 1 ∨ g i = -1) : prodTo g n = 1 ∨ prodTo g n = -1 := by
  induction n with
  | zero => exact .inl rfl
  | succ n ih =>
    rw [prodTo]
    rcases ih fun i hi => h i (by omega) with e | e <;> rcases h n (by omega) with e2 | e2 <;> rw [e, e2] <;> simp
theorem turnI_pm (l : List Int) (k i : Nat) : turnI l k i = 1 ∨ turnI l k i = -1 := by unfold turnI; split <;> simp
theorem pairs_pm (l : List Int) (n : Nat) : pairs (turnI l) n = 1 ∨ pairs (turnI l) n = -1 := prodTo_pm fun i _ => prodTo_pm fun k _ => turnI_pm l k i

set_option maxHeartbeats 2000000 in
theorem R_Sign_any {a : Option Addr} {len cap : Nat} {l : List Int} {w : World} (h : RdI w a len cap l) :
    Calls Tryd.prog 41 #[.slice a len cap] w fun e w' => e = .returned (.int .i64 (if (∀ i : Nat, i < len → hasB i l = true) then pairs (turnI l) len else 0)) ∧ ∃ m, w' = w.drewN m := by
  have hm := h.len_max
  obtain ⟨R, hR⟩ : ∃ R, (if (∀ i : Nat, i < len → hasB i l = true) then pairs (turnI l) len else 0) = R := ⟨_, rfl⟩
  rw [hR]
  have HR := Lib.hid hR
  clear hR
  go_enter Tryd.func41, Tryd.ntmps41
  go_wp2
  go_loopw [3, 4] (fun o i wr => ∃ (k q : Nat) (S : Int), k ≤ len ∧ i = .int .i64 k ∧ o = .int .i64 S ∧ Hid (pairs (turnI l) k = S) ∧ Hid (∀ j : Nat, j < k → hasB j l = true) ∧ Hid (wr = w.drewN q)) (fun _ i _ => len - (intOf i).toNat)
  case atStart => exact ⟨0, 0, 1, Nat.zero_le _, rfl, rfl, rfl, fun p hp => absurd hp (Nat.not_lt_zero _), (World.drewN_zero _).symm⟩
  case round =>
    obtain ⟨k, q, S, hk, rfl, rfl, HS, hno, HQ⟩ := hrel
    have h' : RdI wr a len cap l := by rw [HQ.out]; exact h.drewN q
    by_cases hlt : k < len
    · rcases hb : hasB k l
      · have HB := Lib.hid hb
        clear hb
        go_wp2_with (go_at_call 76; refine (R_Has_any _ h').mono ?_; rintro e w' ⟨rfl, rfl⟩; rw [HB.out])
        go_ret
        refine ⟨?_, q, HQ.out⟩
        rw [← HR.out, if_neg fun e => by have := e k hlt; rw [HB.out] at this; cases this]
        rfl
      · have HB := Lib.hid hb
        clear hb
        have hS1 : S = 1 ∨ S = -1 := HS.out ▸ pairs_pm l k
        go_wp2_with (go_at_call 76; refine (R_Has_any _ h').mono ?_; rintro e w' ⟨rfl, rfl⟩; rw [HB.out])
        clear h'
        go_loopw [3, 5] (fun o q wt => ∃ (j q2 : Nat) (T : Int), j ≤ k ∧ q = .int .i64 j ∧ o = .int .i64 T ∧ Hid (S * prodTo (fun t => turnI l t k) j = T) ∧ Hid (wt = w.drewN q2)) (fun _ q _ => k - (intOf q).toNat)
        case atStart => exact ⟨0, q, S, Nat.zero_le _, rfl, rfl, by unfold Hid; rw [prodTo, Int.mul_one], HQ⟩
        case round =>
          obtain ⟨j, q2, T, hj, rfl, rfl, HT, HQ2⟩ := hrel
          have hT1 : S * prodTo (fun t => turnI l t k) j = 1 ∨ S * prodTo (fun t => turnI l t k) j = -1 := by
            rcases prodTo_pm (g := fun t => turnI l t k) (n := j) fun t _ => turnI_pm l t k with e | e <;> rcases hS1 with e2 | e2 <;> rw [e, e2] <;> simp
          rw [HT.out] at hT1
          have h' : RdI wr a len cap l := by rw [HQ2.out]; exact h.drewN q2
          by_cases hjk : j < k
          · obtain ⟨b, off, rfl, _, hc⟩ := h'.at hlt
            have c1 := hc j (by omega)
            have c2 := hc k hlt
            have u1 : (j : Int) < (len : Int) := by omega
            have u2 : (k : Int) < (len : Int) := by omega
            by_cases ho : ix l k < ix l j
            · have Ho := Lib.hid ho
              go_wp2
              go_quiet (fail)
              go_wp2
              go_roundw
              case rel => exact ⟨j + 1, _, _, by omega, by go_num, rfl, by unfold Hid; rw [prodTo, ← Int.mul_assoc, HT.out, turnI, if_pos Ho.out]; rw [Int.mul_neg_one], by unfold Hid; rw [HQ2.out, World.drewN_drewN]⟩
              case measure => simp [intOf]; omega
            · have Ho := Lib.hid ho
              go_wp2
              go_quiet (fail)
              go_wp2
              go_roundw
              case rel => exact ⟨j + 1, _, _, by omega, by go_num, rfl, by unfold Hid; rw [prodTo, ← Int.mul_assoc, HT.out, turnI, if_neg (Int.not_lt.2 Ho.out)]; rw [Int.mul_one], by unfold Hid; rw [HQ2.out, World.drewN_drewN]⟩
              case measure => simp [intOf]; omega
          · obtain rfl : j = k := by omega
            go_wp2
            go_roundw
            case rel => exact ⟨j + 1, q2, _, by omega, by go_num, rfl, by
              unfold Hid
              rw [← HT.out, ← HS.out]
              rfl, fun p hp => by
              rcases Nat.lt_or_ge p j with h1 | h1
              · exact hno.out p h1
              · obtain rfl : p = j := by omega
                exact HB.out, HQ2⟩
            case measure => simp [intOf]; omega
    · obtain rfl : k = len := by omega
      have hp := hno.out
      clear hno
      have HP := Lib.hid hp
      clear hp
      go_wp2
      go_ret
      refine ⟨?_, q, HQ.out⟩
      rw [← HR.out, if_pos HP.out, HS.out]
      rfl
end Go.Proofs.YtkielldinghmbaaDoor
namespace Go.Proofs.YtkielldinghmbaaDoor
open Go.RowKit Go.Rk

/-- What a matrix takes a row to, by the prime. -/
def toV (M : List (List Int)) (l : List Int) (c i : Nat) : Int := sumTo (fun j => en M i j * ix l j) c % 9973
def toN (M : List (List Int)) (l : List Int) (c n : Nat) : List Int := (List.range n).map fun i => toV M l c i
theorem toN_len (M : List (List Int)) (l : List Int) (c n : Nat) : (toN M l c n).length = n := by simp [toN]
theorem toN_ix {M : List (List Int)} {l : List Int} {c n i : Nat} (h : i < n) : ix (toN M l c n) i = toV M l c i := by rw [ix_lt (by rw [toN_len]; exact h)]; simp [toN]
theorem toN_succ (M : List (List Int)) (l : List Int) (c n : Nat) : toN M l c (n + 1) = toN M l c n ++ [toV M l c n] := by simp [toN, List.range_succ]
theorem toV_in (M : List (List Int)) (l : List Int) (c i : Nat) : 0 ≤ toV M l c i ∧ toV M l c i ≤ 9972 := by unfold toV; omega
theorem toV_step (M : List (List Int)) (l : List Int) (c i : Nat) : (toV M l c i + en M i c * ix l c) % 9973 = toV M l (c + 1) i := by
  unfold toV
  rw [sumTo, Int.emod_add_emod]
set_option maxHeartbeats 2000000 in
theorem To_any {a b : Option Addr} {n c ca cb : Nat} {M : List (List Int)} {l : List Int} {w : World} (hM : RdM w a n ca M) (d : Dm n c M) (he : EntR 0 9972 n c M) (hl : RdI w b c cb l) (hi : In 0 9972 l) (hn : n ≤ 1000) :
    Calls Tryd.prog 54 #[.slice a n ca, .slice b c cb] w fun e w' => ∃ a' cap', e = .returned (.slice a' n cap') ∧ OwI w' w.heap.size 3 a' n cap' (toN M l c n) ∧ Below w.heap.size w w' := by
  have HIT := Lib.hid intTy
  have HD := Lib.hid d
  have HE := Lib.hid he
  have HI := Lib.hid hi
  have hm := hl.len_max
  have hle := hl.len_eq
  clear d he hi
  go_enter Tryd.func54, Tryd.ntmps54
  go_wp2
  go_loopw [5, 6] (fun v x wr => ∃ (k : Nat) (q : Option Addr) (cq : Nat), k ≤ n ∧ x = .int .i64 k ∧ v = .slice q k cq ∧ OwI wr w.heap.size 3 q k cq (toN M l c k) ∧ Below w.heap.size w wr) (fun _ x _ => n - (intOf x).toNat)
  case atStart => exact ⟨0, none, 0, Nat.zero_le _, rfl, rfl, OwI.nil _ _ _, Below.refl _ _⟩
  case round =>
    obtain ⟨k, q, cq, hk, rfl, rfl, ho, hb⟩ := hrel
    obtain ⟨wo, hwo⟩ : ∃ wo, wo = wr := ⟨_, rfl⟩
    subst hwo
    by_cases hlt : k < n
    · have hlt' : (k : Int) < (n : Int) := by omega
      go_wp2
      go_loopw [7, 8] (fun s x wr => ∃ (t r : Nat) (S : Int), t ≤ c ∧ x = .int .i64 t ∧ s = .int .i64 S ∧ Hid (S = toV M l t k) ∧ Hid (wr = wo.drewN r)) (fun _ x _ => c - (intOf x).toNat)
      case atStart => exact ⟨0, 0, 0, Nat.zero_le _, rfl, rfl, rfl, (World.drewN_zero _).symm⟩
      case round =>
        obtain ⟨t, r, S, ht, rfl, rfl, HS, HW⟩ := hrel
        have bS : 0 ≤ S ∧ S ≤ 9972 := by rw [HS.out]; exact toV_in _ _ _ _
        have kr : Below wo.heap.size wo wr := by rw [HW.out]; exact below_drewN (Below.refl _ _) r
        have hb' := hb.trans (kr.mono hb.size)
        by_cases htc : t < c
        · obtain ⟨bm, om, rfl, _, hr⟩ := (hM.below hb').at hlt
          obtain ⟨ar, cr, hcr, hrd⟩ := hr k hlt
          rw [HD.out.2 k hlt] at hcr hrd
          obtain ⟨p, o, rfl, _, hx⟩ := hrd.at htc
          replace hx := hx t htc
          obtain ⟨p2, o2, rfl, _, hy⟩ := (hl.below hb').at htc
          replace hy := hy t htc
          have m1 := HE.out k t hlt htc
          have m2 := HI.out t (by rw [hle]; exact htc)
          rw [show ix (rowOf M k) t = en M k t from rfl] at hx
          have HT := Lib.hid (toV_step M l t k)
          generalize hX : en M k t = X at hx m1 HT
          generalize hY : ix l t = Y at hy m2 HT
          have m3 : 0 ≤ X * Y ∧ X * Y ≤ 9972 * 9972 := ⟨Int.mul_nonneg m1.1 m2.1, Int.mul_le_mul m1.2 m2.2 m2.1 (by omega)⟩
          have u1 : IntKind.i64.wrap (X * Y) = X * Y := Go.IntWalk.i64_in _ (by omega)
          have u2 : IntKind.i64.wrap (S + X * Y) = S + X * Y := Go.IntWalk.i64_in _ (by omega)
          have i3 : (t : Int) < (c : Int) := by omega
          clear hr hrd hX hY
          go_wp2
          go_quiet ((go_at_call 47; exact quietW (R_Mod_any _ _ (by omega) (by omega))))
          clear u1 u2
          go_wp2
          go_roundw
          case rel => exact ⟨t + 1, r + nq, _, by omega, by go_num, rfl, by unfold Hid; rw [← HT.out, HS.out], by unfold Hid; rw [HW.out, World.drewN_drewN]⟩
          case measure => simp [intOf]; omega
        · obtain rfl : t = c := by omega
          have hsz := hb'.size
          have ho' := ho.below kr
          go_wp2_with (at_builtin; refine wpList_push_int HIT.out rfl (.tmp 36) (.tmp 38) rfl rfl rfl (ho'.alloc _) (z := S) (by simp) (by decide) (by decide) (by omega) (by simp; omega) ?_; intro a4 cap4 w4 ho4 hg4)
          have hb4 := below_grown (hb'.alloc hsz (.cells #[.int .i64 S] 3)) (ho'.alloc (.cells #[.int .i64 S] 3)) (by simp; omega) hg4
          go_roundw
          case rel => exact ⟨k + 1, a4, cap4, by omega, by go_num, rfl, by rw [toN_succ, ← HS.out]; exact ho4, hb4⟩
          case measure => simp [intOf]; omega
    · obtain rfl : k = n := by omega
      go_wp2
      go_ret
      exact ⟨q, cq, rfl, ho, hb⟩
/-- The first k rows of the matrix that changes nothing. -/
def unitN (n k : Nat) : List (List Int) := (List.range k).map fun i => (List.replicate n 0).set i 1
theorem unitN_succ (n k : Nat) : unitN n (k + 1) = unitN n k ++ [(List.replicate n 0).set k 1] := by simp [unitN, List.range_succ]
theorem unitN_len (n k : Nat) : (unitN n k).length = k := by simp [unitN]
theorem unitN_is (n : Nat) : IsR n n (unitN n n) (fun i j => if i = j then 1 else 0) := by
  have hr : ∀ i, i < n → rowOf (unitN n n) i = (List.replicate n 0).set i 1 := fun i hi => by rw [rowOf_lt (by rw [unitN_len]; exact hi)]; simp [unitN]
  refine ⟨⟨unitN_len n n, fun i hi => by rw [hr i hi]; simp⟩, fun i j hi hj => ?_⟩
  unfold en
  rw [hr i hi, ix_set]
  by_cases e : i = j
  · rw [if_pos ⟨e, by simp; exact hj⟩]
    exact (if_pos e).symm
  · rw [if_neg fun h => e h.1, ix_lt (by simp; exact hj)]
    show _ = if i = j then _ else _
    rw [if_neg e]
    simp
set_option maxHeartbeats 2000000 in
theorem Unit_any (n : Nat) (w : World) (hn : n ≤ 1000) :
    Calls Tryd.prog 27 #[.int .i64 n] w fun e w' => ∃ a' cap', e = .returned (.slice a' n cap') ∧ OwM w' w.heap.size 32 3 a' n cap' (unitN n n) ∧ Below w.heap.size w w' := by
  have HM := Lib.hid matTy
  go_enter Tryd.func27, Tryd.ntmps27
  go_wp2
  go_loopw [3, 4] (fun v x wr => ∃ (k : Nat) (q : Option Addr) (cq : Nat), k ≤ n ∧ x = .int .i64 k ∧ v = .slice q k cq ∧ OwM wr w.heap.size 32 3 q k cq (unitN n k) ∧ Below w.heap.size w wr) (fun _ x _ => n - (intOf x).toNat)
  case atStart => exact ⟨0, none, 0, Nat.zero_le _, rfl, rfl, OwM.nil _ _ _ _, Below.refl _ _⟩
  case round =>
    obtain ⟨k, q, cq, hk, rfl, rfl, ho, hb⟩ := hrel
    by_cases hlt : k < n
    · have hlt' : (k : Int) < (n : Int) := by omega
      have hsz := hb.size
      go_wp2_with (first
        | (at_builtin; refine wpList_push_row HM.out rfl (.tmp 16) (.tmp 18) rfl rfl rfl ho (hb5.alloc hb5.size _) ((ho4.set (k := k) 1).below ((Below.refl _ _).alloc (Nat.le_refl _) _)) (by rw [World.cell?_alloc_at _ _ _ _ (by simp)]; rfl) (by omega) hsz ?_; intro a5 cap5 w5 ho5 hb6)
        | (refine wpList_make_ints HM.out.int rfl (.tmp 11) (.tmp 11) rfl rfl rfl (by omega) ?_; intro w4 ho4 hb4; obtain ⟨g4, hz, hg41, hg42, hc4, hf4⟩ := ho4.at (by omega); cases hz; have y3 := hc4 k hlt; have y4 := hf4 k; have hb5 := hb4.setCell (p := ⟨wr.heap.size, k, none⟩) (Nat.le_refl _) (.int .i64 1); clear hc4 hf4))
      have hb7 := ((hb.trans (hb5.mono hsz)).alloc (by have := hb5.size; omega) _).trans hb6
      go_roundw
      case rel => exact ⟨k + 1, a5, cap5, by omega, by go_num, rfl, by rw [unitN_succ]; exact ho5, hb7⟩
      case measure => simp [intOf]; omega
    · obtain rfl : k = n := by omega
      go_wp2
      go_ret
      exact ⟨q, cq, rfl, ho, hb⟩
theorem powm_half (a : Int) (n : Nat) (h : Int) (hh : h = powm (a * a % 9973) (n / 2)) : (n % 2 = 1 → h * a % 9973 = powm a n) ∧ (n % 2 = 0 → h = powm a n) := by
  have e : h = a ^ (2 * (n / 2)) % 9973 := by
    rw [hh]
    unfold powm
    rw [pow_emod, sq_pow]
  refine ⟨fun h1 => ?_, fun h1 => ?_⟩
  · rw [e, Int.mul_emod, Int.emod_emod_of_dvd _ (Int.dvd_refl _), ← Int.mul_emod, ← Int.pow_succ, show (2 * (n / 2)).succ = n by omega]
    rfl
  · rw [e, show 2 * (n / 2) = n by omega]
    rfl
theorem R_Pow_any : ∀ (m n : Nat) (a : Int) (w : World) (_ : n ≤ m) (_ : n ≤ 1000000) (_ : 0 ≤ a ∧ a ≤ 9972),
    Calls Tryd.prog 72 #[.int .i64 a, .int .i64 n] w fun e w' => e = .returned (.int .i64 (powm a n)) ∧ w = w' := by
  intro m
  induction m with
  | zero =>
    intro n a w hn _ ha
    obtain rfl : n = 0 := by omega
    go_enter Tryd.func72, Tryd.ntmps72
    go_wp2
    go_ret
    exact ⟨by show _ = Ending.returned (.int .i64 (a ^ 0 % 9973)); rw [Int.pow_zero]; rfl, rfl⟩
  | succ m ih =>
    intro n a w hn hn2 ha
    by_cases h0 : n = 0
    · subst h0
      go_enter Tryd.func72, Tryd.ntmps72
      go_wp2
      go_ret
      exact ⟨by show _ = Ending.returned (.int .i64 (a ^ 0 % 9973)); rw [Int.pow_zero]; rfl, rfl⟩
    · have C := Lib.hid (ih (n / 2) (a * a % 9973) w (by omega) (by omega) (by omega))
      have H := powm_half a n _ rfl
      obtain ⟨h, hh⟩ : ∃ h, powm (a * a % 9973) (n / 2) = h := ⟨_, rfl⟩
      have bh : 0 ≤ h ∧ h ≤ 9972 := by rw [← hh]; unfold powm; omega
      rw [hh] at C H
      clear hh ih
      have b1 : 0 ≤ a * a ∧ a * a ≤ 9972 * 9972 := ⟨Int.mul_nonneg ha.1 ha.1, Int.mul_le_mul ha.2 ha.2 ha.1 (by omega)⟩
      have b2 : 0 ≤ h * a ∧ h * a ≤ 9972 * 9972 := ⟨Int.mul_nonneg bh.1 ha.1, Int.mul_le_mul bh.2 ha.2 ha.1 (by omega)⟩
      have u1 : IntKind.i64.wrap (a * a) = a * a := Go.IntWalk.i64_in _ (by omega)
      have u2 : IntKind.i64.wrap (h * a) = h * a := Go.IntWalk.i64_in _ (by omega)
      have u3 : (a * a).tmod 9973 = a * a % 9973 := Int.tmod_eq_emod_of_nonneg b1.1
      have u4 : (h * a).tmod 9973 = h * a % 9973 := Int.tmod_eq_emod_of_nonneg b2.1
      have u5 : (n : Int).tdiv 2 = ((n / 2 : Nat) : Int) := by rw [Int.tdiv_eq_ediv_of_nonneg (by omega)]; omega
      have z0 : ((n : Int) == 0) = false := beq_eq_false_iff_ne.2 (by omega)
      by_cases hp : n % 2 = 1
      · have u6 : (n : Int).tmod 2 = 1 := by rw [Int.tmod_eq_emod_of_nonneg (by omega)]; omega
        have HR := Lib.hid (H.1 hp)
        clear H hp
        go_enter Tryd.func72, Tryd.ntmps72
        go_wp2_with (go_at_call 72; refine C.out.mono ?_; rintro e w' ⟨rfl, rfl⟩)
        go_ret
        exact ⟨by rw [← HR.out]; rfl, rfl⟩
      · have u6 : (n : Int).tmod 2 = 0 := by rw [Int.tmod_eq_emod_of_nonneg (by omega)]; omega
        have HR := Lib.hid (H.2 (by omega))
        clear H hp
        go_enter Tryd.func72, Tryd.ntmps72
        go_wp2_with (go_at_call 72; refine C.out.mono ?_; rintro e w' ⟨rfl, rfl⟩)
        go_ret
        exact ⟨by rw [← HR.out]; rfl, rfl⟩
end Go.Proofs.YtkielldinghmbaaDoor
namespace Go.Proofs.YtkielldinghmbaaDoor
open Go.RowKit Go.Rk

def natsOf (l : List Int) : Nat → Nat := fun j => (ix l j).toNat

theorem pairs_congr {F G : Nat → Nat → Int} {n : Nat} (h : ∀ k i, k < i → i < n → F k i = G k i) : pairs F n = pairs G n :=
  prodTo_congr fun i hi => prodTo_congr fun k hk => h k i hk hi

theorem signC_ord {l : List Int} {n : Nat} (e : l.length = n) (h : okN l n n = true) : signC l = det n (pm (natsOf l)) := by
  unfold signC
  rw [e, if_pos h]
  exact cycN_det (okN_ord h).1

theorem pairs_turn {l : List Int} {n : Nat} (h : okN l n n = true) : pairs (turnI l) n = det n (pm (natsOf l)) := by
  have h1 := okN_ord h
  rw [show natsOf l = fun j => (ix l j).toNat from rfl, det_pairs h1.1]
  refine pairs_congr fun k i hk hi => ?_
  have a := h1.2 k (by omega)
  have b := h1.2 i hi
  unfold turnI turnF
  dsimp only
  by_cases c : ix l i < ix l k
  · rw [if_pos c, if_pos (by omega)]
  · rw [if_neg c, if_neg (by omega)]

theorem okN_has {l : List Int} {n : Nat} (e : l.length = n) : okN l n n = true ↔ ∀ i : Nat, i < n → hasB i l = true := by
  constructor
  · intro h i hi
    have h1 := okN_ord h
    obtain ⟨p, hp, hpi⟩ := Ord.onto h1.1 i hi
    have := h1.2 p hp
    exact hasB_iff.2 ⟨p, by omega, by omega⟩
  · intro h
    have h1 := has_ord (l := l) (n := n) fun i hi => by
      obtain ⟨p, hp, e2⟩ := hasB_iff.1 (h i hi)
      exact ⟨p, by omega, e2⟩
    exact ord_okN h1.1 h1.2 n (Nat.le_refl _)

theorem sign_is {l : List Int} {n : Nat} (e : l.length = n) : (if (∀ i : Nat, i < n → hasB i l = true) then pairs (turnI l) n else 0) = signC l := by
  by_cases h : okN l n n = true
  · rw [if_pos ((okN_has e).1 h), pairs_turn h, signC_ord e h]
  · rw [if_neg fun h2 => h ((okN_has e).2 h2)]
    unfold signC
    rw [e, if_neg h]

theorem signC_pm (l : List Int) : signC l = 0 ∨ signC l = 1 ∨ signC l = -1 := by
  unfold signC
  split
  · exact .inr (cycN_len l _ _).2
  · exact .inl rfl
theorem signC_ok {l : List Int} {n : Nat} (e : l.length = n) (h : signC l ≠ 0) : okN l n n = true := by
  unfold signC at h
  rw [e] at h
  by_cases h2 : okN l n n = true
  · exact h2
  · rw [if_neg h2] at h; exact absurd rfl h

theorem natsOf_swap {l : List Int} {i j : Nat} (hi : i < l.length) (hj : j < l.length) : natsOf ((l.set i (ix l j)).set j (ix l i)) = swapN (natsOf l) i j := by
  funext r
  unfold natsOf swapN
  rw [ix_set, ix_set, List.length_set]
  by_cases h1 : r = j
  · subst h1
    rw [if_pos ⟨rfl, hj⟩, if_pos rfl]
  · rw [if_neg fun h => h1 h.1.symm, if_neg h1]
    by_cases h2 : r = i
    · subst h2
      rw [if_pos ⟨rfl, hi⟩, if_pos rfl]
    · rw [if_neg fun h => h2 h.1.symm, if_neg h2]

/-- Two that change places turn the sign. -/
theorem signC_swap {l : List Int} {i j : Nat} (h0 : signC l ≠ 0) (hi : i < l.length) (hj : j < l.length) (hij : i ≠ j) : signC ((l.set i (ix l j)).set j (ix l i)) = -signC l := by
  have h := signC_ok rfl h0
  have h1 := okN_ord h
  have e : ((l.set i (ix l j)).set j (ix l i)).length = l.length := by simp
  have hO : Ord l.length (natsOf ((l.set i (ix l j)).set j (ix l i))) := by
    rw [natsOf_swap hi hj]
    exact Ord.swap h1.1 hi hj
  have h2 : okN ((l.set i (ix l j)).set j (ix l i)) l.length l.length = true := by
    refine ord_okN hO (fun r hr => ?_) _ (Nat.le_refl _)
    rw [ix_set, ix_set]
    split
    · exact h1.2 i hi
    · split
      · exact h1.2 j hj
      · exact h1.2 r hr
  rw [signC_ord e h2, signC_ord rfl h, natsOf_swap hi hj, det_pm_swap _ hij hi hj]

/-- The matrix of an order. -/
def matO (l : List Int) (n : Nat) : List (List Int) := (List.range n).map fun r => (List.replicate n 0).set (natsOf l r) 1
end Go.Proofs.YtkielldinghmbaaDoor
namespace Go.Proofs.YtkielldinghmbaaDoor
open Go.RowKit Go.Rk

theorem getD_lt {l : List Nat} {t : Nat} (h : t < l.length) : l.getD t 0 = l[t] := by simp [List.getD, h]
/-- The columns below q that no step has. -/
def freeN (ps : List Int) (q : Nat) : List Nat := (List.range q).filter fun (j : Nat) => !hasB (j : Int) ps
theorem freeN_succ (ps : List Int) (q : Nat) : freeN ps (q + 1) = if hasB (q : Int) ps = true then freeN ps q else freeN ps q ++ [q] := by
  unfold freeN
  rw [List.range_succ, List.filter_append]
  split
  · next h => simp [h]
  · next h => simp [h]
/-- Free column t. -/
def freeAt (ps : List Int) (q t : Nat) : Nat := (freeN ps q).getD t 0
theorem freeAt_mem {ps : List Int} {q t : Nat} (h : t < (freeN ps q).length) : freeAt ps q t < q ∧ hasB (freeAt ps q t : Int) ps = false := by
  have : freeAt ps q t ∈ freeN ps q := by
    unfold freeAt
    rw [getD_lt h]
    exact List.getElem_mem h
  unfold freeN at this
  rw [List.mem_filter] at this
  exact ⟨List.mem_range.1 this.1, by simpa using this.2⟩
theorem freeAt_inj {ps : List Int} {q t s : Nat} (h : t < (freeN ps q).length) (k : s < (freeN ps q).length) (e : freeAt ps q t = freeAt ps q s) : t = s := by
  unfold freeAt at e
  rw [getD_lt h, getD_lt k] at e
  have hn : (freeN ps q).Nodup := List.Pairwise.filter _ List.nodup_range
  have hp := List.pairwise_iff_getElem.1 hn
  rcases Nat.lt_trichotomy t s with h1 | h1 | h1
  · exact absurd e (hp t s h k h1)
  · exact h1
  · exact absurd e.symm (hp s t k h h1)
theorem freeAt_onto {ps : List Int} {q j : Nat} (hj : j < q) (h : hasB (j : Int) ps = false) : ∃ t, t < (freeN ps q).length ∧ freeAt ps q t = j := by
  have : j ∈ freeN ps q := by
    unfold freeN
    rw [List.mem_filter]
    exact ⟨List.mem_range.2 hj, by simp [h]⟩
  obtain ⟨t, ht, e⟩ := List.getElem_of_mem this
  exact ⟨t, ht, by unfold freeAt; rw [getD_lt ht]; exact e⟩

/-- A row of the free column f. -/
structure NRow (c : Nat) (P : List (List Int)) (ps : List Int) (f : Nat) (x : List Int) : Prop where
  len : x.length = c
  one : ix x f = 1
  piv : ∀ i, i < ps.length → ix x (natsOf ps i) = -en P i f % 9973
  zer : ∀ j, j < c → j ≠ f → hasB (j : Int) ps = false → ix x j = 0

/-- A row for each free column below q. -/
structure Nul (c q : Nat) (P : List (List Int)) (ps : List Int) (L : List (List Int)) : Prop where
  len : L.length = (freeN ps q).length
  row : ∀ t, t < L.length → NRow c P ps (freeAt ps q t) (rowOf L t)

section
variable {n c q f : Nat} {A : Mx} {P L : List (List Int)} {ps x : List Int}
theorem hasB_pos (hp : ∀ i, i < ps.length → 0 ≤ ix ps i) {j : Nat} : hasB (j : Int) ps = true ↔ ∃ i, i < ps.length ∧ natsOf ps i = j := by
  rw [hasB_iff]
  constructor
  · rintro ⟨i, hi, e⟩
    exact ⟨i, hi, by unfold natsOf; omega⟩
  · rintro ⟨i, hi, e⟩
    have := hp i hi
    exact ⟨i, hi, by unfold natsOf at e; omega⟩

theorem Nul.start (c : Nat) (P : List (List Int)) (ps : List Int) : Nul c 0 P ps [] := ⟨rfl, fun _ h => absurd h (Nat.not_lt_zero _)⟩
theorem Nul.pass (h : Nul c q P ps L) (hq : hasB (q : Int) ps = true) : Nul c (q + 1) P ps L := by
  have e : freeN ps (q + 1) = freeN ps q := by rw [freeN_succ, if_pos hq]
  exact ⟨by rw [e]; exact h.len, fun t ht => by unfold freeAt; rw [e]; exact h.row t ht⟩
theorem Nul.push (h : Nul c q P ps L) (hq : hasB (q : Int) ps = false) (hx : NRow c P ps q x) : Nul c (q + 1) P ps (L ++ [x]) := by
  have e : freeN ps (q + 1) = freeN ps q ++ [q] := by rw [freeN_succ, if_neg (by rw [hq]; simp)]
  refine ⟨by rw [e, List.length_append, List.length_append, h.len]; rfl, fun t ht => ?_⟩
  unfold freeAt
  rw [e]
  rw [List.length_append] at ht
  simp at ht
  rcases Nat.lt_or_ge t L.length with h1 | h1
  · rw [rowOf_append_left h1]
    have h2 : t < (freeN ps q).length := by rw [← h.len]; exact h1
    have := h.row t h1
    unfold freeAt at this
    rw [getD_lt h2] at this
    rw [getD_lt (by rw [List.length_append]; omega), List.getElem_append_left h2]
    exact this
  · obtain rfl : t = L.length := by omega
    rw [rowOf_append_right (Nat.le_refl _), Nat.sub_self]
    have h2 : L.length = (freeN ps q).length := h.len
    rw [getD_lt (by rw [List.length_append]; simp [h2]), List.getElem_append_right (by omega)]
    simp only [h2, Nat.sub_self, List.getElem_cons_zero]
    exact hx

/-- As many as columns: steps and free columns. -/
theorem free_count {R : Mx} (h : Stairs n c ps.length R (natsOf ps)) (hp : ∀ i, i < ps.length → 0 ≤ ix ps i) : (freeN ps c).length + ps.length = c := by
  have key : ∀ q, q ≤ c → ∃ m, m ≤ ps.length ∧ (∀ i, i < m → natsOf ps i < q) ∧ (∀ i, m ≤ i → i < ps.length → q ≤ natsOf ps i) ∧ (freeN ps q).length + m = q := by
    intro q
    induction q with
    | zero => intro _; exact ⟨0, Nat.zero_le _, fun i hi => absurd hi (Nat.not_lt_zero _), fun i _ _ => Nat.zero_le _, rfl⟩
    | succ q ih =>
      intro hq
      obtain ⟨m, h1, h2, h3, h4⟩ := ih (by omega)
      rw [freeN_succ]
      by_cases hb : hasB (q : Int) ps = true
      · obtain ⟨i, hi, e⟩ := (hasB_pos hp).1 hb
        have him : i = m := by
          rcases Nat.lt_trichotomy i m with hlt | rfl | hgt
          · have := h2 i hlt; omega
          · rfl
          · have := h.inc m i hgt hi
            have := h3 m (Nat.le_refl _) (by omega)
            omega
        subst him
        rw [if_pos hb]
        refine ⟨i + 1, hi, fun k hk => ?_, fun k hk hk2 => ?_, by omega⟩
        · rcases Nat.lt_or_ge k i with h5 | h5
          · have := h2 k h5; omega
          · obtain rfl : k = i := by omega
            omega
        · have := h.inc i k (by omega) hk2
          omega
      · rw [if_neg hb]
        refine ⟨m, h1, fun k hk => by have := h2 k hk; omega, fun k hk hk2 => ?_, by simp; omega⟩
        have h5 := h3 k hk hk2
        rcases Nat.lt_or_ge q (natsOf ps k) with h6 | h6
        · omega
        · exact absurd ((hasB_pos hp).2 ⟨k, hk2, by omega⟩) hb
  obtain ⟨m, h1, h2, h3, h4⟩ := key c (Nat.le_refl _)
  have : m = ps.length := by
    rcases Nat.lt_or_ge m ps.length with h5 | h5
    · have := h3 m (Nat.le_refl _) h5
      have := h.lt m h5
      omega
    · omega
  omega

theorem NRow.range (h : NRow c P ps f x) (hp : ∀ i, i < ps.length → 0 ≤ ix ps i) : In 0 9972 x := by
  intro j hj
  rw [h.len] at hj
  by_cases e : j = f
  · rw [e, h.one]; omega
  · cases hb : hasB (j : Int) ps
    · rw [h.zer j hj e hb]; omega
    · obtain ⟨i, hi, e2⟩ := (hasB_pos hp).1 hb
      rw [← e2, h.piv i hi]
      omega

/-- Such a row, as a sum. -/
theorem NRow.sum {R : Mx} (h : NRow c P ps f x) (st : Stairs n c ps.length R (natsOf ps)) (hp : ∀ i, i < ps.length → 0 ≤ ix ps i) (hf : hasB (f : Int) ps = false) {j : Nat} (hj : j < c) :
    Eqm (ix x j) ((if f = j then 1 else 0) - sumTo (fun k => (if natsOf ps k = j then 1 else 0) * en P k f) ps.length) := by
  cases hb : hasB (j : Int) ps
  · have e0 : sumTo (fun k => (if natsOf ps k = j then 1 else 0) * en P k f) ps.length = 0 := by
      rw [sumTo_congr (h := fun _ => 0) fun k hk => by rw [if_neg (fun e => by rw [(hasB_pos hp).2 ⟨k, hk, e⟩] at hb; cases hb), Int.zero_mul]]
      exact sumTo_zero _
    rw [e0, Int.sub_zero]
    by_cases e : f = j
    · rw [if_pos e, ← e, h.one]; exact Eqm.refl _
    · rw [if_neg e, h.zer j hj (fun x => e x.symm) hb]; exact Eqm.refl _
  · obtain ⟨i, hi, e⟩ := (hasB_pos hp).1 hb
    have hfj : f ≠ j := fun e2 => by rw [e2, hb] at hf; cases hf
    rw [if_neg hfj, ← e, h.piv i hi]
    have e1 : sumTo (fun k => (if natsOf ps k = natsOf ps i then 1 else 0) * en P k f) ps.length = en P i f := by
      rw [sumTo_congr (h := fun k => (if i = k then 1 else 0) * en P k f) fun k hk => ?_]
      · exact sumTo_pick (fun k => en P k f) hi
      · by_cases e3 : i = k
        · rw [if_pos (by rw [e3]), if_pos e3]
        · rw [if_neg fun e4 => ?_, if_neg e3]
          rcases Nat.lt_trichotomy i k with h1 | h1 | h1
          · have := st.inc i k h1 hk; omega
          · exact e3 h1
          · have := st.inc k i h1 hi; omega
    rw [e1, Int.zero_sub]
    exact Eqm.mod _

/-- It is taken to noughts by the steps. -/
theorem NRow.nought {R : Mx} (h : NRow c P ps f x) (st : Stairs n c ps.length R (natsOf ps)) (hR : R = mx P) (hp : ∀ i, i < ps.length → 0 ≤ ix ps i) (hf : hasB (f : Int) ps = false) (hfc : f < c) {i : Nat} (hi : i < n) : Eqm (sumTo (fun j => mx P i j * ix x j) c) 0 := by
  subst hR
  have e1 : Eqm (sumTo (fun j => mx P i j * ix x j) c) (sumTo (fun j => (if f = j then 1 else 0) * mx P i j + sumTo (fun k => -((if natsOf ps k = j then 1 else 0) * (mx P i j * en P k f))) ps.length) c) := sumTo_eqm fun j hj => by
    refine (Eqm.mul (Eqm.refl _) (h.sum st hp hf hj)).trans (Eqm.of_eq ?_)
    rw [Int.mul_sub, ← sumTo_mul, show sumTo (fun k => -((if natsOf ps k = j then 1 else 0) * (mx P i j * en P k f))) ps.length = sumTo (fun k => (-1) * (mx P i j * ((if natsOf ps k = j then 1 else 0) * en P k f))) ps.length from sumTo_congr fun k _ => by grind, sumTo_mul (-1)]
    grind
  refine e1.trans ?_
  rw [sumTo_add, sumTo_pick (fun j => mx P i j) hfc, sumTo_swap]
  have e2 : ∀ k, k < ps.length → sumTo (fun j => -((if natsOf ps k = j then 1 else 0) * (mx P i j * en P k f))) c = -(mx P i (natsOf ps k) * en P k f) := fun k hk => by
    rw [show (fun j => -((if natsOf ps k = j then 1 else 0) * (mx P i j * en P k f))) = fun j => (-1) * ((if natsOf ps k = j then 1 else 0) * (mx P i j * en P k f)) from funext fun j => by grind, sumTo_mul, sumTo_pick (fun j => mx P i j * en P k f) (st.lt k hk)]
    omega
  rw [sumTo_congr e2]
  have e3 : Eqm (sumTo (fun k => -(mx P i (natsOf ps k) * en P k f)) ps.length) (sumTo (fun k => (if i = k then 1 else 0) * -en P k f) ps.length) := sumTo_eqm fun k hk => by
    refine (Eqm.neg (Eqm.mul (st.one i k hi hk) (Eqm.refl (en P k f)))).trans (Eqm.of_eq ?_)
    grind
  refine (Eqm.add (Eqm.refl _) e3).trans ?_
  rcases Nat.lt_or_ge i ps.length with h1 | h1
  · rw [sumTo_pick (fun k => -en P k f) h1]
    exact Eqm.of_eq (by show en P i f + _ = 0; omega)
  · rw [sumTo_congr (h := fun _ => 0) fun k hk => by rw [if_neg (by omega), Int.zero_mul], sumTo_zero, Int.add_zero]
    exact st.low i f h1 hi hfc
end
end Go.Proofs.YtkielldinghmbaaDoor
namespace Go.Rk
open Go.RowKit

/-- A row of a matrix, read at once. -/
theorem RdM.rowIn {w : World} {a : Option Addr} {n c cap : Nat} {M : List (List Int)} (h : RdM w a n cap M) (d : Dm n c M) {k : Nat} (hk : k < n) :
    ∃ b off, a = some ⟨b, off, none⟩ ∧ ∃ ar cr, w.cell? ⟨b, off + k, none⟩ = some (.slice ar c cr) ∧ RdI w ar c cr (rowOf M k) := by
  obtain ⟨b, off, rfl, _, hr⟩ := h.at hk
  obtain ⟨ar, cr, hc, hrd⟩ := hr k hk
  rw [d.2 k hk] at hc hrd
  exact ⟨b, off, rfl, ar, cr, hc, hrd⟩

end Go.Rk
namespace Go.Proofs.YtkielldinghmbaaDoor
open Go.RowKit Go.Rk

/-- Index: below 0 if nothing is as v. -/
theorem Index_any {a : Option Addr} {len cap : Nat} {l : List Int} (n : Int) {w : World} (h : RdI w a len cap l) :
    Calls Tryd.prog 91 #[.slice a len cap, .int .i64 n] w fun e w' => (∃ z : Int, e = .returned (.int .i64 z) ∧ decide (0 ≤ z) = hasB n l) ∧ w = w' := by
  have hm := h.len_max
  have HL := Lib.hid h.len_eq
  go_enter Tryd.func91, Tryd.ntmps91
  go_wp2
  go_loop [8] (fun v => ∃ k : Nat, k ≤ len ∧ v = .int .i64 k ∧ Hid (∀ p, p < k → ix l p ≠ n)) (fun v => len - (intOf v).toNat)
  case atStart => exact ⟨0, Nat.zero_le _, rfl, fun p hp => absurd hp (Nat.not_lt_zero _)⟩
  case round =>
    obtain ⟨k, hk, rfl, hno⟩ := hrel
    by_cases hlt : k < len
    · obtain ⟨b, off, rfl, _, hc⟩ := h.at hlt
      have hc := hc k hlt
      have hlt' : (k : Int) < (len : Int) := by omega
      by_cases he : ix l k = n
      · subst he
        have z : (ix l k == ix l k) = true := beq_iff_eq.2 rfl
        go_wp2
        go_ret
        refine ⟨⟨_, rfl, ?_⟩, rfl⟩
        rw [decide_eq_true (by omega)]
        exact (hasB_iff.2 ⟨k, by rw [HL.out]; exact hlt, rfl⟩).symm
      · have z : (n == ix l k) = false := beq_eq_false_iff_ne.2 fun e => he e.symm
        have HE := Lib.hid he
        clear he
        go_wp2
        go_round
        case rel => exact ⟨k + 1, by omega, by go_num, fun p hp => by
          rcases Nat.lt_or_ge p k with h1 | h1
          · exact hno.out p h1
          · obtain rfl : p = k := by omega
            exact HE.out⟩
        case measure => simp [intOf]; omega
    · obtain rfl : k = len := by omega
      go_wp2
      go_ret
      refine ⟨⟨_, rfl, ?_⟩, rfl⟩
      cases e : hasB n l
      · decide
      · exfalso
        obtain ⟨p, hp, e⟩ := hasB_iff.1 e
        exact hno.out p (by rw [HL.out] at hp; exact hp) e
theorem Contains_any {a : Option Addr} {len cap : Nat} {l : List Int} (n : Int) {w : World} (h : RdI w a len cap l) :
    Calls Tryd.prog 79 #[.slice a len cap, .int .i64 n] w fun e w' => e = .returned (.bool (hasB n l)) ∧ w = w' := by
  have C := Lib.hid (Index_any n h)
  generalize hasB n l = B at C ⊢
  go_enter Tryd.func79, Tryd.ntmps79
  go_wp2_with (go_at_call 91; fail)
  (with_reducible refine C.out.mono ?_)
  rintro e w' ⟨⟨z, rfl, hz⟩, rfl⟩
  clear C
  by_cases h0 : 0 ≤ z
  · rw [decide_eq_true h0] at hz
    subst hz
    go_wp2
    go_ret
    exact ⟨rfl, rfl⟩
  · rw [decide_eq_false h0] at hz
    subst hz
    go_wp2
    go_ret
    exact ⟨congrArg (fun b => Ending.returned (.bool b)) (decide_eq_false (by omega)), rfl⟩
end Go.Proofs.YtkielldinghmbaaDoor
namespace Go.Proofs.YtkielldinghmbaaDoor
open Go.RowKit Go.Rk

theorem Null_err {a : Option Addr} {n ca : Nat} {M : List (List Int)} {w : World} {x : Int} (hM : RdM w a n ca M) (hq : groundsR 5 0 9972 M = some x) :
    Calls Tryd.prog 49 #[.slice a n ca] w fun e w' => e = .returned (.tuple #[.slice none 0 0, .iface 70 (.int .i64 x)]) ∧ w = w' := by
  have C := Lib.hid (Steps_err hM hq)
  clear hq
  go_enter Tryd.func49, Tryd.ntmps49
  go_wp2_with (go_at_call 31; (with_reducible refine C.out.mono ?_); rintro e w' ⟨rfl, rfl⟩)
  go_ret2
  exact ⟨rfl, rfl⟩

/-- A row of a free column, of its first i steps. -/
structure NPart (c : Nat) (P : List (List Int)) (ps : List Int) (f i : Nat) (x : List Int) : Prop where
  len : x.length = c
  one : ix x f = 1
  piv : ∀ k, k < i → ix x (natsOf ps k) = -en P k f % 9973
  zer : ∀ j, j < c → j ≠ f → hasB (j : Int) ps = false → ix x j = 0

theorem NPart.start {c f : Nat} (P : List (List Int)) (ps : List Int) (hf : f < c) : NPart c P ps f 0 ((List.replicate c 0).set f 1) := by
  refine ⟨by simp, by rw [ix_set, if_pos ⟨rfl, by simp; exact hf⟩], fun _ h => absurd h (Nat.not_lt_zero _), fun j hj hne _ => ?_⟩
  rw [ix_set, if_neg fun e => hne e.1.symm, ix_lt (by simp; exact hj)]
  simp
theorem NPart.step {n c f i : Nat} {P : List (List Int)} {ps x : List Int} {R : Mx} (h : NPart c P ps f i x) (st : Stairs n c ps.length R (natsOf ps)) (hp : ∀ i, i < ps.length → 0 ≤ ix ps i) (hf : hasB (f : Int) ps = false) (hi : i < ps.length) : NPart c P ps f (i + 1) (x.set (natsOf ps i) (-en P i f % 9973)) := by
  have hl := st.lt i hi
  have hb : hasB (natsOf ps i : Int) ps = true := (hasB_pos hp).2 ⟨i, hi, rfl⟩
  refine ⟨by rw [List.length_set]; exact h.len, ?_, fun k hk => ?_, fun j hj hne hz => ?_⟩
  · rw [ix_set, if_neg fun e => by rw [e.1, hf] at hb; cases hb]
    exact h.one
  · rw [ix_set]
    rcases Nat.lt_or_ge k i with h1 | h1
    · rw [if_neg fun e => by have := st.inc k i h1 hi; omega]
      exact h.piv k h1
    · obtain rfl : k = i := by omega
      rw [if_pos ⟨rfl, by rw [h.len]; exact hl⟩]
  · rw [ix_set, if_neg fun e => by rw [e.1, hz] at hb; cases hb]
    exact h.zer j hj hne hz

set_option maxHeartbeats 4000000 in
set_option maxRecDepth 100000 in
theorem Null_ok {a : Option Addr} {n c ca : Nat} {M : List (List Int)} {w : World} (hM : RdM w a n ca M) (G : Good n c M) :
    Calls Tryd.prog 49 #[.slice a n ca] w fun e w' => ∃ al cl L P ps, e = .returned (.tuple #[.slice al L.length cl, .nilIface]) ∧ OwM w' w.heap.size 32 3 al L.length cl L ∧ GInv n c (mx M) c P ps ∧ Nul c c P ps L ∧ Below w.heap.size w w' := by
  have HM := Lib.hid matTy
  have n1 := G.n1
  have c1 := G.c1
  have HG := Lib.hid G
  have C := Lib.hid (Steps_ok hM G)
  clear G
  go_enter Tryd.func49, Tryd.ntmps49
  go_wp2_with (go_at_call 31; fail)
  (with_reducible refine C.out.mono ?_)
  clear C
  rintro e w2 ⟨ao, co, ap, cp, P, ps, rfl, ho, hp, hi, hb2⟩
  have HI := Lib.hid hi
  have hP := ho.rd
  have hps := hp.rd
  clear ho hp hi
  have hMw := hM.below hb2
  obtain ⟨bm, om, rfl, am, cm, hm0, _⟩ := hMw.rowIn HG.out.dm (k := 0) (by omega)
  rw [Nat.add_zero] at hm0
  have b1 : (0 : Int) < (n : Int) := by omega
  have b2 : (1 : Int) ≤ (n : Int) := by omega
  have hpl : ps.length ≤ 5 := by have := HI.out.st.le; omega
  have hMh := Lib.hid hm0
  go_wp2
  clear hm0
  go_loopw [7, 25] (fun v x wr => ∃ (q : Nat) (al : Option Addr) (cl : Nat) (L : List (List Int)), q ≤ c ∧ x = .int .i64 q ∧ v = .slice al L.length cl ∧ OwM wr w2.heap.size 32 3 al L.length cl L ∧ Hid (Nul c q P ps L) ∧ Below w2.heap.size w2 wr) (fun _ x _ => c - (intOf x).toNat)
  case atStart => exact ⟨0, none, 0, [], Nat.zero_le _, rfl, rfl, OwM.nil _ _ _ _, Nul.start _ _ _, Below.refl _ _⟩
  case round =>
    obtain ⟨q, al, cl, L, hq, rfl, rfl, ho, hN, hb⟩ := hrel
    obtain ⟨wo, hwo⟩ : ∃ wo, wo = wr := ⟨_, rfl⟩
    subst hwo
    by_cases hqc : q < c
    · have hps := hps.below hb
      have hm0 := hb.keep (World.block_lt_of_cell? _ _ hMh.out) hMh.out
      have hLl : L.length ≤ q := by
        rw [hN.out.len]
        have := List.length_filter_le (fun (j : Nat) => !hasB (j : Int) ps) (List.range q)
        simp at this
        exact this
      have C := Lib.hid (Contains_any (q : Int) hps)
      have hsz := hb.size
      cases hbq : hasB (q : Int) ps
      · rw [hbq] at C
        have HB := Lib.hid hbq
        clear hbq
        go_wp2_with (first
          | (go_at_call 79; (with_reducible refine C.out.mono ?_); rintro e w' ⟨rfl, rfl⟩)
          | (refine wpList_make_ints HM.out.int rfl (.tmp 34) (.tmp 34) rfl rfl rfl (by omega) ?_; intro w4 ho4 hb4; obtain ⟨g4, hz, hg41, hg42, hc4, hf4⟩ := ho4.at (by omega); cases hz; have y3 := hc4 q hqc; have y4 := hf4 q; have hb5 := hb4.setCell (p := ⟨wo.heap.size, q, none⟩) (Nat.le_refl _) (.int .i64 1); clear hc4 hf4))
        clear C
        have ho5 := ho4.set (k := q) 1
        clear y3 y4 ho4 hb4
        generalize w4.setCell ⟨wo.heap.size, q, none⟩ (.int .i64 1) = w5 at *
        go_loopw [41] (fun v wt => ∃ (i : Nat) (xs : List Int), i ≤ ps.length ∧ v = .int .i64 i ∧ OwI wt wo.heap.size 3 (some ⟨wo.heap.size, 0, none⟩) c c xs ∧ Hid (NPart c P ps q i xs) ∧ Below wo.heap.size wo wt) (fun v _ => ps.length - (intOf v).toNat)
        case atStart => exact ⟨0, _, Nat.zero_le _, rfl, ho5, NPart.start P ps hqc, hb5⟩
        case round =>
          clear ho5 hb5 hm0
          obtain ⟨i, xs, hi, rfl, hx, hX, hbt⟩ := hrel
          by_cases hir : i < ps.length
          · have hir' : (i : Int) < (ps.length : Int) := by omega
            have hin : i < n := by have := HI.out.st.le; omega
            have hin' : (i : Int) < (n : Int) := by omega
            have hqc' : (q : Int) < (c : Int) := by omega
            have kt := hb.trans (hbt.mono hsz)
            obtain ⟨bp, op, rfl, _, hcp⟩ := (hps.below hbt).at hir
            replace hcp := hcp i hir
            have hpi : ix ps i = (natsOf ps i : Int) := by unfold natsOf; have := HI.out.pos i hir; omega
            have hpc : natsOf ps i < c := HI.out.st.lt i hir
            rw [hpi] at hcp
            have HS := Lib.hid (hX.out.step HI.out.st HI.out.pos HB.out hir)
            clear hpi
            generalize natsOf ps i = p at hcp hpc HS
            have hpc' : (p : Int) < (c : Int) := by omega
            obtain ⟨bP, oP, rfl, ar, cr, hcr, hrd⟩ := (hP.below kt).rowIn HI.out.dm hin
            obtain ⟨br, or_, rfl, _, hce⟩ := hrd.at hqc
            replace hce := hce q hqc
            rw [show ix (rowOf P i) q = en P i q from rfl] at hce
            have be := HI.out.ent i q hin hqc
            generalize en P i q = E at hce be HS
            obtain ⟨g5, hz, _, _, hcx, hfx⟩ := hx.at (by omega)
            cases hz
            replace hcx := hcx p hpc
            replace hfx := hfx p
            have u1 : IntKind.i64.wrap (-E) = -E := Go.IntWalk.i64_in _ (by omega)
            clear hrd
            go_wp2_with (go_at_call 68; refine (Field_any _ _).mono ?_; rintro e w' ⟨rfl, rfl⟩)
            go_roundw
            case rel => exact ⟨i + 1, _, by omega, by go_num, hx.set _, HS, hbt.setCell (p := ⟨wo.heap.size, p, none⟩) (Nat.le_refl _) _⟩
            case measure => simp [intOf]; omega
          · obtain rfl : i = ps.length := by omega
            go_wp2_with (at_builtin; refine wpList_push_row HM.out rfl (.tmp 59) (.tmp 61) rfl rfl rfl ho (hbt.alloc hbt.size _) (hx.below ((Below.refl _ _).alloc (Nat.le_refl _) _)) (by rw [World.cell?_alloc_at _ _ _ _ (by simp)]; rfl) (by omega) hsz ?_; intro a5 cap5 w5 ho5 hb6)
            have hb7 := ((hb.trans (hbt.mono hsz)).alloc (by have := hbt.size; omega) _).trans hb6
            have e1 : (L ++ [xs]).length = L.length + 1 := by simp
            go_roundw
            case rel => exact ⟨q + 1, a5, cap5, L ++ [xs], by omega, by go_num, by rw [e1], by rw [e1]; exact ho5, hN.out.push HB.out ⟨hX.out.len, hX.out.one, hX.out.piv, hX.out.zer⟩, hb7⟩
            case measure => simp [intOf]; omega
      · rw [hbq] at C
        have HB := Lib.hid hbq
        clear hbq
        go_wp2_with (first
          | (go_at_call 79; (with_reducible refine C.out.mono ?_); rintro e w' ⟨rfl, rfl⟩))
        clear C
        go_roundw
        case rel => exact ⟨q + 1, al, cl, L, by omega, by go_num, rfl, ho, hN.out.pass HB.out, hb⟩
        case measure => simp [intOf]; omega
    · obtain rfl : q = c := by omega
      go_wp2
      go_ret2
      exact ⟨al, cl, L, P, ps, rfl, ho.mono hb2.size, HI.out, hN.out, below_tr hb2 hb⟩
end Go.Proofs.YtkielldinghmbaaDoor
namespace Go.Proofs.YtkielldinghmbaaDoor
open Go.RowKit Go.Rk

/-- A row without place c, of its first k numbers. -/
def cutN (l : List Int) (c : Nat) : Nat → List Int
  | 0 => []
  | k + 1 => if k = c then cutN l c k else cutN l c k ++ [ix l k]
/-- The rows but row r, of the first k, without column c. -/
def woN (M : List (List Int)) (r c : Nat) : Nat → List (List Int)
  | 0 => []
  | k + 1 => if k = r then woN M r c k else woN M r c k ++ [cutN (rowOf M k) c (rowOf M k).length]

theorem cutN_len (l : List Int) (c : Nat) : ∀ k, (cutN l c k).length = if c < k then k - 1 else k := by
  intro k
  induction k with
  | zero => simp [cutN]
  | succ k ih =>
    rw [cutN]
    split
    · next h => rw [ih, if_neg (by omega), if_pos (by omega)]; omega
    · rw [List.length_append, ih]
      by_cases h2 : c < k
      · rw [if_pos h2, if_pos (by omega)]; simp; omega
      · rw [if_neg h2, if_neg (by omega)]; simp
theorem cutN_ix (l : List Int) (c : Nat) : ∀ k j, j < (cutN l c k).length → ix (cutN l c k) j = ix l (skip c j) := by
  intro k
  induction k with
  | zero => intro j hj; simp [cutN] at hj
  | succ k ih =>
    intro j hj
    rw [cutN] at hj ⊢
    split
    · next h => rw [if_pos h] at hj; exact ih j hj
    · next h =>
      rw [if_neg h, List.length_append] at hj
      have hl := cutN_len l c k
      rcases Nat.lt_or_ge j (cutN l c k).length with h1 | h1
      · rw [← ih j h1, ix_lt (by rw [List.length_append]; omega), ix_lt h1, List.getElem_append_left h1]
      · have hj2 : j = (cutN l c k).length := by simp at hj; omega
        subst hj2
        rw [ix_lt (by rw [List.length_append]; simp), List.getElem_append_right (Nat.le_refl _)]
        simp only [Nat.sub_self, List.getElem_cons_zero]
        congr 1
        rw [hl]
        unfold skip
        by_cases h2 : c < k
        · rw [if_pos h2, if_neg (by omega)]; omega
        · rw [if_neg h2, if_pos (by omega)]
theorem woN_len (M : List (List Int)) (r c : Nat) : ∀ k, (woN M r c k).length = if r < k then k - 1 else k := by
  intro k
  induction k with
  | zero => simp [woN]
  | succ k ih =>
    rw [woN]
    split
    · next h => rw [ih, if_neg (by omega), if_pos (by omega)]; omega
    · rw [List.length_append, ih]
      by_cases h2 : r < k
      · rw [if_pos h2, if_pos (by omega)]; simp; omega
      · rw [if_neg h2, if_neg (by omega)]; simp
theorem woN_row (M : List (List Int)) (r c : Nat) : ∀ k j, j < (woN M r c k).length → rowOf (woN M r c k) j = cutN (rowOf M (skip r j)) c (rowOf M (skip r j)).length := by
  intro k
  induction k with
  | zero => intro j hj; simp [woN] at hj
  | succ k ih =>
    intro j hj
    rw [woN] at hj ⊢
    split
    · next h => rw [if_pos h] at hj; exact ih j hj
    · next h =>
      rw [if_neg h, List.length_append] at hj
      have hl := woN_len M r c k
      rcases Nat.lt_or_ge j (woN M r c k).length with h1 | h1
      · rw [rowOf_append_left h1, ih j h1]
      · have hj2 : j = (woN M r c k).length := by simp at hj; omega
        subst hj2
        rw [rowOf_append_right (Nat.le_refl _), Nat.sub_self]
        have e : skip r (woN M r c k).length = k := by
          rw [hl]
          unfold skip
          by_cases h2 : r < k
          · rw [if_pos h2, if_neg (by omega)]; omega
          · rw [if_neg h2, if_pos (by omega)]
        rw [e]
        rfl
/-- What is left without a row and a column of a square matrix. -/
theorem woN_is {n r c : Nat} {M : List (List Int)} (hd : Dim (n + 1) M) (hr : r < n + 1) (hc : c < n + 1) : Is n (woN M r c (n + 1)) (minor (mx M) r c) := by
  have hl : (woN M r c (n + 1)).length = n := by rw [woN_len, if_pos hr]; omega
  have hrow : ∀ i, i < n → (rowOf M (skip r i)).length = n + 1 := fun i hi => hd.2 _ (skip_lt hi)
  have hcl : ∀ i, i < n → (cutN (rowOf M (skip r i)) c (n + 1)).length = n := fun i hi => by rw [cutN_len, if_pos hc]; omega
  refine ⟨⟨hl, fun i hi => ?_⟩, fun i j hi hj => ?_⟩
  · rw [woN_row M r c _ i (by rw [hl]; exact hi), hrow i hi]
    exact hcl i hi
  · unfold en
    rw [woN_row M r c _ i (by rw [hl]; exact hi), hrow i hi, cutN_ix _ _ _ _ (by rw [hcl i hi]; exact hj)]
    rfl

/-- The row in two parts. -/
theorem cutN_parts (l : List Int) {c : Nat} (hc : c < l.length) : cutN l c l.length = l.take c ++ l.drop (c + 1) := by
  have h1 := cutN_len l c l.length
  rw [if_pos hc] at h1
  have h2 : (l.take c ++ l.drop (c + 1)).length = l.length - 1 := by rw [List.length_append, List.length_take, List.length_drop]; omega
  refine ix_ext (h1.trans h2.symm) fun j hj => ?_
  rw [cutN_ix _ _ _ _ hj]
  unfold skip
  by_cases h : j < c
  · rw [if_pos h, ix_append_left (by rw [List.length_take]; omega), ix_take h]
  · rw [if_neg h, ix_append_right (by rw [List.length_take]; omega), ix_drop, List.length_take]
    congr 1
    omega
set_option maxHeartbeats 2000000 in
theorem Cut_any {a : Option Addr} {n cap c i j : Nat} {M : List (List Int)} {w : World} (h : RdM w a n cap M) (d : Dm n c M) (hn : n ≤ 1000) (hc : c ≤ 1000) (hj : j < c) :
    Calls Tryd.prog 90 #[.slice a n cap, .int .i64 i, .int .i64 j] w fun e w' => ∃ a' cap', e = .returned (.slice a' (woN M i j n).length cap') ∧ OwM w' w.heap.size 32 3 a' (woN M i j n).length cap' (woN M i j n) ∧ Below w.heap.size w w' := by
  have HM := Lib.hid matTy
  have HD := Lib.hid d
  clear d
  go_enter Tryd.func90, Tryd.ntmps90
  go_wp2
  go_loopw [7, 13] (fun v x wr => ∃ (k : Nat) (q : Option Addr) (cq : Nat), k ≤ n ∧ x = .int .i64 k ∧ v = .slice q (woN M i j k).length cq ∧ OwM wr w.heap.size 32 3 q (woN M i j k).length cq (woN M i j k) ∧ Below w.heap.size w wr) (fun _ x _ => n - (intOf x).toNat)
  case atStart => exact ⟨0, none, 0, Nat.zero_le _, rfl, rfl, OwM.nil _ _ _ _, Below.refl _ _⟩
  case round =>
    obtain ⟨k, q, cq, hk, rfl, rfl, ho, hb⟩ := hrel
    by_cases hlt : k < n
    · obtain ⟨b, off, rfl, _, hr⟩ := (h.below hb).at hlt
      obtain ⟨ar, cr, hcr, hrd⟩ := hr k hlt
      rw [HD.out.2 k hlt] at hcr hrd
      have hlt' : (k : Int) < (n : Int) := by omega
      by_cases hkr : k = i
      · have z1 : ((k : Int) == (i : Int)) = true := beq_iff_eq.2 (by omega)
        have HK := Lib.hid hkr
        clear hkr
        go_wp2
        go_roundw
        case rel => exact ⟨k + 1, q, cq, by omega, by go_num, by rw [woN, if_pos HK.out], by rw [woN, if_pos HK.out]; exact ho, hb⟩
        case measure => simp [intOf]; omega
      · have z1 : ((k : Int) == (i : Int)) = false := beq_eq_false_iff_ne.2 (by omega)
        have HK := Lib.hid hkr
        clear hkr
        obtain ⟨p, o, rfl, hp, _⟩ := hrd.at hj
        have hle := hrd.le
        have t1 := hrd.take (n := j) (by omega)
        have t2 := hrd.drop (n := j + 1) (by omega)
        have b1 : (j : Int) ≤ (cr : Int) := by omega
        have b2 : (j : Int) + 1 ≤ (c : Int) := by omega
        have b3 : (j : Int) + 1 ≤ (cr : Int) := by omega
        have hsz := hb.size
        have hwl := woN_len M i j k
        have hwl2 : (woN M i j k).length ≤ k := by rw [hwl]; split <;> omega
        clear hwl hr
        have tok1 : True := trivial
        have tok2 : True := trivial
        have e9 : ((j : Int) + 1).toNat = j + 1 := by omega
        by_cases hcc : cr = j + 1
        · subst hcc
          rw [if_pos rfl, show c - (j + 1) = 0 by omega, Nat.sub_self] at t2
          go_wp2_with (first | (at_builtin; have _t := tok1; refine wpList_append_ints HM.out.int rfl (.const (.slice none 0 0)) (.tmp 23) rfl rfl rfl (OwI.nil wr wr.heap.size _) t1 (by omega) (Nat.le_refl _) ?_; intro a3 cap3 w3 ho3 hg3; have hb3 := below_of_grown hg3; clear tok1; rw [Nat.zero_add, List.nil_append] at ho3) | (at_builtin; have _t := tok2; refine wpList_append_ints HM.out.int rfl (.tmp 26) (.tmp 30) rfl rfl rfl ho3 (t2.below hb3) (by omega) hb3.size ?_; intro a4 cap4 w4 ho4 hg4; have hb4 := below_grown hb3 ho3 hb3.size hg4; clear tok2) | (at_builtin; refine wpList_push_row HM.out rfl (.tmp 25) (.tmp 32) rfl rfl rfl ho (hb4.alloc hb4.size _) (ho4.below ((Below.refl _ _).alloc (Nat.le_refl _) _)) (by simp) (by omega) hsz ?_; intro a5 cap5 w5 ho5 hb5))
          have hL : Hid (woN M i j (k + 1) = woN M i j k ++ [(rowOf M k).take j ++ (rowOf M k).drop (j + 1)]) := by
            unfold Hid
            rw [woN, if_neg HK.out, cutN_parts _ (by rw [HD.out.2 k hlt]; exact hj)]
          have hL2 : (woN M i j (k + 1)).length = (woN M i j k).length + 1 := by rw [hL.out]; simp
          go_roundw
          case rel => exact ⟨k + 1, a5, cap5, by omega, by go_num, by rw [hL2], by rw [hL2, hL.out]; exact ho5, ((hb.trans (hb4.mono hsz)).alloc (Nat.le_trans hsz hb4.size) _).trans hb5⟩
          case measure => simp [intOf]; omega
        · rw [if_neg hcc] at t2
          simp only [Option.map_some, Addr.add] at t2
          go_wp2_with (first | (at_builtin; have _t := tok1; refine wpList_append_ints HM.out.int rfl (.const (.slice none 0 0)) (.tmp 23) rfl rfl rfl (OwI.nil wr wr.heap.size _) t1 (by omega) (Nat.le_refl _) ?_; intro a3 cap3 w3 ho3 hg3; have hb3 := below_of_grown hg3; clear tok1; rw [Nat.zero_add, List.nil_append] at ho3) | (at_builtin; have _t := tok2; refine wpList_append_ints HM.out.int rfl (.tmp 26) (.tmp 30) rfl rfl rfl ho3 (t2.below hb3) (by omega) hb3.size ?_; intro a4 cap4 w4 ho4 hg4; have hb4 := below_grown hb3 ho3 hb3.size hg4; clear tok2) | (at_builtin; refine wpList_push_row HM.out rfl (.tmp 25) (.tmp 32) rfl rfl rfl ho (hb4.alloc hb4.size _) (ho4.below ((Below.refl _ _).alloc (Nat.le_refl _) _)) (by simp) (by omega) hsz ?_; intro a5 cap5 w5 ho5 hb5))
          have hL : Hid (woN M i j (k + 1) = woN M i j k ++ [(rowOf M k).take j ++ (rowOf M k).drop (j + 1)]) := by
            unfold Hid
            rw [woN, if_neg HK.out, cutN_parts _ (by rw [HD.out.2 k hlt]; exact hj)]
          have hL2 : (woN M i j (k + 1)).length = (woN M i j k).length + 1 := by rw [hL.out]; simp
          go_roundw
          case rel => exact ⟨k + 1, a5, cap5, by omega, by go_num, by rw [hL2], by rw [hL2, hL.out]; exact ho5, ((hb.trans (hb4.mono hsz)).alloc (Nat.le_trans hsz hb4.size) _).trans hb5⟩
          case measure => simp [intOf]; omega
    · obtain rfl : k = n := by omega
      go_wp2
      go_ret
      exact ⟨q, cq, rfl, ho, hb⟩
end Go.Proofs.YtkielldinghmbaaDoor
namespace Go.Proofs.YtkielldinghmbaaDoor
open Go.RowKit Go.Shelf Go.Rk
attribute [local go_sem] Oper.semAt_some

/-- What is left without a row and a column, by the prime. -/
def minorV (n : Nat) (M : List (List Int)) (i j : Nat) : Int := det (n - 1) (minor (mx M) i j) % 9973
theorem minorV_in (n : Nat) (M : List (List Int)) (i j : Nat) : 0 ≤ minorV n M i j ∧ minorV n M i j ≤ 9972 := by unfold minorV; omega

theorem minors_of_any {a : Option Addr} {n cap i j : Nat} {M : List (List Int)} {w : World} (h : RdM w a n cap M) (G : Good n n M) (hi : i < n) (hj : j < n) :
    Calls Tryd.prog 77 #[.slice a n cap, .int .i64 i, .int .i64 j] w fun e w' => e = .returned (.int .i64 (minorV n M i j)) ∧ Below w.heap.size w w' := by
  have n1 := G.n1
  by_cases h1 : n = 1
  · subst h1
    go_enter Tryd.func77, Tryd.ntmps77
    go_wp2
    go_ret
    exact ⟨rfl, Below.refl _ _⟩
  · obtain ⟨m, rfl⟩ : ∃ m, n = m + 1 := ⟨n - 1, by omega⟩
    have hw := woN_is (M := M) G.dm hi hj
    have hl : (woN M i j (m + 1)).length = m := hw.1.1
    have C1 := Lib.hid (Cut_any (i := i) h G.dm (by omega) (by omega) hj)
    rw [hl] at C1
    have he : Ent 0 9972 m (woN M i j (m + 1)) := fun r s hr hs => by
      rw [hw.2 r s hr hs]
      exact G.ent _ _ (skip_lt hr) (skip_lt hs)
    have hq : squareR 5 0 9972 (woN M i j (m + 1)) = none := squareR_of (by omega) (by omega) hw.1 he
    have hd : det m (mx (woN M i j (m + 1))) = det m (minor (mx M) i j) := det_congr fun r s hr hs => hw.2 r s hr hs
    have HQ := Lib.hid hq
    have HD := Lib.hid hd
    have z1 : (((m + 1 : Nat) : Int) == 1) = false := beq_eq_false_iff_ne.2 (by omega)
    clear hw hl he hq hd
    obtain ⟨N, hN⟩ : ∃ N, m + 1 = N := ⟨_, rfl⟩
    have HN := Lib.hid hN
    rw [hN] at h G C1 z1 HQ HD hi hj h1 n1 ⊢
    clear hN
    go_enter Tryd.func77, Tryd.ntmps77
    go_wp2_with (first | (go_at_call 90; (with_reducible refine C1.out.mono ?_); rintro e w1 ⟨a1, c1, rfl, ho, hb⟩) | (go_at_call 39; refine (det_Of_ok ho.rd HQ.out).mono ?_; rintro e w2 ⟨rfl, hb2⟩))
    go_ret
    refine ⟨?_, hb.trans (hb2.mono hb.size)⟩
    rw [HD.out]
    unfold minorV
    rw [← HN.out]
    rfl

theorem Adj_err {a : Option Addr} {n ca : Nat} {A : List (List Int)} {w : World} {x : Int} (hA : RdM w a n ca A) (hq : squareR 5 0 9972 A = some x) :
    Calls Tryd.prog 43 #[.slice a n ca] w fun e w' => e = .returned (.tuple #[.slice none 0 0, .iface 70 (.int .i64 x)]) ∧ Below w.heap.size w w' := by
  have C := Lib.hid (det_Check_is (hA.below ((Below.refl w.heap.size w).alloc (Nat.le_refl _) (.cells #[.slice a n ca] 22))) hq)
  clear hq
  go_enter Tryd.func43, Tryd.ntmps43
  go_wp2_with (go_at_call 37; refine C.out.mono ?_; rintro e w' ⟨rfl, rfl⟩; simp only [errV])
  go_ret2
  exact ⟨rfl, (Below.refl w.heap.size w).alloc (Nat.le_refl _) _⟩
set_option maxRecDepth 100000 in
set_option maxHeartbeats 4000000 in
theorem Adj_ok {a : Option Addr} {n ca : Nat} {A : List (List Int)} {w : World} (hA : RdM w a n ca A) (G : Good n n A) :
    Calls Tryd.prog 43 #[.slice a n ca] w fun e w' => ∃ a' cap' P, e = .returned (.tuple #[.slice a' n cap', .nilIface]) ∧ OwM w' w.heap.size 32 3 a' n cap' P ∧ IsR n n P (fun i j => adj n (mx A) i j % 9973) ∧ Below w.heap.size w w' := by
  have HM := Lib.hid matTy
  have HG := Lib.hid G
  have hn := G.n1
  have dA := G.dm
  have ha0 := (Below.refl w.heap.size w).alloc (Nat.le_refl _) (.cells #[.slice a n ca] 22)
  have C := Lib.hid (det_Check_is (hA.below ha0) (squareR_of (lo := 0) (hi := 9972) (most := 5) hn.1 (by omega) G.dm G.ent))
  clear G
  refine (callsIn_wide (n := 6)).1 ?_
  refine callsIn_of_wp_marks Tryd.func43 rfl trivial ?_ rfl
  simp only [Tryd.ntmps43, List.size_toArray, List.length_cons, List.length_nil, Nat.reduceAdd, Nat.reduceSub, Array.replicate_succ, Array.replicate_zero, List.push_toArray, List.append_toArray, List.nil_append, List.cons_append]
  refine wpIn_wide.2 ?_
  obtain ⟨bb, ob, D0, O0, C0, rfl, hbb, hD0, hGA⟩ := hA.grid dA (by omega) (by omega)
  go_wp2_with (first | (go_at_call 37; refine C.out.mono ?_; rintro e w' ⟨rfl, rfl⟩; simp only [errV]) | (go_at_call 64; refine (Grid_any n n _ (by omega) (by omega)).mono ?_; rintro e w3 ⟨a3, cap3, rfl, ho3, hb3⟩; have bx := alloc_keep (o := .cells #[.slice a3 n cap3] 22) ((hb3.cell (p := ⟨w.heap.size, 0, none⟩) (by simp)).trans (c := some (.slice (some ⟨bb, ob, none⟩) n ca)) (by simp))) | (go_at_call 65; fail))
  have k2 := ha0.trans (hb3.mono ha0.size)
  have k3 := k2.alloc k2.size (.cells #[.slice a3 n cap3] 22)
  obtain ⟨g, D, C, hz, hd3⟩ := ho3.named (by omega) fun r hr => by rw [(Dm.replicate n n 0).2 r hr]; omega
  cases hz
  have hd4 := (hd3.mono ha0.size).alloc (.cells #[.slice (some ⟨g, 0, none⟩) n cap3] 22)
  have px : (w3.alloc (.cells #[.slice (some ⟨g, 0, none⟩) n cap3] 22)).cell? ⟨w3.heap.size, 0, none⟩ = some (.slice (some ⟨g, 0, none⟩) n cap3) := by simp
  clear hd3 ho3 hb3 k2
  generalize (w3.alloc (.cells #[.slice (some ⟨g, 0, none⟩) n cap3] 22)) = W4 at *
  generalize w3.heap.size = PO at *
  refine (callsIn_wide.1 (each_in 0 (some ⟨bb, ob, none⟩) n ca W4)).mono ?_
  rintro e w' ⟨rfl, rfl⟩
  go_wp2_with fail
  refine (wpIn_wide (n := 6)).1 ?_
  have hd5 := hd4.alloc (.cells #[.slice (some ⟨bb, ob, none⟩) n ca] 22)
  have hBm : (W4.alloc (.cells #[.slice (some ⟨bb, ob, none⟩) n ca] 22)).cell? ⟨W4.heap.size, 0, none⟩ = some (.slice (some ⟨bb, ob, none⟩) n ca) := by simp
  have hBl : W4.heap.size < (W4.alloc (.cells #[.slice (some ⟨bb, ob, none⟩) n ca] 22)).heap.size := by simp
  have k5 := k3.alloc k3.size (.cells #[.slice (some ⟨bb, ob, none⟩) n ca] 22)
  have q5 := alloc_keep (o := .cells #[.slice (some ⟨bb, ob, none⟩) n ca] 22) px
  have r5 := alloc_keep (o := .cells #[.slice (some ⟨bb, ob, none⟩) n ca] 22) bx
  have h5w := k5.size
  have hG5 := hGA.below k5 hbb hD0
  clear px bx k3
  refine wpIn_rangeFunc_ownH rfl (by decide) (gf := 85) (lb := #[.pointer (some ⟨W4.heap.size, 0, none⟩)]) rfl trivial (enters_of Tryd.func85 (by kernel_rfl) rfl)
    (each_stops 5 (cap := ca) (by omega) (by omega) _ hBm hBl hG5 (Nat.lt_of_lt_of_le hbb h5w) (fun r hr => Nat.lt_of_lt_of_le (hD0 r hr) h5w)) (fun h h' g => h' (h g)) (fun W l o o' _ h1 h2 _ g => g.passes (grownBy_putObj' W l o') (fun r e => by cases e; exact ⟨o, h1, h2⟩)) (Below.refl _ _) (fun _ => rfl)
    (fun pre W => (∃ P, OwMD W w.heap.size 32 3 g D C n cap3 P ∧ Dm n n P ∧ ∀ r s, (r, s) ∈ plcs pre → en P r s = adj n (mx A) r s % 9973) ∧ W.cell? ⟨PO, 0, none⟩ = some (.slice (some ⟨g, 0, none⟩) n cap3) ∧ W.cell? ⟨w.heap.size, 0, none⟩ = some (.slice (some ⟨bb, ob, none⟩) n ca) ∧ Below w.heap.size w W)
    (fun _ _ _ => False)
    (fun s X Y row hs hgr hr => ⟨let ⟨P, e1, e2, e3⟩ := hs.1; ⟨P, e1.passes hgr (fun r e => (hr r e).2), e2, e3⟩, cell_kept hs.2.1 hgr (fun r e => (hr r e).2), cell_kept hs.2.2.1 hgr (fun r e => (hr r e).2), hs.2.2.2.grown hgr hs.2.2.2.size (fun r e => Nat.le_trans h5w (hr r e).1)⟩)
    (fun _ _ _ _ _ hs _ _ => hs)
    ⟨⟨_, hd5, Dm.replicate n n 0, fun r s hp => by cases hp⟩, q5, r5, k5⟩
    (fun x a' W => ∃ Bx, W.cell? ⟨Bx, 0, none⟩ = some (.int .i64 (x.1.1 : Int)) ∧ W.cell? ⟨Bx, 1, none⟩ = some (.int .i64 (x.1.2.1 : Int)) ∧ a' = { tmps := #[Value.slice (some { block := bb, off := ob }) n ca, Value.pointer (some { block := w.heap.size, off := 0 }), Value.slice none 0 0, Value.nilIface, Value.nilIface, Value.pointer (some { block := PO, off := 0 }), Value.pointer (some { block := Bx, off := 0 }), undef, undef, undef, Value.slice (some { block := bb, off := ob }) n ca, Value.nilIface, Value.nilIface, Value.bool false, undef, Value.slice (some { block := bb, off := ob }) n ca, Value.int IntKind.i64 (n : Int), Value.slice (some { block := bb, off := ob }) n ca, Value.int IntKind.i64 (n : Int), Value.slice (some { block := g, off := 0 }) n cap3, Value.slice (some { block := bb, off := ob }) n ca, Value.func (.func 85) #[] #[Value.pointer (some { block := W4.heap.size, off := 0 })], .agg #[.int .i64 (x.1.1 : Int), .int .i64 (x.1.2.1 : Int)], .int .i64 x.1.2.2, undef, undef, undef, undef, undef, undef, undef, undef, undef, undef, undef, undef, undef, undef, undef, undef, undef, undef, undef, undef, undef, undef, undef, undef], defers := [] })
    (fun x a' _ X Y row hs hgr hr => let ⟨Bx, e1, e2, e3⟩ := hs; ⟨Bx, cell_kept e1 hgr (fun r e => (hr r e).2), cell_kept e2 hgr (fun r e => (hr r e).2), e3⟩)
    ?assign ?body ?done ?stop
  case assign =>
    rintro l pre x W K ⟨⟨P, e1, e2, e3⟩, c3, c4, hbW⟩ hK
    dsimp only [encP]
    gi_wp2
    exact hK _ _ ((KeepsOthers.alloc _ _).from _) (fun g => g.fresh ((Below.refl _ _).alloc (Nat.le_refl _) _)) ⟨⟨P, e1.alloc _, e2, e3⟩, alloc_keep c3, alloc_keep c4, hbW.alloc hbW.size _⟩ ⟨W.heap.size, by simp, by simp, rfl⟩
  case body =>
    rintro l pre ⟨⟨i, j, v⟩, hi, hj, hv⟩ a' W hl ⟨r, hr⟩ ⟨⟨P, e1, e2, e3⟩, c3, c4, hbW⟩ ⟨Bx, y1, y2, rfl⟩ hlt
    clear hBm hBl q5 hd4 hd5 r5
    dsimp only at y1 y2 hi hj hv ⊢
    subst hv
    gi_wp2
    refine region_round_quiet (by kernel_rfl) (by kernel_rfl) (fun ⟨_, _, h⟩ => h) (by kernel_rfl) ?_
    repeat (go_big_quiet_step (fail))
    refine wpQuiet_nil ?_
    rintro _ ⟨nq, rfl⟩
    have kq := below_drewN (Below.refl W.heap.size W) nq
    have kw := below_drewN hbW nq
    have c4q := kq.keep (World.block_lt_of_cell? W _ c4) c4
    have C := Lib.hid (minors_of_any (hA.below kw) HG.out hj hi)
    clear y1 y2
    generalize W.drewN nq = Wd at *
    gi_wp2_with (first | (gi_at_call 77; fail))
    refine ⟨trivial, ?_⟩
    refine CallsIn.mono (show CallsIn (Fence.wide.inRound l) 3 _ _ _ _ _ from callsIn_wide.2 C.out) ?_
    clear C c4q
    rintro e w9 ⟨rfl, hb9⟩
    have kk := kq.trans (hb9.mono kq.size)
    have k9 := hbW.trans (kk.mono hbW.size)
    have e1 := e1.below kk
    have c3 := kk.keep (World.block_lt_of_cell? W _ c3) c3
    have c4 := kk.keep (World.block_lt_of_cell? W _ c4) c4
    have a1 := e1.cellO hi
    have a2 := e1.cellI hi (j := j) (by rw [e2.2 i hi]; exact hj)
    have a3 := e1.frozenI hi (by rw [e2.2 i hi]; omega) j
    rw [e2.2 i hi] at a1
    have i1 : (i : Int) < (n : Int) := by omega
    have i2 : (j : Int) < (n : Int) := by omega
    have bV := minorV_in n A j i
    have hKO : KeepsOthers W w9 := ⟨kk.size, fun k o hk _ => (kk.block k (Array.getElem?_eq_some_iff.1 hk).1).trans hk⟩
    clear kq kw hb9
    obtain ⟨V, hV⟩ : ∃ V, minorV n A j i = V := ⟨_, rfl⟩
    rw [hV] at bV ⊢
    have HV := Lib.hid hV
    clear hV kk hbW
    dsimp only
    have fin : ∀ X : Int, X = adj n (mx A) i j % 9973 → ∀ (b : Nat) (W9 : World), W9 = w9.setCell ⟨D i, j, none⟩ (.int .i64 X) → KeepsFrom b W W9 ∧ (Grid n n bb ob D0 O0 C0 (fun i j v => v = en A i j) W → Grid n n bb ob D0 O0 C0 (fun i j v => v = en A i j) W9) ∧ ((∃ P, OwMD W9 w.heap.size 32 3 g D C n cap3 P ∧ Dm n n P ∧ ∀ r s, (r, s) ∈ plcs (pre ++ [(⟨(i, j, en A i j), hi, hj, rfl⟩ : Plc n n (fun i j v => v = en A i j))]) → en P r s = adj n (mx A) r s % 9973) ∧ W9.cell? ⟨PO, 0, none⟩ = some (.slice (some ⟨g, 0, none⟩) n cap3) ∧ W9.cell? ⟨w.heap.size, 0, none⟩ = some (.slice (some ⟨bb, ob, none⟩) n ca) ∧ Below w.heap.size w W9) := by
      rintro X hX b W9 rfl
      refine ⟨(hKO.trans (KeepsOthers.setCell _ _ _)).from _, fun _ => hGA.below (k9.setCell (p := ⟨D i, j, none⟩) (e1.lowI hi).1 _) hbb hD0, ⟨_, e1.set matTy.ne hi _, e2.setE _ _ _, fun r s hp => ?_⟩, set_keepS c3 a2, set_keepS c4 a2, k9.setCell (p := ⟨D i, j, none⟩) (e1.lowI hi).1 _⟩
      rw [plcs_snoc] at hp
      have hpl : r < n ∧ s < n := by
        rcases List.mem_append.1 hp with h | h
        · exact plcs_in h
        · cases List.mem_singleton.1 h
          exact ⟨hi, hj⟩
      rw [e2.en_set _ hpl.1 hpl.2]
      split
      · next h => rw [← h.1, ← h.2]; exact hX
      · next h =>
        rcases List.mem_append.1 hp with h2 | h2
        · exact e3 r s h2
        · cases List.mem_singleton.1 h2
          exact absurd ⟨rfl, rfl⟩ h
    by_cases hp : (i + j) % 2 = 1
    · have zt : ((i : Int) + (j : Int)).tmod 2 = 1 := by rw [Int.tmod_eq_emod_of_nonneg (by omega)]; omega
      have hX : Hid (-V % 9973 = adj n (mx A) i j % 9973) := by
        unfold Hid
        rw [← HV.out]
        unfold minorV adj sg
        rw [if_neg (by omega)]
        omega
      gi_wp2_with fail
      refine ⟨trivial, CallsIn.mono (show CallsIn (Fence.wide.inRound l) _ _ _ _ _ _ from callsIn_wide.2 (Field_any _ _)) ?_⟩
      rintro e w10 ⟨rfl, rfl⟩
      dsimp only
      gi_wp2
      exact fin _ hX.out _ _ rfl
    · have zt : ((i : Int) + (j : Int)).tmod 2 = 0 := by rw [Int.tmod_eq_emod_of_nonneg (by omega)]; omega
      have hX : Hid (V = adj n (mx A) i j % 9973) := by
        unfold Hid
        rw [← HV.out]
        unfold minorV adj sg
        rw [if_pos (by omega), Int.one_mul]
      gi_wp2
      exact fin _ hX.out _ _ rfl
  case done =>
    rintro Dd ys W hDd hS ⟨⟨P, e1, e2, e3⟩, c3, c4, hbW⟩ hK
    go_wp2
    refine ⟨by simp, .inl ⟨_, _, rfl, run_takeDeferred hK, ?_⟩⟩
    have hgr := grownBy_putObj' W Dd (.deferred none)
    have hno : ∀ r, some Dd = some r → ∃ o : Obj, W.heap[r]? = some o ∧ o.isCells = false := fun r e => by cases e; exact ⟨_, hK, rfl⟩
    exact ⟨_, results_tmp2 rfl _ _ _, _, _, P, rfl, (e1.passes hgr hno).toM, ⟨e2, fun i j hi hj => e3 i j (by rw [hS]; exact locs_mem hi hj)⟩, hbW.grown hgr hbW.size (fun r e => by cases e; exact Nat.le_trans h5w hDd)⟩
  case stop =>
    rintro D c pre W _ _ h _
    exact h.elim
theorem Of_ok {a : Option Addr} {n ca : Nat} {i j : Int} {A : List (List Int)} {w : World} (hA : RdM w a n ca A) (G : Good n n A) (hi : 0 ≤ i ∧ i < n) (hj : 0 ≤ j ∧ j < n) :
    Calls Tryd.prog 45 #[.slice a n ca, .int .i64 i, .int .i64 j] w fun e w' => e = .returned (.tuple #[.int .i64 (minorV n A i.toNat j.toNat), .nilIface]) ∧ Below w.heap.size w w' := by
  have hn := G.n1
  have C := Lib.hid (det_Check_is hA (squareR_of (lo := 0) (hi := 9972) (most := 5) hn.1 (by omega) G.dm G.ent))
  have hb := (Below.refl w.heap.size w).alloc (Nat.le_refl _) (.cells #[.int .i64 i, .int .i64 j] 3)
  have C2 := Lib.hid (any_any _ 2 2 [i, j] 0 ((n : Int) - 1) _ (RdI.lit w [i, j] 3 (by simp [maxLen])))
  have e1 : ((i.toNat : Nat) : Int) = i := by omega
  have e2 : ((j.toNat : Nat) : Int) = j := by omega
  have C3 := minors_of_any (i := i.toNat) (j := j.toNat) (hA.below hb) G (by omega) (by omega)
  rw [e1, e2] at C3
  have C3 := Lib.hid C3
  have z : anyB 0 ((n : Int) - 1) [i, j] = false := by
    unfold anyB outB
    simp
    omega
  rw [z] at C2
  clear z e1 e2 G
  go_enter Tryd.func45, Tryd.ntmps45
  go_wp2_with (first | (go_at_call 37; refine C.out.mono ?_; rintro e w' ⟨rfl, rfl⟩; simp only [errV]) | (go_at_call 78; refine C2.out.mono ?_; rintro e w2 ⟨rfl, rfl⟩) | (go_at_call 77; (with_reducible refine C3.out.mono ?_); rintro e w3 ⟨rfl, hb3⟩))
  go_ret2
  exact ⟨rfl, below_tr hb hb3⟩

theorem rd11 {w : World} {b p : Nat} {x : Int} (h0 : w.cell? ⟨b, 0, none⟩ = some (.slice (some ⟨p, 0, none⟩) 1 1)) (h1 : w.cell? ⟨p, 0, none⟩ = some (.int .i64 x)) : RdM w (some ⟨b, 0, none⟩) 1 1 [[x]] := by
  refine ⟨rfl, Nat.le_refl _, by decide, fun k hk => ?_⟩
  obtain rfl : k = 0 := by omega
  exact ⟨b, 0, some ⟨p, 0, none⟩, 1, 1, rfl, h0, RdI.one h1 (Nat.le_refl _) (by decide)⟩

set_option maxHeartbeats 4000000 in
set_option maxRecDepth 100000 in
theorem minorsFact_any (w : World) : Calls Tryd.prog 46 #[] w fun e w' => e = .returned (.bool true) ∧ Below w.heap.size w w' := by
  go_enter Tryd.func46, Tryd.ntmps46
  go_wp2_with fail
  refine (Adj_ok (n := 2) (A := [[1, 2], [3, 4]]) (rd22 (p := w.heap.size) (q := w.heap.size + 1) ?_ ?_ ?_ ?_ ?_ ?_) (Good.of (n := 2) (M := [[1, 2], [3, 4]]) rfl (by decide))).mono ?main
  case main =>
    rintro e w1 ⟨a1, c1, P, rfl, ho, hi, hb⟩
    obtain rfl : P = [[4, 9971], [9970, 1]] := hi.1.ext ⟨rfl, fun i hi => by rcases (show i = 0 ∨ i = 1 by omega) with rfl | rfl <;> rfl⟩ fun i j h1 h2 => by
      rw [hi.2 i j h1 h2]
      rcases (show i = 0 ∨ i = 1 by omega) with rfl | rfl <;> rcases (show j = 0 ∨ j = 1 by omega) with rfl | rfl <;> decide
    have b1 := below_tr (below_al (below_al (below_al (Below.refl _ w) _) _) _) hb
    have h1 := ho.rd
    clear ho hi hb
    have G1 : Good 1 1 [[7]] := Good.of (n := 1) (M := [[7]]) rfl (by decide)
    have HG1 := Lib.hid G1
    clear G1
    go_wp2_with fail
    refine (Of_ok (i := 0) (j := 0) (rd11 (p := w1.heap.size) ?_ ?_) HG1.out (by decide) (by decide)).mono ?main
    case main =>
      rintro e w2 ⟨rfl, hb⟩
      rw [show minorV 1 [[7]] (0 : Int).toNat (0 : Int).toNat = 1 by decide]
      have k2 := below_tr (below_al (below_al (Below.refl _ w1) _) _) hb
      have b2 := below_tr b1 k2
      have h1 := h1.below k2
      clear b1 k2 hb
      go_wp2_with fail
      refine (Rows_any (l := [[4, 9971], [9970, 1]]) (m := [[4, 9971], [9970, 1]]) (h1.below (below_al (below_al (below_al (Below.refl _ w2) _) _) _)) (rd22 (p := w2.heap.size) (q := w2.heap.size + 1) ?_ ?_ ?_ ?_ ?_ ?_)).mono ?main
      case main =>
        rintro e w3 ⟨rfl, hb⟩
        have b3 := below_tr b2 (below_tr (below_al (below_al (below_al (Below.refl _ w2) _) _) _) hb)
        clear hb b2 h1
        go_wp2
        go_ret
        exact ⟨rfl, b3⟩
      all_goals simp [go_sem]
    all_goals simp [go_sem]
  all_goals simp [go_sem]
end Go.Proofs.YtkielldinghmbaaDoor

namespace Go.Rk
open Go.RowKit

variable {P : Program}

/-- What an iterator owes: at a loop of N rounds that keeps the word J, of which I tells, it comes to its end. -/
def SeqOn (n : Nat) (P : Program) (gf : Nat) (lb : Array Value) (encs : Nat → Array Value) (I : Nat → World → Prop) (N : Nat) : Prop :=
  ∀ (l : Nat) (J : Nat → World → Prop) (W : World), (∀ k W1, J k W1 → I k W1) →
    (∀ k W1, k < N → J k W1 → YieldAt Fence.wide (n - 1) P l (encs k) W1 fun e W' => e = .returned (.bool true) ∧ J (k + 1) W') → J 0 W →
    CallsIn Fence.wide n P gf (#[.func (.yield l) #[] #[]] ++ lb) W fun e W' => (∃ v, e = .returned v) ∧ J N W'

theorem range_on {n : Nat} {g : Operand} {ps : Array Tmp} {assign body : Code} {Q : Exit → Act → World → Prop} {a : Act} {w : World}
    (h1 : 1 ≤ n) {gf : Nat} {lb : Array Value} (hg : a.eval g = .func (.func gf) #[] lb) (eg : ∀ args w, (callFunc gf args).run P w = .ok (.enter gf args) w)
    {encs : Nat → Array Value} {N : Nat} (hps : ∀ k, (encs k).size = ps.size) (I : Nat → World → Prop) (hI : OwnFrom w.heap.size I) (hseq : SeqOn (n - 1) P gf lb encs I N) (h0 : I 0 w)
    (Ax : Nat → Act → World → Prop) (hAx : ∀ a', OwnFrom w.heap.size (fun k W => Ax k a' W))
    (hassign : ∀ (l k : Nat) (W : World) (K : Act → World → Prop), k < N → I k W → (∀ a' W', KeepsFrom w.heap.size W W' → I k W' → Ax k a' W' → K a' W') →
      assign.wpIn (Fence.wide.inRound l) (n - 1 - 1) P (Exit.then K (fun _ _ _ => False)) { tmps := (ps.zip (encs k)).foldl (fun t (p, v) => t.setIfInBounds p v) a.tmps, defers := [] } W)
    (hbody : ∀ (l k : Nat) (a' : Act) (W : World), k < N → I k W → Ax k a' W → body.wpIn (Fence.wide.inRound l) (n - 1 - 1) P (fun e _ W' => e = .normal ∧ KeepsFrom w.heap.size W W' ∧ I (k + 1) W') a' W)
    (hdone : ∀ (D : Nat) (W : World), w.heap.size ≤ D → I N W → W.heap[D]? = some (.deferred (some [])) → Q .normal { a with defers := { target := .collected D, args := #[] } :: a.defers } W) :
    (Code.rangeFunc g ps assign body).wpIn Fence.wide n P Q a w := by
  refine wpIn_rangeFunc fun fn _ => ?_
  -- the loop's record at each of its states, and the two blocks that are laid
  let R : LoopState → Loop := fun st => { state := st, pending := none, fn, tmps := a.tmps, params := ps, assign, body, defers := w.heap.size }
  let B := w.heap.size
  let Held : LoopState → World → Prop := fun st W => W.heap[B + 1]? = some (.loop (R st)) ∧ W.heap[B]? = some (.deferred (some []))
  let W0 := (w.alloc (.deferred (some []))).alloc (.loop (R .ready))
  have hB0 : Held .ready W0 := by
    refine ⟨?_, (Below.heap_alloc _ _ _ (by simp [B])).trans (World.alloc_heap_new w _)⟩
    have := World.alloc_heap_new (w.alloc (.deferred (some []))) (.loop (R .ready))
    rwa [World.size_alloc] at this
  have hI0 : I 0 W0 := hI.alloc _ (hI.alloc _ h0)
  refine ⟨B + 1, [{ target := .collected B, args := #[] }], W0, { target := .fn (.func gf) lb, args := #[.func (.yield (B + 1)) #[] #[]] }, W0, gf, #[.func (.yield (B + 1)) #[] #[]] ++ lb, W0,
    run_enterLoop_outer _ _ _ _ _, ?_, fun f' _ => trivial, ?_, fun _ => h1, ?_⟩
  · simp only [resolve, hg]
    simp [go_sem]
  · simp [invoke, go_sem, eg]
  · -- a state's turn leaves what is said of I, and the other block
    have turn : ∀ {st W} (st'), Held st W → Held st' (W.putObj (B + 1) (.loop (R st'))) := fun st' h =>
      ⟨World.putObj_heap_same (Array.getElem?_eq_some_iff.1 h.1).1, (World.putObj_heap_other (by omega)).trans h.2⟩
    have kept : ∀ {st W W'}, Held st W → KeepsFrom B W W' → Held st W' := fun h k => ⟨k.same _ _ (by omega) h.1 rfl, k.same _ _ (Nat.le_refl _) h.2 rfl⟩
    refine (hseq (B + 1) (fun k W => I k W ∧ Held .ready W) W0 (fun _ _ h => h.1) ?_ ⟨hI0, hB0⟩).mono ?_
    · rintro k W hk ⟨hi, hh⟩
      refine ⟨fn, _, assign, body, run_yield hh.1 (hps k), roundIn_of_wpIn trivial (hassign _ k W _ hk hi fun a' Wa hka hia hax => ?_)⟩
      have hh2 := kept hh hka
      refine ⟨_, run_beginRound hh2.1 rfl, wpIn_mono (hbody _ k a' _ hk (hI.putObj _ hia (by omega) hh2.1 rfl) ((hAx a').putObj _ hax (by omega) hh2.1 rfl)) ?_⟩
      rintro e a3 W3 ⟨rfl, hk3, hi3⟩
      have hh3 := kept (turn .busy hh2) hk3
      exact ⟨_, _, run_endRound none hh3.1, rfl, hI.putObj _ hi3 (by omega) hh3.1 rfl, turn .ready hh3⟩
    · rintro e W2 ⟨⟨v, rfl⟩, hi, hh⟩
      exact ⟨none, _, run_endLoop hh.1 (by simp [R]), hdone _ _ (Nat.le_refl _) (hI.putObj _ hi (by omega) hh.1 rfl) ((World.putObj_heap_other (by omega)).trans hh.2)⟩
end Go.Rk
namespace Go.Rk
open Go.RowKit

/-- Where the rows of a matrix lie, and what lies at its place number k. -/
structure GridAt (n c b off : Nat) (D O C : Nat → Nat) (v : Nat → Nat → Int) (k : Nat) (W : World) : Prop where
  hdr : ∀ i, i < n → W.cell? ⟨b, off + i, none⟩ = some (.slice (some ⟨D i, O i, none⟩) c (C i))
  el : ∀ i j, i < n → j < c → i * c + j = k → W.cell? ⟨D i, O i + j, none⟩ = some (.int .i64 (v i j))

/-- What is yielded at place number k. -/
def encE (c : Nat) (v : Nat → Nat → Int) (k : Nat) : Array Value := #[.agg #[.int .i64 ((k / c : Nat) : Int), .int .i64 ((k % c : Nat) : Int)], .int .i64 (v (k / c) (k % c))]
theorem encE_at {c : Nat} {v : Nat → Nat → Int} {i j : Nat} (hj : j < c) : encE c v (i * c + j) = #[.agg #[.int .i64 (i : Int), .int .i64 (j : Int)], .int .i64 (v i j)] := by
  have h1 : (i * c + j) / c = i := by rw [Nat.mul_comm, Nat.mul_add_div (by omega), Nat.div_eq_of_lt hj, Nat.add_zero]
  have h2 : (i * c + j) % c = j := by rw [Nat.mul_comm, Nat.mul_add_mod, Nat.mod_eq_of_lt hj]
  unfold encE
  rw [h1, h2]
end Go.Rk
namespace Go.Proofs.YtkielldinghmbaaDoor
open Go.RowKit Go.Shelf Go.Rk
attribute [local go_sem] Oper.semAt_some

set_option maxRecDepth 100000 in
set_option maxHeartbeats 4000000 in
theorem each1_on (m : Nat) {n c b off cap Bm : Nat} {D O C : Nat → Nat} {v : Nat → Nat → Int} (hn : n ≤ 1000000) (hc : c ≤ 1000000) (I : Nat → World → Prop)
    (hI : ∀ k W, I k W → GridAt n c b off D O C v k W ∧ W.cell? ⟨Bm, 0, none⟩ = some (.slice (some ⟨b, off, none⟩) n cap)) :
    SeqOn m Tryd.prog 85 #[.pointer (some ⟨Bm, 0, none⟩)] (encE c v) I (n * c) := by
  intro l J W hJI hY h0
  have hBm := (hI _ _ (hJI _ _ h0)).2
  have HGI : Hid (∀ k W, J k W → GridAt n c b off D O C v k W) := fun k W h => (hI _ _ (hJI _ _ h)).1
  refine callsIn_of_wp Tryd.func85 rfl trivial ?_ rfl
  simp only [Tryd.ntmps85, List.size_toArray, List.length_cons, List.length_nil, Nat.reduceAdd, Nat.reduceSub, Array.replicate_succ, Array.replicate_zero, List.push_toArray, List.append_toArray, List.nil_append, List.cons_append]
  gi_wp2
  gi_loopw [9] (fun x wr => ∃ (i : Nat), i ≤ n ∧ x = .int .i64 i ∧ J (i * c) wr)
    (fun x _ => n - (intOf x).toNat)
  case atStart => exact ⟨0, Nat.zero_le _, rfl, by rw [Nat.zero_mul]; exact h0⟩
  case round =>
    obtain ⟨i, hi, rfl, hJ⟩ := hrel
    by_cases hlt : i < n
    · have y1 := (HGI.out _ _ hJ).hdr i hlt
      gi_wp2
      gi_loopw [16] (fun x wt => ∃ (j : Nat), j ≤ c ∧ x = .int .i64 j ∧ J (i * c + j) wt)
        (fun x _ => c - (intOf x).toNat)
      case atStart => exact ⟨0, Nat.zero_le _, rfl, hJ⟩
      case round =>
        clear hJ y1
        obtain ⟨j, hj, rfl, hJ⟩ := hrel
        by_cases hjc : j < c
        · have y2 := (HGI.out _ _ hJ).el i j hlt hjc rfl
          have hy0 := hY _ wr (place_lt hlt hjc) hJ
          rw [encE_at hjc] at hy0
          obtain ⟨fn, tmps, assign, body, hy, hR⟩ := hy0
          gi_wp2
          refine ⟨fun e => by simp [Fence.wide] at e, hR.mono ?_⟩
          rintro e W3 ⟨rfl, hJ3⟩
          gi_wp2
          go_roundw
          case rel => exact ⟨j + 1, by omega, by go_num, hJ3⟩
          case measure => simp [intOf]; omega
        · obtain rfl : j = c := by omega
          gi_wp2
          go_roundw
          case rel => exact ⟨i + 1, by omega, by go_num, by rw [Nat.add_mul, Nat.one_mul]; exact hJ⟩
          case measure => simp [intOf]; omega
    · obtain rfl : i = n := by omega
      gi_wp2
      go_end0
      exact ⟨⟨_, rfl⟩, hJ⟩
end Go.Proofs.YtkielldinghmbaaDoor
namespace Go.Proofs.YtkielldinghmbaaDoor
open Go.RowKit Go.Shelf Go.Rk
attribute [local go_sem] Oper.semAt_some

section
variable {a : Option Addr} {n ca : Nat} {A : List (List Int)} {w : World}
theorem inv_Of_err {x : Int} (hA : RdM w a n ca A) (hq : squareR 5 0 9972 A = some x) :
    Calls Tryd.prog 56 #[.slice a n ca] w fun e w' => e = .returned (.tuple #[.slice none 0 0, .iface 70 (.int .i64 x)]) ∧ w = w' := by
  have C := Lib.hid (det_Of_err hA hq)
  clear hq
  go_enter Tryd.func56, Tryd.ntmps56
  go_wp2_with (go_at_call 39; refine C.out.mono ?_; rintro e w' ⟨rfl, rfl⟩)
  go_ret2
  exact ⟨rfl, rfl⟩
theorem inv_Of_none (hA : RdM w a n ca A) (G : Good n n A) (hd : det n (mx A) % 9973 = 0) :
    Calls Tryd.prog 56 #[.slice a n ca] w fun e w' => e = .returned (.tuple #[.slice none 0 0, .iface 70 (.int .i64 5)]) ∧ Below w.heap.size w w' := by
  have C := det_Of_ok hA (squareR_of (lo := 0) (hi := 9972) (most := 5) G.n1.1 (by have := G.n1; omega) G.dm G.ent)
  rw [hd] at C
  have C := Lib.hid C
  clear hd
  go_enter Tryd.func56, Tryd.ntmps56
  go_wp2_with (go_at_call 39; refine C.out.mono ?_; rintro e w' ⟨rfl, hb⟩)
  go_ret2
  exact ⟨rfl, hb⟩

/-- The inverse's numbers. -/
def invE (n : Nat) (A : List (List Int)) (i j : Nat) : Int := adj n (mx A) i j % 9973 * powm (det n (mx A) % 9973) 9971 % 9973

set_option maxRecDepth 100000 in
set_option maxHeartbeats 4000000 in
theorem inv_Of_ok (hA : RdM w a n ca A) (G : Good n n A) (hd : det n (mx A) % 9973 ≠ 0) :
    Calls Tryd.prog 56 #[.slice a n ca] w fun e w' => ∃ a' cap' P, e = .returned (.tuple #[.slice a' n cap', .nilIface]) ∧ OwM w' w.heap.size 32 3 a' n cap' P ∧ IsR n n P (invE n A) ∧ Below w.heap.size w w' := by
  have HM := Lib.hid matTy
  have HG := Lib.hid G
  have hn := G.n1
  have C := Lib.hid (det_Of_ok hA (squareR_of (lo := 0) (hi := 9972) (most := 5) hn.1 (by omega) G.dm G.ent))
  clear G
  obtain ⟨d, hd2⟩ : ∃ d, d = det n (mx A) % 9973 := ⟨_, rfl⟩
  rw [← hd2] at C hd
  have bd : 0 ≤ d ∧ d ≤ 9972 := by omega
  have z1 : (d == 0) = false := beq_eq_false_iff_ne.2 hd
  have HD := Lib.hid hd2
  clear hd hd2
  refine (callsIn_wide (n := 6)).1 ?_
  refine callsIn_of_wp_marks Tryd.func56 rfl trivial ?_ rfl
  simp only [Tryd.ntmps56, List.size_toArray, List.length_cons, List.length_nil, Nat.reduceAdd, Nat.reduceSub, Array.replicate_succ, Array.replicate_zero, List.push_toArray, List.append_toArray, List.nil_append, List.cons_append]
  refine wpIn_wide.2 ?_
  obtain ⟨O, hO⟩ : ∃ O, powm d 9971 = O := ⟨_, rfl⟩
  have bO : 0 ≤ O ∧ O ≤ 9972 := by rw [← hO]; unfold powm; omega
  have CO := Over_any d
  rw [hO] at CO
  have CO := Lib.hid CO
  have HO := Lib.hid hO
  clear hO
  go_wp2_with (first | (go_at_call 39; (with_reducible refine C.out.mono ?_); rintro e w1 ⟨rfl, k1⟩) | (go_at_call 43; refine (Adj_ok (hA.below k1) HG.out).mono ?_; rintro e w2 ⟨a2, c2, P0, rfl, ho2, hP0, b2⟩; obtain ⟨g, D, Cp, hz, hd2⟩ := ho2.named (by omega) (fun r hr => by rw [hP0.1.2 r hr]; omega); cases hz; have k2 := below_tr k1 b2) | (go_at_call 74; (with_reducible refine (CO.out _ bd.1 bd.2).mono ?_); rintro e w4 ⟨rfl, rfl⟩) | (go_at_call 65; fail))
  have hlow : Hid (g < w2.heap.size ∧ ∀ i, i < n → D i < w2.heap.size) := ⟨hd2.lowO.2, fun i hi => (hd2.lowI hi).2⟩
  have hd4 := ((hd2.mono k1.size).alloc (.cells #[.slice (some ⟨g, 0, none⟩) n c2] 22)).alloc (.cells #[.int .i64 O] 3)
  have k3 := k2.alloc k2.size (.cells #[.slice (some ⟨g, 0, none⟩) n c2] 22)
  have k4 := k3.alloc k3.size (.cells #[.int .i64 O] 3)
  have px : ((w2.alloc (.cells #[.slice (some ⟨g, 0, none⟩) n c2] 22)).alloc (.cells #[.int .i64 O] 3)).cell? ⟨w2.heap.size, 0, none⟩ = some (.slice (some ⟨g, 0, none⟩) n c2) := alloc_keep (by simp)
  have py : ((w2.alloc (.cells #[.slice (some ⟨g, 0, none⟩) n c2] 22)).alloc (.cells #[.int .i64 O] 3)).cell? ⟨w2.heap.size + 1, 0, none⟩ = some (.int .i64 O) := by simp
  have hPO : Hid (g < w2.heap.size + 1 ∧ ∀ i, i < n → D i < w2.heap.size + 1) := ⟨by have := hlow.out.1; omega, fun i hi => by have := hlow.out.2 i hi; omega⟩
  clear C CO b2 ho2 k3 hd2 hlow
  generalize ((w2.alloc (.cells #[.slice (some ⟨g, 0, none⟩) n c2] 22)).alloc (.cells #[.int .i64 O] 3)) = W4 at *
  have hPQ : Hid (w2.heap.size + 1 ≠ w2.heap.size) := Nat.succ_ne_self _
  have hlow1 : Hid (∀ i, i < n → D i ≠ w2.heap.size + 1) := fun i hi e => by have := hPO.out.2 i hi; omega
  clear hPO
  generalize w2.heap.size = PO at *
  generalize PO + 1 = PV at *
  refine (callsIn_wide.1 (each_in 0 (some ⟨g, 0, none⟩) n c2 W4)).mono ?_
  rintro e w' ⟨rfl, rfl⟩
  go_wp2_with fail
  refine (wpIn_wide (n := 6)).1 ?_
  have hd5 := hd4.alloc (.cells #[.slice (some ⟨g, 0, none⟩) n c2] 22)
  have hBm : (W4.alloc (.cells #[.slice (some ⟨g, 0, none⟩) n c2] 22)).cell? ⟨W4.heap.size, 0, none⟩ = some (.slice (some ⟨g, 0, none⟩) n c2) := by simp
  have k5 := k4.alloc k4.size (.cells #[.slice (some ⟨g, 0, none⟩) n c2] 22)
  have q5 := alloc_keep (o := .cells #[.slice (some ⟨g, 0, none⟩) n c2] 22) px
  have r5 := alloc_keep (o := .cells #[.slice (some ⟨g, 0, none⟩) n c2] 22) py
  have h5w := k5.size
  clear px py k4 hd4
  let V : Nat → Nat → Int := fun i j => adj n (mx A) i j % 9973
  let I : Nat → World → Prop := fun k W => (∃ P, OwMD W w.heap.size 32 3 g D Cp n c2 P ∧ Dm n n P ∧ ∀ i j, i < n → j < n → en P i j = if i * n + j < k then V i j * O % 9973 else V i j) ∧ W.cell? ⟨PO, 0, none⟩ = some (.slice (some ⟨g, 0, none⟩) n c2) ∧ W.cell? ⟨PV, 0, none⟩ = some (.int .i64 O) ∧ W.cell? ⟨W4.heap.size, 0, none⟩ = some (.slice (some ⟨g, 0, none⟩) n c2) ∧ Below w.heap.size w W
  refine range_on (n := 6) (by decide) (gf := 85) (lb := #[.pointer (some ⟨W4.heap.size, 0, none⟩)]) rfl (enters_of Tryd.func85 (by kernel_rfl) rfl) (encs := encE n V) (N := n * n) (fun _ => rfl) I
    (fun k X Y row hs hgr hr => ⟨let ⟨P, e1, e2, e3⟩ := hs.1; ⟨P, e1.passes hgr (fun r e => (hr r e).2), e2, e3⟩, cell_kept hs.2.1 hgr (fun r e => (hr r e).2), cell_kept hs.2.2.1 hgr (fun r e => (hr r e).2), cell_kept hs.2.2.2.1 hgr (fun r e => (hr r e).2), hs.2.2.2.2.grown hgr hs.2.2.2.2.size (fun r e => Nat.le_trans h5w (hr r e).1)⟩)
    (each1_on 5 (n := n) (c := n) (v := V) (D := D) (O := fun _ => 0) (C := Cp) (b := g) (off := 0) (cap := c2) (by omega) (by omega) I fun k W h => ⟨let ⟨P, e1, e2, e3⟩ := h.1; ⟨fun i hi => by rw [Nat.zero_add, ← e2.2 i hi]; exact e1.cellO hi, fun i j hi hj hk => by rw [Nat.zero_add, e1.cellI hi (by rw [e2.2 i hi]; exact hj), e3 i j hi hj, if_neg (by omega)]⟩, h.2.2.2.1⟩)
    ⟨⟨P0, hd5, hP0.1, fun i j hi hj => by rw [if_neg (Nat.not_lt_zero _)]; exact hP0.2 i j hi hj⟩, q5, r5, hBm, k5⟩
    (fun k a' W => ∃ Bx, W.cell? ⟨Bx, 0, none⟩ = some (.int .i64 ((k / n : Nat) : Int)) ∧ W.cell? ⟨Bx, 1, none⟩ = some (.int .i64 ((k % n : Nat) : Int)) ∧ a' = { tmps := #[Value.slice a n ca, undef, Value.slice none 0 0, Value.nilIface, Value.int IntKind.i64 d, Value.nilIface, Value.pointer (some { block := PO, off := 0 }), Value.nilIface, Value.pointer (some { block := PV, off := 0 }), Value.pointer (some { block := Bx, off := 0 }), .int .i64 (V (k / n) (k % n)), Value.tuple #[Value.int IntKind.i64 d, Value.nilIface], Value.slice a n ca, Value.tuple #[Value.int IntKind.i64 d, Value.nilIface], Value.int IntKind.i64 d, Value.nilIface, Value.nilIface, Value.bool false, undef, Value.int IntKind.i64 d, Value.bool false, undef, Value.tuple #[Value.slice (some { block := g, off := 0 }) n c2, Value.nilIface], Value.slice a n ca, Value.tuple #[Value.slice (some { block := g, off := 0 }) n c2, Value.nilIface], Value.slice (some { block := g, off := 0 }) n c2, Value.nilIface, Value.int IntKind.i64 d, Value.int IntKind.i64 O, Value.slice (some { block := g, off := 0 }) n c2, Value.func (.func 85) #[] #[Value.pointer (some { block := W4.heap.size, off := 0 })], .agg #[.int .i64 ((k / n : Nat) : Int), .int .i64 ((k % n : Nat) : Int)], .int .i64 (V (k / n) (k % n)), undef, undef, undef, undef, undef, undef, undef, undef, undef, undef, undef, undef, undef], defers := [] })
    (fun a' k X Y row hs hgr hr => let ⟨Bx, e1, e2, e3⟩ := hs; ⟨Bx, cell_kept e1 hgr (fun r e => (hr r e).2), cell_kept e2 hgr (fun r e => (hr r e).2), e3⟩)
    ?assign ?body ?done
  case assign =>
    rintro l k W K hk ⟨⟨P, e1, e2, e3⟩, c3, c4, c5, hbW⟩ hK
    dsimp only [encE]
    gi_wp2
    exact hK _ _ ((KeepsOthers.alloc _ _).from _) ⟨⟨P, e1.alloc _, e2, e3⟩, alloc_keep c3, alloc_keep c4, alloc_keep c5, hbW.alloc hbW.size _⟩ ⟨W.heap.size, by simp, by simp, rfl⟩
  case body =>
    rintro l k a' W hk ⟨⟨P, e1, e2, e3⟩, c3, c4, c5, hbW⟩ ⟨Bx, y1, y2, rfl⟩
    clear hBm q5 r5 hd5
    obtain ⟨i, hi0⟩ : ∃ i, i = k / n := ⟨_, rfl⟩
    obtain ⟨j, hj0⟩ : ∃ j, j = k % n := ⟨_, rfl⟩
    have hkk : Hid (k = i * n + j) := by unfold Hid; rw [hi0, hj0]; exact (Nat.div_add_mod' k n).symm
    have hi : i < n := by rw [hi0]; exact Nat.div_lt_of_lt_mul hk
    have hj : j < n := by rw [hj0]; exact Nat.mod_lt _ (by omega)
    have bV : 0 ≤ V i j ∧ V i j ≤ 9972 := by show 0 ≤ _ % 9973 ∧ _ % 9973 ≤ 9972; omega
    simp only [← hi0, ← hj0] at y1 y2 ⊢
    clear hi0 hj0 hk
    have a1 := e1.cellO hi
    have a2 := e1.cellI hi (j := j) (by rw [e2.2 i hi]; exact hj)
    have a3 := e1.frozenI hi (by rw [e2.2 i hi]; omega) j
    rw [e2.2 i hi] at a1
    have i1 : (i : Int) < (n : Int) := by omega
    have i2 : (j : Int) < (n : Int) := by omega
    obtain ⟨x, hx⟩ : ∃ x, V i j = x := ⟨_, rfl⟩
    rw [hx] at bV ⊢
    have HX := Lib.hid hx
    clear hx
    have bm := mul_bd bV bO
    have u1 : IntKind.i64.wrap (x * O) = x * O := Go.IntWalk.i64_in _ (by omega)
    have u2 : (x * O).tmod 9973 = x * O % 9973 := Int.tmod_eq_emod_of_nonneg (by omega)
    gi_wp2
    refine region_round_tail 12 (by kernel_rfl) (by kernel_rfl) (fun ⟨_, _, h⟩ => nomatch (show Exit.outgrown = Exit.normal from h.1)) (by kernel_rfl) ?_
    simp only [List.take_succ_cons, List.take_zero, List.drop_succ_cons, List.drop_zero]
    repeat still_step
    refine wpStill_nil ?_
    change wpList _ _ _ _ _ W.drew
    go_wp2
    refine ⟨((KeepsOthers.setCell _ _ _).trans (KeepsOthers.drew _)).from _, ⟨_, (e1.set matTy.ne hi _).drew, e2.setE _ _ _, fun r s hr hs => ?_⟩, set_keepS c3 a2, set_keep c4 (fun e => hlow1.out i hi e.symm), set_keepS c5 a2, (hbW.setCell (p := ⟨D i, j, none⟩) (e1.lowI hi).1 _).drew⟩
    rw [e2.en_set _ hr hs, e3 r s hr hs, hkk.out]
    have hrs : i = r ∧ j = s ↔ r * n + s = i * n + j := ⟨fun ⟨e1, e2⟩ => by rw [e1, e2], fun e => ?_⟩
    · by_cases h1 : i = r ∧ j = s
      · rw [if_pos h1, if_pos (by have := hrs.1 h1; omega), ← h1.1, ← h1.2, HX.out]
      · have h2 : r * n + s ≠ i * n + j := fun e => h1 (hrs.2 e)
        rw [if_neg h1]
        by_cases h3 : r * n + s < i * n + j
        · rw [if_pos h3, if_pos (by omega)]
        · rw [if_neg h3, if_neg (by omega)]
    · have q1 : (r * n + s) / n = r := by rw [Nat.mul_comm, Nat.mul_add_div (by omega), Nat.div_eq_of_lt hs, Nat.add_zero]
      have q2 : (i * n + j) / n = i := by rw [Nat.mul_comm, Nat.mul_add_div (by omega), Nat.div_eq_of_lt hj, Nat.add_zero]
      have q3 : (r * n + s) % n = s := by rw [Nat.mul_comm, Nat.mul_add_mod, Nat.mod_eq_of_lt hs]
      have q4 : (i * n + j) % n = j := by rw [Nat.mul_comm, Nat.mul_add_mod, Nat.mod_eq_of_lt hj]
      exact ⟨by rw [← q1, ← q2, e], by rw [← q3, ← q4, e]⟩
  case done =>
    rintro Dd W hDd ⟨⟨P, e1, e2, e3⟩, c3, c4, c5, hbW⟩ hK
    go_wp2
    refine ⟨by simp, .inl ⟨_, _, rfl, run_takeDeferred hK, ?_⟩⟩
    have hgr := grownBy_putObj' W Dd (.deferred none)
    have hno : ∀ r, some Dd = some r → ∃ o : Obj, W.heap[r]? = some o ∧ o.isCells = false := fun r e => by cases e; exact ⟨_, hK, rfl⟩
    exact ⟨_, results_tmp2 rfl _ _ _, _, _, P, rfl, (e1.passes hgr hno).toM, ⟨e2, fun i j hi hj => by rw [e3 i j hi hj, if_pos (place_lt hi hj)]; unfold invE; rw [← HD.out, HO.out]⟩, hbW.grown hgr hbW.size (fun r e => by cases e; exact Nat.le_trans h5w hDd)⟩
end
end Go.Proofs.YtkielldinghmbaaDoor
namespace Go.Proofs.YtkielldinghmbaaDoor
open Go.RowKit Go.Rk

theorem topOne {P : List (List Int)} {ps : List Int} (h : GInv 1 1 (mx [[3]]) 1 P ps) : ps.length = 1 :=
  (h.st.full h.made h.back).2 (by unfold Eqm; decide)

section
variable {a : Option Addr} {n ca : Nat} {A : List (List Int)} {w : World}
set_option maxHeartbeats 4000000 in
set_option maxRecDepth 100000 in
theorem topRank_one {x : Option Addr} {k c : Nat} {w0 : World} (hb : Below w.heap.size w w0) (hk : k = 1) (hc : c = 1) {p q : Nat} (hx : x = some ⟨p, 0, none⟩) (h0 : w0.cell? ⟨p, 0, none⟩ = some (.slice (some ⟨q, 0, none⟩) 1 1)) (h1 : w0.cell? ⟨q, 0, none⟩ = some (.int .i64 3)) :
    Calls Tryd.prog 33 #[.slice x k c] w0 fun e w' => e = .returned (.tuple #[.int .i64 1, .nilIface]) ∧ Below w.heap.size w w' := by
  subst hk hc hx
  have G : Good 1 1 [[3]] := Good.of (n := 1) (M := [[3]]) rfl (by decide)
  have hM : RdM w0 (some ⟨p, 0, none⟩) 1 1 [[3]] := by
    refine ⟨rfl, Nat.le_refl _, by decide, fun k hk => ?_⟩
    obtain rfl : k = 0 := by omega
    exact ⟨p, 0, some ⟨q, 0, none⟩, 1, 1, rfl, h0, RdI.one h1 (Nat.le_refl _) (by decide)⟩
  refine (Rank_ok hM G).mono ?_
  rintro e w' ⟨P, ps, rfl, hi, hb2⟩
  rw [topOne hi]
  exact ⟨rfl, below_tr hb hb2⟩

set_option maxHeartbeats 4000000 in
set_option maxRecDepth 100000 in
theorem topRank_walk (hg : ErrT w) (hA : RdM w a n ca A) (_ : ∀ r ∈ A, Fit r) :
    Calls Tryd.prog 15 #[.slice a n ca] w fun e w' => e = .returned (.bool true) ∧ Below w.heap.size w w' := by
  have lm := hA.len_max
  rcases hq : squareR 5 0 9972 A with _ | x
  · obtain ⟨g1, g2⟩ := squareR_grounds hq
    have GA := Good.of hA.len_eq g1
    rw [g2, hA.len_eq] at GA
    have HGA := Lib.hid GA
    have C := Lib.hid (det_Of_ok hA hq)
    have n1 := GA.n1
    clear hq g1 g2 GA
    obtain ⟨d, hd⟩ : ∃ d, d = det n (mx A) % 9973 := ⟨_, rfl⟩
    rw [← hd] at C
    have HD := Lib.hid hd
    clear hd
    go_enter Tryd.func15, Tryd.ntmps15
    go_wp2_with (first | (go_at_call 39; (with_reducible refine C.out.mono ?_); rintro e w1 ⟨rfl, k1⟩) | (go_at_call 33; fail))
    clear C
    refine (topRank_one (w := w) (below_al (below_al k1 _) _) rfl rfl rfl (p := w1.heap.size + 1) (q := w1.heap.size) (by simp [go_sem]) (by simp [go_sem])).mono ?_
    rintro e w2 ⟨rfl, k2⟩
    clear k1
    go_wp2_with (go_at_call 33; fail)
    refine (Rank_ok (hA.below k2) HGA.out).mono ?_
    rintro e w3 ⟨P, ps, rfl, hi, b3⟩
    have k3 := below_tr k2 b3
    have HI := Lib.hid hi
    have hfull : ps.length = n ↔ d ≠ 0 := by
      rw [HD.out]
      exact hi.st.full hi.made hi.back
    have hle := hi.st.le
    clear b3 k2 hi
    go_wp2_with (go_at_call 49; fail)
    refine (Null_ok (hA.below k3) HGA.out).mono ?_
    rintro e w4 ⟨al, cl, L, P2, ps2, rfl, _, hi2, hN, b4⟩
    have k4 := below_tr k3 b4
    have hcount := free_count hi2.st hi2.pos
    have hL := hN.len
    have hsame : ps.length = ps2.length := HI.out.st.same_rank hi2.st (HI.out.back.trans hi2.made) (hi2.back.trans HI.out.made)
    obtain ⟨N, hNl⟩ : ∃ N, N = L.length := ⟨_, rfl⟩
    rw [← hNl] at hL ⊢
    obtain ⟨r, hr⟩ : ∃ r, r = ps.length := ⟨_, rfl⟩
    rw [← hr] at hfull hle hsame ⊢
    have hn0 : N + r = n := by omega
    clear b4 k3 hi2 hN hL hcount hsame HI hNl hr
    go_wp2_with (go_at_call 56; fail)
    by_cases hd : d = 0
    · have h1 : r ≠ n := fun e => hfull.1 e hd
      have z1 : ((r : Int) == (n : Int)) = false := beq_eq_false_iff_ne.2 (by omega)
      have z2 : (d != 0) = false := bne_eq_false_iff_eq.2 hd
      have z3 : ((N : Int) == 0) = false := beq_eq_false_iff_ne.2 (by omega)
      refine (inv_Of_none (hA.below k4) HGA.out (by rw [← HD.out]; exact hd)).mono ?_
      rintro e w5 ⟨rfl, b5⟩
      have k5 := below_tr k4 b5
      clear b5 k4 hd h1 hfull hn0
      go_wp2_with (go_at_call 17; fail)
      refine (E_same (hg.below k5)).mono ?_
      rintro e w6 ⟨rfl, b6⟩
      have k6 := below_tr k5 b6
      go_wp2
      go_ret
      exact ⟨rfl, k6⟩
    · have h1 : r = n := hfull.2 hd
      have z1 : ((r : Int) == (n : Int)) = true := beq_iff_eq.2 (by omega)
      have z2 : (d != 0) = true := bne_iff_ne.2 hd
      have z3 : ((N : Int) == 0) = true := beq_iff_eq.2 (by omega)
      refine (inv_Of_ok (hA.below k4) HGA.out (by rw [← HD.out]; exact hd)).mono ?_
      rintro e w5 ⟨aX, cX, X, rfl, _, _, b5⟩
      have k5 := below_tr k4 b5
      clear b5 k4 hd h1 hfull hn0
      go_wp2
      go_ret
      exact ⟨rfl, k5⟩
  · have C := Lib.hid (det_Of_err hA hq)
    clear hq
    go_enter Tryd.func15, Tryd.ntmps15
    go_wp2_with (first | (go_at_call 39; (with_reducible refine C.out.mono ?_); rintro e w1 ⟨rfl, rfl⟩) | (go_at_call 33; fail))
    refine (topRank_one (w := w) (below_al (below_al (Below.refl _ w) _) _) rfl rfl rfl (p := w.heap.size + 1) (q := w.heap.size) (by simp [go_sem]) (by simp [go_sem])).mono ?_
    rintro e w2 ⟨rfl, k2⟩
    go_wp2
    go_ret
    exact ⟨rfl, k2⟩
end
end Go.Proofs.YtkielldinghmbaaDoor
