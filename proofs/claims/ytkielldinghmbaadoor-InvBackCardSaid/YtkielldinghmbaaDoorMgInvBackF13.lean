/-
  mat.one, mat.One and mat.Pow walked.
  A matrix without a row and a column; num.Cut walked.
  What goes together, for the statements on matrices.
  mat.Pow where something is wrong; the closed fact of the statements on matrices.
  minors.of, minors.Of, minors.Adj walked.
  A range over a function whose body always goes on, and where what is yielded may hang on what the rounds ahead have done: the caller's word (of how many rounds are over) tells the iterator what it reads. No program in sight.
  num.Each once more: a range over all places of a matrix whose numbers the loop's body may turn, so long as each number lies as it lay when its place is come to.
  inv.Of walked: what is wrong, or the inverse by the adjugate.
  invFact walked: what the statements on inverses ask first.
  Inverses by the prime: the adjugate's gives one, there is but one, products turn round. No program in sight.
  The reference's Matrix, Square, Without and DetMod walked.
  What the statements on whole packages use again and again: the reference's Field, and rows and matrices that are the same.
  InvBack walked: what undoes undoes from either side, and is undone by what it undoes.
-/
import Derived.Test.YtkielldinghmbaaDoorRows
import Derived.StillTailTactics
import Derived.Deep.QuietTactic
import Derived.BigQuiet
import Derived.RangeFuncNested
import Derived.RangeFuncCalls
import Derived.Deep.RegionHeld3
import Derived.Test.YtkielldinghmbaaDoorMgInvBackF0
import Derived.Test.YtkielldinghmbaaDoorMgInvBackF3
import Derived.Test.YtkielldinghmbaaDoorMgInvBackF4
import Derived.Test.YtkielldinghmbaaDoorMgInvBackF7
import Derived.Test.YtkielldinghmbaaDoorMgInvBackF8
import Derived.Test.YtkielldinghmbaaDoorMgInvBackF9
import Derived.Test.YtkielldinghmbaaDoorMgInvBackF10
import Derived.Test.YtkielldinghmbaaDoorMgInvBackF12
namespace Go.Proofs.YtkielldinghmbaaDoor
open Go.RowKit Go.Rk

set_option maxHeartbeats 1000000 in
theorem one_any (n : Nat) (w : World) (h1 : 1 ≤ n) (h2 : n ≤ 1000) :
    Calls Tryd.prog 71 #[.int .i64 n] w fun e w' => ∃ a' cap' P, e = .returned (.slice a' n cap') ∧ OwM w' w.heap.size 32 3 a' n cap' P ∧ IsR n n P oneM ∧ Below w.heap.size w w' := by
  go_enter Tryd.func71, Tryd.ntmps71
  go_wp2_with (go_at_call 64; refine (Grid_any n n _ (by omega) (by omega)).mono ?_; rintro e w3 ⟨a3, cap3, rfl, ho3, hb3⟩)
  obtain ⟨g, D, C, hz, hd3⟩ := ho3.named (by omega) fun r hr => by rw [(Dm.replicate n n 0).2 r hr]; omega
  cases hz
  have h0 : ∀ i j, i < n → j < n → en (List.replicate n (List.replicate n (0 : Int))) i j = 0 := fun i j hi hj => by
    unfold en
    rw [rowOf_lt (by simp; exact hi), ix_lt (by simp; exact hj)]
    simp
  clear ho3
  go_loopw [10] (fun v wr => ∃ (k : Nat) (P : List (List Int)), k ≤ n ∧ v = .int .i64 k ∧ OwMD wr w.heap.size 32 3 g D C n cap3 P ∧ Hid (IsR n n P (fun i j => if i = j ∧ i < k then 1 else 0)) ∧ Below w.heap.size w wr) (fun v _ => n - (intOf v).toNat)
  case atStart => exact ⟨0, _, Nat.zero_le _, rfl, hd3, ⟨Dm.replicate n n 0, fun i j hi hj => by rw [h0 i j hi hj]; simp⟩, hb3⟩
  case round =>
    obtain ⟨k, P, hk, rfl, hd, hi, hb⟩ := hrel
    by_cases hlt : k < n
    · have a1 := hd.cellO hlt
      have a2 := hd.cellI hlt (j := k) (by rw [hi.out.1.2 k hlt]; exact hlt)
      have a3 := hd.frozenI hlt (by rw [hi.out.1.2 k hlt]; omega) k
      rw [hi.out.1.2 k hlt] at a1
      have b1 : (k : Int) < (n : Int) := by omega
      go_wp2
      go_roundw
      case rel => exact ⟨k + 1, _, by omega, by go_num, hd.set matTy.ne hlt 1, ⟨hi.out.1.setE _ _ _, fun i j h3 h4 => by
        rw [hi.out.1.en_set _ h3 h4]
        by_cases e : k = i ∧ k = j
        · rw [if_pos e]; dsimp only; rw [if_pos ⟨by omega, by omega⟩]
        · rw [if_neg e, hi.out.2 i j h3 h4]; dsimp only
          by_cases e2 : i = j ∧ i < k
          · rw [if_pos e2, if_pos ⟨e2.1, by omega⟩]
          · rw [if_neg e2, if_neg fun e3 => by omega]⟩, hb.setCell (p := ⟨D k, k, none⟩) (hd.lowI hlt).1 _⟩
      case measure => simp [intOf]; omega
    · obtain rfl : k = n := by omega
      go_wp2
      go_ret
      exact ⟨_, cap3, P, rfl, hd.toM, hi.out.congr fun i j h3 h4 => by
        unfold oneM
        by_cases e : i = j
        · simp only [e, if_true]; rw [if_pos ⟨trivial, by omega⟩]
        · simp [e], hb⟩

theorem One_any (n : Nat) (w : World) (h1 : 1 ≤ n) (h2 : n ≤ 5) :
    Calls Tryd.prog 29 #[.int .i64 n] w fun e w' => ∃ a' cap' P, e = .returned (.tuple #[.slice a' n cap', .nilIface]) ∧ OwM w' w.heap.size 32 3 a' n cap' P ∧ IsR n n P oneM ∧ Below w.heap.size w w' := by
  have HO : Hid (outB (n : Int) 1 5 = false) := by unfold Hid outB; simp; omega
  go_enter Tryd.func29, Tryd.ntmps29
  go_wp2_with (first | (go_at_call 70; refine (out_any _ _ _ _).mono ?_; rintro e w' ⟨rfl, rfl⟩; rw [HO.out]) | (go_at_call 71; refine (one_any n _ h1 (by omega)).mono ?_; rintro e w3 ⟨a3, cap3, P, rfl, ho3, hi3, hb3⟩))
  go_ret2
  exact ⟨a3, cap3, P, rfl, ho3, hi3, hb3⟩

theorem mulE_sq {n : Nat} {X Y P : List (List Int)} (h : IsR n n P (fun i j => mulE X Y n i j % 9973)) : (Dm n n P ∧ EntR 0 9972 n n P) ∧ EqM n n (mx P) (mulM n (mx X) (mx Y)) :=
  ⟨⟨h.1, fun i j hi hj => by rw [h.2 i j hi hj]; dsimp only; omega⟩, fun i j hi hj => by
    show Eqm (en P i j) _
    rw [h.2 i j hi hj]
    exact Eqm.mod _⟩

/-- What is wrong with a power. -/
def powErr (A : List (List Int)) (e : Int) : Option Int :=
  match squareR 5 0 9972 A with
  | some x => some x
  | none => if outB e 0 1000 then some 1 else none

set_option maxRecDepth 100000 in
set_option maxHeartbeats 2000000 in
theorem Pow_ok {a : Option Addr} {n ca e : Nat} {A : List (List Int)} {w : World} (hA : RdM w a n ca A) (hq : squareR 5 0 9972 A = none) (he : e ≤ 1000) :
    Calls Tryd.prog 28 #[.slice a n ca, .int .i64 e] w fun x w' => ∃ a' cap' P, x = .returned (.tuple #[.slice a' n cap', .nilIface]) ∧ OwM w' w.heap.size 32 3 a' n cap' P ∧ IsR n n P (fun i j => powM n (mx A) e i j % 9973) ∧ Below w.heap.size w w' := by
  obtain ⟨g1, g2⟩ := squareR_grounds hq
  have C1 := Lib.hid (mat_Check_is hA g1)
  have e1 := hA.len_eq
  obtain ⟨n1, _, dA, eA⟩ := grounds_dm e1 g1
  rw [e1] at g2
  rw [g2] at dA eA
  have HO : Hid (outB (e : Int) 0 1000 = false) := by unfold Hid outB; simp; omega
  have z1 : ((n : Int) != (n : Int)) = false := bne_eq_false_iff_eq.2 rfl
  obtain ⟨ba, oa, hz, _, hra⟩ := hA.at (k := 0) (by omega)
  subst hz
  obtain ⟨ai, ci, hc0, _⟩ := hra 0 (by omega)
  rw [Nat.add_zero, g2] at hc0
  have b1 : (0 : Int) < (n : Int) := by omega
  have b2 : (1 : Int) ≤ (n : Int) := by omega
  have HD := Lib.hid dA
  have HE := Lib.hid eA
  clear hq g1 g2 hra dA eA
  go_enter Tryd.func28, Tryd.ntmps28
  go_wp2_with (first | (go_at_call 18; (with_reducible refine C1.out.mono ?_); rintro e w' ⟨rfl, rfl⟩; simp only [errV]) | (go_at_call 70; refine (out_any _ _ _ _).mono ?_; rintro e w' ⟨rfl, rfl⟩; rw [HO.out]) | (go_at_call 71; refine (one_any n _ n1.1 (by omega)).mono ?_; rintro e w3 ⟨a3, cap3, P3, rfl, ho3, hi3, hb3⟩) | (go_at_call 67; fail))
  have C4 := Lib.hid (Copy_any (hA.below hb3) (by omega) fun r hr => by rw [HD.out.2 r hr]; omega)
  (with_reducible refine C4.out.mono ?_)
  clear C4
  rintro x w4 ⟨a4, cap4, rfl, ho4, hb4⟩
  have k4 := hb3.trans (hb4.mono hb3.size)
  have ho3 := ho3.below hb4
  have ho4 := ho4.mono hb3.size
  clear hb4
  go_wp2
  go_loopw [1, 7, 8] (fun ve vo vb wr => ∃ (e' : Nat) (ao ab : Option Addr) (co cb : Nat) (X Y : List (List Int)), e' ≤ e ∧ ve = .int .i64 e' ∧ vo = .slice ao n co ∧ vb = .slice ab n cb ∧ OwM wr w.heap.size 32 3 ao n co X ∧ OwM wr w.heap.size 32 3 ab n cb Y ∧
    Hid (Dm n n X ∧ EntR 0 9972 n n X) ∧ Hid (Dm n n Y ∧ EntR 0 9972 n n Y) ∧ Hid (EqM n n (mulM n (mx X) (powM n (mx Y) e')) (powM n (mx A) e)) ∧ Below w.heap.size w wr) (fun ve _ _ _ => (intOf ve).toNat)
  case atStart =>
    refine ⟨e, a3, a4, cap3, cap4, P3, A, Nat.le_refl _, rfl, rfl, rfl, ho3, ho4, ⟨hi3.1, fun i j hi hj => ?_⟩, ⟨HD.out, HE.out⟩, ?_, k4⟩
    · rw [hi3.2 i j hi hj]
      unfold oneM
      split <;> omega
    · intro i j hi hj
      refine (EqM.mul (n := n) (A' := oneM) (fun i j hi hj => Eqm.of_eq (hi3.2 i j hi hj)) (EqM.refl n n _) i j hi hj).trans (Eqm.of_eq (one_mulM _ hi j))
  case round =>
    obtain ⟨e', ao, ab, co, cb, X, Y, he', rfl, rfl, rfl, hX, hY, HX, HY, HI, hb⟩ := hrel
    by_cases h0 : 0 < e'
    · rcases Nat.mod_two_eq_zero_or_one e' with hp | hp
      · have hp' : ((e' : Int) % 2 == 1) = false := by simp; omega
        have Hp := Lib.hid hp
        have C5 := Lib.hid (mul_any hY.rd hY.rd HY.out.1 HY.out.1 HY.out.2 HY.out.2 ⟨n1.1, by omega⟩ ⟨n1.1, by omega⟩ ⟨n1.1, by omega⟩)
        clear hp
        go_wp2_with (go_at_call 69; fail)
        (with_reducible refine C5.out.mono ?_)
        clear C5
        rintro x w5 ⟨a5, cap5, P, rfl, ho5, hi5, hb5⟩
        have HP := Lib.hid (mulE_sq hi5)
        have hX5 := hX.below hb5
        have k5 := hb.trans (hb5.mono hb.size)
        go_wp2
        go_roundw
        case rel => exact ⟨e' / 2, ao, a5, co, cap5, X, P, by omega, by go_num, rfl, rfl, hX5, ho5.mono hb.size, HX, HP.out.1, by
          refine EqM.trans ?_ HI.out
          refine (EqM.mul (EqM.refl _ _ _) (powM_congr HP.out.2 _)).trans ((pow_even _ _ _).trans ?_)
          rw [show 2 * (e' / 2) = e' by have := Hp.out; omega]
          exact EqM.refl _ _ _, k5⟩
        case measure => simp [intOf]; omega
      · have hp' : ((e' : Int) % 2 == 1) = true := by simp; omega
        have Hp := Lib.hid hp
        have C5 := Lib.hid (mul_any hX.rd hY.rd HX.out.1 HY.out.1 HX.out.2 HY.out.2 ⟨n1.1, by omega⟩ ⟨n1.1, by omega⟩ ⟨n1.1, by omega⟩)
        clear hp
        go_wp2_with (go_at_call 69; fail)
        (with_reducible refine C5.out.mono ?_)
        clear C5
        rintro x w5 ⟨a5, cap5, P, rfl, ho5, hi5, hb5⟩
        have HP := Lib.hid (mulE_sq hi5)
        have hY5 := hY.below hb5
        have k5 := hb.trans (hb5.mono hb.size)
        have C6 := Lib.hid (mul_any hY5.rd hY5.rd HY.out.1 HY.out.1 HY.out.2 HY.out.2 ⟨n1.1, by omega⟩ ⟨n1.1, by omega⟩ ⟨n1.1, by omega⟩)
        go_wp2_with (go_at_call 69; fail)
        (with_reducible refine C6.out.mono ?_)
        clear C6
        rintro x w6 ⟨a6, cap6, R, rfl, ho6, hi6, hb6⟩
        have HR := Lib.hid (mulE_sq hi6)
        have hP6 := ho5.below hb6
        have k6 := k5.trans (hb6.mono k5.size)
        go_wp2
        go_roundw
        case rel => exact ⟨e' / 2, a5, a6, cap5, cap6, P, R, by omega, by go_num, rfl, rfl, hP6.mono hb.size, ho6.mono k5.size, HP.out.1, HR.out.1, by
          refine EqM.trans ?_ HI.out
          refine (EqM.mul HP.out.2 (powM_congr HR.out.2 _)).trans ((pow_odd _ _ _).trans ?_)
          rw [show 2 * (e' / 2) + 1 = e' by have := Hp.out; omega]
          exact EqM.refl _ _ _, k6⟩
        case measure => simp [intOf]; omega
    · obtain rfl : e' = 0 := by omega
      go_wp2
      go_ret2
      exact ⟨ao, co, X, rfl, hX, ⟨HX.out.1, fun i j hi hj => by
        have h1 := HX.out.2 i j hi hj
        have h2 := HI.out i j hi hj
        have h3 : mulM n (mx X) (powM n (mx Y) 0) i j = en X i j := mulM_one (mx X) i hj
        rw [h3] at h2
        unfold Eqm at h2
        dsimp only
        omega⟩, hb⟩
end Go.Proofs.YtkielldinghmbaaDoor
namespace Go.Proofs.YtkielldinghmbaaDoor
open Go.RowKit Go.Rk

/-- A row without place c, of its first k numbers. -/
def cutN (l : List Int) (c : Nat) : Nat → List Int
  | 0 => []
  | k + 1 => if k = c then cutN l c k else cutN l c k ++ [ix l k]
/-- The rows but row r, of the first k, without column c. -/
def woN (M : List (List Int)) (r c : Nat) : Nat → List (List Int)
  | 0 => []
  | k + 1 => if k = r then woN M r c k else woN M r c k ++ [cutN (rowOf M k) c (rowOf M k).length]

theorem cutN_len (l : List Int) (c : Nat) : ∀ k, (cutN l c k).length = if c < k then k - 1 else k := by
  intro k
  induction k with
  | zero => simp [cutN]
  | succ k ih =>
    rw [cutN]
    split
    · next h => rw [ih, if_neg (by omega), if_pos (by omega)]; omega
    · rw [List.length_append, ih]
      by_cases h2 : c < k
      · rw [if_pos h2, if_pos (by omega)]; simp; omega
      · rw [if_neg h2, if_neg (by omega)]; simp
theorem cutN_ix (l : List Int) (c : Nat) : ∀ k j, j < (cutN l c k).length → ix (cutN l c k) j = ix l (skip c j) := by
  intro k
  induction k with
  | zero => intro j hj; simp [cutN] at hj
  | succ k ih =>
    intro j hj
    rw [cutN] at hj ⊢
    split
    · next h => rw [if_pos h] at hj; exact ih j hj
    · next h =>
      rw [if_neg h, List.length_append] at hj
      have hl := cutN_len l c k
      rcases Nat.lt_or_ge j (cutN l c k).length with h1 | h1
      · rw [← ih j h1, ix_lt (by rw [List.length_append]; omega), ix_lt h1, List.getElem_append_left h1]
      · have hj2 : j = (cutN l c k).length := by simp at hj; omega
        subst hj2
        rw [ix_lt (by rw [List.length_append]; simp), List.getElem_append_right (Nat.le_refl _)]
        simp only [Nat.sub_self, List.getElem_cons_zero]
        congr 1
        rw [hl]
        unfold skip
        by_cases h2 : c < k
        · rw [if_pos h2, if_neg (by omega)]; omega
        · rw [if_neg h2, if_pos (by omega)]
theorem woN_len (M : List (List Int)) (r c : Nat) : ∀ k, (woN M r c k).length = if r < k then k - 1 else k := by
  intro k
  induction k with
  | zero => simp [woN]
  | succ k ih =>
    rw [woN]
    split
    · next h => rw [ih, if_neg (by omega), if_pos (by omega)]; omega
    · rw [List.length_append, ih]
      by_cases h2 : r < k
      · rw [if_pos h2, if_pos (by omega)]; simp; omega
      · rw [if_neg h2, if_neg (by omega)]; simp
theorem woN_row (M : List (List Int)) (r c : Nat) : ∀ k j, j < (woN M r c k).length → rowOf (woN M r c k) j = cutN (rowOf M (skip r j)) c (rowOf M (skip r j)).length := by
  intro k
  induction k with
  | zero => intro j hj; simp [woN] at hj
  | succ k ih =>
    intro j hj
    rw [woN] at hj ⊢
    split
    · next h => rw [if_pos h] at hj; exact ih j hj
    · next h =>
      rw [if_neg h, List.length_append] at hj
      have hl := woN_len M r c k
      rcases Nat.lt_or_ge j (woN M r c k).length with h1 | h1
      · rw [rowOf_append_left h1, ih j h1]
      · have hj2 : j = (woN M r c k).length := by simp at hj; omega
        subst hj2
        rw [rowOf_append_right (Nat.le_refl _), Nat.sub_self]
        have e : skip r (woN M r c k).length = k := by
          rw [hl]
          unfold skip
          by_cases h2 : r < k
          · rw [if_pos h2, if_neg (by omega)]; omega
          · rw [if_neg h2, if_pos (by omega)]
        rw [e]
        rfl
/-- What is left without a row and a column of a square matrix. -/
theorem woN_is {n r c : Nat} {M : List (List Int)} (hd : Dim (n + 1) M) (hr : r < n + 1) (hc : c < n + 1) : Is n (woN M r c (n + 1)) (minor (mx M) r c) := by
  have hl : (woN M r c (n + 1)).length = n := by rw [woN_len, if_pos hr]; omega
  have hrow : ∀ i, i < n → (rowOf M (skip r i)).length = n + 1 := fun i hi => hd.2 _ (skip_lt hi)
  have hcl : ∀ i, i < n → (cutN (rowOf M (skip r i)) c (n + 1)).length = n := fun i hi => by rw [cutN_len, if_pos hc]; omega
  refine ⟨⟨hl, fun i hi => ?_⟩, fun i j hi hj => ?_⟩
  · rw [woN_row M r c _ i (by rw [hl]; exact hi), hrow i hi]
    exact hcl i hi
  · unfold en
    rw [woN_row M r c _ i (by rw [hl]; exact hi), hrow i hi, cutN_ix _ _ _ _ (by rw [hcl i hi]; exact hj)]
    rfl

/-- The row in two parts. -/
theorem cutN_parts (l : List Int) {c : Nat} (hc : c < l.length) : cutN l c l.length = l.take c ++ l.drop (c + 1) := by
  have h1 := cutN_len l c l.length
  rw [if_pos hc] at h1
  have h2 : (l.take c ++ l.drop (c + 1)).length = l.length - 1 := by rw [List.length_append, List.length_take, List.length_drop]; omega
  refine ix_ext (h1.trans h2.symm) fun j hj => ?_
  rw [cutN_ix _ _ _ _ hj]
  unfold skip
  by_cases h : j < c
  · rw [if_pos h, ix_append_left (by rw [List.length_take]; omega), ix_take h]
  · rw [if_neg h, ix_append_right (by rw [List.length_take]; omega), ix_drop, List.length_take]
    congr 1
    omega
set_option maxHeartbeats 2000000 in
theorem Cut_any {a : Option Addr} {n cap c i j : Nat} {M : List (List Int)} {w : World} (h : RdM w a n cap M) (d : Dm n c M) (hn : n ≤ 1000) (hc : c ≤ 1000) (hj : j < c) :
    Calls Tryd.prog 90 #[.slice a n cap, .int .i64 i, .int .i64 j] w fun e w' => ∃ a' cap', e = .returned (.slice a' (woN M i j n).length cap') ∧ OwM w' w.heap.size 32 3 a' (woN M i j n).length cap' (woN M i j n) ∧ Below w.heap.size w w' := by
  have HM := Lib.hid matTy
  have HD := Lib.hid d
  clear d
  go_enter Tryd.func90, Tryd.ntmps90
  go_wp2
  go_loopw [7, 13] (fun v x wr => ∃ (k : Nat) (q : Option Addr) (cq : Nat), k ≤ n ∧ x = .int .i64 k ∧ v = .slice q (woN M i j k).length cq ∧ OwM wr w.heap.size 32 3 q (woN M i j k).length cq (woN M i j k) ∧ Below w.heap.size w wr) (fun _ x _ => n - (intOf x).toNat)
  case atStart => exact ⟨0, none, 0, Nat.zero_le _, rfl, rfl, OwM.nil _ _ _ _, Below.refl _ _⟩
  case round =>
    obtain ⟨k, q, cq, hk, rfl, rfl, ho, hb⟩ := hrel
    by_cases hlt : k < n
    · obtain ⟨b, off, rfl, _, hr⟩ := (h.below hb).at hlt
      obtain ⟨ar, cr, hcr, hrd⟩ := hr k hlt
      rw [HD.out.2 k hlt] at hcr hrd
      have hlt' : (k : Int) < (n : Int) := by omega
      by_cases hkr : k = i
      · have z1 : ((k : Int) == (i : Int)) = true := beq_iff_eq.2 (by omega)
        have HK := Lib.hid hkr
        clear hkr
        go_wp2
        go_roundw
        case rel => exact ⟨k + 1, q, cq, by omega, by go_num, by rw [woN, if_pos HK.out], by rw [woN, if_pos HK.out]; exact ho, hb⟩
        case measure => simp [intOf]; omega
      · have z1 : ((k : Int) == (i : Int)) = false := beq_eq_false_iff_ne.2 (by omega)
        have HK := Lib.hid hkr
        clear hkr
        obtain ⟨p, o, rfl, hp, _⟩ := hrd.at hj
        have hle := hrd.le
        have t1 := hrd.take (n := j) (by omega)
        have t2 := hrd.drop (n := j + 1) (by omega)
        have b1 : (j : Int) ≤ (cr : Int) := by omega
        have b2 : (j : Int) + 1 ≤ (c : Int) := by omega
        have b3 : (j : Int) + 1 ≤ (cr : Int) := by omega
        have hsz := hb.size
        have hwl := woN_len M i j k
        have hwl2 : (woN M i j k).length ≤ k := by rw [hwl]; split <;> omega
        clear hwl hr
        have tok1 : True := trivial
        have tok2 : True := trivial
        have e9 : ((j : Int) + 1).toNat = j + 1 := by omega
        by_cases hcc : cr = j + 1
        · subst hcc
          rw [if_pos rfl, show c - (j + 1) = 0 by omega, Nat.sub_self] at t2
          go_wp2_with (first | (at_builtin; have _t := tok1; refine wpList_append_ints HM.out.int rfl (.const (.slice none 0 0)) (.tmp 23) rfl rfl rfl (OwI.nil wr wr.heap.size _) t1 (by omega) (Nat.le_refl _) ?_; intro a3 cap3 w3 ho3 hg3; have hb3 := below_of_grown hg3; clear tok1; rw [Nat.zero_add, List.nil_append] at ho3) | (at_builtin; have _t := tok2; refine wpList_append_ints HM.out.int rfl (.tmp 26) (.tmp 30) rfl rfl rfl ho3 (t2.below hb3) (by omega) hb3.size ?_; intro a4 cap4 w4 ho4 hg4; have hb4 := below_grown hb3 ho3 hb3.size hg4; clear tok2) | (at_builtin; refine wpList_push_row HM.out rfl (.tmp 25) (.tmp 32) rfl rfl rfl ho (hb4.alloc hb4.size _) (ho4.below ((Below.refl _ _).alloc (Nat.le_refl _) _)) (by simp) (by omega) hsz ?_; intro a5 cap5 w5 ho5 hb5))
          have hL : Hid (woN M i j (k + 1) = woN M i j k ++ [(rowOf M k).take j ++ (rowOf M k).drop (j + 1)]) := by
            unfold Hid
            rw [woN, if_neg HK.out, cutN_parts _ (by rw [HD.out.2 k hlt]; exact hj)]
          have hL2 : (woN M i j (k + 1)).length = (woN M i j k).length + 1 := by rw [hL.out]; simp
          go_roundw
          case rel => exact ⟨k + 1, a5, cap5, by omega, by go_num, by rw [hL2], by rw [hL2, hL.out]; exact ho5, ((hb.trans (hb4.mono hsz)).alloc (Nat.le_trans hsz hb4.size) _).trans hb5⟩
          case measure => simp [intOf]; omega
        · rw [if_neg hcc] at t2
          simp only [Option.map_some, Addr.add] at t2
          go_wp2_with (first | (at_builtin; have _t := tok1; refine wpList_append_ints HM.out.int rfl (.const (.slice none 0 0)) (.tmp 23) rfl rfl rfl (OwI.nil wr wr.heap.size _) t1 (by omega) (Nat.le_refl _) ?_; intro a3 cap3 w3 ho3 hg3; have hb3 := below_of_grown hg3; clear tok1; rw [Nat.zero_add, List.nil_append] at ho3) | (at_builtin; have _t := tok2; refine wpList_append_ints HM.out.int rfl (.tmp 26) (.tmp 30) rfl rfl rfl ho3 (t2.below hb3) (by omega) hb3.size ?_; intro a4 cap4 w4 ho4 hg4; have hb4 := below_grown hb3 ho3 hb3.size hg4; clear tok2) | (at_builtin; refine wpList_push_row HM.out rfl (.tmp 25) (.tmp 32) rfl rfl rfl ho (hb4.alloc hb4.size _) (ho4.below ((Below.refl _ _).alloc (Nat.le_refl _) _)) (by simp) (by omega) hsz ?_; intro a5 cap5 w5 ho5 hb5))
          have hL : Hid (woN M i j (k + 1) = woN M i j k ++ [(rowOf M k).take j ++ (rowOf M k).drop (j + 1)]) := by
            unfold Hid
            rw [woN, if_neg HK.out, cutN_parts _ (by rw [HD.out.2 k hlt]; exact hj)]
          have hL2 : (woN M i j (k + 1)).length = (woN M i j k).length + 1 := by rw [hL.out]; simp
          go_roundw
          case rel => exact ⟨k + 1, a5, cap5, by omega, by go_num, by rw [hL2], by rw [hL2, hL.out]; exact ho5, ((hb.trans (hb4.mono hsz)).alloc (Nat.le_trans hsz hb4.size) _).trans hb5⟩
          case measure => simp [intOf]; omega
    · obtain rfl : k = n := by omega
      go_wp2
      go_ret
      exact ⟨q, cq, rfl, ho, hb⟩
end Go.Proofs.YtkielldinghmbaaDoor
namespace Go.Proofs.YtkielldinghmbaaDoor
open Go.RowKit Go.Rk

theorem grounds_of {n c : Nat} {M : List (List Int)} (hn : 1 ≤ n ∧ n ≤ 5) (hc : 1 ≤ c ∧ c ≤ 5) (hd : Dm n c M) (he : EntR 0 9972 n c M) : groundsR 5 0 9972 M = none := by
  have hr0 := hd.2 0 (by omega)
  unfold groundsR
  rw [if_neg (by rw [hd.1, hr0]; omega), if_neg (by rw [hd.1, hr0]; omega)]
  refine rowsErr_of fun l hl => ?_
  obtain ⟨k, hk, rfl⟩ := List.mem_iff_getElem.1 hl
  rw [← rowOf_lt hk, hr0]
  rw [hd.1] at hk
  refine ⟨hd.2 k hk, any_of_in fun j hj => ?_⟩
  rw [hd.2 k hk] at hj
  exact he k j hk hj

theorem mulErr_of {A B : List (List Int)} (g1 : groundsR 5 0 9972 A = none) (g2 : groundsR 5 0 9972 B = none) (h : (rowOf A 0).length = B.length) : mulErr A B = none := by
  unfold mulErr
  rw [g1, g2]
  show (if _ then _ else _) = _
  rw [if_pos h]
theorem addErr_of {A B : List (List Int)} (g1 : groundsR 5 0 9972 A = none) (g2 : groundsR 5 0 9972 B = none) (h : A.length = B.length) (h2 : (rowOf A 0).length = (rowOf B 0).length) : addErr A B = none := by
  unfold addErr
  rw [g1, g2]
  show (if _ then _ else _) = _
  rw [if_pos ⟨h, h2⟩]

/-- A matrix that passes, of n rows of c numbers. -/
structure Good (n c : Nat) (M : List (List Int)) : Prop where
  n1 : 1 ≤ n ∧ n ≤ 5
  c1 : 1 ≤ c ∧ c ≤ 5
  dm : Dm n c M
  ent : EntR 0 9972 n c M
theorem Good.gr {n c : Nat} {M : List (List Int)} (h : Good n c M) : groundsR 5 0 9972 M = none := grounds_of h.n1 h.c1 h.dm h.ent
theorem Good.of {n : Nat} {M : List (List Int)} (e : M.length = n) (g : groundsR 5 0 9972 M = none) : Good n (rowOf M 0).length M :=
  let ⟨a, b, c, d⟩ := grounds_dm e g
  ⟨a, b, c, d⟩
theorem Good.r0 {n c : Nat} {M : List (List Int)} (h : Good n c M) : (rowOf M 0).length = c := h.dm.2 0 (by have := h.n1; omega)
theorem Good.mulOk {n k c : Nat} {A B : List (List Int)} (h : Good n k A) (g : Good k c B) : mulErr A B = none := mulErr_of h.gr g.gr (by rw [h.r0, g.dm.1])
theorem Good.addOk {n c : Nat} {A B : List (List Int)} (h : Good n c A) (g : Good n c B) : addErr A B = none := addErr_of h.gr g.gr (by rw [h.dm.1, g.dm.1]) (by rw [h.r0, g.r0])
/-- The product passes, and is the product by the prime. -/
theorem Good.prod {n k c : Nat} {A B P : List (List Int)} (h : Good n k A) (g : Good k c B) (hp : IsR n c P (fun i j => mulE A B k i j % 9973)) : Good n c P ∧ EqM n c (mx P) (mulM k (mx A) (mx B)) :=
  ⟨⟨h.n1, g.c1, hp.1, fun i j hi hj => by rw [hp.2 i j hi hj]; dsimp only; omega⟩, fun i j hi hj => by
    show Eqm (en P i j) _
    rw [hp.2 i j hi hj]
    exact Eqm.mod _⟩
theorem Good.sum {n c : Nat} {A B P : List (List Int)} (h : Good n c A) (_ : Good n c B) (hp : IsR n c P (fun i j => (en A i j + en B i j) % 9973)) : Good n c P ∧ EqM n c (mx P) (fun i j => mx A i j + mx B i j) :=
  ⟨⟨h.n1, h.c1, hp.1, fun i j hi hj => by rw [hp.2 i j hi hj]; dsimp only; omega⟩, fun i j hi hj => by
    show Eqm (en P i j) _
    rw [hp.2 i j hi hj]
    exact Eqm.mod _⟩
theorem Good.tr {n c : Nat} {A P : List (List Int)} (h : Good n c A) (hp : IsR c n P (fun i j => en A j i)) : Good c n P ∧ EqM c n (mx P) (trM (mx A)) :=
  ⟨⟨h.c1, h.n1, hp.1, fun i j hi hj => by rw [hp.2 i j hi hj]; exact h.ent j i hj hi⟩, fun i j hi hj => Eqm.of_eq (hp.2 i j hi hj)⟩
/-- Two that pass and are one by the prime are one. -/
theorem Good.same {n c : Nat} {A B : List (List Int)} (h : Good n c A) (g : Good n c B) (e : EqM n c (mx A) (mx B)) : A = B :=
  h.dm.ext g.dm fun i j hi hj => by
    have h1 := h.ent i j hi hj
    have h2 := g.ent i j hi hj
    have h3 : en A i j % 9973 = en B i j % 9973 := e i j hi hj
    omega
end Go.Proofs.YtkielldinghmbaaDoor
namespace Go.Proofs.YtkielldinghmbaaDoor
open Go.RowKit Go.Rk

set_option maxHeartbeats 1000000 in
theorem Pow_err {a : Option Addr} {n ca : Nat} {e : Int} {A : List (List Int)} {w : World} {x : Int} (hA : RdM w a n ca A) (hq : powErr A e = some x) :
    Calls Tryd.prog 28 #[.slice a n ca, .int .i64 e] w fun r w' => r = .returned (.tuple #[.slice none 0 0, .iface 70 (.int .i64 x)]) ∧ Below w.heap.size w w' := by
  rcases hg : groundsR 5 0 9972 A with _ | y
  · have C1 := Lib.hid (mat_Check_is hA hg)
    have e1 := hA.len_eq
    obtain ⟨n1, n2, dA, _⟩ := grounds_dm e1 hg
    obtain ⟨ba, oa, hz, _, hra⟩ := hA.at (k := 0) (by omega)
    subst hz
    obtain ⟨ai, ci, hc0, _⟩ := hra 0 (by omega)
    rw [Nat.add_zero] at hc0
    have b1 : (0 : Int) < (n : Int) := by omega
    have b2 : (1 : Int) ≤ (n : Int) := by omega
    by_cases hs : n = (rowOf A 0).length
    · have hq2 : squareR 5 0 9972 A = none := by unfold squareR; rw [if_pos hg, if_pos (by rw [e1]; exact hs)]
      unfold powErr at hq
      rw [hq2] at hq
      dsimp only at hq
      split at hq
      · next ho =>
        injection hq with hq
        subst hq
        rw [← hs] at hc0
        have z1 : ((n : Int) != (n : Int)) = false := bne_eq_false_iff_eq.2 rfl
        have HO := Lib.hid ho
        clear ho hg hq2 hra dA hs
        go_enter Tryd.func28, Tryd.ntmps28
        go_wp2_with (first | (go_at_call 18; (with_reducible refine C1.out.mono ?_); rintro e w' ⟨rfl, rfl⟩; simp only [errV]) | (go_at_call 70; refine (out_any _ _ _ _).mono ?_; rintro e w' ⟨rfl, rfl⟩; rw [HO.out]))
        go_ret2
        exact ⟨rfl, Below.refl _ _⟩
      · cases hq
    · have hq2 : squareR 5 0 9972 A = some 3 := by unfold squareR; rw [if_pos hg, if_neg (by rw [e1]; exact hs)]
      unfold powErr at hq
      rw [hq2] at hq
      dsimp only at hq
      injection hq with hq
      subst hq
      have z1 : ((n : Int) != ((rowOf A 0).length : Int)) = true := bne_iff_ne.2 (by omega)
      clear hg hq2 hra dA hs
      go_enter Tryd.func28, Tryd.ntmps28
      go_wp2_with (first | (go_at_call 18; (with_reducible refine C1.out.mono ?_); rintro e w' ⟨rfl, rfl⟩; simp only [errV]))
      go_ret2
      exact ⟨rfl, Below.refl _ _⟩
  · have hq2 : squareR 5 0 9972 A = some y := by unfold squareR; rw [hg]; rfl
    unfold powErr at hq
    rw [hq2] at hq
    dsimp only at hq
    injection hq with hq
    subst hq
    have C1 := Lib.hid (mat_Check_is hA hg)
    clear hg hq2
    go_enter Tryd.func28, Tryd.ntmps28
    go_wp2_with (first | (go_at_call 18; (with_reducible refine C1.out.mono ?_); rintro e w' ⟨rfl, rfl⟩; simp only [errV]))
    go_ret2
    exact ⟨rfl, Below.refl _ _⟩


end Go.Proofs.YtkielldinghmbaaDoor
namespace Go.Proofs.YtkielldinghmbaaDoor
open Go.RowKit Go.Shelf Go.Rk
attribute [local go_sem] Oper.semAt_some

/-- What is left without a row and a column, by the prime. -/
def minorV (n : Nat) (M : List (List Int)) (i j : Nat) : Int := det (n - 1) (minor (mx M) i j) % 9973
theorem minorV_in (n : Nat) (M : List (List Int)) (i j : Nat) : 0 ≤ minorV n M i j ∧ minorV n M i j ≤ 9972 := by unfold minorV; omega

theorem minors_of_any {a : Option Addr} {n cap i j : Nat} {M : List (List Int)} {w : World} (h : RdM w a n cap M) (G : Good n n M) (hi : i < n) (hj : j < n) :
    Calls Tryd.prog 77 #[.slice a n cap, .int .i64 i, .int .i64 j] w fun e w' => e = .returned (.int .i64 (minorV n M i j)) ∧ Below w.heap.size w w' := by
  have n1 := G.n1
  by_cases h1 : n = 1
  · subst h1
    go_enter Tryd.func77, Tryd.ntmps77
    go_wp2
    go_ret
    exact ⟨rfl, Below.refl _ _⟩
  · obtain ⟨m, rfl⟩ : ∃ m, n = m + 1 := ⟨n - 1, by omega⟩
    have hw := woN_is (M := M) G.dm hi hj
    have hl : (woN M i j (m + 1)).length = m := hw.1.1
    have C1 := Lib.hid (Cut_any (i := i) h G.dm (by omega) (by omega) hj)
    rw [hl] at C1
    have he : Ent 0 9972 m (woN M i j (m + 1)) := fun r s hr hs => by
      rw [hw.2 r s hr hs]
      exact G.ent _ _ (skip_lt hr) (skip_lt hs)
    have hq : squareR 5 0 9972 (woN M i j (m + 1)) = none := squareR_of (by omega) (by omega) hw.1 he
    have hd : det m (mx (woN M i j (m + 1))) = det m (minor (mx M) i j) := det_congr fun r s hr hs => hw.2 r s hr hs
    have HQ := Lib.hid hq
    have HD := Lib.hid hd
    have z1 : (((m + 1 : Nat) : Int) == 1) = false := beq_eq_false_iff_ne.2 (by omega)
    clear hw hl he hq hd
    obtain ⟨N, hN⟩ : ∃ N, m + 1 = N := ⟨_, rfl⟩
    have HN := Lib.hid hN
    rw [hN] at h G C1 z1 HQ HD hi hj h1 n1 ⊢
    clear hN
    go_enter Tryd.func77, Tryd.ntmps77
    go_wp2_with (first | (go_at_call 90; (with_reducible refine C1.out.mono ?_); rintro e w1 ⟨a1, c1, rfl, ho, hb⟩) | (go_at_call 39; refine (det_Of_ok ho.rd HQ.out).mono ?_; rintro e w2 ⟨rfl, hb2⟩))
    go_ret
    refine ⟨?_, hb.trans (hb2.mono hb.size)⟩
    rw [HD.out]
    unfold minorV
    rw [← HN.out]
    rfl

theorem Adj_err {a : Option Addr} {n ca : Nat} {A : List (List Int)} {w : World} {x : Int} (hA : RdM w a n ca A) (hq : squareR 5 0 9972 A = some x) :
    Calls Tryd.prog 43 #[.slice a n ca] w fun e w' => e = .returned (.tuple #[.slice none 0 0, .iface 70 (.int .i64 x)]) ∧ Below w.heap.size w w' := by
  have C := Lib.hid (det_Check_is (hA.below ((Below.refl w.heap.size w).alloc (Nat.le_refl _) (.cells #[.slice a n ca] 22))) hq)
  clear hq
  go_enter Tryd.func43, Tryd.ntmps43
  go_wp2_with (go_at_call 37; refine C.out.mono ?_; rintro e w' ⟨rfl, rfl⟩; simp only [errV])
  go_ret2
  exact ⟨rfl, (Below.refl w.heap.size w).alloc (Nat.le_refl _) _⟩
set_option maxRecDepth 100000 in
set_option maxHeartbeats 4000000 in
theorem Adj_ok {a : Option Addr} {n ca : Nat} {A : List (List Int)} {w : World} (hA : RdM w a n ca A) (G : Good n n A) :
    Calls Tryd.prog 43 #[.slice a n ca] w fun e w' => ∃ a' cap' P, e = .returned (.tuple #[.slice a' n cap', .nilIface]) ∧ OwM w' w.heap.size 32 3 a' n cap' P ∧ IsR n n P (fun i j => adj n (mx A) i j % 9973) ∧ Below w.heap.size w w' := by
  have HM := Lib.hid matTy
  have HG := Lib.hid G
  have hn := G.n1
  have dA := G.dm
  have ha0 := (Below.refl w.heap.size w).alloc (Nat.le_refl _) (.cells #[.slice a n ca] 22)
  have C := Lib.hid (det_Check_is (hA.below ha0) (squareR_of (lo := 0) (hi := 9972) (most := 5) hn.1 (by omega) G.dm G.ent))
  clear G
  refine (callsIn_wide (n := 6)).1 ?_
  refine callsIn_of_wp_marks Tryd.func43 rfl trivial ?_ rfl
  simp only [Tryd.ntmps43, List.size_toArray, List.length_cons, List.length_nil, Nat.reduceAdd, Nat.reduceSub, Array.replicate_succ, Array.replicate_zero, List.push_toArray, List.append_toArray, List.nil_append, List.cons_append]
  refine wpIn_wide.2 ?_
  obtain ⟨bb, ob, D0, O0, C0, rfl, hbb, hD0, hGA⟩ := hA.grid dA (by omega) (by omega)
  go_wp2_with (first | (go_at_call 37; refine C.out.mono ?_; rintro e w' ⟨rfl, rfl⟩; simp only [errV]) | (go_at_call 64; refine (Grid_any n n _ (by omega) (by omega)).mono ?_; rintro e w3 ⟨a3, cap3, rfl, ho3, hb3⟩; have bx := alloc_keep (o := .cells #[.slice a3 n cap3] 22) ((hb3.cell (p := ⟨w.heap.size, 0, none⟩) (by simp)).trans (c := some (.slice (some ⟨bb, ob, none⟩) n ca)) (by simp))) | (go_at_call 65; fail))
  have k2 := ha0.trans (hb3.mono ha0.size)
  have k3 := k2.alloc k2.size (.cells #[.slice a3 n cap3] 22)
  obtain ⟨g, D, C, hz, hd3⟩ := ho3.named (by omega) fun r hr => by rw [(Dm.replicate n n 0).2 r hr]; omega
  cases hz
  have hd4 := (hd3.mono ha0.size).alloc (.cells #[.slice (some ⟨g, 0, none⟩) n cap3] 22)
  have px : (w3.alloc (.cells #[.slice (some ⟨g, 0, none⟩) n cap3] 22)).cell? ⟨w3.heap.size, 0, none⟩ = some (.slice (some ⟨g, 0, none⟩) n cap3) := by simp
  clear hd3 ho3 hb3 k2
  generalize (w3.alloc (.cells #[.slice (some ⟨g, 0, none⟩) n cap3] 22)) = W4 at *
  generalize w3.heap.size = PO at *
  refine (callsIn_wide.1 (each_in 0 (some ⟨bb, ob, none⟩) n ca W4)).mono ?_
  rintro e w' ⟨rfl, rfl⟩
  go_wp2_with fail
  refine (wpIn_wide (n := 6)).1 ?_
  have hd5 := hd4.alloc (.cells #[.slice (some ⟨bb, ob, none⟩) n ca] 22)
  have hBm : (W4.alloc (.cells #[.slice (some ⟨bb, ob, none⟩) n ca] 22)).cell? ⟨W4.heap.size, 0, none⟩ = some (.slice (some ⟨bb, ob, none⟩) n ca) := by simp
  have hBl : W4.heap.size < (W4.alloc (.cells #[.slice (some ⟨bb, ob, none⟩) n ca] 22)).heap.size := by simp
  have k5 := k3.alloc k3.size (.cells #[.slice (some ⟨bb, ob, none⟩) n ca] 22)
  have q5 := alloc_keep (o := .cells #[.slice (some ⟨bb, ob, none⟩) n ca] 22) px
  have r5 := alloc_keep (o := .cells #[.slice (some ⟨bb, ob, none⟩) n ca] 22) bx
  have h5w := k5.size
  have hG5 := hGA.below k5 hbb hD0
  clear px bx k3
  refine wpIn_rangeFunc_ownH rfl (by decide) (gf := 85) (lb := #[.pointer (some ⟨W4.heap.size, 0, none⟩)]) rfl trivial (enters_of Tryd.func85 (by kernel_rfl) rfl)
    (each_stops 5 (cap := ca) (by omega) (by omega) _ hBm hBl hG5 (Nat.lt_of_lt_of_le hbb h5w) (fun r hr => Nat.lt_of_lt_of_le (hD0 r hr) h5w)) (fun h h' g => h' (h g)) (fun W l o o' _ h1 h2 _ g => g.passes (grownBy_putObj' W l o') (fun r e => by cases e; exact ⟨o, h1, h2⟩)) (Below.refl _ _) (fun _ => rfl)
    (fun pre W => (∃ P, OwMD W w.heap.size 32 3 g D C n cap3 P ∧ Dm n n P ∧ ∀ r s, (r, s) ∈ plcs pre → en P r s = adj n (mx A) r s % 9973) ∧ W.cell? ⟨PO, 0, none⟩ = some (.slice (some ⟨g, 0, none⟩) n cap3) ∧ W.cell? ⟨w.heap.size, 0, none⟩ = some (.slice (some ⟨bb, ob, none⟩) n ca) ∧ Below w.heap.size w W)
    (fun _ _ _ => False)
    (fun s X Y row hs hgr hr => ⟨let ⟨P, e1, e2, e3⟩ := hs.1; ⟨P, e1.passes hgr (fun r e => (hr r e).2), e2, e3⟩, cell_kept hs.2.1 hgr (fun r e => (hr r e).2), cell_kept hs.2.2.1 hgr (fun r e => (hr r e).2), hs.2.2.2.grown hgr hs.2.2.2.size (fun r e => Nat.le_trans h5w (hr r e).1)⟩)
    (fun _ _ _ _ _ hs _ _ => hs)
    ⟨⟨_, hd5, Dm.replicate n n 0, fun r s hp => by cases hp⟩, q5, r5, k5⟩
    (fun x a' W => ∃ Bx, W.cell? ⟨Bx, 0, none⟩ = some (.int .i64 (x.1.1 : Int)) ∧ W.cell? ⟨Bx, 1, none⟩ = some (.int .i64 (x.1.2.1 : Int)) ∧ a' = { tmps := #[Value.slice (some { block := bb, off := ob }) n ca, Value.pointer (some { block := w.heap.size, off := 0 }), Value.slice none 0 0, Value.nilIface, Value.nilIface, Value.pointer (some { block := PO, off := 0 }), Value.pointer (some { block := Bx, off := 0 }), undef, undef, undef, Value.slice (some { block := bb, off := ob }) n ca, Value.nilIface, Value.nilIface, Value.bool false, undef, Value.slice (some { block := bb, off := ob }) n ca, Value.int IntKind.i64 (n : Int), Value.slice (some { block := bb, off := ob }) n ca, Value.int IntKind.i64 (n : Int), Value.slice (some { block := g, off := 0 }) n cap3, Value.slice (some { block := bb, off := ob }) n ca, Value.func (.func 85) #[] #[Value.pointer (some { block := W4.heap.size, off := 0 })], .agg #[.int .i64 (x.1.1 : Int), .int .i64 (x.1.2.1 : Int)], .int .i64 x.1.2.2, undef, undef, undef, undef, undef, undef, undef, undef, undef, undef, undef, undef, undef, undef, undef, undef, undef, undef, undef, undef, undef, undef, undef, undef], defers := [] })
    (fun x a' _ X Y row hs hgr hr => let ⟨Bx, e1, e2, e3⟩ := hs; ⟨Bx, cell_kept e1 hgr (fun r e => (hr r e).2), cell_kept e2 hgr (fun r e => (hr r e).2), e3⟩)
    ?assign ?body ?done ?stop
  case assign =>
    rintro l pre x W K ⟨⟨P, e1, e2, e3⟩, c3, c4, hbW⟩ hK
    dsimp only [encP]
    gi_wp2
    exact hK _ _ ((KeepsOthers.alloc _ _).from _) (fun g => g.fresh ((Below.refl _ _).alloc (Nat.le_refl _) _)) ⟨⟨P, e1.alloc _, e2, e3⟩, alloc_keep c3, alloc_keep c4, hbW.alloc hbW.size _⟩ ⟨W.heap.size, by simp, by simp, rfl⟩
  case body =>
    rintro l pre ⟨⟨i, j, v⟩, hi, hj, hv⟩ a' W hl ⟨r, hr⟩ ⟨⟨P, e1, e2, e3⟩, c3, c4, hbW⟩ ⟨Bx, y1, y2, rfl⟩ hlt
    clear hBm hBl q5 hd4 hd5 r5
    dsimp only at y1 y2 hi hj hv ⊢
    subst hv
    gi_wp2
    refine region_round_quiet (by kernel_rfl) (by kernel_rfl) (fun ⟨_, _, h⟩ => h) (by kernel_rfl) ?_
    repeat (go_big_quiet_step (fail))
    refine wpQuiet_nil ?_
    rintro _ ⟨nq, rfl⟩
    have kq := below_drewN (Below.refl W.heap.size W) nq
    have kw := below_drewN hbW nq
    have c4q := kq.keep (World.block_lt_of_cell? W _ c4) c4
    have C := Lib.hid (minors_of_any (hA.below kw) HG.out hj hi)
    clear y1 y2
    generalize W.drewN nq = Wd at *
    gi_wp2_with (first | (gi_at_call 77; fail))
    refine ⟨trivial, ?_⟩
    refine CallsIn.mono (show CallsIn (Fence.wide.inRound l) 3 _ _ _ _ _ from callsIn_wide.2 C.out) ?_
    clear C c4q
    rintro e w9 ⟨rfl, hb9⟩
    have kk := kq.trans (hb9.mono kq.size)
    have k9 := hbW.trans (kk.mono hbW.size)
    have e1 := e1.below kk
    have c3 := kk.keep (World.block_lt_of_cell? W _ c3) c3
    have c4 := kk.keep (World.block_lt_of_cell? W _ c4) c4
    have a1 := e1.cellO hi
    have a2 := e1.cellI hi (j := j) (by rw [e2.2 i hi]; exact hj)
    have a3 := e1.frozenI hi (by rw [e2.2 i hi]; omega) j
    rw [e2.2 i hi] at a1
    have i1 : (i : Int) < (n : Int) := by omega
    have i2 : (j : Int) < (n : Int) := by omega
    have bV := minorV_in n A j i
    have hKO : KeepsOthers W w9 := ⟨kk.size, fun k o hk _ => (kk.block k (Array.getElem?_eq_some_iff.1 hk).1).trans hk⟩
    clear kq kw hb9
    obtain ⟨V, hV⟩ : ∃ V, minorV n A j i = V := ⟨_, rfl⟩
    rw [hV] at bV ⊢
    have HV := Lib.hid hV
    clear hV kk hbW
    dsimp only
    have fin : ∀ X : Int, X = adj n (mx A) i j % 9973 → ∀ (b : Nat) (W9 : World), W9 = w9.setCell ⟨D i, j, none⟩ (.int .i64 X) → KeepsFrom b W W9 ∧ (Grid n n bb ob D0 O0 C0 (fun i j v => v = en A i j) W → Grid n n bb ob D0 O0 C0 (fun i j v => v = en A i j) W9) ∧ ((∃ P, OwMD W9 w.heap.size 32 3 g D C n cap3 P ∧ Dm n n P ∧ ∀ r s, (r, s) ∈ plcs (pre ++ [(⟨(i, j, en A i j), hi, hj, rfl⟩ : Plc n n (fun i j v => v = en A i j))]) → en P r s = adj n (mx A) r s % 9973) ∧ W9.cell? ⟨PO, 0, none⟩ = some (.slice (some ⟨g, 0, none⟩) n cap3) ∧ W9.cell? ⟨w.heap.size, 0, none⟩ = some (.slice (some ⟨bb, ob, none⟩) n ca) ∧ Below w.heap.size w W9) := by
      rintro X hX b W9 rfl
      refine ⟨(hKO.trans (KeepsOthers.setCell _ _ _)).from _, fun _ => hGA.below (k9.setCell (p := ⟨D i, j, none⟩) (e1.lowI hi).1 _) hbb hD0, ⟨_, e1.set matTy.ne hi _, e2.setE _ _ _, fun r s hp => ?_⟩, set_keepS c3 a2, set_keepS c4 a2, k9.setCell (p := ⟨D i, j, none⟩) (e1.lowI hi).1 _⟩
      rw [plcs_snoc] at hp
      have hpl : r < n ∧ s < n := by
        rcases List.mem_append.1 hp with h | h
        · exact plcs_in h
        · cases List.mem_singleton.1 h
          exact ⟨hi, hj⟩
      rw [e2.en_set _ hpl.1 hpl.2]
      split
      · next h => rw [← h.1, ← h.2]; exact hX
      · next h =>
        rcases List.mem_append.1 hp with h2 | h2
        · exact e3 r s h2
        · cases List.mem_singleton.1 h2
          exact absurd ⟨rfl, rfl⟩ h
    by_cases hp : (i + j) % 2 = 1
    · have zt : ((i : Int) + (j : Int)).tmod 2 = 1 := by rw [Int.tmod_eq_emod_of_nonneg (by omega)]; omega
      have hX : Hid (-V % 9973 = adj n (mx A) i j % 9973) := by
        unfold Hid
        rw [← HV.out]
        unfold minorV adj sg
        rw [if_neg (by omega)]
        omega
      gi_wp2_with fail
      refine ⟨trivial, CallsIn.mono (show CallsIn (Fence.wide.inRound l) _ _ _ _ _ _ from callsIn_wide.2 (Field_any _ _)) ?_⟩
      rintro e w10 ⟨rfl, rfl⟩
      dsimp only
      gi_wp2
      exact fin _ hX.out _ _ rfl
    · have zt : ((i : Int) + (j : Int)).tmod 2 = 0 := by rw [Int.tmod_eq_emod_of_nonneg (by omega)]; omega
      have hX : Hid (V = adj n (mx A) i j % 9973) := by
        unfold Hid
        rw [← HV.out]
        unfold minorV adj sg
        rw [if_pos (by omega), Int.one_mul]
      gi_wp2
      exact fin _ hX.out _ _ rfl
  case done =>
    rintro Dd ys W hDd hS ⟨⟨P, e1, e2, e3⟩, c3, c4, hbW⟩ hK
    go_wp2
    refine ⟨by simp, .inl ⟨_, _, rfl, run_takeDeferred hK, ?_⟩⟩
    have hgr := grownBy_putObj' W Dd (.deferred none)
    have hno : ∀ r, some Dd = some r → ∃ o : Obj, W.heap[r]? = some o ∧ o.isCells = false := fun r e => by cases e; exact ⟨_, hK, rfl⟩
    exact ⟨_, results_tmp2 rfl _ _ _, _, _, P, rfl, (e1.passes hgr hno).toM, ⟨e2, fun i j hi hj => e3 i j (by rw [hS]; exact locs_mem hi hj)⟩, hbW.grown hgr hbW.size (fun r e => by cases e; exact Nat.le_trans h5w hDd)⟩
  case stop =>
    rintro D c pre W _ _ h _
    exact h.elim
theorem Of_ok {a : Option Addr} {n ca : Nat} {i j : Int} {A : List (List Int)} {w : World} (hA : RdM w a n ca A) (G : Good n n A) (hi : 0 ≤ i ∧ i < n) (hj : 0 ≤ j ∧ j < n) :
    Calls Tryd.prog 45 #[.slice a n ca, .int .i64 i, .int .i64 j] w fun e w' => e = .returned (.tuple #[.int .i64 (minorV n A i.toNat j.toNat), .nilIface]) ∧ Below w.heap.size w w' := by
  have hn := G.n1
  have C := Lib.hid (det_Check_is hA (squareR_of (lo := 0) (hi := 9972) (most := 5) hn.1 (by omega) G.dm G.ent))
  have hb := (Below.refl w.heap.size w).alloc (Nat.le_refl _) (.cells #[.int .i64 i, .int .i64 j] 3)
  have C2 := Lib.hid (any_any _ 2 2 [i, j] 0 ((n : Int) - 1) _ (RdI.lit w [i, j] 3 (by simp [maxLen])))
  have e1 : ((i.toNat : Nat) : Int) = i := by omega
  have e2 : ((j.toNat : Nat) : Int) = j := by omega
  have C3 := minors_of_any (i := i.toNat) (j := j.toNat) (hA.below hb) G (by omega) (by omega)
  rw [e1, e2] at C3
  have C3 := Lib.hid C3
  have z : anyB 0 ((n : Int) - 1) [i, j] = false := by
    unfold anyB outB
    simp
    omega
  rw [z] at C2
  clear z e1 e2 G
  go_enter Tryd.func45, Tryd.ntmps45
  go_wp2_with (first | (go_at_call 37; refine C.out.mono ?_; rintro e w' ⟨rfl, rfl⟩; simp only [errV]) | (go_at_call 78; refine C2.out.mono ?_; rintro e w2 ⟨rfl, rfl⟩) | (go_at_call 77; (with_reducible refine C3.out.mono ?_); rintro e w3 ⟨rfl, hb3⟩))
  go_ret2
  exact ⟨rfl, below_tr hb hb3⟩

theorem rd11 {w : World} {b p : Nat} {x : Int} (h0 : w.cell? ⟨b, 0, none⟩ = some (.slice (some ⟨p, 0, none⟩) 1 1)) (h1 : w.cell? ⟨p, 0, none⟩ = some (.int .i64 x)) : RdM w (some ⟨b, 0, none⟩) 1 1 [[x]] := by
  refine ⟨rfl, Nat.le_refl _, by decide, fun k hk => ?_⟩
  obtain rfl : k = 0 := by omega
  exact ⟨b, 0, some ⟨p, 0, none⟩, 1, 1, rfl, h0, RdI.one h1 (Nat.le_refl _) (by decide)⟩

set_option maxHeartbeats 4000000 in
set_option maxRecDepth 100000 in
theorem minorsFact_any (w : World) : Calls Tryd.prog 46 #[] w fun e w' => e = .returned (.bool true) ∧ Below w.heap.size w w' := by
  go_enter Tryd.func46, Tryd.ntmps46
  go_wp2_with fail
  refine (Adj_ok (n := 2) (A := [[1, 2], [3, 4]]) (rd22 (p := w.heap.size) (q := w.heap.size + 1) ?_ ?_ ?_ ?_ ?_ ?_) (Good.of (n := 2) (M := [[1, 2], [3, 4]]) rfl (by decide))).mono ?main
  case main =>
    rintro e w1 ⟨a1, c1, P, rfl, ho, hi, hb⟩
    obtain rfl : P = [[4, 9971], [9970, 1]] := hi.1.ext ⟨rfl, fun i hi => by rcases (show i = 0 ∨ i = 1 by omega) with rfl | rfl <;> rfl⟩ fun i j h1 h2 => by
      rw [hi.2 i j h1 h2]
      rcases (show i = 0 ∨ i = 1 by omega) with rfl | rfl <;> rcases (show j = 0 ∨ j = 1 by omega) with rfl | rfl <;> decide
    have b1 := below_tr (below_al (below_al (below_al (Below.refl _ w) _) _) _) hb
    have h1 := ho.rd
    clear ho hi hb
    have G1 : Good 1 1 [[7]] := Good.of (n := 1) (M := [[7]]) rfl (by decide)
    have HG1 := Lib.hid G1
    clear G1
    go_wp2_with fail
    refine (Of_ok (i := 0) (j := 0) (rd11 (p := w1.heap.size) ?_ ?_) HG1.out (by decide) (by decide)).mono ?main
    case main =>
      rintro e w2 ⟨rfl, hb⟩
      rw [show minorV 1 [[7]] (0 : Int).toNat (0 : Int).toNat = 1 by decide]
      have k2 := below_tr (below_al (below_al (Below.refl _ w1) _) _) hb
      have b2 := below_tr b1 k2
      have h1 := h1.below k2
      clear b1 k2 hb
      go_wp2_with fail
      refine (Rows_any (l := [[4, 9971], [9970, 1]]) (m := [[4, 9971], [9970, 1]]) (h1.below (below_al (below_al (below_al (Below.refl _ w2) _) _) _)) (rd22 (p := w2.heap.size) (q := w2.heap.size + 1) ?_ ?_ ?_ ?_ ?_ ?_)).mono ?main
      case main =>
        rintro e w3 ⟨rfl, hb⟩
        have b3 := below_tr b2 (below_tr (below_al (below_al (below_al (Below.refl _ w2) _) _) _) hb)
        clear hb b2 h1
        go_wp2
        go_ret
        exact ⟨rfl, b3⟩
      all_goals simp [go_sem]
    all_goals simp [go_sem]
  all_goals simp [go_sem]
end Go.Proofs.YtkielldinghmbaaDoor

namespace Go.Rk
open Go.RowKit

variable {P : Program}

/-- What an iterator owes: at a loop of N rounds that keeps the word J, of which I tells, it comes to its end. -/
def SeqOn (n : Nat) (P : Program) (gf : Nat) (lb : Array Value) (encs : Nat → Array Value) (I : Nat → World → Prop) (N : Nat) : Prop :=
  ∀ (l : Nat) (J : Nat → World → Prop) (W : World), (∀ k W1, J k W1 → I k W1) →
    (∀ k W1, k < N → J k W1 → YieldAt Fence.wide (n - 1) P l (encs k) W1 fun e W' => e = .returned (.bool true) ∧ J (k + 1) W') → J 0 W →
    CallsIn Fence.wide n P gf (#[.func (.yield l) #[] #[]] ++ lb) W fun e W' => (∃ v, e = .returned v) ∧ J N W'

theorem range_on {n : Nat} {g : Operand} {ps : Array Tmp} {assign body : Code} {Q : Exit → Act → World → Prop} {a : Act} {w : World}
    (h1 : 1 ≤ n) {gf : Nat} {lb : Array Value} (hg : a.eval g = .func (.func gf) #[] lb) (eg : ∀ args w, (callFunc gf args).run P w = .ok (.enter gf args) w)
    {encs : Nat → Array Value} {N : Nat} (hps : ∀ k, (encs k).size = ps.size) (I : Nat → World → Prop) (hI : OwnFrom w.heap.size I) (hseq : SeqOn (n - 1) P gf lb encs I N) (h0 : I 0 w)
    (Ax : Nat → Act → World → Prop) (hAx : ∀ a', OwnFrom w.heap.size (fun k W => Ax k a' W))
    (hassign : ∀ (l k : Nat) (W : World) (K : Act → World → Prop), k < N → I k W → (∀ a' W', KeepsFrom w.heap.size W W' → I k W' → Ax k a' W' → K a' W') →
      assign.wpIn (Fence.wide.inRound l) (n - 1 - 1) P (Exit.then K (fun _ _ _ => False)) { tmps := (ps.zip (encs k)).foldl (fun t (p, v) => t.setIfInBounds p v) a.tmps, defers := [] } W)
    (hbody : ∀ (l k : Nat) (a' : Act) (W : World), k < N → I k W → Ax k a' W → body.wpIn (Fence.wide.inRound l) (n - 1 - 1) P (fun e _ W' => e = .normal ∧ KeepsFrom w.heap.size W W' ∧ I (k + 1) W') a' W)
    (hdone : ∀ (D : Nat) (W : World), w.heap.size ≤ D → I N W → W.heap[D]? = some (.deferred (some [])) → Q .normal { a with defers := { target := .collected D, args := #[] } :: a.defers } W) :
    (Code.rangeFunc g ps assign body).wpIn Fence.wide n P Q a w := by
  refine wpIn_rangeFunc fun fn _ => ?_
  -- the loop's record at each of its states, and the two blocks that are laid
  let R : LoopState → Loop := fun st => { state := st, pending := none, fn, tmps := a.tmps, params := ps, assign, body, defers := w.heap.size }
  let B := w.heap.size
  let Held : LoopState → World → Prop := fun st W => W.heap[B + 1]? = some (.loop (R st)) ∧ W.heap[B]? = some (.deferred (some []))
  let W0 := (w.alloc (.deferred (some []))).alloc (.loop (R .ready))
  have hB0 : Held .ready W0 := by
    refine ⟨?_, (Below.heap_alloc _ _ _ (by simp [B])).trans (World.alloc_heap_new w _)⟩
    have := World.alloc_heap_new (w.alloc (.deferred (some []))) (.loop (R .ready))
    rwa [World.size_alloc] at this
  have hI0 : I 0 W0 := hI.alloc _ (hI.alloc _ h0)
  refine ⟨B + 1, [{ target := .collected B, args := #[] }], W0, { target := .fn (.func gf) lb, args := #[.func (.yield (B + 1)) #[] #[]] }, W0, gf, #[.func (.yield (B + 1)) #[] #[]] ++ lb, W0,
    run_enterLoop_outer _ _ _ _ _, ?_, fun f' _ => trivial, ?_, fun _ => h1, ?_⟩
  · simp only [resolve, hg]
    simp [go_sem]
  · simp [invoke, go_sem, eg]
  · -- a state's turn leaves what is said of I, and the other block
    have turn : ∀ {st W} (st'), Held st W → Held st' (W.putObj (B + 1) (.loop (R st'))) := fun st' h =>
      ⟨World.putObj_heap_same (Array.getElem?_eq_some_iff.1 h.1).1, (World.putObj_heap_other (by omega)).trans h.2⟩
    have kept : ∀ {st W W'}, Held st W → KeepsFrom B W W' → Held st W' := fun h k => ⟨k.same _ _ (by omega) h.1 rfl, k.same _ _ (Nat.le_refl _) h.2 rfl⟩
    refine (hseq (B + 1) (fun k W => I k W ∧ Held .ready W) W0 (fun _ _ h => h.1) ?_ ⟨hI0, hB0⟩).mono ?_
    · rintro k W hk ⟨hi, hh⟩
      refine ⟨fn, _, assign, body, run_yield hh.1 (hps k), roundIn_of_wpIn trivial (hassign _ k W _ hk hi fun a' Wa hka hia hax => ?_)⟩
      have hh2 := kept hh hka
      refine ⟨_, run_beginRound hh2.1 rfl, wpIn_mono (hbody _ k a' _ hk (hI.putObj _ hia (by omega) hh2.1 rfl) ((hAx a').putObj _ hax (by omega) hh2.1 rfl)) ?_⟩
      rintro e a3 W3 ⟨rfl, hk3, hi3⟩
      have hh3 := kept (turn .busy hh2) hk3
      exact ⟨_, _, run_endRound none hh3.1, rfl, hI.putObj _ hi3 (by omega) hh3.1 rfl, turn .ready hh3⟩
    · rintro e W2 ⟨⟨v, rfl⟩, hi, hh⟩
      exact ⟨none, _, run_endLoop hh.1 (by simp [R]), hdone _ _ (Nat.le_refl _) (hI.putObj _ hi (by omega) hh.1 rfl) ((World.putObj_heap_other (by omega)).trans hh.2)⟩
end Go.Rk
namespace Go.Rk
open Go.RowKit

/-- Where the rows of a matrix lie, and what lies at its place number k. -/
structure GridAt (n c b off : Nat) (D O C : Nat → Nat) (v : Nat → Nat → Int) (k : Nat) (W : World) : Prop where
  hdr : ∀ i, i < n → W.cell? ⟨b, off + i, none⟩ = some (.slice (some ⟨D i, O i, none⟩) c (C i))
  el : ∀ i j, i < n → j < c → i * c + j = k → W.cell? ⟨D i, O i + j, none⟩ = some (.int .i64 (v i j))

/-- What is yielded at place number k. -/
def encE (c : Nat) (v : Nat → Nat → Int) (k : Nat) : Array Value := #[.agg #[.int .i64 ((k / c : Nat) : Int), .int .i64 ((k % c : Nat) : Int)], .int .i64 (v (k / c) (k % c))]
theorem encE_at {c : Nat} {v : Nat → Nat → Int} {i j : Nat} (hj : j < c) : encE c v (i * c + j) = #[.agg #[.int .i64 (i : Int), .int .i64 (j : Int)], .int .i64 (v i j)] := by
  have h1 : (i * c + j) / c = i := by rw [Nat.mul_comm, Nat.mul_add_div (by omega), Nat.div_eq_of_lt hj, Nat.add_zero]
  have h2 : (i * c + j) % c = j := by rw [Nat.mul_comm, Nat.mul_add_mod, Nat.mod_eq_of_lt hj]
  unfold encE
  rw [h1, h2]
end Go.Rk
namespace Go.Proofs.YtkielldinghmbaaDoor
open Go.RowKit Go.Shelf Go.Rk
attribute [local go_sem] Oper.semAt_some

set_option maxRecDepth 100000 in
set_option maxHeartbeats 4000000 in
theorem each1_on (m : Nat) {n c b off cap Bm : Nat} {D O C : Nat → Nat} {v : Nat → Nat → Int} (hn : n ≤ 1000000) (hc : c ≤ 1000000) (I : Nat → World → Prop)
    (hI : ∀ k W, I k W → GridAt n c b off D O C v k W ∧ W.cell? ⟨Bm, 0, none⟩ = some (.slice (some ⟨b, off, none⟩) n cap)) :
    SeqOn m Tryd.prog 85 #[.pointer (some ⟨Bm, 0, none⟩)] (encE c v) I (n * c) := by
  intro l J W hJI hY h0
  have hBm := (hI _ _ (hJI _ _ h0)).2
  have HGI : Hid (∀ k W, J k W → GridAt n c b off D O C v k W) := fun k W h => (hI _ _ (hJI _ _ h)).1
  refine callsIn_of_wp Tryd.func85 rfl trivial ?_ rfl
  simp only [Tryd.ntmps85, List.size_toArray, List.length_cons, List.length_nil, Nat.reduceAdd, Nat.reduceSub, Array.replicate_succ, Array.replicate_zero, List.push_toArray, List.append_toArray, List.nil_append, List.cons_append]
  gi_wp2
  gi_loopw [9] (fun x wr => ∃ (i : Nat), i ≤ n ∧ x = .int .i64 i ∧ J (i * c) wr)
    (fun x _ => n - (intOf x).toNat)
  case atStart => exact ⟨0, Nat.zero_le _, rfl, by rw [Nat.zero_mul]; exact h0⟩
  case round =>
    obtain ⟨i, hi, rfl, hJ⟩ := hrel
    by_cases hlt : i < n
    · have y1 := (HGI.out _ _ hJ).hdr i hlt
      gi_wp2
      gi_loopw [16] (fun x wt => ∃ (j : Nat), j ≤ c ∧ x = .int .i64 j ∧ J (i * c + j) wt)
        (fun x _ => c - (intOf x).toNat)
      case atStart => exact ⟨0, Nat.zero_le _, rfl, hJ⟩
      case round =>
        clear hJ y1
        obtain ⟨j, hj, rfl, hJ⟩ := hrel
        by_cases hjc : j < c
        · have y2 := (HGI.out _ _ hJ).el i j hlt hjc rfl
          have hy0 := hY _ wr (place_lt hlt hjc) hJ
          rw [encE_at hjc] at hy0
          obtain ⟨fn, tmps, assign, body, hy, hR⟩ := hy0
          gi_wp2
          refine ⟨fun e => by simp [Fence.wide] at e, hR.mono ?_⟩
          rintro e W3 ⟨rfl, hJ3⟩
          gi_wp2
          go_roundw
          case rel => exact ⟨j + 1, by omega, by go_num, hJ3⟩
          case measure => simp [intOf]; omega
        · obtain rfl : j = c := by omega
          gi_wp2
          go_roundw
          case rel => exact ⟨i + 1, by omega, by go_num, by rw [Nat.add_mul, Nat.one_mul]; exact hJ⟩
          case measure => simp [intOf]; omega
    · obtain rfl : i = n := by omega
      gi_wp2
      go_end0
      exact ⟨⟨_, rfl⟩, hJ⟩
end Go.Proofs.YtkielldinghmbaaDoor
namespace Go.Proofs.YtkielldinghmbaaDoor
open Go.RowKit Go.Shelf Go.Rk
attribute [local go_sem] Oper.semAt_some

section
variable {a : Option Addr} {n ca : Nat} {A : List (List Int)} {w : World}
theorem inv_Of_err {x : Int} (hA : RdM w a n ca A) (hq : squareR 5 0 9972 A = some x) :
    Calls Tryd.prog 56 #[.slice a n ca] w fun e w' => e = .returned (.tuple #[.slice none 0 0, .iface 70 (.int .i64 x)]) ∧ w = w' := by
  have C := Lib.hid (det_Of_err hA hq)
  clear hq
  go_enter Tryd.func56, Tryd.ntmps56
  go_wp2_with (go_at_call 39; refine C.out.mono ?_; rintro e w' ⟨rfl, rfl⟩)
  go_ret2
  exact ⟨rfl, rfl⟩
theorem inv_Of_none (hA : RdM w a n ca A) (G : Good n n A) (hd : det n (mx A) % 9973 = 0) :
    Calls Tryd.prog 56 #[.slice a n ca] w fun e w' => e = .returned (.tuple #[.slice none 0 0, .iface 70 (.int .i64 5)]) ∧ Below w.heap.size w w' := by
  have C := det_Of_ok hA (squareR_of (lo := 0) (hi := 9972) (most := 5) G.n1.1 (by have := G.n1; omega) G.dm G.ent)
  rw [hd] at C
  have C := Lib.hid C
  clear hd
  go_enter Tryd.func56, Tryd.ntmps56
  go_wp2_with (go_at_call 39; refine C.out.mono ?_; rintro e w' ⟨rfl, hb⟩)
  go_ret2
  exact ⟨rfl, hb⟩

/-- The inverse's numbers. -/
def invE (n : Nat) (A : List (List Int)) (i j : Nat) : Int := adj n (mx A) i j % 9973 * powm (det n (mx A) % 9973) 9971 % 9973

set_option maxRecDepth 100000 in
set_option maxHeartbeats 4000000 in
theorem inv_Of_ok (hA : RdM w a n ca A) (G : Good n n A) (hd : det n (mx A) % 9973 ≠ 0) :
    Calls Tryd.prog 56 #[.slice a n ca] w fun e w' => ∃ a' cap' P, e = .returned (.tuple #[.slice a' n cap', .nilIface]) ∧ OwM w' w.heap.size 32 3 a' n cap' P ∧ IsR n n P (invE n A) ∧ Below w.heap.size w w' := by
  have HM := Lib.hid matTy
  have HG := Lib.hid G
  have hn := G.n1
  have C := Lib.hid (det_Of_ok hA (squareR_of (lo := 0) (hi := 9972) (most := 5) hn.1 (by omega) G.dm G.ent))
  clear G
  obtain ⟨d, hd2⟩ : ∃ d, d = det n (mx A) % 9973 := ⟨_, rfl⟩
  rw [← hd2] at C hd
  have bd : 0 ≤ d ∧ d ≤ 9972 := by omega
  have z1 : (d == 0) = false := beq_eq_false_iff_ne.2 hd
  have HD := Lib.hid hd2
  clear hd hd2
  refine (callsIn_wide (n := 6)).1 ?_
  refine callsIn_of_wp_marks Tryd.func56 rfl trivial ?_ rfl
  simp only [Tryd.ntmps56, List.size_toArray, List.length_cons, List.length_nil, Nat.reduceAdd, Nat.reduceSub, Array.replicate_succ, Array.replicate_zero, List.push_toArray, List.append_toArray, List.nil_append, List.cons_append]
  refine wpIn_wide.2 ?_
  obtain ⟨O, hO⟩ : ∃ O, powm d 9971 = O := ⟨_, rfl⟩
  have bO : 0 ≤ O ∧ O ≤ 9972 := by rw [← hO]; unfold powm; omega
  have CO := Over_any d
  rw [hO] at CO
  have CO := Lib.hid CO
  have HO := Lib.hid hO
  clear hO
  go_wp2_with (first | (go_at_call 39; (with_reducible refine C.out.mono ?_); rintro e w1 ⟨rfl, k1⟩) | (go_at_call 43; refine (Adj_ok (hA.below k1) HG.out).mono ?_; rintro e w2 ⟨a2, c2, P0, rfl, ho2, hP0, b2⟩; obtain ⟨g, D, Cp, hz, hd2⟩ := ho2.named (by omega) (fun r hr => by rw [hP0.1.2 r hr]; omega); cases hz; have k2 := below_tr k1 b2) | (go_at_call 74; (with_reducible refine (CO.out _ bd.1 bd.2).mono ?_); rintro e w4 ⟨rfl, rfl⟩) | (go_at_call 65; fail))
  have hlow : Hid (g < w2.heap.size ∧ ∀ i, i < n → D i < w2.heap.size) := ⟨hd2.lowO.2, fun i hi => (hd2.lowI hi).2⟩
  have hd4 := ((hd2.mono k1.size).alloc (.cells #[.slice (some ⟨g, 0, none⟩) n c2] 22)).alloc (.cells #[.int .i64 O] 3)
  have k3 := k2.alloc k2.size (.cells #[.slice (some ⟨g, 0, none⟩) n c2] 22)
  have k4 := k3.alloc k3.size (.cells #[.int .i64 O] 3)
  have px : ((w2.alloc (.cells #[.slice (some ⟨g, 0, none⟩) n c2] 22)).alloc (.cells #[.int .i64 O] 3)).cell? ⟨w2.heap.size, 0, none⟩ = some (.slice (some ⟨g, 0, none⟩) n c2) := alloc_keep (by simp)
  have py : ((w2.alloc (.cells #[.slice (some ⟨g, 0, none⟩) n c2] 22)).alloc (.cells #[.int .i64 O] 3)).cell? ⟨w2.heap.size + 1, 0, none⟩ = some (.int .i64 O) := by simp
  have hPO : Hid (g < w2.heap.size + 1 ∧ ∀ i, i < n → D i < w2.heap.size + 1) := ⟨by have := hlow.out.1; omega, fun i hi => by have := hlow.out.2 i hi; omega⟩
  clear C CO b2 ho2 k3 hd2 hlow
  generalize ((w2.alloc (.cells #[.slice (some ⟨g, 0, none⟩) n c2] 22)).alloc (.cells #[.int .i64 O] 3)) = W4 at *
  have hPQ : Hid (w2.heap.size + 1 ≠ w2.heap.size) := Nat.succ_ne_self _
  have hlow1 : Hid (∀ i, i < n → D i ≠ w2.heap.size + 1) := fun i hi e => by have := hPO.out.2 i hi; omega
  clear hPO
  generalize w2.heap.size = PO at *
  generalize PO + 1 = PV at *
  refine (callsIn_wide.1 (each_in 0 (some ⟨g, 0, none⟩) n c2 W4)).mono ?_
  rintro e w' ⟨rfl, rfl⟩
  go_wp2_with fail
  refine (wpIn_wide (n := 6)).1 ?_
  have hd5 := hd4.alloc (.cells #[.slice (some ⟨g, 0, none⟩) n c2] 22)
  have hBm : (W4.alloc (.cells #[.slice (some ⟨g, 0, none⟩) n c2] 22)).cell? ⟨W4.heap.size, 0, none⟩ = some (.slice (some ⟨g, 0, none⟩) n c2) := by simp
  have k5 := k4.alloc k4.size (.cells #[.slice (some ⟨g, 0, none⟩) n c2] 22)
  have q5 := alloc_keep (o := .cells #[.slice (some ⟨g, 0, none⟩) n c2] 22) px
  have r5 := alloc_keep (o := .cells #[.slice (some ⟨g, 0, none⟩) n c2] 22) py
  have h5w := k5.size
  clear px py k4 hd4
  let V : Nat → Nat → Int := fun i j => adj n (mx A) i j % 9973
  let I : Nat → World → Prop := fun k W => (∃ P, OwMD W w.heap.size 32 3 g D Cp n c2 P ∧ Dm n n P ∧ ∀ i j, i < n → j < n → en P i j = if i * n + j < k then V i j * O % 9973 else V i j) ∧ W.cell? ⟨PO, 0, none⟩ = some (.slice (some ⟨g, 0, none⟩) n c2) ∧ W.cell? ⟨PV, 0, none⟩ = some (.int .i64 O) ∧ W.cell? ⟨W4.heap.size, 0, none⟩ = some (.slice (some ⟨g, 0, none⟩) n c2) ∧ Below w.heap.size w W
  refine range_on (n := 6) (by decide) (gf := 85) (lb := #[.pointer (some ⟨W4.heap.size, 0, none⟩)]) rfl (enters_of Tryd.func85 (by kernel_rfl) rfl) (encs := encE n V) (N := n * n) (fun _ => rfl) I
    (fun k X Y row hs hgr hr => ⟨let ⟨P, e1, e2, e3⟩ := hs.1; ⟨P, e1.passes hgr (fun r e => (hr r e).2), e2, e3⟩, cell_kept hs.2.1 hgr (fun r e => (hr r e).2), cell_kept hs.2.2.1 hgr (fun r e => (hr r e).2), cell_kept hs.2.2.2.1 hgr (fun r e => (hr r e).2), hs.2.2.2.2.grown hgr hs.2.2.2.2.size (fun r e => Nat.le_trans h5w (hr r e).1)⟩)
    (each1_on 5 (n := n) (c := n) (v := V) (D := D) (O := fun _ => 0) (C := Cp) (b := g) (off := 0) (cap := c2) (by omega) (by omega) I fun k W h => ⟨let ⟨P, e1, e2, e3⟩ := h.1; ⟨fun i hi => by rw [Nat.zero_add, ← e2.2 i hi]; exact e1.cellO hi, fun i j hi hj hk => by rw [Nat.zero_add, e1.cellI hi (by rw [e2.2 i hi]; exact hj), e3 i j hi hj, if_neg (by omega)]⟩, h.2.2.2.1⟩)
    ⟨⟨P0, hd5, hP0.1, fun i j hi hj => by rw [if_neg (Nat.not_lt_zero _)]; exact hP0.2 i j hi hj⟩, q5, r5, hBm, k5⟩
    (fun k a' W => ∃ Bx, W.cell? ⟨Bx, 0, none⟩ = some (.int .i64 ((k / n : Nat) : Int)) ∧ W.cell? ⟨Bx, 1, none⟩ = some (.int .i64 ((k % n : Nat) : Int)) ∧ a' = { tmps := #[Value.slice a n ca, undef, Value.slice none 0 0, Value.nilIface, Value.int IntKind.i64 d, Value.nilIface, Value.pointer (some { block := PO, off := 0 }), Value.nilIface, Value.pointer (some { block := PV, off := 0 }), Value.pointer (some { block := Bx, off := 0 }), .int .i64 (V (k / n) (k % n)), Value.tuple #[Value.int IntKind.i64 d, Value.nilIface], Value.slice a n ca, Value.tuple #[Value.int IntKind.i64 d, Value.nilIface], Value.int IntKind.i64 d, Value.nilIface, Value.nilIface, Value.bool false, undef, Value.int IntKind.i64 d, Value.bool false, undef, Value.tuple #[Value.slice (some { block := g, off := 0 }) n c2, Value.nilIface], Value.slice a n ca, Value.tuple #[Value.slice (some { block := g, off := 0 }) n c2, Value.nilIface], Value.slice (some { block := g, off := 0 }) n c2, Value.nilIface, Value.int IntKind.i64 d, Value.int IntKind.i64 O, Value.slice (some { block := g, off := 0 }) n c2, Value.func (.func 85) #[] #[Value.pointer (some { block := W4.heap.size, off := 0 })], .agg #[.int .i64 ((k / n : Nat) : Int), .int .i64 ((k % n : Nat) : Int)], .int .i64 (V (k / n) (k % n)), undef, undef, undef, undef, undef, undef, undef, undef, undef, undef, undef, undef, undef], defers := [] })
    (fun a' k X Y row hs hgr hr => let ⟨Bx, e1, e2, e3⟩ := hs; ⟨Bx, cell_kept e1 hgr (fun r e => (hr r e).2), cell_kept e2 hgr (fun r e => (hr r e).2), e3⟩)
    ?assign ?body ?done
  case assign =>
    rintro l k W K hk ⟨⟨P, e1, e2, e3⟩, c3, c4, c5, hbW⟩ hK
    dsimp only [encE]
    gi_wp2
    exact hK _ _ ((KeepsOthers.alloc _ _).from _) ⟨⟨P, e1.alloc _, e2, e3⟩, alloc_keep c3, alloc_keep c4, alloc_keep c5, hbW.alloc hbW.size _⟩ ⟨W.heap.size, by simp, by simp, rfl⟩
  case body =>
    rintro l k a' W hk ⟨⟨P, e1, e2, e3⟩, c3, c4, c5, hbW⟩ ⟨Bx, y1, y2, rfl⟩
    clear hBm q5 r5 hd5
    obtain ⟨i, hi0⟩ : ∃ i, i = k / n := ⟨_, rfl⟩
    obtain ⟨j, hj0⟩ : ∃ j, j = k % n := ⟨_, rfl⟩
    have hkk : Hid (k = i * n + j) := by unfold Hid; rw [hi0, hj0]; exact (Nat.div_add_mod' k n).symm
    have hi : i < n := by rw [hi0]; exact Nat.div_lt_of_lt_mul hk
    have hj : j < n := by rw [hj0]; exact Nat.mod_lt _ (by omega)
    have bV : 0 ≤ V i j ∧ V i j ≤ 9972 := by show 0 ≤ _ % 9973 ∧ _ % 9973 ≤ 9972; omega
    simp only [← hi0, ← hj0] at y1 y2 ⊢
    clear hi0 hj0 hk
    have a1 := e1.cellO hi
    have a2 := e1.cellI hi (j := j) (by rw [e2.2 i hi]; exact hj)
    have a3 := e1.frozenI hi (by rw [e2.2 i hi]; omega) j
    rw [e2.2 i hi] at a1
    have i1 : (i : Int) < (n : Int) := by omega
    have i2 : (j : Int) < (n : Int) := by omega
    obtain ⟨x, hx⟩ : ∃ x, V i j = x := ⟨_, rfl⟩
    rw [hx] at bV ⊢
    have HX := Lib.hid hx
    clear hx
    have bm := mul_bd bV bO
    have u1 : IntKind.i64.wrap (x * O) = x * O := Go.IntWalk.i64_in _ (by omega)
    have u2 : (x * O).tmod 9973 = x * O % 9973 := Int.tmod_eq_emod_of_nonneg (by omega)
    gi_wp2
    refine region_round_tail 12 (by kernel_rfl) (by kernel_rfl) (fun ⟨_, _, h⟩ => nomatch (show Exit.outgrown = Exit.normal from h.1)) (by kernel_rfl) ?_
    simp only [List.take_succ_cons, List.take_zero, List.drop_succ_cons, List.drop_zero]
    repeat still_step
    refine wpStill_nil ?_
    change wpList _ _ _ _ _ W.drew
    go_wp2
    refine ⟨((KeepsOthers.setCell _ _ _).trans (KeepsOthers.drew _)).from _, ⟨_, (e1.set matTy.ne hi _).drew, e2.setE _ _ _, fun r s hr hs => ?_⟩, set_keepS c3 a2, set_keep c4 (fun e => hlow1.out i hi e.symm), set_keepS c5 a2, (hbW.setCell (p := ⟨D i, j, none⟩) (e1.lowI hi).1 _).drew⟩
    rw [e2.en_set _ hr hs, e3 r s hr hs, hkk.out]
    have hrs : i = r ∧ j = s ↔ r * n + s = i * n + j := ⟨fun ⟨e1, e2⟩ => by rw [e1, e2], fun e => ?_⟩
    · by_cases h1 : i = r ∧ j = s
      · rw [if_pos h1, if_pos (by have := hrs.1 h1; omega), ← h1.1, ← h1.2, HX.out]
      · have h2 : r * n + s ≠ i * n + j := fun e => h1 (hrs.2 e)
        rw [if_neg h1]
        by_cases h3 : r * n + s < i * n + j
        · rw [if_pos h3, if_pos (by omega)]
        · rw [if_neg h3, if_neg (by omega)]
    · have q1 : (r * n + s) / n = r := by rw [Nat.mul_comm, Nat.mul_add_div (by omega), Nat.div_eq_of_lt hs, Nat.add_zero]
      have q2 : (i * n + j) / n = i := by rw [Nat.mul_comm, Nat.mul_add_div (by omega), Nat.div_eq_of_lt hj, Nat.add_zero]
      have q3 : (r * n + s) % n = s := by rw [Nat.mul_comm, Nat.mul_add_mod, Nat.mod_eq_of_lt hs]
      have q4 : (i * n + j) % n = j := by rw [Nat.mul_comm, Nat.mul_add_mod, Nat.mod_eq_of_lt hj]
      exact ⟨by rw [← q1, ← q2, e], by rw [← q3, ← q4, e]⟩
  case done =>
    rintro Dd W hDd ⟨⟨P, e1, e2, e3⟩, c3, c4, c5, hbW⟩ hK
    go_wp2
    refine ⟨by simp, .inl ⟨_, _, rfl, run_takeDeferred hK, ?_⟩⟩
    have hgr := grownBy_putObj' W Dd (.deferred none)
    have hno : ∀ r, some Dd = some r → ∃ o : Obj, W.heap[r]? = some o ∧ o.isCells = false := fun r e => by cases e; exact ⟨_, hK, rfl⟩
    exact ⟨_, results_tmp2 rfl _ _ _, _, _, P, rfl, (e1.passes hgr hno).toM, ⟨e2, fun i j hi hj => by rw [e3 i j hi hj, if_pos (place_lt hi hj)]; unfold invE; rw [← HD.out, HO.out]⟩, hbW.grown hgr hbW.size (fun r e => by cases e; exact Nat.le_trans h5w hDd)⟩
end
end Go.Proofs.YtkielldinghmbaaDoor
namespace Go.Proofs.YtkielldinghmbaaDoor
open Go.RowKit Go.Rk

set_option maxHeartbeats 4000000 in
set_option maxRecDepth 100000 in
theorem invFact_any {w : World} (hg : ErrT w) : Calls Tryd.prog 59 #[] w fun e w' => e = .returned (.bool true) ∧ Below w.heap.size w w' := by
  have G1 := Lib.hid (Good.of (n := 2) (M := [[1, 2], [0, 1]]) rfl (by decide))
  have G2 := Lib.hid (Good.of (n := 2) (M := [[1, 2], [2, 4]]) rfl (by decide))
  go_enter Tryd.func59, Tryd.ntmps59
  go_wp2_with fail
  refine (inv_Of_ok (n := 2) (A := [[1, 2], [0, 1]]) (rd22 (p := w.heap.size) (q := w.heap.size + 1) ?_ ?_ ?_ ?_ ?_ ?_) G1.out (by decide)).mono ?main
  case main =>
    rintro e w1 ⟨a1, c1, P, rfl, ho, hi, hb⟩
    obtain rfl : P = [[1, 9971], [0, 1]] := hi.1.ext ⟨rfl, fun i hi => by rcases (show i = 0 ∨ i = 1 by omega) with rfl | rfl <;> rfl⟩ fun i j h1 h2 => by
      rw [hi.2 i j h1 h2]
      rw [show invE 2 [[1, 2], [0, 1]] i j = adj 2 (mx [[1, 2], [0, 1]]) i j % 9973 * 1 % 9973 by unfold invE; rw [show det 2 (mx [[1, 2], [0, 1]]) % 9973 = 1 by decide, show powm 1 9971 = 1 by unfold powm; rw [Int.one_pow]; rfl]]
      rcases (show i = 0 ∨ i = 1 by omega) with rfl | rfl <;> rcases (show j = 0 ∨ j = 1 by omega) with rfl | rfl <;> decide
    have b1 := below_tr (below_al (below_al (below_al (Below.refl _ w) _) _) _) hb
    have h1 := ho.rd
    clear ho hi hb
    go_wp2_with fail
    refine (inv_Of_none (n := 2) (A := [[1, 2], [2, 4]]) (rd22 (p := w1.heap.size) (q := w1.heap.size + 1) ?_ ?_ ?_ ?_ ?_ ?_) G2.out (by decide)).mono ?main
    case main =>
      rintro e w2 ⟨rfl, hb⟩
      have k2 := below_tr (below_al (below_al (below_al (Below.refl _ w1) _) _) _) hb
      have b2 := below_tr b1 k2
      have h1 := h1.below k2
      clear b1 k2 hb
      go_wp2_with (go_at_call 17; fail)
      refine (E_same (hg.below b2)).mono ?_
      rintro e w3 ⟨rfl, hb⟩
      have b3 := below_tr b2 hb
      have h1 := h1.below hb
      clear hb b2
      go_wp2_with fail
      refine (Rows_any (l := [[1, 9971], [0, 1]]) (m := [[1, 9971], [0, 1]]) (h1.below (below_al (below_al (below_al (Below.refl _ w3) _) _) _)) (rd22 (p := w3.heap.size) (q := w3.heap.size + 1) ?_ ?_ ?_ ?_ ?_ ?_)).mono ?main
      case main =>
        rintro e w4 ⟨rfl, hb⟩
        have b4 := below_tr b3 (below_tr (below_al (below_al (below_al (Below.refl _ w3) _) _) _) hb)
        clear hb b3 h1
        go_wp2
        go_ret
        exact ⟨rfl, b4⟩
      all_goals simp [go_sem]
    all_goals simp [go_sem]
  all_goals simp [go_sem]
end Go.Proofs.YtkielldinghmbaaDoor
namespace Go.Rk
open Go.RowKit

/-- X is A's inverse by the prime. -/
structure IsInv (n : Nat) (A X : Mx) : Prop where
  right : EqM n n (mulM n A X) oneM
  left : EqM n n (mulM n X A) oneM

section
variable {n : Nat} {A B X Y : Mx}
theorem IsInv.symm (h : IsInv n A X) : IsInv n X A := ⟨h.left, h.right⟩
theorem IsInv.congr (h : IsInv n A X) (eA : EqM n n A B) (eX : EqM n n X Y) : IsInv n B Y :=
  ⟨(EqM.mul eA.symm eX.symm).trans h.right, (EqM.mul eX.symm eA.symm).trans h.left⟩
theorem one_right (A : Mx) : EqM n n (mulM n A oneM) A := fun i _ _ hj => Eqm.of_eq (mulM_one A i hj)
theorem one_left (A : Mx) : EqM n n (mulM n oneM A) A := fun _ j hi _ => Eqm.of_eq (one_mulM A hi j)
theorem inv_of_adj {o : Int} (hd : Eqm (det n A * o) 1) (hX : ∀ i j, i < n → j < n → Eqm (X i j) (adj n A i j * o)) : IsInv n A X := by
  refine ⟨fun i j hi hj => ?_, fun i j hi hj => ?_⟩
  · have e : Eqm (mulM n A X i j) (mulM n A (adj n A) i j * o) := by
      unfold mulM
      refine (sumTo_eqm fun k hk => (Eqm.refl (A i k)).mul (hX k j hk hj)).trans (Eqm.of_eq ?_)
      rw [Int.mul_comm, ← sumTo_mul]
      exact sumTo_congr fun k _ => by grind
    rw [mul_adj A hi hj] at e
    unfold oneM
    split at e
    · next h => rw [if_pos h]; exact e.trans hd
    · next h => rw [if_neg h]; rwa [Int.zero_mul] at e
  · have e : Eqm (mulM n X A i j) (mulM n (adj n A) A i j * o) := by
      unfold mulM
      refine (sumTo_eqm fun k hk => (hX i k hi hk).mul (Eqm.refl (A k j))).trans (Eqm.of_eq ?_)
      rw [Int.mul_comm, ← sumTo_mul]
      exact sumTo_congr fun k _ => by grind
    rw [adj_mul A hi hj] at e
    unfold oneM
    split at e
    · next h => rw [if_pos h]; exact e.trans hd
    · next h => rw [if_neg h]; rwa [Int.zero_mul] at e
theorem inv_one (h : EqM n n (mulM n A X) oneM) (k : EqM n n (mulM n Y A) oneM) : EqM n n X Y := by
  have e1 : EqM n n (mulM n Y (mulM n A X)) Y := (EqM.mul (EqM.refl n n Y) h).trans (one_right Y)
  rw [← mulM_go] at e1
  exact ((EqM.mul k (EqM.refl n n X)).trans (one_left X)).symm.trans e1
theorem IsInv.one (h : IsInv n A X) (k : IsInv n A Y) : EqM n n X Y := inv_one h.right k.left
theorem IsInv.mul (h : IsInv n A X) (k : IsInv n B Y) : IsInv n (mulM n A B) (mulM n Y X) := by
  refine ⟨?_, ?_⟩
  · rw [mulM_go, ← mulM_go n n B Y X]
    exact (EqM.mul (EqM.refl n n A) ((EqM.mul k.right (EqM.refl n n X)).trans (one_left X))).trans h.right
  · rw [mulM_go, ← mulM_go n n X A B]
    exact (EqM.mul (EqM.refl n n Y) ((EqM.mul h.left (EqM.refl n n B)).trans (one_left B))).trans k.left
theorem det_oneM (n : Nat) : det n oneM = 1 := by
  rw [det_upper oneM fun i j _ _ h => if_neg (by omega), prodTo_congr (g := fun i => oneM i i) (h := fun _ => 1) fun i _ => if_pos rfl]
  induction n with
  | zero => rfl
  | succ n ih => rw [prodTo, ih, Int.one_mul]
theorem det_inv (h : EqM n n (mulM n A X) oneM) : Eqm (det n A * det n X) 1 := by
  have := det_eqm h
  rwa [det_mul, det_oneM] at this
theorem det_nz (h : EqM n n (mulM n A X) oneM) : det n A % 9973 ≠ 0 := fun e => by
  have h1 := det_inv h
  have h2 : Eqm (det n A * det n X) (0 * det n X) := Eqm.mul (show Eqm (det n A) 0 from e) (Eqm.refl _)
  rw [Int.zero_mul] at h2
  have := h2.symm.trans h1
  unfold Eqm at this
  omega
theorem over_inv {d : Int} (h : d % 9973 ≠ 0) : Eqm (d * powm (d % 9973) 9971) 1 := by
  have := over_mul (a := d % 9973) (by omega) (by omega) h
  rw [Int.mul_comm]
  exact (Eqm.mul (Eqm.refl _) (Eqm.mod d)).symm.trans this
end
end Go.Rk
namespace Go.Proofs.YtkielldinghmbaaDoor
open Go.RowKit Go.Rk
variable {n : Nat} {A X B Y : List (List Int)}
theorem invE_inv (hd : det n (mx A) % 9973 ≠ 0) : IsInv n (mx A) (fun i j => invE n A i j) :=
  inv_of_adj (over_inv hd) fun _ _ _ _ => (Eqm.mod _).trans (Eqm.mul (Eqm.mod _) (Eqm.refl _))
theorem Good.inv (G : Good n n A) (hd : det n (mx A) % 9973 ≠ 0) (h : IsR n n X (invE n A)) : Good n n X ∧ IsInv n (mx A) (mx X) :=
  ⟨⟨G.n1, G.n1, h.1, fun i j hi hj => by rw [h.2 i j hi hj]; unfold invE; omega⟩, (invE_inv hd).congr (EqM.refl _ _ _) fun i j hi hj => Eqm.of_eq (h.2 i j hi hj).symm⟩
/-- What is an inverse and passes is the inverse. -/
theorem Good.inv_is (_ : Good n n A) (GX : Good n n X) (h : EqM n n (mulM n (mx A) (mx X)) oneM) : IsR n n X (invE n A) := by
  have e := inv_one h (invE_inv (det_nz h)).left
  refine ⟨GX.dm, fun i j hi hj => ?_⟩
  have h1 := GX.ent i j hi hj
  have h3 : en X i j % 9973 = invE n A i j % 9973 := e i j hi hj
  have h2 : 0 ≤ invE n A i j ∧ invE n A i j ≤ 9972 := by unfold invE; omega
  omega
end Go.Proofs.YtkielldinghmbaaDoor
namespace Go.Proofs.YtkielldinghmbaaDoor
open Go.RowKit Go.Rk

/-- What is wrong, as a number. -/
def numV (o : Option Int) : Value := .int .i64 (o.getD 0)
theorem allB_any (lo hi : Int) (l : List Int) : allB lo hi l = !anyB lo hi l := by
  unfold allB anyB
  rw [List.all_eq_not_any_not]
  congr 2
  funext x
  unfold inB outB
  by_cases h1 : lo ≤ x <;> by_cases h2 : x ≤ hi <;> simp [h1, h2] <;> omega

theorem rowsErr_ne0 {lo hi : Int} {m : Nat} {M : List (List Int)} (h : rowsErr lo hi m M = some 0) : False := by
  have key : ∀ (M : List (List Int)) (r : Option Int), r ≠ some 0 → M.foldl (fun r l => match r with | none => rowErr1 lo hi m l | some c => some c) r ≠ some 0 := by
    intro M
    induction M with
    | nil => intro r hr; exact hr
    | cons l M ih =>
      intro r hr
      rw [List.foldl_cons]
      refine ih _ ?_
      cases r with
      | none =>
        show rowErr1 lo hi m l ≠ some 0
        unfold rowErr1
        split
        · simp
        · split <;> simp
      | some c => exact hr
  exact key M none (by simp) h

theorem groundsR_ne0 {most lo hi : Int} {M : List (List Int)} (hg : groundsR most lo hi M = some 0) : False := by
  unfold groundsR at hg
  split at hg
  · injection hg; omega
  · split at hg
    · injection hg; omega
    · exact rowsErr_ne0 hg
theorem squareR_ne0 {most lo hi : Int} {M : List (List Int)} (h : squareR most lo hi M = some 0) : False := by
  unfold squareR at h
  split at h
  · split at h
    · cases h
    · injection h; omega
  · exact groundsR_ne0 h

set_option maxHeartbeats 2000000 in
theorem R_Matrix_any {a : Option Addr} {n cap : Nat} {M : List (List Int)} (most lo hi : Int) {w : World} (h : RdM w a n cap M) :
    Calls Tryd.prog 61 #[.slice a n cap, .int .i64 most, .int .i64 lo, .int .i64 hi] w fun e w' => e = .returned (numV (groundsR most lo hi M)) ∧ Below w.heap.size w w' := by
  have E1 := Lib.hid h.len_eq
  have hm := h.len_max
  by_cases h0 : n = 0
  · subst h0
    go_enter Tryd.func61, Tryd.ntmps61
    go_wp2
    go_ret
    refine ⟨?_, Below.refl _ _⟩
    unfold groundsR
    rw [if_pos (.inl E1.out)]
    rfl
  obtain ⟨b, off, rfl, hbl, hr⟩ := h.at (k := 0) (by omega)
  obtain ⟨ar0, cr0, hc0, hrd0⟩ := hr 0 (by omega)
  rw [Nat.add_zero] at hc0
  have hm0 := hrd0.len_max
  have z1 : ((n : Int) == 0) = false := by simp; omega
  rcases hq : groundsPre most M with _ | c
  · obtain ⟨p1, p2, p3⟩ := groundsPre_none hq
    have HR : Hid (groundsR most lo hi M = rowsErr lo hi (rowOf M 0).length M) := by
      unfold Hid groundsR
      rw [if_neg (by rw [E1.out]; omega), if_neg (by omega)]
    have p2' : (n : Int) ≤ most := by rw [← E1.out]; exact p2
    have z2 : (((rowOf M 0).length : Int) == 0) = false := beq_eq_false_iff_ne.2 (by omega)
    clear hq p2
    go_enter Tryd.func61, Tryd.ntmps61
    go_wp2
    go_loopw [9] (fun i wr => ∃ k q : Nat, k ≤ n ∧ i = .int .i64 k ∧ Hid (rowsErr lo hi (rowOf M 0).length (M.take k) = none) ∧ Hid (wr = w.drewN q)) (fun i _ => n - (intOf i).toNat)
    case atStart => exact ⟨0, 0, Nat.zero_le _, rfl, rfl, (World.drewN_zero _).symm⟩
    case round =>
      obtain ⟨k, q, hk, rfl, hno, HQ⟩ := hrel
      have kb : Below w.heap.size w wr := by rw [HQ.out]; exact below_drewN (Below.refl _ _) q
      by_cases hlt : k < n
      · obtain ⟨ar, cr, hc, hrd⟩ := hr k hlt
        have hmk := hrd.len_max
        have hl : k < M.length := by rw [E1.out]; exact hlt
        have hc := kb.keep hbl hc
        have hrd := hrd.below kb
        have hc0 := kb.keep hbl hc0
        have b1 : (k : Int) < (n : Int) := by omega
        have b2 : (0 : Int) < (n : Int) := by omega
        have b3 : (1 : Int) ≤ (n : Int) := by omega
        by_cases hw : (rowOf M k).length = (rowOf M 0).length
        · have z3 : (((rowOf M k).length : Int) != ((rowOf M 0).length : Int)) = false := bne_eq_false_iff_eq.2 (by omega)
          have Hw := Lib.hid hw
          have hcq := hc
          clear hw
          go_wp2
          go_quiet (fail)
          have kb2 : Below wr.heap.size wr (wr.drewN nq) := below_drewN (Below.refl _ _) nq
          have hc := kb2.keep (World.block_lt_of_cell? wr _ hcq) hcq
          have hrd := hrd.below kb2
          have HQ2 : Hid (wr.drewN nq = w.drewN (q + nq)) := by unfold Hid; rw [HQ.out, World.drewN_drewN]
          clear hcq hc0 kb kb2 HQ z3
          generalize wr.drewN nq = w2 at *
          rcases hany : anyB lo hi (rowOf M k)
          · have Ha := Lib.hid hany
            have Hb : Hid (allB lo hi (rowOf M k) = true) := by unfold Hid; rw [allB_any, hany]; rfl
            clear hany
            go_wp2_with (go_at_call 50; refine (R_All_any _ _ hrd).mono ?_; rintro e w' ⟨rfl, rfl⟩; rw [Hb.out])
            go_roundw
            case rel => exact ⟨k + 1, _, by omega, by go_num, by unfold Hid; rw [rowsErr_take hl, hno.out, rowErr1, Ha.out, if_neg (by rw [Hw.out]; simp)]; rfl, HQ2⟩
            case measure => simp [intOf]; omega
          · have Ha := Lib.hid hany
            have Hb : Hid (allB lo hi (rowOf M k) = false) := by unfold Hid; rw [allB_any, hany]; rfl
            clear hany
            go_wp2_with (go_at_call 50; refine (R_All_any _ _ hrd).mono ?_; rintro e w' ⟨rfl, rfl⟩; rw [Hb.out])
            go_ret
            refine ⟨?_, by rw [HQ2.out]; exact below_drewN (Below.refl _ _) _⟩
            rw [HR.out, rowsErr_at hl hno.out (c := 1) (by rw [rowErr1, Ha.out, if_neg (by rw [Hw.out]; simp)]; rfl)]
            rfl
        · have z3 : (((rowOf M k).length : Int) != ((rowOf M 0).length : Int)) = true := bne_iff_ne.2 (by omega)
          have Hw := Lib.hid hw
          clear hw
          go_wp2
          go_quiet (fail)
          go_wp2
          go_ret
          refine ⟨?_, below_drewN kb nq⟩
          rw [HR.out, rowsErr_at hl hno.out (c := 3) (by rw [rowErr1, if_pos Hw.out])]
          rfl
      · go_wp2
        go_ret
        refine ⟨?_, kb⟩
        have hfin := hno.out
        rw [List.take_of_length_le (by rw [E1.out]; omega)] at hfin
        rw [HR.out, hfin]
        rfl
  · have HR : Hid (groundsR most lo hi M = some c) := groundsPre_some hq
    have hq2 := groundsPre_cases hq (by rw [E1.out]; omega)
    have p5 : (n : Int) = M.length := by rw [E1.out]
    rcases hq2 with ⟨rfl, hz⟩ | ⟨rfl, hz1, hz2⟩ | ⟨rfl, hz1, hz2, hz3⟩
    · have z2 : (((rowOf M 0).length : Int) == 0) = true := beq_iff_eq.2 (by omega)
      have HP := Lib.hid p5
      clear hq hz p5
      go_enter Tryd.func61, Tryd.ntmps61
      go_wp2
      go_ret
      exact ⟨by rw [HR.out]; rfl, Below.refl _ _⟩
    · have z2 : (((rowOf M 0).length : Int) == 0) = false := beq_eq_false_iff_ne.2 (by omega)
      have z4 : most < (n : Int) := by omega
      have HP := Lib.hid p5
      clear hq p5 hz1 hz2
      go_enter Tryd.func61, Tryd.ntmps61
      go_wp2
      go_ret
      exact ⟨by rw [HR.out]; rfl, Below.refl _ _⟩
    · have z2 : (((rowOf M 0).length : Int) == 0) = false := beq_eq_false_iff_ne.2 (by omega)
      have z4 : (n : Int) ≤ most := by omega
      have HP := Lib.hid p5
      clear hq p5 hz1 hz2
      go_enter Tryd.func61, Tryd.ntmps61
      go_wp2
      go_ret
      exact ⟨by rw [HR.out]; rfl, Below.refl _ _⟩

theorem R_Square_any {a : Option Addr} {n cap : Nat} {M : List (List Int)} (most lo hi : Int) {w : World} (h : RdM w a n cap M) :
    Calls Tryd.prog 34 #[.slice a n cap, .int .i64 most, .int .i64 lo, .int .i64 hi] w fun e w' => e = .returned (numV (squareR most lo hi M)) ∧ Below w.heap.size w w' := by
  have C := R_Matrix_any most lo hi h
  have e1 := h.len_eq
  have hm := h.len_max
  rcases hg : groundsR most lo hi M with _ | x
  · rw [hg] at C
    have C1 := Lib.hid C
    obtain ⟨l1, l2, l3, l4, l5⟩ := groundsR_none hg
    rw [e1] at l1
    obtain ⟨b, off, rfl, hbl, hr⟩ := h.at (k := 0) l1
    obtain ⟨ar0, cr0, hc0, hrd0⟩ := hr 0 l1
    have hm0 := hrd0.len_max
    rw [Nat.add_zero] at hc0
    have b2 : (0 : Int) < (n : Int) := by omega
    have b3 : (1 : Int) ≤ (n : Int) := by omega
    have HG := Lib.hid hg
    have E1 := Lib.hid e1
    have z0 : ((0 : Int) == 0) = true := rfl
    by_cases hs : n = (rowOf M 0).length
    · have z1 : ((n : Int) != ((rowOf M 0).length : Int)) = false := bne_eq_false_iff_eq.2 (by omega)
      have HS := Lib.hid hs
      clear hs hg C e1 l2 l3 l4 l5 hr
      go_enter Tryd.func34, Tryd.ntmps34
      go_wp2_with (go_at_call 61; (with_reducible refine C1.out.mono ?_); rintro e w2 ⟨rfl, hb⟩; have hc0 := hb.keep hbl hc0; simp only [numV, Option.getD_none])
      go_ret
      refine ⟨?_, hb⟩
      unfold squareR
      rw [if_pos HG.out, if_pos (by rw [E1.out, ← HS.out])]
      rfl
    · have z1 : ((n : Int) != ((rowOf M 0).length : Int)) = true := bne_iff_ne.2 (by omega)
      have HS := Lib.hid hs
      clear hs hg C e1 l2 l3 l4 l5 hr
      go_enter Tryd.func34, Tryd.ntmps34
      go_wp2_with (go_at_call 61; (with_reducible refine C1.out.mono ?_); rintro e w2 ⟨rfl, hb⟩; have hc0 := hb.keep hbl hc0; simp only [numV, Option.getD_none])
      go_ret
      refine ⟨?_, hb⟩
      unfold squareR
      rw [if_pos HG.out, if_neg (by rw [E1.out]; exact HS.out)]
      rfl
  · rw [hg] at C
    have C1 := Lib.hid C
    have HG := Lib.hid hg
    have hx : x ≠ 0 := fun e => by subst e; exact groundsR_ne0 hg
    have z0 : (x == 0) = false := beq_eq_false_iff_ne.2 hx
    clear hg C hx
    go_enter Tryd.func34, Tryd.ntmps34
    go_wp2_with (go_at_call 61; (with_reducible refine C1.out.mono ?_); rintro e w2 ⟨rfl, hb⟩; simp only [numV, Option.getD_some])
    go_ret
    refine ⟨?_, hb⟩
    unfold squareR
    rw [if_neg (by rw [HG.out]; simp), HG.out]
    rfl

set_option maxHeartbeats 2000000 in
theorem R_Without_any {a : Option Addr} {n cap r c : Nat} {M : List (List Int)} {w : World} (h : RdM w a n cap M) (hn : n ≤ 1000) (hl : ∀ k, k < n → (rowOf M k).length ≤ 1000) :
    Calls Tryd.prog 44 #[.slice a n cap, .int .i64 r, .int .i64 c] w fun e w' => ∃ a' cap', e = .returned (.slice a' (woN M r c n).length cap') ∧ OwM w' w.heap.size 32 3 a' (woN M r c n).length cap' (woN M r c n) ∧ Below w.heap.size w w' := by
  have HM := Lib.hid matTy
  go_enter Tryd.func44, Tryd.ntmps44
  go_wp2
  go_loopw [7, 8] (fun v i wr => ∃ (k : Nat) (q : Option Addr) (cq : Nat), k ≤ n ∧ i = .int .i64 k ∧ v = .slice q (woN M r c k).length cq ∧ OwM wr w.heap.size 32 3 q (woN M r c k).length cq (woN M r c k) ∧ Below w.heap.size w wr) (fun _ i _ => n - (intOf i).toNat)
  case atStart => exact ⟨0, none, 0, Nat.zero_le _, rfl, rfl, OwM.nil _ _ _ _, Below.refl _ _⟩
  case round =>
    obtain ⟨k, q, cq, hk, rfl, rfl, ho, hb⟩ := hrel
    obtain ⟨wo, rfl⟩ : ∃ wo, wo = wr := ⟨_, rfl⟩
    by_cases hlt : k < n
    · by_cases hkr : k = r
      · have z1 : ((k : Int) == (r : Int)) = true := beq_iff_eq.2 (by omega)
        have HK := Lib.hid hkr
        clear hkr
        go_wp2
        go_roundw
        case rel => exact ⟨k + 1, q, cq, by omega, by go_num, by rw [woN, if_pos HK.out], by rw [woN, if_pos HK.out]; exact ho, hb⟩
        case measure => simp [intOf]; omega
      · have z1 : ((k : Int) == (r : Int)) = false := beq_eq_false_iff_ne.2 (by omega)
        have HK := Lib.hid hkr
        clear hkr
        obtain ⟨b, off, rfl, hbl, hr⟩ := h.at hlt
        obtain ⟨ar, cr, hc0, hrd⟩ := hr k hlt
        have b1 : (k : Int) < (n : Int) := by omega
        have hlk := hl k hlt
        obtain ⟨len, hlen⟩ : ∃ len, (rowOf M k).length = len := ⟨_, rfl⟩
        rw [hlen] at hc0 hrd hlk
        have HL := Lib.hid hlen
        clear hr hlen
        go_wp2
        go_loopw [9, 10] (fun v j wt => ∃ (s : Nat) (p : Option Addr) (cp : Nat), s ≤ len ∧ j = .int .i64 s ∧ v = .slice p (cutN (rowOf M k) c s).length cp ∧ OwI wt wo.heap.size 3 p (cutN (rowOf M k) c s).length cp (cutN (rowOf M k) c s) ∧ Below wo.heap.size wo wt) (fun _ j _ => len - (intOf j).toNat)
        case atStart => exact ⟨0, none, 0, Nat.zero_le _, rfl, rfl, OwI.nil _ _ _, Below.refl _ _⟩
        case round =>
          obtain ⟨s, p, cp, hs, rfl, rfl, hp, hbt⟩ := hrel
          have kt := below_tr hb hbt
          have hc0 := kt.keep hbl hc0
          by_cases hsl : s < len
          · obtain ⟨p2, o2, hz, _, hcs⟩ := (hrd.below kt).at hsl
            subst hz
            have y1 := hcs s hsl
            have b2 : (s : Int) < (len : Int) := by omega
            have hle := cutN_len (rowOf M k) c s
            have hle2 : (cutN (rowOf M k) c s).length ≤ s := by rw [hle]; split <;> omega
            clear hle hcs
            by_cases hsc : s = c
            · have z2 : ((s : Int) != (c : Int)) = false := bne_eq_false_iff_eq.2 (by omega)
              have HS := Lib.hid hsc
              clear hsc
              go_wp2
              go_roundw
              case rel => exact ⟨s + 1, p, cp, by omega, by go_num, by rw [cutN, if_pos HS.out], by rw [cutN, if_pos HS.out]; exact hp, hbt⟩
              case measure => simp [intOf]; omega
            · have z2 : ((s : Int) != (c : Int)) = true := bne_iff_ne.2 (by omega)
              have HS := Lib.hid hsc
              have hsz := hbt.size
              clear hsc
              go_wp2_with (at_builtin; refine wpList_push_int HM.out.int rfl (.tmp 32) (.tmp 40) rfl rfl rfl (hp.alloc _) (z := ix (rowOf M k) s) (by simp) (by decide) (by decide) (by omega) (by simp; omega) ?_; intro a6 cap6 w6 ho6 hg6)
              have hle6 : (cutN (rowOf M k) c (s + 1)).length = (cutN (rowOf M k) c s).length + 1 := by rw [cutN, if_neg HS.out]; simp
              have hb6 := (hbt.alloc hbt.size (.cells #[.int .i64 (ix (rowOf M k) s)] 3)).grown hg6 (by simp; omega) (fun r e => (hp.own.lt r e).1)
              go_roundw
              case rel => exact ⟨s + 1, a6, cap6, by omega, by go_num, by rw [hle6], by rw [hle6, cutN, if_neg HS.out]; exact ho6, hb6⟩
              case measure => simp [intOf]; omega
          · obtain rfl : s = len := by omega
            have hsz := hb.size
            have hsz2 := hbt.size
            have hwl := woN_len M r c k
            have hwl2 : (woN M r c k).length ≤ k := by rw [hwl]; split <;> omega
            clear hwl
            go_wp2_with (at_builtin; refine wpList_push_row HM.out rfl (.tmp 42) (.tmp 44) rfl rfl rfl ho (hbt.alloc hsz2 _) (hp.below ((Below.refl _ _).alloc (Nat.le_refl _) _)) (by simp) (by omega) hsz ?_; intro a4 cap4 w4 ho4 hb4)
            have hle4 : (woN M r c (k + 1)).length = (woN M r c k).length + 1 := by rw [woN, if_neg HK.out]; simp
            have hb5 := (kt.alloc kt.size (.cells #[.slice p (cutN (rowOf M k) c s).length cp] 32)).trans hb4
            go_roundw
            case rel => exact ⟨k + 1, a4, cap4, by omega, by go_num, by rw [hle4], by rw [hle4, woN, if_neg HK.out, HL.out]; exact ho4, hb5⟩
            case measure => simp [intOf]; omega
    · obtain rfl : k = n := by omega
      go_wp2
      go_ret
      exact ⟨q, cq, rfl, ho, hb⟩

theorem R_Without_sq {a : Option Addr} {n cap r c : Nat} {M : List (List Int)} {w : World} (h : RdM w a (n + 1) cap M) (hn : n ≤ 100) (hd : Dim (n + 1) M) (hr : r < n + 1) (hc : c < n + 1) :
    Calls Tryd.prog 44 #[.slice a (n + 1 : Nat) cap, .int .i64 r, .int .i64 c] w fun e w' => ∃ a' cap' W, e = .returned (.slice a' n cap') ∧ OwM w' w.heap.size 32 3 a' n cap' W ∧ Is n W (minor (mx M) r c) ∧ Below w.heap.size w w' := by
  refine (R_Without_any h (by omega) fun k hk => by rw [hd.2 k hk]; omega).mono ?_
  rintro e w' ⟨a', cap', rfl, ho, hb⟩
  have hl : (woN M r c (n + 1)).length = n := by rw [woN_len, if_pos hr]; omega
  rw [hl] at ho
  exact ⟨a', cap', _, by rw [hl], ho, woN_is hd hr hc, hb⟩

set_option maxHeartbeats 4000000 in
set_option maxRecDepth 100000 in
theorem R_DetMod_big : ∀ (n : Nat) {a : Option Addr} {cap : Nat} {M : List (List Int)} {w : World} (_ : RdM w a n cap M) (_ : Dim n M) (_ : Ent 0 9972 n M) (_ : n ≤ 100),
    Calls Tryd.prog 38 #[.slice a n cap] w fun e w' => e = .returned (.int .i64 (det n (mx M) % 9973)) ∧ Below w.heap.size w w' := by
  intro n
  induction n with
  | zero =>
    intro a cap M w h _ _ _
    go_enter Tryd.func38, Tryd.ntmps38
    go_wp2
    go_ret
    exact ⟨rfl, Below.refl _ _⟩
  | succ n ih =>
    intro a cap M w h hd he h5
    obtain ⟨N, hN⟩ : ∃ N, n + 1 = N := ⟨_, rfl⟩
    rw [hN] at h hd he h5 ⊢
    have hN1 : 1 ≤ N := by omega
    have hN2 : 0 < N := by omega
    have HD := Lib.hid hd
    have HE := Lib.hid he
    have IH : Hid (∀ {a : Option Addr} {cap : Nat} {M : List (List Int)} {w : World} (_ : RdM w a n cap M) (_ : Dim n M) (_ : Ent 0 9972 n M) (_ : n ≤ 100), Calls Tryd.prog 38 #[.slice a n cap] w fun e w' => e = .returned (.int .i64 (det n (mx M) % 9973)) ∧ Below w.heap.size w w') := @ih
    clear ih hd he
    obtain ⟨ba, oa, rfl, hba, hra⟩ := h.at (k := 0) (by omega)
    obtain ⟨ai, ci, hc0, hai⟩ := hra 0 (by omega)
    rw [HD.out.2 0 (by omega)] at hc0 hai
    obtain ⟨pa, qa, rfl, hpa, hca⟩ := hai.at (k := 0) (by omega)
    rw [Nat.add_zero] at hc0
    have z0 : ((N : Int) == 0) = false := beq_eq_false_iff_ne.2 (by omega)
    clear hra hai
    go_enter Tryd.func38, Tryd.ntmps38
    go_wp2
    go_loopw [3, 4, 5] (fun vs vg vj wr => ∃ (j : Nat) (S g : Int), j ≤ N ∧ vj = .int .i64 j ∧ vs = .int .i64 S ∧ vg = .int .i64 g ∧ Hid (g = sg j) ∧ (g = 1 ∨ g = -1) ∧ 0 ≤ S ∧ S ≤ 9972 ∧ Hid (Eqm S (sumTo (fun t => sg t * en M 0 t * det n (minor (mx M) 0 t)) j)) ∧ Below w.heap.size w wr) (fun _ _ vj _ => N - (intOf vj).toNat)
    case atStart => exact ⟨0, 0, 1, Nat.zero_le _, rfl, rfl, rfl, rfl, .inl rfl, by omega, by omega, Eqm.refl _, Below.refl _ _⟩
    case round =>
      obtain ⟨j, S, g, hj, rfl, rfl, rfl, HG, hg, hS1, hS2, HS, hb⟩ := hrel
      have hgn : Hid (-g = sg (j + 1)) := by unfold Hid; rw [sg_succ, HG.out]
      have hgn1 : -g = 1 ∨ -g = -1 := by omega
      have ug : IntKind.i64.wrap (-g) = -g := Go.IntWalk.i64_in _ (by omega)
      by_cases hlt : j < N
      · have hc0 := hb.keep hba hc0
        have y1 := hb.keep hpa (hca j hlt)
        change World.cell? _ _ = some (.int .i64 (en M 0 j)) at y1
        have b1 : (j : Int) < (N : Int) := by omega
        have b2 : (0 : Int) < (N : Int) := by omega
        have b3 : (1 : Int) ≤ (N : Int) := by omega
        have hv := HE.out 0 j (by omega) hlt
        by_cases h0 : en M 0 j = 0
        · have z1 : (en M 0 j != 0) = false := bne_eq_false_iff_eq.2 h0
          have H0 := Lib.hid h0
          clear h0
          go_wp2
          go_roundw
          case rel => exact ⟨j + 1, S, -g, by omega, by go_num, rfl, rfl, hgn, hgn1, hS1, hS2, by unfold Hid; rw [sumTo, H0.out, Int.mul_zero, Int.zero_mul, Int.add_zero]; exact HS.out, hb⟩
          case measure => simp [intOf]; omega
        · have z1 : (en M 0 j != 0) = true := bne_iff_ne.2 h0
          clear h0
          obtain ⟨V, hV⟩ : ∃ V, V = en M 0 j := ⟨_, rfl⟩
          rw [← hV] at y1 z1 hv
          obtain ⟨Dt, hDt⟩ : ∃ Dt, Dt = det n (minor (mx M) 0 j) % 9973 := ⟨_, rfl⟩
          have hD : 0 ≤ Dt ∧ Dt ≤ 9972 := by omega
          obtain ⟨T1, hT1⟩ : ∃ T1, T1 = g * V := ⟨_, rfl⟩
          have hT1b : -9972 ≤ T1 ∧ T1 ≤ 9972 := by rcases hg with e | e <;> rw [hT1, e] <;> omega
          have p1 : -(9972 * 9972) ≤ T1 * Dt ∧ T1 * Dt ≤ 9972 * 9972 := by
            have q1 : (T1 + 9972) * Dt ≤ 19944 * 9972 := Int.mul_le_mul (by omega) hD.2 hD.1 (by omega)
            have q2 : 0 ≤ (T1 + 9972) * Dt := Int.mul_nonneg (by omega) hD.1
            have q3 : 0 ≤ (9972 - T1) * Dt := Int.mul_nonneg (by omega) hD.1
            rw [Int.add_mul] at q2
            rw [Int.sub_mul] at q3
            omega
          obtain ⟨T2, hT2⟩ : ∃ T2, T2 = T1 * Dt := ⟨_, rfl⟩
          rw [← hT2] at p1
          have u1 : IntKind.i64.wrap (g * V) = T1 := by rw [hT1]; exact Go.IntWalk.i64_in _ (by rw [← hT1]; omega)
          have u2 : IntKind.i64.wrap (T1 * Dt) = T2 := by rw [hT2]; exact Go.IntWalk.i64_in _ (by rw [← hT2]; omega)
          have u3 : IntKind.i64.wrap (S + T2) = S + T2 := Go.IntWalk.i64_in _ (by omega)
          have HT1 := Lib.hid hT1
          have HT2 := Lib.hid hT2
          have HDt := Lib.hid hDt
          have HV := Lib.hid hV
          have C1 : Hid (Calls Tryd.prog 44 #[.slice (some ⟨ba, oa, none⟩) N cap, .int .i64 0, .int .i64 j] wr.drew fun e w' => ∃ a' cap' W, e = .returned (.slice a' n cap') ∧ OwM w' wr.drew.heap.size 32 3 a' n cap' W ∧ Is n W (minor (mx M) 0 j) ∧ Below wr.drew.heap.size wr.drew w') :=
            by subst hN; exact R_Without_sq (r := 0) (h.below hb.drew) (by omega) HD.out (by omega) hlt
          have hbl : ba < wr.heap.size ∧ pa < wr.heap.size := by have := hb.size; omega
          have hn5 : n ≤ 100 := by omega
          clear hT1 hT2 hDt hV
          go_wp2
          go_region_held3 (fun w' => w'.cell? ⟨ba, oa, none⟩ = some (.slice (some ⟨pa, qa, none⟩) N ci) ∧ w'.cell? ⟨pa, qa + j, none⟩ = some (.int .i64 V))
            (first | go_keep | (go_split_ands; refine ⟨?_, ?_⟩ <;> first | assumption | (refine hbk.keep ?_ ?_ <;> first | assumption | omega | (simp; omega))))
            (first
              | (go_at_call 44; (with_reducible refine C1.out.mono ?_); rintro e w3 ⟨a3, cap3, W, rfl, ho3, hi3, hbk⟩; have kk := hb.drew.trans (hbk.mono hb.drew.size); have kl : wr.heap.size ≤ w3.heap.size := hbk.size)
              | (go_at_call 38; refine (IH.out ho3.rd hi3.1 (fun r s hr hs => by rw [hi3.2 r s hr hs]; exact HE.out _ _ (by rw [← hN]; exact skip_lt hr) (by rw [← hN]; exact skip_lt hs)) hn5).mono ?_; rw [show det n (mx W) = det n (minor (mx M) 0 j) from det_congr fun r s hr hs => hi3.2 r s hr hs, ← HDt.out]; rintro e w4 ⟨rfl, hbk⟩; have kk := kk.trans (hbk.mono kk.size))
              | (go_at_call 47; refine (R_Mod_any _ _ (by omega) (by omega)).mono ?_; rintro e w' ⟨rfl, rfl⟩))
          clear u1 u2 u3
          have e2 : Eqm ((S + T2) % 9973) (sumTo (fun t => sg t * en M 0 t * det n (minor (mx M) 0 t)) (j + 1)) := by
            refine (Eqm.mod _).trans ?_
            rw [sumTo]
            refine Eqm.add HS.out ?_
            rw [HT2.out, HT1.out, HG.out, HV.out, HDt.out]
            exact Eqm.mul (Eqm.refl _) (Eqm.mod _)
          have e3 : 0 ≤ (S + T2) % 9973 ∧ (S + T2) % 9973 ≤ 9972 := by omega
          go_wp2
          go_roundw
          case rel => exact ⟨j + 1, _, -g, by omega, by go_num, rfl, rfl, hgn, hgn1, e3.1, e3.2, e2, kk⟩
          case measure => simp [intOf]; omega
      · obtain rfl : j = N := by omega
        go_wp2
        go_ret
        refine ⟨?_, hb⟩
        subst hN
        have e1 := HS.out
        unfold Eqm at e1
        rw [show det (n + 1) (mx M) = sumTo (fun t => sg t * en M 0 t * det n (minor (mx M) 0 t)) (n + 1) from rfl, ← e1]
        rw [Int.emod_eq_of_lt hS1 (by omega)]
        rfl
theorem R_DetMod_any (n : Nat) {a : Option Addr} {cap : Nat} {M : List (List Int)} {w : World} (h : RdM w a n cap M) (d : Dim n M) (e : Ent 0 9972 n M) (h5 : n ≤ 5) :
    Calls Tryd.prog 38 #[.slice a n cap] w fun e w' => e = .returned (.int .i64 (det n (mx M) % 9973)) ∧ Below w.heap.size w w' := R_DetMod_big n h d e (by omega)
end Go.Proofs.YtkielldinghmbaaDoor
namespace Go.Proofs.YtkielldinghmbaaDoor
open Go.RowKit Go.Rk

theorem R_Field_any {a : Option Addr} {n cap : Nat} {M : List (List Int)} {w : World} {o : Option Int} (h : RdM w a n cap M) (ho : groundsR 5 0 9972 M = o) :
    Calls Tryd.prog 16 #[.slice a n cap] w fun e w' => e = .returned (numV o) ∧ Below w.heap.size w w' := by
  have C := R_Matrix_any 5 0 9972 h
  rw [ho] at C
  have C := Lib.hid C
  clear ho
  go_enter Tryd.func16, Tryd.ntmps16
  go_wp2_with (first | (go_at_call 61; (with_reducible refine C.out.mono ?_); rintro e w1 ⟨rfl, hb⟩))
  go_ret
  exact ⟨rfl, hb⟩
theorem Rows_eq {a a2 : Option Addr} {len len2 cap cap2 : Nat} {M N : List (List Int)} {w : World} (h : RdM w a len cap M) (h2 : RdM w a2 len2 cap2 N) (e : M = N) :
    Calls Tryd.prog 21 #[.slice a len cap, .slice a2 len2 cap2] w fun e w' => e = .returned (.bool true) ∧ Below w.heap.size w w' := by
  refine (Rows_any h h2).mono ?_
  rintro _ _ ⟨rfl, hb⟩
  exact ⟨by rw [decide_eq_true e], hb⟩
theorem Rows_none (w : World) : Calls Tryd.prog 21 #[.slice none 0 0, .slice none 0 0] w fun e w' => e = .returned (.bool true) ∧ Below w.heap.size w w' := Rows_eq (RdM.nil w) (RdM.nil w) rfl
theorem Ints_eq {a a2 : Option Addr} {len len2 cap cap2 : Nat} {l m : List Int} {w : World} (h : RdI w a len cap l) (h2 : RdI w a2 len2 cap2 m) (e : l = m) :
    Calls Tryd.prog 32 #[.slice a len cap, .slice a2 len2 cap2] w fun e w' => e = .returned (.bool true) ∧ Below w.heap.size w w' := by
  refine (Ints_any h h2).mono ?_
  rintro _ _ ⟨rfl, hb⟩
  exact ⟨by rw [decide_eq_true e], hb⟩
theorem Ints_none (w : World) : Calls Tryd.prog 32 #[.slice none 0 0, .slice none 0 0] w fun e w' => e = .returned (.bool true) ∧ Below w.heap.size w w' := Ints_eq (RdI.nil w) (RdI.nil w) rfl
end Go.Proofs.YtkielldinghmbaaDoor
namespace Go.Proofs.YtkielldinghmbaaDoor
open Go.RowKit Go.Rk

theorem Good.oneIs {n : Nat} {P O : List (List Int)} (GP : Good n n P) (h : EqM n n (mx P) oneM) (hO : IsR n n O oneM) : P = O :=
  GP.same ⟨GP.n1, GP.n1, hO.1, fun i j hi hj => by rw [hO.2 i j hi hj]; unfold oneM; split <;> omega⟩ (h.trans fun i j hi hj => Eqm.of_eq (hO.2 i j hi hj).symm)

set_option maxHeartbeats 4000000 in
set_option maxRecDepth 100000 in
theorem invBack_walk {a : Option Addr} {n ca : Nat} {A : List (List Int)} {w : World} (hg : ErrT w) (hA : RdM w a n ca A) (_ : ∀ r ∈ A, Fit r) :
    Calls Tryd.prog 14 #[.slice a n ca] w fun e w' => e = .returned (.bool true) ∧ Below w.heap.size w w' := by
  have lm := hA.len_max
  go_enter Tryd.func14, Tryd.ntmps14
  go_wp2_with (first | (go_at_call 59; refine (invFact_any hg).mono ?_; rintro e w1 ⟨rfl, k1⟩) | (go_at_call 56; fail))
  rcases hq : squareR 5 0 9972 A with _ | x
  · obtain ⟨g1, g2⟩ := squareR_grounds hq
    have GA := Good.of hA.len_eq g1
    rw [g2, hA.len_eq] at GA
    clear hq g1 g2
    by_cases hd : det n (mx A) % 9973 = 0
    · refine (inv_Of_none (hA.below k1) GA hd).mono ?_
      rintro e w2 ⟨rfl, b2⟩
      have k2 := below_tr k1 b2
      clear hd GA
      go_wp2
      go_ret
      exact ⟨rfl, k2⟩
    · refine (inv_Of_ok (hA.below k1) GA hd).mono ?_
      rintro e w2 ⟨aX, cX, X, rfl, hX, hXi, b2⟩
      have k2 := below_tr k1 b2
      obtain ⟨GX, hI⟩ := GA.inv hd hXi
      have HGA := Lib.hid GA
      have HGX := Lib.hid GX
      have HI := Lib.hid hI
      have n1 := GA.n1
      have hX2 := hX.rd
      clear hd hXi GA GX hI hX b2 k1
      go_wp2_with (go_at_call 25; fail)
      refine (Mul_ok (hA.below k2) hX2 (HGA.out.mulOk HGX.out)).mono ?_
      rintro e w3 ⟨aP, cP, P, rfl, hP, hPi, b3⟩
      have k3 := below_tr k2 b3
      have hX3 := hX2.below b3
      have hP3 := hP.rd
      rw [HGX.out.r0] at hPi
      obtain ⟨GP, eP⟩ := HGA.out.prod HGX.out hPi
      have HPP := Lib.hid (And.intro GP eP)
      clear k2 b3 hX2 hP hPi GP eP
      go_wp2_with (go_at_call 25; fail)
      refine (Mul_ok hX3 (hA.below k3) (HGX.out.mulOk HGA.out)).mono ?_
      rintro e w4 ⟨aQ, cQ, Q, rfl, hQ, hQi, b4⟩
      have k4 := below_tr k3 b4
      have hX4 := hX3.below b4
      have hP4 := hP3.below b4
      have hQ4 := hQ.rd
      rw [HGA.out.r0] at hQi
      obtain ⟨GQ, eQ⟩ := HGX.out.prod HGA.out hQi
      have HQQ := Lib.hid (And.intro GQ eQ)
      clear k3 b4 hX3 hP3 hQ hQi GQ eQ
      go_wp2_with (go_at_call 56; fail)
      refine (inv_Of_ok hX4 HGX.out (det_nz HI.out.left)).mono ?_
      rintro e w5 ⟨aB, cB, B, rfl, hB, hBi, b5⟩
      have k5 := below_tr k4 b5
      have hP5 := hP4.below b5
      have hQ5 := hQ4.below b5
      have hB5 := hB.rd
      have HB : Hid (B = A) := by
        obtain ⟨GB, hIB⟩ := HGX.out.inv (det_nz HI.out.left) hBi
        exact GB.same HGA.out (hIB.one HI.out.symm)
      clear k4 b5 hX4 hP4 hQ4 hB hBi
      go_wp2_with (go_at_call 29; fail)
      refine (One_any n _ n1.1 n1.2).mono ?_
      rintro e w6 ⟨aO, cO, O, rfl, hO, hOi, b6⟩
      have k6 := below_tr k5 b6
      have hP6 := hP5.below b6
      have hQ6 := hQ5.below b6
      have hB6 := hB5.below b6
      have hO6 := hO.rd
      have HP : Hid (P = O) := HPP.out.1.oneIs (HPP.out.2.trans HI.out.right) hOi
      have HQ : Hid (Q = O) := HQQ.out.1.oneIs (HQQ.out.2.trans HI.out.left) hOi
      clear k5 b6 hP5 hQ5 hB5 hO hOi HPP HQQ
      go_wp2_with (go_at_call 21; fail)
      refine (Rows_eq hP6 hO6 HP.out).mono ?_
      rintro e w7 ⟨rfl, b7⟩
      have k7 := below_tr k6 b7
      have hQ7 := hQ6.below b7
      have hB7 := hB6.below b7
      have hO7 := hO6.below b7
      clear k6 b7 hP6 hQ6 hB6 hO6
      go_wp2_with (go_at_call 21; fail)
      refine (Rows_eq hQ7 hO7 HQ.out).mono ?_
      rintro e w8 ⟨rfl, b8⟩
      have k8 := below_tr k7 b8
      have hB8 := hB7.below b8
      clear k7 b8 hQ7 hB7 hO7
      go_wp2_with (go_at_call 21; fail)
      refine (Rows_eq hB8 (hA.below k8) HB.out).mono ?_
      rintro e w9 ⟨rfl, b9⟩
      have k9 := below_tr k8 b9
      clear hB8
      go_wp2
      go_ret
      exact ⟨rfl, k9⟩
  · refine (inv_Of_err (hA.below k1) hq).mono ?_
    rintro e w2 ⟨rfl, rfl⟩
    clear hq
    go_wp2
    go_ret
    exact ⟨rfl, k1⟩
end Go.Proofs.YtkielldinghmbaaDoor
