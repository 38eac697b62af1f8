/-
  mat.one, mat.One and mat.Pow walked.
-/
import Derived.Test.YtfocfgddlnjfmaaRows
import Derived.Test.YtfocfgddlnjfmaaLib
import Derived.Test.YtfocfgddlnjfmaaNum
import Derived.Test.YtfocfgddlnjfmaaDetW
import Derived.Test.YtfocfgddlnjfmaaRect
import Derived.Test.YtfocfgddlnjfmaaMx
import Derived.Test.YtfocfgddlnjfmaaMatBin
import Derived.Test.YtfocfgddlnjfmaaDetMul
namespace Go.Proofs.Ytfocfgddlnjfmaa
open Go.RowKit Go.Rk

set_option maxHeartbeats 1000000 in
theorem one_any (n : Nat) (w : World) (h1 : 1 ≤ n) (h2 : n ≤ 1000) :
    Calls Try.prog 63 #[.int .i64 n] w fun e w' => ∃ a' cap' P, e = .returned (.slice a' n cap') ∧ OwM w' w.heap.size 22 3 a' n cap' P ∧ IsR n n P oneM ∧ Below w.heap.size w w' := by
  go_enter Try.func63, Try.ntmps63
  go_wp2_with (go_at_call 69; refine (Grid_any n n _ (by omega) (by omega)).mono ?_; rintro e w3 ⟨a3, cap3, rfl, ho3, hb3⟩)
  obtain ⟨g, D, C, hz, hd3⟩ := ho3.named (by omega) fun r hr => by rw [(Dm.replicate n n 0).2 r hr]; omega
  cases hz
  have h0 : ∀ i j, i < n → j < n → en (List.replicate n (List.replicate n (0 : Int))) i j = 0 := fun i j hi hj => by
    unfold en
    rw [rowOf_lt (by simp; exact hi), ix_lt (by simp; exact hj)]
    simp
  clear ho3
  go_loopw [10] (fun v wr => ∃ (k : Nat) (P : List (List Int)), k ≤ n ∧ v = .int .i64 k ∧ OwMD wr w.heap.size 22 3 g D C n cap3 P ∧ Hid (IsR n n P (fun i j => if i = j ∧ i < k then 1 else 0)) ∧ Below w.heap.size w wr) (fun v _ => n - (intOf v).toNat)
  case atStart => exact ⟨0, _, Nat.zero_le _, rfl, hd3, ⟨Dm.replicate n n 0, fun i j hi hj => by rw [h0 i j hi hj]; simp⟩, hb3⟩
  case round =>
    obtain ⟨k, P, hk, rfl, hd, hi, hb⟩ := hrel
    by_cases hlt : k < n
    · have a1 := hd.cellO hlt
      have a2 := hd.cellI hlt (j := k) (by rw [hi.out.1.2 k hlt]; exact hlt)
      have a3 := hd.frozenI hlt (by rw [hi.out.1.2 k hlt]; omega) k
      rw [hi.out.1.2 k hlt] at a1
      have b1 : (k : Int) < (n : Int) := by omega
      go_wp2
      go_roundw
      case rel => exact ⟨k + 1, _, by omega, by go_num, hd.set matTy.ne hlt 1, ⟨hi.out.1.setE _ _ _, fun i j h3 h4 => by
        rw [hi.out.1.en_set _ h3 h4]
        by_cases e : k = i ∧ k = j
        · rw [if_pos e]; dsimp only; rw [if_pos ⟨by omega, by omega⟩]
        · rw [if_neg e, hi.out.2 i j h3 h4]; dsimp only
          by_cases e2 : i = j ∧ i < k
          · rw [if_pos e2, if_pos ⟨e2.1, by omega⟩]
          · rw [if_neg e2, if_neg fun e3 => by omega]⟩, hb.setCell (p := ⟨D k, k, none⟩) (hd.lowI hlt).1 _⟩
      case measure => simp [intOf]; omega
    · obtain rfl : k = n := by omega
      go_wp2
      go_ret
      exact ⟨_, cap3, P, rfl, hd.toM, hi.out.congr fun i j h3 h4 => by
        unfold oneM
        by_cases e : i = j
        · simp only [e, if_true]; rw [if_pos ⟨trivial, by omega⟩]
        · simp [e], hb⟩

theorem One_any (n : Nat) (w : World) (h1 : 1 ≤ n) (h2 : n ≤ 5) :
    Calls Try.prog 57 #[.int .i64 n] w fun e w' => ∃ a' cap' P, e = .returned (.tuple #[.slice a' n cap', .nilIface]) ∧ OwM w' w.heap.size 22 3 a' n cap' P ∧ IsR n n P oneM ∧ Below w.heap.size w w' := by
  have HO : Hid (outB (n : Int) 1 5 = false) := by unfold Hid outB; simp; omega
  go_enter Try.func57, Try.ntmps57
  go_wp2_with (first | (go_at_call 50; refine (out_any _ _ _ _).mono ?_; rintro e w' ⟨rfl, rfl⟩; rw [HO.out]) | (go_at_call 63; refine (one_any n _ h1 (by omega)).mono ?_; rintro e w3 ⟨a3, cap3, P, rfl, ho3, hi3, hb3⟩))
  go_ret2
  exact ⟨a3, cap3, P, rfl, ho3, hi3, hb3⟩

theorem mulE_sq {n : Nat} {X Y P : List (List Int)} (h : IsR n n P (fun i j => mulE X Y n i j % 9973)) : (Dm n n P ∧ EntR 0 9972 n n P) ∧ EqM n n (mx P) (mulM n (mx X) (mx Y)) :=
  ⟨⟨h.1, fun i j hi hj => by rw [h.2 i j hi hj]; dsimp only; omega⟩, fun i j hi hj => by
    show Eqm (en P i j) _
    rw [h.2 i j hi hj]
    exact Eqm.mod _⟩

/-- What is wrong with a power. -/
def powErr (A : List (List Int)) (e : Int) : Option Int :=
  match squareR 5 0 9972 A with
  | some x => some x
  | none => if outB e 0 1000 then some 1 else none

set_option maxRecDepth 100000 in
set_option maxHeartbeats 2000000 in
theorem Pow_ok {a : Option Addr} {n ca e : Nat} {A : List (List Int)} {w : World} (hA : RdM w a n ca A) (hq : squareR 5 0 9972 A = none) (he : e ≤ 1000) :
    Calls Try.prog 27 #[.slice a n ca, .int .i64 e] w fun x w' => ∃ a' cap' P, x = .returned (.tuple #[.slice a' n cap', .nilIface]) ∧ OwM w' w.heap.size 22 3 a' n cap' P ∧ IsR n n P (fun i j => powM n (mx A) e i j % 9973) ∧ Below w.heap.size w w' := by
  obtain ⟨g1, g2⟩ := squareR_grounds hq
  have C1 := Lib.hid (mat_Check_is hA g1)
  have e1 := hA.len_eq
  obtain ⟨n1, _, dA, eA⟩ := grounds_dm e1 g1
  rw [e1] at g2
  rw [g2] at dA eA
  have HO : Hid (outB (e : Int) 0 1000 = false) := by unfold Hid outB; simp; omega
  have z1 : ((n : Int) != (n : Int)) = false := bne_eq_false_iff_eq.2 rfl
  obtain ⟨ba, oa, hz, _, hra⟩ := hA.at (k := 0) (by omega)
  subst hz
  obtain ⟨ai, ci, hc0, _⟩ := hra 0 (by omega)
  rw [Nat.add_zero, g2] at hc0
  have b1 : (0 : Int) < (n : Int) := by omega
  have b2 : (1 : Int) ≤ (n : Int) := by omega
  have HD := Lib.hid dA
  have HE := Lib.hid eA
  clear hq g1 g2 hra dA eA
  go_enter Try.func27, Try.ntmps27
  go_wp2_with (first | (go_at_call 62; (with_reducible refine C1.out.mono ?_); rintro e w' ⟨rfl, rfl⟩; simp only [errV]) | (go_at_call 50; refine (out_any _ _ _ _).mono ?_; rintro e w' ⟨rfl, rfl⟩; rw [HO.out]) | (go_at_call 63; refine (one_any n _ n1.1 (by omega)).mono ?_; rintro e w3 ⟨a3, cap3, P3, rfl, ho3, hi3, hb3⟩) | (go_at_call 64; fail))
  have C4 := Lib.hid (Copy_any (hA.below hb3) (by omega) fun r hr => by rw [HD.out.2 r hr]; omega)
  (with_reducible refine C4.out.mono ?_)
  clear C4
  rintro x w4 ⟨a4, cap4, rfl, ho4, hb4⟩
  have k4 := hb3.trans (hb4.mono hb3.size)
  have ho3 := ho3.below hb4
  have ho4 := ho4.mono hb3.size
  clear hb4
  go_wp2
  go_loopw [1, 7, 8] (fun ve vo vb wr => ∃ (e' : Nat) (ao ab : Option Addr) (co cb : Nat) (X Y : List (List Int)), e' ≤ e ∧ ve = .int .i64 e' ∧ vo = .slice ao n co ∧ vb = .slice ab n cb ∧ OwM wr w.heap.size 22 3 ao n co X ∧ OwM wr w.heap.size 22 3 ab n cb Y ∧
    Hid (Dm n n X ∧ EntR 0 9972 n n X) ∧ Hid (Dm n n Y ∧ EntR 0 9972 n n Y) ∧ Hid (EqM n n (mulM n (mx X) (powM n (mx Y) e')) (powM n (mx A) e)) ∧ Below w.heap.size w wr) (fun ve _ _ _ => (intOf ve).toNat)
  case atStart =>
    refine ⟨e, a3, a4, cap3, cap4, P3, A, Nat.le_refl _, rfl, rfl, rfl, ho3, ho4, ⟨hi3.1, fun i j hi hj => ?_⟩, ⟨HD.out, HE.out⟩, ?_, k4⟩
    · rw [hi3.2 i j hi hj]
      unfold oneM
      split <;> omega
    · intro i j hi hj
      refine (EqM.mul (n := n) (A' := oneM) (fun i j hi hj => Eqm.of_eq (hi3.2 i j hi hj)) (EqM.refl n n _) i j hi hj).trans (Eqm.of_eq (one_mulM _ hi j))
  case round =>
    obtain ⟨e', ao, ab, co, cb, X, Y, he', rfl, rfl, rfl, hX, hY, HX, HY, HI, hb⟩ := hrel
    by_cases h0 : 0 < e'
    · rcases Nat.mod_two_eq_zero_or_one e' with hp | hp
      · have hp' : ((e' : Int) % 2 == 1) = false := by simp; omega
        have Hp := Lib.hid hp
        have C5 := Lib.hid (mul_any hY.rd hY.rd HY.out.1 HY.out.1 HY.out.2 HY.out.2 ⟨n1.1, by omega⟩ ⟨n1.1, by omega⟩ ⟨n1.1, by omega⟩)
        clear hp
        go_wp2_with (go_at_call 65; fail)
        (with_reducible refine C5.out.mono ?_)
        clear C5
        rintro x w5 ⟨a5, cap5, P, rfl, ho5, hi5, hb5⟩
        have HP := Lib.hid (mulE_sq hi5)
        have hX5 := hX.below hb5
        have k5 := hb.trans (hb5.mono hb.size)
        go_wp2
        go_roundw
        case rel => exact ⟨e' / 2, ao, a5, co, cap5, X, P, by omega, by go_num, rfl, rfl, hX5, ho5.mono hb.size, HX, HP.out.1, by
          refine EqM.trans ?_ HI.out
          refine (EqM.mul (EqM.refl _ _ _) (powM_congr HP.out.2 _)).trans ((pow_even _ _ _).trans ?_)
          rw [show 2 * (e' / 2) = e' by have := Hp.out; omega]
          exact EqM.refl _ _ _, k5⟩
        case measure => simp [intOf]; omega
      · have hp' : ((e' : Int) % 2 == 1) = true := by simp; omega
        have Hp := Lib.hid hp
        have C5 := Lib.hid (mul_any hX.rd hY.rd HX.out.1 HY.out.1 HX.out.2 HY.out.2 ⟨n1.1, by omega⟩ ⟨n1.1, by omega⟩ ⟨n1.1, by omega⟩)
        clear hp
        go_wp2_with (go_at_call 65; fail)
        (with_reducible refine C5.out.mono ?_)
        clear C5
        rintro x w5 ⟨a5, cap5, P, rfl, ho5, hi5, hb5⟩
        have HP := Lib.hid (mulE_sq hi5)
        have hY5 := hY.below hb5
        have k5 := hb.trans (hb5.mono hb.size)
        have C6 := Lib.hid (mul_any hY5.rd hY5.rd HY.out.1 HY.out.1 HY.out.2 HY.out.2 ⟨n1.1, by omega⟩ ⟨n1.1, by omega⟩ ⟨n1.1, by omega⟩)
        go_wp2_with (go_at_call 65; fail)
        (with_reducible refine C6.out.mono ?_)
        clear C6
        rintro x w6 ⟨a6, cap6, R, rfl, ho6, hi6, hb6⟩
        have HR := Lib.hid (mulE_sq hi6)
        have hP6 := ho5.below hb6
        have k6 := k5.trans (hb6.mono k5.size)
        go_wp2
        go_roundw
        case rel => exact ⟨e' / 2, a5, a6, cap5, cap6, P, R, by omega, by go_num, rfl, rfl, hP6.mono hb.size, ho6.mono k5.size, HP.out.1, HR.out.1, by
          refine EqM.trans ?_ HI.out
          refine (EqM.mul HP.out.2 (powM_congr HR.out.2 _)).trans ((pow_odd _ _ _).trans ?_)
          rw [show 2 * (e' / 2) + 1 = e' by have := Hp.out; omega]
          exact EqM.refl _ _ _, k6⟩
        case measure => simp [intOf]; omega
    · obtain rfl : e' = 0 := by omega
      go_wp2
      go_ret2
      exact ⟨ao, co, X, rfl, hX, ⟨HX.out.1, fun i j hi hj => by
        have h1 := HX.out.2 i j hi hj
        have h2 := HI.out i j hi hj
        have h3 : mulM n (mx X) (powM n (mx Y) 0) i j = en X i j := mulM_one (mx X) i hj
        rw [h3] at h2
        unfold Eqm at h2
        dsimp only
        omega⟩, hb⟩
end Go.Proofs.Ytfocfgddlnjfmaa
