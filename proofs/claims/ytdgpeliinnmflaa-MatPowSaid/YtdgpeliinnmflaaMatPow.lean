/-
  MatPow walked: powers of a matrix add up, and so do powers of powers multiply.
-/
import Derived.Test.YtdgpeliinnmflaaRows
import Derived.Test.YtdgpeliinnmflaaLib
import Derived.Test.YtdgpeliinnmflaaRef
import Derived.Test.YtdgpeliinnmflaaMatLaw
import Derived.Test.YtdgpeliinnmflaaMatFact
namespace Go.Proofs.Ytdgpeliinnmflaa
open Go.RowKit Go.Rk

theorem Good.sq {n : Nat} {A : List (List Int)} (h : Good n n A) : squareR 5 0 9972 A = none := squareR_of h.n1.1 (by have := h.n1; omega) h.dm h.ent
theorem Good.pow {n e : Nat} {A P : List (List Int)} (h : Good n n A) (hp : IsR n n P (fun i j => powM n (mx A) e i j % 9973)) : Good n n P ∧ EqM n n (mx P) (powM n (mx A) e) :=
  ⟨⟨h.n1, h.n1, hp.1, fun i j hi hj => by rw [hp.2 i j hi hj]; dsimp only; omega⟩, fun i j hi hj => by
    show Eqm (en P i j) _
    rw [hp.2 i j hi hj]
    exact Eqm.mod _⟩

set_option maxHeartbeats 4000000 in
set_option maxRecDepth 100000 in
theorem matPow_in {a : Option Addr} {n ca N M : Nat} {A : List (List Int)} {w : World} (hA : RdM w a n ca A) (hN : N ≤ 30) (hM : M ≤ 30) :
    Calls Try.prog 3 #[.slice a n ca, .int .i64 N, .int .i64 M] w fun e w' => e = .returned (.bool true) ∧ Below w.heap.size w w' := by
  have I1 : Hid (inB (N : Int) 0 30 = true) := by unfold Hid inB; simp; omega
  have I2 : Hid (inB (M : Int) 0 30 = true) := by unfold Hid inB; simp; omega
  go_enter Try.func3, Try.ntmps3
  go_wp2_with (first | (go_at_call 15; refine (matFact_any _).mono ?_; rintro e w1 ⟨rfl, k1⟩) | (go_at_call 16; refine (L2_in_any _ _ _ _).mono ?_; rintro e w' ⟨rfl, rfl⟩; first | rw [I1.out] | rw [I2.out]) | (go_at_call 17; fail))
  rcases hq : squareR 5 0 9972 A with _ | x
  · obtain ⟨g1, g2⟩ := squareR_grounds hq
    have GA0 := Good.of hA.len_eq g1
    rw [g2, hA.len_eq] at GA0
    have GA := Lib.hid GA0
    have hMN : (N : Int) * (M : Int) ≤ 30 * 30 := Int.mul_le_mul (by omega) (by omega) (by omega) (by omega)
    have hMN0 : 0 ≤ (N : Int) * (M : Int) := Int.mul_nonneg (by omega) (by omega)
    have hmul : N * M ≤ 900 := by
      have : ((N * M : Nat) : Int) ≤ 900 := by rw [Int.natCast_mul]; omega
      omega
    clear GA0 g1 g2
    have C := Lib.hid (Pow_ok (e := N) (hA.below k1) hq (by omega))
    (with_reducible refine C.out.mono ?_)
    clear C
    rintro e w2 ⟨a2, cap2, X, rfl, ho, hi, hb⟩
    have k2 := below_tr k1 hb
    have GX := Lib.hid (GA.out.pow hi)
    have hX := ho.rd
    clear ho hi hb k1
    have C := Lib.hid (Pow_ok (e := M) (hA.below k2) hq (by omega))
    go_wp2_with (first | (go_at_call 17; fail))
    (with_reducible refine C.out.mono ?_)
    clear C
    rintro e w3 ⟨a3, cap3, Y, rfl, ho, hi, hb⟩
    have k3 := below_tr k2 hb
    have GY := Lib.hid (GA.out.pow hi)
    have hY := ho.rd
    have hX := hX.below hb
    clear ho hi hb k2
    have u1 : IntKind.i64.wrap ((N : Int) + (M : Int)) = (N : Int) + (M : Int) := Go.IntWalk.i64_in _ (by omega)
    have C := Lib.hid (Pow_ok (e := N + M) (hA.below k3) hq (by omega))
    rw [Int.natCast_add] at C
    go_wp2_with (first | (go_at_call 17; fail))
    (with_reducible refine C.out.mono ?_)
    clear C
    rintro e w4 ⟨a4, cap4, Z, rfl, ho, hi, hb⟩
    have k4 := below_tr k3 hb
    have GZ := Lib.hid (GA.out.pow hi)
    have hZ := ho.rd
    have hX := hX.below hb
    have hY := hY.below hb
    clear ho hi hb k3 u1
    have u1 : IntKind.i64.wrap ((N : Int) * (M : Int)) = (N : Int) * (M : Int) := Go.IntWalk.i64_in _ (by omega)
    have C := Lib.hid (Pow_ok (e := N * M) (hA.below k4) hq (by omega))
    rw [Int.natCast_mul] at C
    go_wp2_with (first | (go_at_call 17; fail))
    (with_reducible refine C.out.mono ?_)
    clear C
    rintro e w5 ⟨a5, cap5, W, rfl, ho, hi, hb⟩
    have k5 := below_tr k4 hb
    have GW := Lib.hid (GA.out.pow hi)
    have hW := ho.rd
    have hX := hX.below hb
    have hY := hY.below hb
    have hZ := hZ.below hb
    clear ho hi hb k4 u1 hMN hMN0
    have C := Lib.hid (Pow_ok (e := M) hX GX.out.1.sq (by omega))
    go_wp2_with (first | (go_at_call 17; fail))
    (with_reducible refine C.out.mono ?_)
    clear C
    rintro e w6 ⟨a6, cap6, V, rfl, ho, hi, hb⟩
    have k6 := below_tr k5 hb
    have GV := Lib.hid (GX.out.1.pow hi)
    have hVW : Hid (V = W) := GV.out.1.same GW.out.1 (GV.out.2.trans ((powM_congr GX.out.2 M).trans ((powM_mul _ N M).trans GW.out.2.symm)))
    have hV := ho.rd
    have hX := hX.below hb
    have hY := hY.below hb
    have hZ := hZ.below hb
    have hW := hW.below hb
    clear ho hi hb k5
    have C := Lib.hid (Mul_ok hX hY (GX.out.1.mulOk GY.out.1))
    rw [GY.out.1.r0] at C
    go_wp2_with (first | (go_at_call 18; fail))
    (with_reducible refine C.out.mono ?_)
    clear C
    rintro e w7 ⟨a7, cap7, P, rfl, ho, hi, hb⟩
    have k7 := below_tr k6 hb
    have GP := Lib.hid (GX.out.1.prod GY.out.1 hi)
    have hPZ : Hid (P = Z) := GP.out.1.same GZ.out.1 (GP.out.2.trans ((EqM.mul GX.out.2 GY.out.2).trans ((powM_add _ N M).trans GZ.out.2.symm)))
    have hP := ho.rd
    have hZ := hZ.below hb
    have hV := hV.below hb
    have hW := hW.below hb
    clear ho hi hb k6 hX hY
    have C := Lib.hid (Rows_any hP hZ)
    go_wp2_with (first | (go_at_call 19; fail))
    (with_reducible refine C.out.mono ?_)
    clear C
    rintro e w8 ⟨rfl, hb⟩
    have k8 := below_tr k7 hb
    rw [decide_eq_true hPZ.out]
    have hV := hV.below hb
    have hW := hW.below hb
    clear hb k7 hP hZ
    have C := Lib.hid (Rows_any hV hW)
    go_wp2_with (first | (go_at_call 19; fail))
    (with_reducible refine C.out.mono ?_)
    clear C
    rintro e w9 ⟨rfl, hb⟩
    have k9 := below_tr k8 hb
    rw [decide_eq_true hVW.out]
    go_wp2
    go_ret
    exact ⟨rfl, k9⟩
  · have hp : powErr A N = some x := by unfold powErr; rw [hq]
    have C := Lib.hid (Pow_err (hA.below k1) hp)
    clear hp hq
    (with_reducible refine C.out.mono ?_)
    rintro e w2 ⟨rfl, hb⟩
    go_wp2
    go_ret
    exact ⟨rfl, below_tr k1 hb⟩

theorem matPow_walk {a : Option Addr} {n ca : Nat} {x y : Int} {A : List (List Int)} {w : World} (hA : RdM w a n ca A) (_ : ∀ r ∈ A, Fit r) (_ : (Lit.int .i64 x).wf = true) (_ : (Lit.int .i64 y).wf = true) :
    Calls Try.prog 3 #[.slice a n ca, .int .i64 x, .int .i64 y] w fun e w' => e = .returned (.bool true) ∧ Below w.heap.size w w' := by
  rcases h1 : inB x 0 30
  · have H1 := Lib.hid h1
    clear h1
    go_enter Try.func3, Try.ntmps3
    go_wp2_with (first | (go_at_call 15; refine (matFact_any _).mono ?_; rintro e w1 ⟨rfl, k1⟩) | (go_at_call 16; refine (L2_in_any _ _ _ _).mono ?_; rintro e w' ⟨rfl, rfl⟩; first | rw [H1.out]))
    go_ret
    exact ⟨rfl, k1⟩
  · rcases h2 : inB y 0 30
    · have H1 := Lib.hid h1
      have H2 := Lib.hid h2
      clear h1 h2
      go_enter Try.func3, Try.ntmps3
      go_wp2_with (first | (go_at_call 15; refine (matFact_any _).mono ?_; rintro e w1 ⟨rfl, k1⟩) | (go_at_call 16; refine (L2_in_any _ _ _ _).mono ?_; rintro e w' ⟨rfl, rfl⟩; first | rw [H1.out] | rw [H2.out]))
      go_ret
      exact ⟨rfl, k1⟩
    · have q1 := inB_true h1
      have q2 := inB_true h2
      obtain ⟨N, rfl⟩ := Int.eq_ofNat_of_zero_le q1.1
      obtain ⟨M, rfl⟩ := Int.eq_ofNat_of_zero_le q2.1
      exact matPow_in hA (by omega) (by omega)
end Go.Proofs.Ytdgpeliinnmflaa
