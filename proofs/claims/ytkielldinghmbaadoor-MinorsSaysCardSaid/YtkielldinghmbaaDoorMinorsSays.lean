/-
  MinorsSays walked: of any matrix the determinant without a row and a column, and all of them, turned.
-/
import Derived.Test.YtkielldinghmbaaDoorRows
import Derived.Test.YtkielldinghmbaaDoorLib
import Derived.Test.YtkielldinghmbaaDoorTr
import Derived.Test.YtkielldinghmbaaDoorRef
import Derived.Test.YtkielldinghmbaaDoorRDet
import Derived.Test.YtkielldinghmbaaDoorAdjW
import Derived.Test.YtkielldinghmbaaDoorErrTold
namespace Go.Proofs.YtkielldinghmbaaDoor
open Go.RowKit Go.Rk

theorem Rows_same {a a2 : Option Addr} {len cap cap2 : Nat} {M N : List (List Int)} {w : World} (h : RdM w a len cap M) (h2 : RdM w a2 len cap2 N) (e : M = N) :
    Calls Tryd.prog 21 #[.slice a len cap, .slice a2 len cap2] w fun e w' => e = .returned (.bool true) ∧ Below w.heap.size w w' := by
  refine (Rows_any h h2).mono ?_
  rintro _ _ ⟨rfl, hb⟩
  exact ⟨by rw [decide_eq_true e], hb⟩
theorem Rows_nil (w : World) : Calls Tryd.prog 21 #[.slice none 0 0, .slice none 0 0] w fun e w' => e = .returned (.bool true) ∧ Below w.heap.size w w' := Rows_same (RdM.nil w) (RdM.nil w) rfl

set_option maxHeartbeats 4000000 in
set_option maxRecDepth 100000 in
theorem minorsSays_walk {a : Option Addr} {n ca : Nat} {A : List (List Int)} {i j : Int} {w : World} (hg : ErrT w) (hA : RdM w a n ca A) (_ : ∀ r ∈ A, Fit r) (_ : (Lit.int .i64 i).wf = true) (_ : (Lit.int .i64 j).wf = true) :
    Calls Tryd.prog 7 #[.slice a n ca, .int .i64 i, .int .i64 j] w fun e w' => e = .returned (.bool true) ∧ Below w.heap.size w w' := by
  have lm := hA.len_max
  rcases hq : squareR 5 0 9972 A with _ | c
  · obtain ⟨g1, g2⟩ := squareR_grounds hq
    have G := Good.of hA.len_eq g1
    rw [g2, hA.len_eq] at G
    have HG := Lib.hid G
    have n1 := G.n1
    have C0 := R_Square_any 5 0 9972 hA
    rw [hq] at C0
    have C0 := Lib.hid C0
    clear hq g1 g2 G
    go_enter Tryd.func7, Tryd.ntmps7
    go_wp2_with (first
      | (go_at_call 34; (with_reducible refine C0.out.mono ?_); rintro e w1 ⟨rfl, k1⟩; simp only [numV])
      | (go_at_call 42; refine (R_Adj_any (hA.below k1) HG.out).mono ?_; rintro e w2 ⟨aQ, cQ, rfl, hQ, b2⟩)
      | (go_at_call 43; fail))
    have k2 := below_tr k1 b2
    refine (Adj_ok (hA.below k2) HG.out).mono ?_
    rintro e w3 ⟨aP, cP, P, rfl, hP, hi, b3⟩
    have k3 := below_tr k2 b3
    have hQ3 := hQ.rd.below b3
    have hP3 := hP.rd
    have ES : Hid (P = rowsF (fun i j => adj n (mx A) i j % 9973) n n) := hi.same (rowsF_is _ _ _)
    clear C0 k1 b2 k2 b3 hQ hP hi
    go_wp2_with fail
    refine (E_nil0 (hg.below k3)).mono ?_
    rintro e w4 ⟨rfl, b4⟩
    have k4 := below_tr k3 b4
    have C := Lib.hid (Rows_same (hP3.below b4) (hQ3.below b4) ES.out)
    go_wp2_with (first | (go_at_call 21; (with_reducible refine C.out.mono ?_); rintro e w5 ⟨rfl, b5⟩) | (go_at_call 26; fail))
    have k5 := below_tr k4 b5
    have u1 : IntKind.i64.wrap ((n : Int) - 1) = (n : Int) - 1 := Go.IntWalk.i64_in _ (by omega)
    clear C b4 b5 k3 k4 hP3 hQ3 ES
    have CI := Lib.hid (fun (x : Int) (w : World) => L2_in_any x 0 ((n : Int) - 1) w)
    by_cases hij : (0 ≤ i ∧ i < n) ∧ 0 ≤ j ∧ j < n
    · have z1 : inB i 0 ((n : Int) - 1) = true := by unfold inB; simp; omega
      have z2 : inB j 0 ((n : Int) - 1) = true := by unfold inB; simp; omega
      refine (CI.out i _).mono ?_
      rintro e w6 ⟨rfl, rfl⟩
      rw [z1]
      go_wp2_with fail
      refine (CI.out j _).mono ?_
      rintro e w6 ⟨rfl, rfl⟩
      rw [z2]
      have e1 : ((i.toNat : Nat) : Int) = i := by omega
      have e2 : ((j.toNat : Nat) : Int) = j := by omega
      have C := R_minor_any (r := i.toNat) (c := j.toNat) (hA.below k5) HG.out (by omega) (by omega)
      rw [e1, e2] at C
      have C := Lib.hid C
      clear z1 z2 e1 e2
      go_wp2_with (first | (go_at_call 44; (with_reducible refine C.out.mono ?_); rintro e w6 ⟨a3, c3, W, rfl, hW, hWd, hWe, hWv, b6⟩) | (go_at_call 38; fail))
      have C2 := R_DetMod_any (n - 1) hW hWd hWe (by omega)
      rw [hWv.out] at C2
      have C2 := Lib.hid C2
      have k6 := below_tr k5 b6
      obtain ⟨V, hV⟩ : ∃ V, V = minorV n A i.toNat j.toNat := ⟨_, rfl⟩
      rw [← hV] at C2
      have HV := Lib.hid hV
      clear C b6 hV
      (with_reducible refine C2.out.mono ?_)
      clear C2
      rintro e w7 ⟨rfl, b7⟩
      have k7 := below_tr k6 b7
      have C3 := Of_ok (hA.below k7) HG.out hij.1 hij.2
      rw [← HV.out] at C3
      have C3 := Lib.hid C3
      have z3 : (V == V) = true := beq_iff_eq.2 rfl
      clear b7 k6
      go_wp2_with (first | (go_at_call 45; (with_reducible refine C3.out.mono ?_); rintro e w8 ⟨rfl, b8⟩) | (go_at_call 17; fail))
      have k8 := below_tr k7 b8
      refine (E_nil0 (hg.below k8)).mono ?_
      rintro e w9 ⟨rfl, b9⟩
      have k9 := below_tr k8 b9
      go_wp2
      go_ret
      exact ⟨rfl, k9⟩
    · have C3 := Lib.hid (Of_out (hA.below k5) HG.out hij)
      by_cases hi : 0 ≤ i ∧ i < n
      · have z1 : inB i 0 ((n : Int) - 1) = true := by unfold inB; simp; omega
        have z2 : inB j 0 ((n : Int) - 1) = false := by unfold inB; simp; omega
        refine (CI.out i _).mono ?_
        rintro e w6 ⟨rfl, rfl⟩
        rw [z1]
        go_wp2_with fail
        refine (CI.out j _).mono ?_
        rintro e w6 ⟨rfl, rfl⟩
        rw [z2]
        clear z1 z2 hij hi
        go_wp2_with (first | (go_at_call 45; (with_reducible refine C3.out.mono ?_); rintro e w8 ⟨rfl, b8⟩) | (go_at_call 17; fail))
        have k8 := below_tr k5 b8
        refine (E_same (hg.below k8)).mono ?_
        rintro e w9 ⟨rfl, b9⟩
        have k9 := below_tr k8 b9
        go_wp2
        go_ret
        exact ⟨rfl, k9⟩
      · have z1 : inB i 0 ((n : Int) - 1) = false := by unfold inB; simp; omega
        refine (CI.out i _).mono ?_
        rintro e w6 ⟨rfl, rfl⟩
        rw [z1]
        clear z1 hij hi
        go_wp2_with (first | (go_at_call 45; (with_reducible refine C3.out.mono ?_); rintro e w8 ⟨rfl, b8⟩) | (go_at_call 17; fail))
        have k8 := below_tr k5 b8
        refine (E_same (hg.below k8)).mono ?_
        rintro e w9 ⟨rfl, b9⟩
        have k9 := below_tr k8 b9
        go_wp2
        go_ret
        exact ⟨rfl, k9⟩
  · have C0 := R_Square_any 5 0 9972 hA
    rw [hq] at C0
    have C0 := Lib.hid C0
    have HQ := Lib.hid hq
    have z1 : (c == 0) = false := beq_eq_false_iff_ne.2 (squareR_nz hq)
    clear hq
    go_enter Tryd.func7, Tryd.ntmps7
    go_wp2_with (first
      | (go_at_call 34; (with_reducible refine C0.out.mono ?_); rintro e w1 ⟨rfl, k1⟩; simp only [numV])
      | (go_at_call 43; fail))
    have C1 := Lib.hid (Adj_err (hA.below k1) HQ.out)
    go_wp2_with (first
      | (go_at_call 43; (with_reducible refine C1.out.mono ?_); rintro e w2 ⟨rfl, b2⟩)
      | (go_at_call 17; fail))
    have k2 := below_tr k1 b2
    refine (E_same (hg.below k2)).mono ?_
    rintro e w3 ⟨rfl, b3⟩
    have k3 := below_tr k2 b3
    clear C0 C1 k1 b2 k2 b3
    have C2 := Lib.hid (fun w => Rows_nil w)
    go_wp2_with (first
      | (go_at_call 21; refine (C2.out _).mono ?_; rintro e w4 ⟨rfl, b4⟩)
      | (go_at_call 45; fail))
    have k4 := below_tr k3 b4
    have C3 := Lib.hid (Of_err (i := i) (j := j) (hA.below k4) HQ.out)
    go_wp2_with (first
      | (go_at_call 45; (with_reducible refine C3.out.mono ?_); rintro e w5 ⟨rfl, rfl⟩)
      | (go_at_call 17; fail))
    refine (E_same (hg.below k4)).mono ?_
    rintro e w6 ⟨rfl, b6⟩
    have k6 := below_tr k4 b6
    go_wp2
    go_ret
    exact ⟨rfl, k6⟩
end Go.Proofs.YtkielldinghmbaaDoor
