/-
  DetSays walked: of any matrix what is wrong, and the determinant; of any order its sign.
-/
import Derived.Test.YtkielldinghmbaaDoorRows
import Derived.Test.YtkielldinghmbaaDoorLib
import Derived.Test.YtkielldinghmbaaDoorTr
import Derived.Test.YtkielldinghmbaaDoorDetOf
import Derived.Test.YtkielldinghmbaaDoorDetLaw
import Derived.Test.YtkielldinghmbaaDoorSign
import Derived.Test.YtkielldinghmbaaDoorRSign
import Derived.Test.YtkielldinghmbaaDoorSignLaw
import Derived.Test.YtkielldinghmbaaDoorRDet
import Derived.Test.YtkielldinghmbaaDoorErrTold
namespace Go.Proofs.YtkielldinghmbaaDoor
open Go.RowKit Go.Rk

set_option maxHeartbeats 4000000 in
set_option maxRecDepth 100000 in
theorem detSays_walk {a b : Option Addr} {n l ca cb : Nat} {M : List (List Int)} {o : List Int} {w : World} (hg : ErrT w) (hM : RdM w a n ca M) (_ : ∀ r ∈ M, Fit r) (ho : RdI w b l cb o) (_ : Fit o) :
    Calls Tryd.prog 6 #[.slice a n ca, .slice b l cb] w fun e w' => e = .returned (.bool true) ∧ Below w.heap.size w w' := by
  have lo := ho.len_max
  rcases hq : squareR 5 0 9972 M with _ | c
  · obtain ⟨s1, s2, s3, s4⟩ := squareR_none hq
    rw [hM.len_eq] at s1 s2 s3 s4
    have C0 := R_Square_any 5 0 9972 hM
    rw [hq] at C0
    have C0 := Lib.hid C0
    have HQ := Lib.hid hq
    have S3 := Lib.hid s3
    have S4 := Lib.hid s4
    clear hq s3 s4
    go_enter Tryd.func6, Tryd.ntmps6
    go_wp2_with (first
      | (go_at_call 34; (with_reducible refine C0.out.mono ?_); rintro e w1 ⟨rfl, k1⟩; simp only [numV])
      | (go_at_call 37; refine (det_Check_is (hM.below k1) HQ.out).mono ?_; rintro e w2 ⟨rfl, rfl⟩; simp only [errV])
      | (go_at_call 17; fail))
    refine (E_nil0 (hg.below k1)).mono ?_
    rintro e w3 ⟨rfl, b3⟩
    have k3 := below_tr k1 b3
    clear C0 k1 b3
    have C1 := Lib.hid (R_DetMod_any n (hM.below k3) S3.out S4.out (by omega))
    go_wp2_with (first
      | (go_at_call 38; (with_reducible refine C1.out.mono ?_); rintro e w4 ⟨rfl, b4⟩)
      | (go_at_call 39; fail))
    have k4 := below_tr k3 b4
    have C2 := Lib.hid (det_Of_ok (hM.below k4) HQ.out)
    obtain ⟨D, hD⟩ : ∃ D, D = det n (mx M) % 9973 := ⟨_, rfl⟩
    rw [← hD] at C2 ⊢
    clear hD C1 b4 k3
    have z1 : (D == D) = true := beq_iff_eq.2 rfl
    go_wp2_with (first
      | (go_at_call 39; (with_reducible refine C2.out.mono ?_); rintro e w5 ⟨rfl, b5⟩)
      | (go_at_call 17; fail))
    have k5 := below_tr k4 b5
    refine (E_nil0 (hg.below k5)).mono ?_
    rintro e w6 ⟨rfl, b6⟩
    have k6 := below_tr k5 b6
    clear C2 b5 b6 k4 k5
    by_cases h20 : 20 < l
    · have z2 : (20 : Int) < (l : Int) := by omega
      go_wp2
      go_ret
      exact ⟨rfl, k6⟩
    · have z2 : (l : Int) ≤ 20 := by omega
      have C3 := Lib.hid (Sign_any (ho.below k6) (by omega))
      have HS := Lib.hid (sign_is (l := o) (n := l) ho.len_eq)
      go_wp2_with (first
        | (go_at_call 40; (with_reducible refine C3.out.mono ?_); rintro e w7 ⟨rfl, b7⟩)
        | (go_at_call 41; fail))
      have k7 := below_tr k6 b7
      have C4 := R_Sign_any (ho.below k7)
      rw [HS.out] at C4
      have C4 := Lib.hid C4
      obtain ⟨Z, hZ⟩ : ∃ Z, Z = signC o := ⟨_, rfl⟩
      rw [← hZ] at C4 ⊢
      clear hZ HS C3 b7 k6
      have z3 : (Z == Z) = true := beq_iff_eq.2 rfl
      go_wp2_with (first
        | (go_at_call 41; (with_reducible refine C4.out.mono ?_); rintro e w8 ⟨rfl, m8, rfl⟩))
      go_ret
      exact ⟨rfl, below_drewN k7 m8⟩
  · have C0 := R_Square_any 5 0 9972 hM
    rw [hq] at C0
    have C0 := Lib.hid C0
    have HQ := Lib.hid hq
    have c0 : c ≠ 0 := squareR_nz hq
    have z1 : (c == 0) = false := beq_eq_false_iff_ne.2 c0
    clear hq
    go_enter Tryd.func6, Tryd.ntmps6
    go_wp2_with (first
      | (go_at_call 34; (with_reducible refine C0.out.mono ?_); rintro e w1 ⟨rfl, k1⟩; simp only [numV])
      | (go_at_call 37; refine (det_Check_is (hM.below k1) HQ.out).mono ?_; rintro e w2 ⟨rfl, rfl⟩; simp only [errV])
      | (go_at_call 17; fail))
    refine (E_same (hg.below k1)).mono ?_
    rintro e w3 ⟨rfl, b3⟩
    have k3 := below_tr k1 b3
    clear C0 k1 b3
    have C2 := Lib.hid (det_Of_err (hM.below k3) HQ.out)
    go_wp2_with (first
      | (go_at_call 39; (with_reducible refine C2.out.mono ?_); rintro e w5 ⟨rfl, rfl⟩)
      | (go_at_call 17; fail))
    refine (E_same (hg.below k3)).mono ?_
    rintro e w6 ⟨rfl, b6⟩
    have k6 := below_tr k3 b6
    clear C2 b6 k3
    by_cases h20 : 20 < l
    · have z2 : (20 : Int) < (l : Int) := by omega
      go_wp2
      go_ret
      exact ⟨rfl, k6⟩
    · have z2 : (l : Int) ≤ 20 := by omega
      have C3 := Lib.hid (Sign_any (ho.below k6) (by omega))
      have HS := Lib.hid (sign_is (l := o) (n := l) ho.len_eq)
      go_wp2_with (first
        | (go_at_call 40; (with_reducible refine C3.out.mono ?_); rintro e w7 ⟨rfl, b7⟩)
        | (go_at_call 41; fail))
      have k7 := below_tr k6 b7
      have C4 := R_Sign_any (ho.below k7)
      rw [HS.out] at C4
      have C4 := Lib.hid C4
      obtain ⟨Z, hZ⟩ : ∃ Z, Z = signC o := ⟨_, rfl⟩
      rw [← hZ] at C4 ⊢
      clear hZ HS C3 b7 k6
      have z3 : (Z == Z) = true := beq_iff_eq.2 rfl
      go_wp2_with (first
        | (go_at_call 41; (with_reducible refine C4.out.mono ?_); rintro e w8 ⟨rfl, m8, rfl⟩))
      go_ret
      exact ⟨rfl, below_drewN k7 m8⟩
end Go.Proofs.YtkielldinghmbaaDoor
