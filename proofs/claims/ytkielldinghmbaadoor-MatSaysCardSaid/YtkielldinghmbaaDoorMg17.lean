/-
  MatSays walked: of any two matrices what is wrong, the sum, the product, turned, and a power: some of the ways.
-/
import Derived.Test.YtkielldinghmbaaDoorRows
import Derived.Deep.QuietTactic
import Derived.BigQuiet
import Derived.Test.YtkielldinghmbaaDoorMg0
import Derived.Test.YtkielldinghmbaaDoorMg1
import Derived.Test.YtkielldinghmbaaDoorMg2
import Derived.Test.YtkielldinghmbaaDoorMg5
import Derived.Test.YtkielldinghmbaaDoorMg6
import Derived.Test.YtkielldinghmbaaDoorMg8
import Derived.Test.YtkielldinghmbaaDoorMg12
import Derived.Test.YtkielldinghmbaaDoorMg16
namespace Go.Proofs.YtkielldinghmbaaDoor
open Go.RowKit Go.Rk

section
variable {a b : Option Addr} {n m ca cb : Nat} {A B : List (List Int)} {x : Int} {w : World}
set_option maxHeartbeats 4000000 in
set_option maxRecDepth 100000 in
theorem matSays_errA (hg : ErrT w) (hA : RdM w a n ca A) (hB : RdM w b m cb B) {q : Int} (HQ : Hid (groundsR 5 0 9972 A = some q)) :
    Calls Tryd.prog 3 #[.slice a n ca, .slice b m cb, .int .i64 x] w fun e w' => e = .returned (.bool true) ∧ Below w.heap.size w w' := by
  have lm := hA.len_max
  have lb := hB.len_max
  have kk := Below.refl w.heap.size w
  go_enter Tryd.func3, Tryd.ntmps3
  have zq : (q == 0) = false := beq_eq_false_iff_ne.2 (groundsR_nz HQ.out)
  go_wp2_with (go_at_call 16; fail)
  refine (Field_some (hA.below kk) HQ.out).mono ?_
  rintro e w' ⟨rfl, b'⟩
  replace kk := below_tr kk b'
  clear b'
  go_wp2_with (go_at_call 18; fail)
  refine (Check_some (hA.below kk) HQ.out).mono ?_
  rintro e w' ⟨rfl, rfl⟩
  go_wp2_with (go_at_call 17; fail)
  refine (E_same (hg.below kk)).mono ?_
  rintro e w' ⟨rfl, b'⟩
  replace kk := below_tr kk b'
  clear b'
  go_wp2_with (go_at_call 20; fail)
  refine (Turn_err (hA.below kk) HQ.out).mono ?_
  rintro e w' ⟨rfl, rfl⟩
  go_wp2_with (go_at_call 17; fail)
  refine (E_same (hg.below kk)).mono ?_
  rintro e w' ⟨rfl, b'⟩
  replace kk := below_tr kk b'
  clear b'
  go_wp2_with (go_at_call 21; fail)
  refine (Rows_none _).mono ?_
  rintro e w' ⟨rfl, b'⟩
  replace kk := below_tr kk b'
  clear b'
  go_wp2_with fail
  go_quiet (fail)
  replace kk := below_drewN kk nq
  generalize w'.drewN nq = wz at *
  go_wp2_with (go_at_call 23; fail)
  refine (Add_err (hA.below kk) (hB.below kk) (x := q) (by unfold addErr; rw [HQ.out]; rfl)).mono ?_
  rintro e w' ⟨rfl, b'⟩
  replace kk := below_tr kk b'
  clear b'
  go_wp2_with (go_at_call 17; fail)
  refine (E_same (hg.below kk)).mono ?_
  rintro e w' ⟨rfl, b'⟩
  replace kk := below_tr kk b'
  clear b'
  go_wp2_with (go_at_call 21; fail)
  refine (Rows_none _).mono ?_
  rintro e w' ⟨rfl, b'⟩
  replace kk := below_tr kk b'
  clear b'
  go_wp2_with (go_at_call 25; fail)
  refine (Mul_err (hA.below kk) (hB.below kk) (x := q) (by unfold mulErr; rw [HQ.out]; rfl)).mono ?_
  rintro e w' ⟨rfl, b'⟩
  replace kk := below_tr kk b'
  clear b'
  go_wp2_with (go_at_call 17; fail)
  refine (E_same (hg.below kk)).mono ?_
  rintro e w' ⟨rfl, b'⟩
  replace kk := below_tr kk b'
  clear b'
  go_wp2_with (go_at_call 21; fail)
  refine (Rows_none _).mono ?_
  rintro e w' ⟨rfl, b'⟩
  replace kk := below_tr kk b'
  clear b'
  have HP : Hid (powErr A x = some q) := by unfold Hid powErr; rw [squareR_of_grounds HQ.out]
  go_wp2_with (go_at_call 28; fail)
  refine (Pow_err (hA.below kk) HP.out).mono ?_
  rintro e w' ⟨rfl, b'⟩
  replace kk := below_tr kk b'
  clear b'
  go_wp2_with (go_at_call 17; fail)
  refine (E_same (hg.below kk)).mono ?_
  rintro e w' ⟨rfl, b'⟩
  replace kk := below_tr kk b'
  clear b'
  go_wp2_with (go_at_call 21; fail)
  refine (Rows_none _).mono ?_
  rintro e w' ⟨rfl, b'⟩
  replace kk := below_tr kk b'
  clear b'
  by_cases h5 : inB x 1 5 = true
  · have H5 := Lib.hid h5
    obtain ⟨N, hN⟩ : ∃ N : Nat, x = (N : Int) := ⟨x.toNat, by have := inB_true h5; omega⟩
    subst hN
    have b5 := inB_true h5
    clear h5
    go_wp2_with (first | (go_at_call 26; refine (L2_in_any _ _ _ _).mono ?_; rintro e w' ⟨rfl, rfl⟩; rw [H5.out]) | (go_at_call 27; fail))
    refine (R_Unit_any N _ (by omega)).mono ?_
    rintro e w' ⟨aU, cU, rfl, hU0, b'⟩
    replace kk := below_tr kk b'
    have hU := hU0.rd
    clear b' hU0
    go_wp2_with (go_at_call 29; fail)
    refine (One_any N _ (by omega) (by omega)).mono ?_
    rintro e w' ⟨aO, cO, O, rfl, hO, hOi, b'⟩
    replace kk := below_tr kk b'
    replace hU := hU.below b'
    clear b'
    have hO1 := hO.rd
    have HE : Hid (O = rowsF oneM N N) := hOi.same (rowsF_is _ _ _)
    clear hO hOi
    go_wp2_with (go_at_call 17; fail)
    refine (E_nil0 (hg.below kk)).mono ?_
    rintro e w' ⟨rfl, b'⟩
    replace kk := below_tr kk b'
    replace hU := hU.below b'
    replace hO1 := hO1.below b'
    clear b'
    go_wp2_with (go_at_call 21; fail)
    refine (Rows_eq hO1 hU HE.out).mono ?_
    rintro e w' ⟨rfl, b'⟩
    replace kk := below_tr kk b'
    replace hU := hU.below b'
    replace hO1 := hO1.below b'
    clear b'
    go_wp2
    go_ret
    exact ⟨rfl, kk⟩
  · have h5 : inB x 1 5 = false := by simpa using h5
    have H5 := Lib.hid h5
    have H6 : Hid (outB x 1 5 = true) := out_of_in h5
    clear h5
    go_wp2_with (first | (go_at_call 26; refine (L2_in_any _ _ _ _).mono ?_; rintro e w' ⟨rfl, rfl⟩; rw [H5.out]) | (go_at_call 29; fail))
    refine (One_err H6.out).mono ?_
    rintro e w' ⟨rfl, rfl⟩
    go_wp2_with (go_at_call 17; fail)
    refine (E_same (hg.below kk)).mono ?_
    rintro e w' ⟨rfl, b'⟩
    replace kk := below_tr kk b'
    clear b'
    go_wp2_with (go_at_call 21; fail)
    refine (Rows_none _).mono ?_
    rintro e w' ⟨rfl, b'⟩
    replace kk := below_tr kk b'
    clear b'
    go_wp2
    go_ret
    exact ⟨rfl, kk⟩
set_option maxHeartbeats 4000000 in
set_option maxRecDepth 100000 in
theorem matSays_errB (hg : ErrT w) (hA : RdM w a n ca A) (hB : RdM w b m cb B) {c : Nat} {q : Int} (GA : Hid (Good n c A)) (HQ : Hid (groundsR 5 0 9972 B = some q)) :
    Calls Tryd.prog 3 #[.slice a n ca, .slice b m cb, .int .i64 x] w fun e w' => e = .returned (.bool true) ∧ Below w.heap.size w w' := by
  have lm := hA.len_max
  have lb := hB.len_max
  have n1 := GA.out.n1
  have c1 := GA.out.c1
  obtain ⟨ba, oa, rfl, ar, cr, hA0, _⟩ := hA.rowIn GA.out.dm (k := 0) (by omega)
  rw [Nat.add_zero] at hA0
  have lA := World.block_lt_of_cell? _ _ hA0
  have i01 : (0 : Int) < (n : Int) := by omega
  have i02 : (1 : Int) ≤ (n : Int) := by omega
  have kk := Below.refl w.heap.size w
  go_enter Tryd.func3, Tryd.ntmps3
  have zq : (q == 0) = false := beq_eq_false_iff_ne.2 (groundsR_nz HQ.out)
  go_wp2_with (go_at_call 16; fail)
  refine (Field_none (hA.below kk) GA.out.gr).mono ?_
  rintro e w' ⟨rfl, b'⟩
  replace kk := below_tr kk b'
  clear b'
  go_wp2_with (go_at_call 18; fail)
  refine (Check_none (hA.below kk) GA.out.gr).mono ?_
  rintro e w' ⟨rfl, rfl⟩
  go_wp2_with (go_at_call 17; fail)
  refine (E_nil0 (hg.below kk)).mono ?_
  rintro e w' ⟨rfl, b'⟩
  replace kk := below_tr kk b'
  clear b'
  go_wp2_with (go_at_call 19; fail)
  refine (R_Flip_any (hA.below kk) GA.out.dm (by omega) (by omega) (by omega)).mono ?_
  rintro e w' ⟨aF, cF, rfl, hF0, b'⟩
  replace kk := below_tr kk b'
  clear b'
  have hF := hF0.rd
  clear hF0
  go_wp2_with (go_at_call 16; fail)
  refine (Field_some (hB.below kk) HQ.out).mono ?_
  rintro e w' ⟨rfl, b'⟩
  replace kk := below_tr kk b'
  replace hF := hF.below b'
  clear b'
  go_wp2_with (go_at_call 20; fail)
  refine (Turn_ok (hA.below kk) GA.out.gr GA.out.dm GA.out.n1 GA.out.c1).mono ?_
  rintro e w' ⟨aT, cT, T, rfl, hT, hTi, b'⟩
  replace kk := below_tr kk b'
  replace hF := hF.below b'
  clear b'
  have hT1 := hT.rd
  have HT : Hid (T = flipL A n c) := hTi.same (flipL_is A n c)
  clear hT hTi
  go_wp2_with (go_at_call 17; fail)
  refine (E_nil0 (hg.below kk)).mono ?_
  rintro e w' ⟨rfl, b'⟩
  replace kk := below_tr kk b'
  replace hF := hF.below b'
  replace hT1 := hT1.below b'
  clear b'
  go_wp2_with (go_at_call 21; fail)
  refine (Rows_eq hT1 hF HT.out).mono ?_
  rintro e w' ⟨rfl, b'⟩
  replace kk := below_tr kk b'
  replace hF := hF.below b'
  replace hT1 := hT1.below b'
  clear b'
  clear hT1 hF
  go_wp2_with fail
  go_quiet (fail)
  replace kk := below_drewN kk nq
  generalize w'.drewN nq = wz at *
  go_wp2_with (go_at_call 23; fail)
  refine (Add_err (hA.below kk) (hB.below kk) (x := q) (by unfold addErr; rw [GA.out.gr, HQ.out]; rfl)).mono ?_
  rintro e w' ⟨rfl, b'⟩
  replace kk := below_tr kk b'
  clear b'
  go_wp2_with (go_at_call 17; fail)
  refine (E_same (hg.below kk)).mono ?_
  rintro e w' ⟨rfl, b'⟩
  replace kk := below_tr kk b'
  clear b'
  go_wp2_with (go_at_call 21; fail)
  refine (Rows_none _).mono ?_
  rintro e w' ⟨rfl, b'⟩
  replace kk := below_tr kk b'
  clear b'
  go_wp2_with (go_at_call 25; fail)
  refine (Mul_err (hA.below kk) (hB.below kk) (x := q) (by unfold mulErr; rw [GA.out.gr, HQ.out]; rfl)).mono ?_
  rintro e w' ⟨rfl, b'⟩
  replace kk := below_tr kk b'
  clear b'
  go_wp2_with (go_at_call 17; fail)
  refine (E_same (hg.below kk)).mono ?_
  rintro e w' ⟨rfl, b'⟩
  replace kk := below_tr kk b'
  clear b'
  go_wp2_with (go_at_call 21; fail)
  refine (Rows_none _).mono ?_
  rintro e w' ⟨rfl, b'⟩
  replace kk := below_tr kk b'
  clear b'
  by_cases hnc : n = c
  · subst hnc
    have zc : ((n : Int) != (n : Int)) = false := bne_eq_false_iff_eq.2 rfl
    have HS : Hid (squareR 5 0 9972 A = none) := GA.out.sq
    by_cases hx : inB x 0 1000 = true
    · have HX := Lib.hid hx
      obtain ⟨E, hE⟩ : ∃ E : Nat, x = (E : Int) := ⟨x.toNat, by have := inB_true hx; omega⟩
      subst hE
      have bx := inB_true hx
      clear hx
      have yA := kk.keep lA hA0
      go_wp2_with (first | (go_at_call 26; refine (L2_in_any _ _ _ _).mono ?_; rintro e w' ⟨rfl, rfl⟩; rw [HX.out]) | (go_at_call 27; fail))
      clear yA
      refine (R_Unit_any n _ (by omega)).mono ?_
      rintro e w1 ⟨aU, cU, rfl, hU0, b'⟩
      replace kk := below_tr kk b'
      have hU := hU0.rd
      clear b' hU0
      rw [powL_zero n A] at hU
      go_wp2_with fail
      go_loopw [13, 20] (fun v y wt => ∃ (k : Nat) (p : Option Addr) (cp : Nat), k ≤ E ∧ y = .int .i64 k ∧ v = .slice p n cp ∧ RdM wt p n cp (powL n A k) ∧ Below w1.heap.size w1 wt) (fun _ y _ => E - (intOf y).toNat)
      case atStart => exact ⟨0, _, _, Nat.zero_le _, rfl, rfl, hU, Below.refl _ _⟩
      case round =>
        clear hU
        obtain ⟨k, p, cp, hk, rfl, rfl, hP, hb⟩ := hrel
        by_cases hkE : k < E
        · have i1 : (k : Int) < (E : Int) := by omega
          go_wp2_with (go_at_call 24; fail)
          refine (R_MatMul_any (hA.below (below_tr kk hb)) hP GA.out.dm GA.out.ent (powL_is n A k).1 (powL_ent n A k) (by omega) (by omega) (by omega)).mono ?_
          rintro e w2 ⟨aQ, cQ, rfl, hQ, b2⟩
          have hQ1 := hQ.rd
          rw [powL_succ] at hQ1
          go_wp2
          go_roundw
          case rel => exact ⟨k + 1, aQ, cQ, by omega, by go_num, rfl, hQ1, below_tr hb b2⟩
          case measure => simp [intOf]; omega
        · obtain rfl : E = k := by omega
          replace kk := below_tr kk hb
          clear hb
          go_wp2_with (go_at_call 28; fail)
          refine (Pow_ok (hA.below kk) HS.out (by omega)).mono ?_
          rintro e w' ⟨aW, cW, W, rfl, hW, hWi, b'⟩
          replace kk := below_tr kk b'
          replace hP := hP.below b'
          clear b'
          have hW1 := hW.rd
          have HW : Hid (W = powL n A E) := hWi.same (powL_is n A E)
          clear hW hWi
          go_wp2_with (go_at_call 17; fail)
          refine (E_nil0 (hg.below kk)).mono ?_
          rintro e w' ⟨rfl, b'⟩
          replace kk := below_tr kk b'
          replace hP := hP.below b'
          replace hW1 := hW1.below b'
          clear b'
          go_wp2_with (go_at_call 21; fail)
          refine (Rows_eq hW1 hP HW.out).mono ?_
          rintro e w' ⟨rfl, b'⟩
          replace kk := below_tr kk b'
          replace hP := hP.below b'
          replace hW1 := hW1.below b'
          clear b'
          clear hW1 hP
          generalize hx : (E : Int) = x at *
          clear hx bx HX
          by_cases h5 : inB x 1 5 = true
          · have H5 := Lib.hid h5
            obtain ⟨N, hN⟩ : ∃ N : Nat, x = (N : Int) := ⟨x.toNat, by have := inB_true h5; omega⟩
            subst hN
            have b5 := inB_true h5
            clear h5
            go_wp2_with (first | (go_at_call 26; refine (L2_in_any _ _ _ _).mono ?_; rintro e w' ⟨rfl, rfl⟩; rw [H5.out]) | (go_at_call 27; fail))
            refine (R_Unit_any N _ (by omega)).mono ?_
            rintro e w' ⟨aU, cU, rfl, hU0, b'⟩
            replace kk := below_tr kk b'
            have hU := hU0.rd
            clear b' hU0
            go_wp2_with (go_at_call 29; fail)
            refine (One_any N _ (by omega) (by omega)).mono ?_
            rintro e w' ⟨aO, cO, O, rfl, hO, hOi, b'⟩
            replace kk := below_tr kk b'
            replace hU := hU.below b'
            clear b'
            have hO1 := hO.rd
            have HE : Hid (O = rowsF oneM N N) := hOi.same (rowsF_is _ _ _)
            clear hO hOi
            go_wp2_with (go_at_call 17; fail)
            refine (E_nil0 (hg.below kk)).mono ?_
            rintro e w' ⟨rfl, b'⟩
            replace kk := below_tr kk b'
            replace hU := hU.below b'
            replace hO1 := hO1.below b'
            clear b'
            go_wp2_with (go_at_call 21; fail)
            refine (Rows_eq hO1 hU HE.out).mono ?_
            rintro e w' ⟨rfl, b'⟩
            replace kk := below_tr kk b'
            replace hU := hU.below b'
            replace hO1 := hO1.below b'
            clear b'
            go_wp2
            go_ret
            exact ⟨rfl, kk⟩
          · have h5 : inB x 1 5 = false := by simpa using h5
            have H5 := Lib.hid h5
            have H6 : Hid (outB x 1 5 = true) := out_of_in h5
            clear h5
            go_wp2_with (first | (go_at_call 26; refine (L2_in_any _ _ _ _).mono ?_; rintro e w' ⟨rfl, rfl⟩; rw [H5.out]) | (go_at_call 29; fail))
            refine (One_err H6.out).mono ?_
            rintro e w' ⟨rfl, rfl⟩
            go_wp2_with (go_at_call 17; fail)
            refine (E_same (hg.below kk)).mono ?_
            rintro e w' ⟨rfl, b'⟩
            replace kk := below_tr kk b'
            clear b'
            go_wp2_with (go_at_call 21; fail)
            refine (Rows_none _).mono ?_
            rintro e w' ⟨rfl, b'⟩
            replace kk := below_tr kk b'
            clear b'
            go_wp2
            go_ret
            exact ⟨rfl, kk⟩
    · have hx : inB x 0 1000 = false := by simpa using hx
      have HX := Lib.hid hx
      have HP : Hid (powErr A x = some 1) := by unfold Hid powErr; rw [HS.out]; dsimp only; rw [out_of_in hx]; rfl
      clear hx
      have yA := kk.keep lA hA0
      go_wp2_with (first | (go_at_call 26; refine (L2_in_any _ _ _ _).mono ?_; rintro e w' ⟨rfl, rfl⟩; rw [HX.out]) | (go_at_call 28; fail))
      clear yA
      go_wp2_with (go_at_call 28; fail)
      refine (Pow_err (hA.below kk) HP.out).mono ?_
      rintro e w' ⟨rfl, b'⟩
      replace kk := below_tr kk b'
      clear b'
      go_wp2_with (go_at_call 17; fail)
      refine (E_same (hg.below kk)).mono ?_
      rintro e w' ⟨rfl, b'⟩
      replace kk := below_tr kk b'
      clear b'
      go_wp2_with (go_at_call 21; fail)
      refine (Rows_none _).mono ?_
      rintro e w' ⟨rfl, b'⟩
      replace kk := below_tr kk b'
      clear b'
      by_cases h5 : inB x 1 5 = true
      · have H5 := Lib.hid h5
        obtain ⟨N, hN⟩ : ∃ N : Nat, x = (N : Int) := ⟨x.toNat, by have := inB_true h5; omega⟩
        subst hN
        have b5 := inB_true h5
        clear h5
        go_wp2_with (first | (go_at_call 26; refine (L2_in_any _ _ _ _).mono ?_; rintro e w' ⟨rfl, rfl⟩; rw [H5.out]) | (go_at_call 27; fail))
        refine (R_Unit_any N _ (by omega)).mono ?_
        rintro e w' ⟨aU, cU, rfl, hU0, b'⟩
        replace kk := below_tr kk b'
        have hU := hU0.rd
        clear b' hU0
        go_wp2_with (go_at_call 29; fail)
        refine (One_any N _ (by omega) (by omega)).mono ?_
        rintro e w' ⟨aO, cO, O, rfl, hO, hOi, b'⟩
        replace kk := below_tr kk b'
        replace hU := hU.below b'
        clear b'
        have hO1 := hO.rd
        have HE : Hid (O = rowsF oneM N N) := hOi.same (rowsF_is _ _ _)
        clear hO hOi
        go_wp2_with (go_at_call 17; fail)
        refine (E_nil0 (hg.below kk)).mono ?_
        rintro e w' ⟨rfl, b'⟩
        replace kk := below_tr kk b'
        replace hU := hU.below b'
        replace hO1 := hO1.below b'
        clear b'
        go_wp2_with (go_at_call 21; fail)
        refine (Rows_eq hO1 hU HE.out).mono ?_
        rintro e w' ⟨rfl, b'⟩
        replace kk := below_tr kk b'
        replace hU := hU.below b'
        replace hO1 := hO1.below b'
        clear b'
        go_wp2
        go_ret
        exact ⟨rfl, kk⟩
      · have h5 : inB x 1 5 = false := by simpa using h5
        have H5 := Lib.hid h5
        have H6 : Hid (outB x 1 5 = true) := out_of_in h5
        clear h5
        go_wp2_with (first | (go_at_call 26; refine (L2_in_any _ _ _ _).mono ?_; rintro e w' ⟨rfl, rfl⟩; rw [H5.out]) | (go_at_call 29; fail))
        refine (One_err H6.out).mono ?_
        rintro e w' ⟨rfl, rfl⟩
        go_wp2_with (go_at_call 17; fail)
        refine (E_same (hg.below kk)).mono ?_
        rintro e w' ⟨rfl, b'⟩
        replace kk := below_tr kk b'
        clear b'
        go_wp2_with (go_at_call 21; fail)
        refine (Rows_none _).mono ?_
        rintro e w' ⟨rfl, b'⟩
        replace kk := below_tr kk b'
        clear b'
        go_wp2
        go_ret
        exact ⟨rfl, kk⟩
  · have zc : ((n : Int) != (c : Int)) = true := bne_iff_ne.2 (by omega)
    have HP : Hid (powErr A x = some 3) := by unfold Hid powErr squareR; rw [GA.out.gr, if_pos rfl, GA.out.r0, GA.out.dm.1, if_neg hnc]
    have yA := kk.keep lA hA0
    go_wp2_with (go_at_call 28; fail)
    clear yA
    go_wp2_with (go_at_call 28; fail)
    refine (Pow_err (hA.below kk) HP.out).mono ?_
    rintro e w' ⟨rfl, b'⟩
    replace kk := below_tr kk b'
    clear b'
    go_wp2_with (go_at_call 17; fail)
    refine (E_same (hg.below kk)).mono ?_
    rintro e w' ⟨rfl, b'⟩
    replace kk := below_tr kk b'
    clear b'
    go_wp2_with (go_at_call 21; fail)
    refine (Rows_none _).mono ?_
    rintro e w' ⟨rfl, b'⟩
    replace kk := below_tr kk b'
    clear b'
    by_cases h5 : inB x 1 5 = true
    · have H5 := Lib.hid h5
      obtain ⟨N, hN⟩ : ∃ N : Nat, x = (N : Int) := ⟨x.toNat, by have := inB_true h5; omega⟩
      subst hN
      have b5 := inB_true h5
      clear h5
      go_wp2_with (first | (go_at_call 26; refine (L2_in_any _ _ _ _).mono ?_; rintro e w' ⟨rfl, rfl⟩; rw [H5.out]) | (go_at_call 27; fail))
      refine (R_Unit_any N _ (by omega)).mono ?_
      rintro e w' ⟨aU, cU, rfl, hU0, b'⟩
      replace kk := below_tr kk b'
      have hU := hU0.rd
      clear b' hU0
      go_wp2_with (go_at_call 29; fail)
      refine (One_any N _ (by omega) (by omega)).mono ?_
      rintro e w' ⟨aO, cO, O, rfl, hO, hOi, b'⟩
      replace kk := below_tr kk b'
      replace hU := hU.below b'
      clear b'
      have hO1 := hO.rd
      have HE : Hid (O = rowsF oneM N N) := hOi.same (rowsF_is _ _ _)
      clear hO hOi
      go_wp2_with (go_at_call 17; fail)
      refine (E_nil0 (hg.below kk)).mono ?_
      rintro e w' ⟨rfl, b'⟩
      replace kk := below_tr kk b'
      replace hU := hU.below b'
      replace hO1 := hO1.below b'
      clear b'
      go_wp2_with (go_at_call 21; fail)
      refine (Rows_eq hO1 hU HE.out).mono ?_
      rintro e w' ⟨rfl, b'⟩
      replace kk := below_tr kk b'
      replace hU := hU.below b'
      replace hO1 := hO1.below b'
      clear b'
      go_wp2
      go_ret
      exact ⟨rfl, kk⟩
    · have h5 : inB x 1 5 = false := by simpa using h5
      have H5 := Lib.hid h5
      have H6 : Hid (outB x 1 5 = true) := out_of_in h5
      clear h5
      go_wp2_with (first | (go_at_call 26; refine (L2_in_any _ _ _ _).mono ?_; rintro e w' ⟨rfl, rfl⟩; rw [H5.out]) | (go_at_call 29; fail))
      refine (One_err H6.out).mono ?_
      rintro e w' ⟨rfl, rfl⟩
      go_wp2_with (go_at_call 17; fail)
      refine (E_same (hg.below kk)).mono ?_
      rintro e w' ⟨rfl, b'⟩
      replace kk := below_tr kk b'
      clear b'
      go_wp2_with (go_at_call 21; fail)
      refine (Rows_none _).mono ?_
      rintro e w' ⟨rfl, b'⟩
      replace kk := below_tr kk b'
      clear b'
      go_wp2
      go_ret
      exact ⟨rfl, kk⟩
set_option maxHeartbeats 4000000 in
set_option maxRecDepth 100000 in
theorem matSays_no_no1 (hg : ErrT w) (hA : RdM w a n ca A) (hB : RdM w b m cb B) {c d : Nat} (GA : Hid (Good n c A)) (GB : Hid (Good m d B)) (hnm : n ≠ m) (hne : c ≠ m) :
    Calls Tryd.prog 3 #[.slice a n ca, .slice b m cb, .int .i64 x] w fun e w' => e = .returned (.bool true) ∧ Below w.heap.size w w' := by
  have lm := hA.len_max
  have lb := hB.len_max
  have n1 := GA.out.n1
  have c1 := GA.out.c1
  obtain ⟨ba, oa, rfl, ar, cr, hA0, _⟩ := hA.rowIn GA.out.dm (k := 0) (by omega)
  rw [Nat.add_zero] at hA0
  have lA := World.block_lt_of_cell? _ _ hA0
  have i01 : (0 : Int) < (n : Int) := by omega
  have i02 : (1 : Int) ≤ (n : Int) := by omega
  have m1 := GB.out.n1
  have d1 := GB.out.c1
  obtain ⟨bb, ob, rfl, br, dr, hB0, _⟩ := hB.rowIn GB.out.dm (k := 0) (by omega)
  rw [Nat.add_zero] at hB0
  have lB := World.block_lt_of_cell? _ _ hB0
  have j01 : (0 : Int) < (m : Int) := by omega
  have j02 : (1 : Int) ≤ (m : Int) := by omega
  have z1 : ((n : Int) != (m : Int)) = true := bne_iff_ne.2 (by omega)
  have z3 : ((c : Int) != (m : Int)) = true := bne_iff_ne.2 (by omega)
  have HCD := Lib.hid hnm
  clear hnm
  have kk := Below.refl w.heap.size w
  go_enter Tryd.func3, Tryd.ntmps3
  go_wp2_with (go_at_call 16; fail)
  refine (Field_none (hA.below kk) GA.out.gr).mono ?_
  rintro e w' ⟨rfl, b'⟩
  replace kk := below_tr kk b'
  clear b'
  go_wp2_with (go_at_call 18; fail)
  refine (Check_none (hA.below kk) GA.out.gr).mono ?_
  rintro e w' ⟨rfl, rfl⟩
  go_wp2_with (go_at_call 17; fail)
  refine (E_nil0 (hg.below kk)).mono ?_
  rintro e w' ⟨rfl, b'⟩
  replace kk := below_tr kk b'
  clear b'
  go_wp2_with (go_at_call 19; fail)
  refine (R_Flip_any (hA.below kk) GA.out.dm (by omega) (by omega) (by omega)).mono ?_
  rintro e w' ⟨aF, cF, rfl, hF0, b'⟩
  replace kk := below_tr kk b'
  clear b'
  have hF := hF0.rd
  clear hF0
  go_wp2_with (go_at_call 16; fail)
  refine (Field_none (hB.below kk) GB.out.gr).mono ?_
  rintro e w' ⟨rfl, b'⟩
  replace kk := below_tr kk b'
  replace hF := hF.below b'
  clear b'
  go_wp2_with (go_at_call 20; fail)
  refine (Turn_ok (hA.below kk) GA.out.gr GA.out.dm GA.out.n1 GA.out.c1).mono ?_
  rintro e w' ⟨aT, cT, T, rfl, hT, hTi, b'⟩
  replace kk := below_tr kk b'
  replace hF := hF.below b'
  clear b'
  have hT1 := hT.rd
  have HT : Hid (T = flipL A n c) := hTi.same (flipL_is A n c)
  clear hT hTi
  go_wp2_with (go_at_call 17; fail)
  refine (E_nil0 (hg.below kk)).mono ?_
  rintro e w' ⟨rfl, b'⟩
  replace kk := below_tr kk b'
  replace hF := hF.below b'
  replace hT1 := hT1.below b'
  clear b'
  go_wp2_with (go_at_call 21; fail)
  refine (Rows_eq hT1 hF HT.out).mono ?_
  rintro e w' ⟨rfl, b'⟩
  replace kk := below_tr kk b'
  replace hF := hF.below b'
  replace hT1 := hT1.below b'
  clear b'
  clear hT1 hF
  have yA := kk.keep lA hA0
  have yB := kk.keep lB hB0
  go_wp2_with fail
  go_quiet (fail)
  replace kk := below_drewN kk nq
  clear yA yB
  generalize w'.drewN nq = wz at *
  go_wp2_with (go_at_call 23; fail)
  refine (Add_err (hA.below kk) (hB.below kk) (x := 3) (by unfold addErr; rw [GA.out.gr, GB.out.gr]; show (if _ then _ else _) = _; rw [GA.out.r0, GB.out.r0, GA.out.dm.1, GB.out.dm.1, if_neg fun e => HCD.out e.1])).mono ?_
  rintro e w' ⟨rfl, b'⟩
  replace kk := below_tr kk b'
  clear b'
  go_wp2_with (go_at_call 17; fail)
  refine (E_same (hg.below kk)).mono ?_
  rintro e w' ⟨rfl, b'⟩
  replace kk := below_tr kk b'
  clear b'
  go_wp2_with (go_at_call 21; fail)
  refine (Rows_none _).mono ?_
  rintro e w' ⟨rfl, b'⟩
  replace kk := below_tr kk b'
  clear b'
  have yA := kk.keep lA hA0
  go_wp2_with (go_at_call 25; fail)
  clear yA
  go_wp2_with (go_at_call 25; fail)
  refine (Mul_err (hA.below kk) (hB.below kk) (x := 3) (by unfold mulErr; rw [GA.out.gr, GB.out.gr]; show (if _ then _ else _) = _; rw [GA.out.r0, GB.out.dm.1, if_neg hne])).mono ?_
  rintro e w' ⟨rfl, b'⟩
  replace kk := below_tr kk b'
  clear b'
  go_wp2_with (go_at_call 17; fail)
  refine (E_same (hg.below kk)).mono ?_
  rintro e w' ⟨rfl, b'⟩
  replace kk := below_tr kk b'
  clear b'
  go_wp2_with (go_at_call 21; fail)
  refine (Rows_none _).mono ?_
  rintro e w' ⟨rfl, b'⟩
  replace kk := below_tr kk b'
  clear b'
  by_cases hnc : n = c
  · subst hnc
    have zc : ((n : Int) != (n : Int)) = false := bne_eq_false_iff_eq.2 rfl
    have HS : Hid (squareR 5 0 9972 A = none) := GA.out.sq
    by_cases hx : inB x 0 1000 = true
    · have HX := Lib.hid hx
      obtain ⟨E, hE⟩ : ∃ E : Nat, x = (E : Int) := ⟨x.toNat, by have := inB_true hx; omega⟩
      subst hE
      have bx := inB_true hx
      clear hx
      have yA := kk.keep lA hA0
      go_wp2_with (first | (go_at_call 26; refine (L2_in_any _ _ _ _).mono ?_; rintro e w' ⟨rfl, rfl⟩; rw [HX.out]) | (go_at_call 27; fail))
      clear yA
      refine (R_Unit_any n _ (by omega)).mono ?_
      rintro e w1 ⟨aU, cU, rfl, hU0, b'⟩
      replace kk := below_tr kk b'
      have hU := hU0.rd
      clear b' hU0
      rw [powL_zero n A] at hU
      go_wp2_with fail
      go_loopw [13, 20] (fun v y wt => ∃ (k : Nat) (p : Option Addr) (cp : Nat), k ≤ E ∧ y = .int .i64 k ∧ v = .slice p n cp ∧ RdM wt p n cp (powL n A k) ∧ Below w1.heap.size w1 wt) (fun _ y _ => E - (intOf y).toNat)
      case atStart => exact ⟨0, _, _, Nat.zero_le _, rfl, rfl, hU, Below.refl _ _⟩
      case round =>
        clear hU
        obtain ⟨k, p, cp, hk, rfl, rfl, hP, hb⟩ := hrel
        by_cases hkE : k < E
        · have i1 : (k : Int) < (E : Int) := by omega
          go_wp2_with (go_at_call 24; fail)
          refine (R_MatMul_any (hA.below (below_tr kk hb)) hP GA.out.dm GA.out.ent (powL_is n A k).1 (powL_ent n A k) (by omega) (by omega) (by omega)).mono ?_
          rintro e w2 ⟨aQ, cQ, rfl, hQ, b2⟩
          have hQ1 := hQ.rd
          rw [powL_succ] at hQ1
          go_wp2
          go_roundw
          case rel => exact ⟨k + 1, aQ, cQ, by omega, by go_num, rfl, hQ1, below_tr hb b2⟩
          case measure => simp [intOf]; omega
        · obtain rfl : E = k := by omega
          replace kk := below_tr kk hb
          clear hb
          go_wp2_with (go_at_call 28; fail)
          refine (Pow_ok (hA.below kk) HS.out (by omega)).mono ?_
          rintro e w' ⟨aW, cW, W, rfl, hW, hWi, b'⟩
          replace kk := below_tr kk b'
          replace hP := hP.below b'
          clear b'
          have hW1 := hW.rd
          have HW : Hid (W = powL n A E) := hWi.same (powL_is n A E)
          clear hW hWi
          go_wp2_with (go_at_call 17; fail)
          refine (E_nil0 (hg.below kk)).mono ?_
          rintro e w' ⟨rfl, b'⟩
          replace kk := below_tr kk b'
          replace hP := hP.below b'
          replace hW1 := hW1.below b'
          clear b'
          go_wp2_with (go_at_call 21; fail)
          refine (Rows_eq hW1 hP HW.out).mono ?_
          rintro e w' ⟨rfl, b'⟩
          replace kk := below_tr kk b'
          replace hP := hP.below b'
          replace hW1 := hW1.below b'
          clear b'
          clear hW1 hP
          generalize hx : (E : Int) = x at *
          clear hx bx HX
          by_cases h5 : inB x 1 5 = true
          · have H5 := Lib.hid h5
            obtain ⟨N, hN⟩ : ∃ N : Nat, x = (N : Int) := ⟨x.toNat, by have := inB_true h5; omega⟩
            subst hN
            have b5 := inB_true h5
            clear h5
            go_wp2_with (first | (go_at_call 26; refine (L2_in_any _ _ _ _).mono ?_; rintro e w' ⟨rfl, rfl⟩; rw [H5.out]) | (go_at_call 27; fail))
            refine (R_Unit_any N _ (by omega)).mono ?_
            rintro e w' ⟨aU, cU, rfl, hU0, b'⟩
            replace kk := below_tr kk b'
            have hU := hU0.rd
            clear b' hU0
            go_wp2_with (go_at_call 29; fail)
            refine (One_any N _ (by omega) (by omega)).mono ?_
            rintro e w' ⟨aO, cO, O, rfl, hO, hOi, b'⟩
            replace kk := below_tr kk b'
            replace hU := hU.below b'
            clear b'
            have hO1 := hO.rd
            have HE : Hid (O = rowsF oneM N N) := hOi.same (rowsF_is _ _ _)
            clear hO hOi
            go_wp2_with (go_at_call 17; fail)
            refine (E_nil0 (hg.below kk)).mono ?_
            rintro e w' ⟨rfl, b'⟩
            replace kk := below_tr kk b'
            replace hU := hU.below b'
            replace hO1 := hO1.below b'
            clear b'
            go_wp2_with (go_at_call 21; fail)
            refine (Rows_eq hO1 hU HE.out).mono ?_
            rintro e w' ⟨rfl, b'⟩
            replace kk := below_tr kk b'
            replace hU := hU.below b'
            replace hO1 := hO1.below b'
            clear b'
            go_wp2
            go_ret
            exact ⟨rfl, kk⟩
          · have h5 : inB x 1 5 = false := by simpa using h5
            have H5 := Lib.hid h5
            have H6 : Hid (outB x 1 5 = true) := out_of_in h5
            clear h5
            go_wp2_with (first | (go_at_call 26; refine (L2_in_any _ _ _ _).mono ?_; rintro e w' ⟨rfl, rfl⟩; rw [H5.out]) | (go_at_call 29; fail))
            refine (One_err H6.out).mono ?_
            rintro e w' ⟨rfl, rfl⟩
            go_wp2_with (go_at_call 17; fail)
            refine (E_same (hg.below kk)).mono ?_
            rintro e w' ⟨rfl, b'⟩
            replace kk := below_tr kk b'
            clear b'
            go_wp2_with (go_at_call 21; fail)
            refine (Rows_none _).mono ?_
            rintro e w' ⟨rfl, b'⟩
            replace kk := below_tr kk b'
            clear b'
            go_wp2
            go_ret
            exact ⟨rfl, kk⟩
    · have hx : inB x 0 1000 = false := by simpa using hx
      have HX := Lib.hid hx
      have HP : Hid (powErr A x = some 1) := by unfold Hid powErr; rw [HS.out]; dsimp only; rw [out_of_in hx]; rfl
      clear hx
      have yA := kk.keep lA hA0
      go_wp2_with (first | (go_at_call 26; refine (L2_in_any _ _ _ _).mono ?_; rintro e w' ⟨rfl, rfl⟩; rw [HX.out]) | (go_at_call 28; fail))
      clear yA
      go_wp2_with (go_at_call 28; fail)
      refine (Pow_err (hA.below kk) HP.out).mono ?_
      rintro e w' ⟨rfl, b'⟩
      replace kk := below_tr kk b'
      clear b'
      go_wp2_with (go_at_call 17; fail)
      refine (E_same (hg.below kk)).mono ?_
      rintro e w' ⟨rfl, b'⟩
      replace kk := below_tr kk b'
      clear b'
      go_wp2_with (go_at_call 21; fail)
      refine (Rows_none _).mono ?_
      rintro e w' ⟨rfl, b'⟩
      replace kk := below_tr kk b'
      clear b'
      by_cases h5 : inB x 1 5 = true
      · have H5 := Lib.hid h5
        obtain ⟨N, hN⟩ : ∃ N : Nat, x = (N : Int) := ⟨x.toNat, by have := inB_true h5; omega⟩
        subst hN
        have b5 := inB_true h5
        clear h5
        go_wp2_with (first | (go_at_call 26; refine (L2_in_any _ _ _ _).mono ?_; rintro e w' ⟨rfl, rfl⟩; rw [H5.out]) | (go_at_call 27; fail))
        refine (R_Unit_any N _ (by omega)).mono ?_
        rintro e w' ⟨aU, cU, rfl, hU0, b'⟩
        replace kk := below_tr kk b'
        have hU := hU0.rd
        clear b' hU0
        go_wp2_with (go_at_call 29; fail)
        refine (One_any N _ (by omega) (by omega)).mono ?_
        rintro e w' ⟨aO, cO, O, rfl, hO, hOi, b'⟩
        replace kk := below_tr kk b'
        replace hU := hU.below b'
        clear b'
        have hO1 := hO.rd
        have HE : Hid (O = rowsF oneM N N) := hOi.same (rowsF_is _ _ _)
        clear hO hOi
        go_wp2_with (go_at_call 17; fail)
        refine (E_nil0 (hg.below kk)).mono ?_
        rintro e w' ⟨rfl, b'⟩
        replace kk := below_tr kk b'
        replace hU := hU.below b'
        replace hO1 := hO1.below b'
        clear b'
        go_wp2_with (go_at_call 21; fail)
        refine (Rows_eq hO1 hU HE.out).mono ?_
        rintro e w' ⟨rfl, b'⟩
        replace kk := below_tr kk b'
        replace hU := hU.below b'
        replace hO1 := hO1.below b'
        clear b'
        go_wp2
        go_ret
        exact ⟨rfl, kk⟩
      · have h5 : inB x 1 5 = false := by simpa using h5
        have H5 := Lib.hid h5
        have H6 : Hid (outB x 1 5 = true) := out_of_in h5
        clear h5
        go_wp2_with (first | (go_at_call 26; refine (L2_in_any _ _ _ _).mono ?_; rintro e w' ⟨rfl, rfl⟩; rw [H5.out]) | (go_at_call 29; fail))
        refine (One_err H6.out).mono ?_
        rintro e w' ⟨rfl, rfl⟩
        go_wp2_with (go_at_call 17; fail)
        refine (E_same (hg.below kk)).mono ?_
        rintro e w' ⟨rfl, b'⟩
        replace kk := below_tr kk b'
        clear b'
        go_wp2_with (go_at_call 21; fail)
        refine (Rows_none _).mono ?_
        rintro e w' ⟨rfl, b'⟩
        replace kk := below_tr kk b'
        clear b'
        go_wp2
        go_ret
        exact ⟨rfl, kk⟩
  · have zc : ((n : Int) != (c : Int)) = true := bne_iff_ne.2 (by omega)
    have HP : Hid (powErr A x = some 3) := by unfold Hid powErr squareR; rw [GA.out.gr, if_pos rfl, GA.out.r0, GA.out.dm.1, if_neg hnc]
    have yA := kk.keep lA hA0
    go_wp2_with (go_at_call 28; fail)
    clear yA
    go_wp2_with (go_at_call 28; fail)
    refine (Pow_err (hA.below kk) HP.out).mono ?_
    rintro e w' ⟨rfl, b'⟩
    replace kk := below_tr kk b'
    clear b'
    go_wp2_with (go_at_call 17; fail)
    refine (E_same (hg.below kk)).mono ?_
    rintro e w' ⟨rfl, b'⟩
    replace kk := below_tr kk b'
    clear b'
    go_wp2_with (go_at_call 21; fail)
    refine (Rows_none _).mono ?_
    rintro e w' ⟨rfl, b'⟩
    replace kk := below_tr kk b'
    clear b'
    by_cases h5 : inB x 1 5 = true
    · have H5 := Lib.hid h5
      obtain ⟨N, hN⟩ : ∃ N : Nat, x = (N : Int) := ⟨x.toNat, by have := inB_true h5; omega⟩
      subst hN
      have b5 := inB_true h5
      clear h5
      go_wp2_with (first | (go_at_call 26; refine (L2_in_any _ _ _ _).mono ?_; rintro e w' ⟨rfl, rfl⟩; rw [H5.out]) | (go_at_call 27; fail))
      refine (R_Unit_any N _ (by omega)).mono ?_
      rintro e w' ⟨aU, cU, rfl, hU0, b'⟩
      replace kk := below_tr kk b'
      have hU := hU0.rd
      clear b' hU0
      go_wp2_with (go_at_call 29; fail)
      refine (One_any N _ (by omega) (by omega)).mono ?_
      rintro e w' ⟨aO, cO, O, rfl, hO, hOi, b'⟩
      replace kk := below_tr kk b'
      replace hU := hU.below b'
      clear b'
      have hO1 := hO.rd
      have HE : Hid (O = rowsF oneM N N) := hOi.same (rowsF_is _ _ _)
      clear hO hOi
      go_wp2_with (go_at_call 17; fail)
      refine (E_nil0 (hg.below kk)).mono ?_
      rintro e w' ⟨rfl, b'⟩
      replace kk := below_tr kk b'
      replace hU := hU.below b'
      replace hO1 := hO1.below b'
      clear b'
      go_wp2_with (go_at_call 21; fail)
      refine (Rows_eq hO1 hU HE.out).mono ?_
      rintro e w' ⟨rfl, b'⟩
      replace kk := below_tr kk b'
      replace hU := hU.below b'
      replace hO1 := hO1.below b'
      clear b'
      go_wp2
      go_ret
      exact ⟨rfl, kk⟩
    · have h5 : inB x 1 5 = false := by simpa using h5
      have H5 := Lib.hid h5
      have H6 : Hid (outB x 1 5 = true) := out_of_in h5
      clear h5
      go_wp2_with (first | (go_at_call 26; refine (L2_in_any _ _ _ _).mono ?_; rintro e w' ⟨rfl, rfl⟩; rw [H5.out]) | (go_at_call 29; fail))
      refine (One_err H6.out).mono ?_
      rintro e w' ⟨rfl, rfl⟩
      go_wp2_with (go_at_call 17; fail)
      refine (E_same (hg.below kk)).mono ?_
      rintro e w' ⟨rfl, b'⟩
      replace kk := below_tr kk b'
      clear b'
      go_wp2_with (go_at_call 21; fail)
      refine (Rows_none _).mono ?_
      rintro e w' ⟨rfl, b'⟩
      replace kk := below_tr kk b'
      clear b'
      go_wp2
      go_ret
      exact ⟨rfl, kk⟩
end
end Go.Proofs.YtkielldinghmbaaDoor
