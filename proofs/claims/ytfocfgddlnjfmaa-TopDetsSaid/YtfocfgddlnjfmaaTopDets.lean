/-
  TopDets walked: five ways to a determinant are one.
-/
import Derived.Test.YtfocfgddlnjfmaaRows
import Derived.Test.YtfocfgddlnjfmaaLib
import Derived.Test.YtfocfgddlnjfmaaNum
import Derived.Test.YtfocfgddlnjfmaaRef
import Derived.Test.YtfocfgddlnjfmaaTr
import Derived.Test.YtfocfgddlnjfmaaOpen
import Derived.Test.YtfocfgddlnjfmaaRowIn
import Derived.Test.YtfocfgddlnjfmaaDetLaw
import Derived.Test.YtfocfgddlnjfmaaBareissP
import Derived.Test.YtfocfgddlnjfmaaBareissOf
import Derived.Test.YtfocfgddlnjfmaaLuW
import Derived.Test.YtfocfgddlnjfmaaRSign
import Derived.Test.YtfocfgddlnjfmaaSignLaw
import Derived.Test.YtfocfgddlnjfmaaCharP
import Derived.Test.YtfocfgddlnjfmaaCharW
import Derived.Test.YtfocfgddlnjfmaaCharFact
import Derived.Test.YtfocfgddlnjfmaaMinors
import Derived.Test.YtfocfgddlnjfmaaTopIn
import Derived.Deep.QuietTactic
import Derived.BigQuiet
import Derived.StillTailTactics
namespace Go.Proofs.Ytfocfgddlnjfmaa
open Go.RowKit Go.Rk

/-- So far numbers have been turned into what they leave: the rows before i, and of row i the places before j. -/
def restP (M : List (List Int)) (i j r s : Nat) : Int := if r < i ∨ (r = i ∧ s < j) then en M r s % 9973 else en M r s

theorem T_Sign_is {a : Option Addr} {len cap : Nat} {l : List Int} {w : World} (h : RdI w a len cap l) :
    Calls Try.prog 39 #[.slice a len cap] w fun e w' => e = .returned (.int .i64 (signC l)) ∧ Below w.heap.size w w' := by
  have e := h.len_eq
  have := R_Sign_any h
  rw [sign_is e] at this
  exact this.mono fun _ _ ⟨he, m, hm⟩ => ⟨he, by rw [hm]; exact below_drewN (Below.refl _ _) m⟩

/-- A row of a matrix's adjugate, times the matrix's first row. -/
def lapS (A Q : List (List Int)) (k : Nat) : Int := sumTo (fun i => en A 0 i * en Q i 0) k
theorem lap_is {n : Nat} {A Q : List (List Int)} (hn : 1 ≤ n) (h : IsR n n Q (fun i j => adj n (mx A) i j % 9973)) : lapS A Q n % 9973 = det n (mx A) % 9973 := by
  have e : Eqm (lapS A Q n) (mulM n (mx A) (adj n (mx A)) 0 0) := sumTo_eqm fun i hi => by
    rw [h.2 i 0 hi (by omega)]
    exact Eqm.mul (Eqm.refl _) (Eqm.mod _)
  rw [mul_adj (mx A) (by omega) (by omega), if_pos rfl] at e
  exact e

section
variable {a : Option Addr} {n ca : Nat} {M : List (List Int)} {w : World}
set_option maxHeartbeats 4000000 in
set_option maxRecDepth 100000 in
theorem topDets_walk (h : RdM w a n ca M) (_ : ∀ r ∈ M, Fit r) :
    Calls Try.prog 11 #[.slice a n ca] w fun e w' => e = .returned (.bool true) ∧ Below w.heap.size w w' := by
  have hL := Lib.hid h.len_eq
  rcases hq : squareR 5 (-9) 9 M with _ | x
  · obtain ⟨g1, g2, g3, g4⟩ := squareR_none hq
    rw [hL.out] at g1 g2 g3 g4
    have n5 : n ≤ 5 := by omega
    have HQ := Lib.hid hq
    have HD := Lib.hid g3
    have HE := Lib.hid g4
    have bd : -7085880 ≤ det n (mx M) ∧ det n (mx M) ≤ 7085880 := by
      have := det_le (A := mx M) (n := n) (b := 9) (by decide) g4
      have := detB9 n5
      omega
    have C := Lib.hid (bareiss_Of_ok h HQ.out)
    obtain ⟨bm, om, rfl, hbm, hrm⟩ := h.at (k := 0) (by omega)
    have HRM : Hid (∀ k, k < n → ∃ ar cr, w.cell? ⟨bm, om + k, none⟩ = some (.slice ar n cr) ∧ RdI w ar n cr (rowOf M k)) := fun k hk => by
      obtain ⟨ar, cr, e1, e2⟩ := hrm k hk
      rw [g3.2 k hk] at e1 e2
      exact ⟨ar, cr, e1, e2⟩
    clear hq g2 g3 g4 hrm
    go_enter Try.func11, Try.ntmps11
    go_wp2_with (go_at_call 23; fail)
    (with_reducible refine C.out.mono ?_)
    clear C
    rintro e w2 ⟨rfl, k2⟩
    have C := Lib.hid (R_Copy_any (h.below k2) (by omega) (fun k hk => by rw [HD.out.2 k hk]; omega))
    go_wp2_with (first | (go_at_call 25; (with_reducible refine C.out.mono ?_)))
    clear C
    rintro e w3 ⟨z, cz, rfl, ho, hb⟩
    have k3 := below_tr k2 hb
    obtain ⟨g, D, C, hzz, hd⟩ := (ho.mono k2.size).named (by omega) fun i hi => by rw [HD.out.2 i hi]; omega
    subst hzz
    clear ho hb k2
    generalize hdv : det n (mx M) = d at *
    have HDV := Lib.hid hdv
    clear hdv
    go_wp2
    go_loopw [6] (fun v wr => ∃ (i : Nat) (P : List (List Int)), i ≤ n ∧ v = .int .i64 i ∧ OwMD wr w.heap.size 22 3 g D C n cz P ∧ Hid (Is n P (restP M i 0)) ∧ Below w.heap.size w wr) (fun v _ => n - (intOf v).toNat)
    case atStart => exact ⟨0, M, Nat.zero_le _, rfl, hd, ⟨HD.out, fun r s _ _ => by unfold restP; rw [if_neg (by omega)]⟩, k3⟩
    case round =>
      clear hd k3
      obtain ⟨i, P, hi, rfl, hd, hI, k3⟩ := hrel
      by_cases hin : i < n
      · have i1 : (i : Int) < (n : Int) := by omega
        go_wp2
        go_loopw [7] (fun v wr => ∃ (j : Nat) (P : List (List Int)), j ≤ n ∧ v = .int .i64 j ∧ OwMD wr w.heap.size 22 3 g D C n cz P ∧ Hid (Is n P (restP M i j)) ∧ Below w.heap.size w wr) (fun v _ => n - (intOf v).toNat)
        case atStart => exact ⟨0, P, Nat.zero_le _, rfl, hd, hI, k3⟩
        case round =>
          clear hd k3 hI
          obtain ⟨j, P, hj, rfl, hd, hI, k3⟩ := hrel
          by_cases hjn : j < n
          · have j1 : (j : Int) < (n : Int) := by omega
            have y1 := hd.cellO hin
            have y2 := hd.cellI hin (j := j) (by rw [hI.out.1.2 i hin]; exact hjn)
            have y3 := hd.frozenI hin (by rw [hI.out.1.2 i hin]; omega) j
            rw [hI.out.1.2 i hin] at y1
            obtain ⟨ar, cr, x1, x2⟩ := HRM.out i hin
            have x1 := k3.keep hbm x1
            obtain ⟨pr, orr, rfl, _, hcc⟩ := (x2.below k3).at hjn
            have x3 : wr.cell? ⟨pr, orr + j, none⟩ = some (.int .i64 (en M i j)) := hcc j hjn
            have be : -9 ≤ en M i j ∧ en M i j ≤ 9 := HE.out i j hin hjn
            have hset : Hid (Is n (setE P i j (en M i j % 9973)) (restP M i (j + 1))) := by
              refine Is.congr (hI.out.set _) fun r s hr hs => ?_
              unfold restP
              by_cases e4 : i = r ∧ j = s
              · obtain ⟨rfl, rfl⟩ := e4
                rw [if_pos ⟨rfl, rfl⟩, if_pos (by omega)]
              · rw [if_neg e4]
                by_cases e5 : r < i ∨ (r = i ∧ s < j)
                · rw [if_pos e5, if_pos (by omega)]
                · rw [if_neg e5, if_neg (by omega)]
            have hd2 := (hd.set matTy.ne (j := j) hin (en M i j % 9973)).drew
            have lo := hd.lowI hin
            have k4 := (k3.setCell (p := ⟨D i, j, none⟩) lo.1 (.int .i64 (en M i j % 9973))).drew
            clear hcc x2
            generalize en M i j = x at *
            go_wp2
            go_still_tail 14, (by kernel_rfl)
            still_call (stillW (R_Mod_any _ _ (by omega) (by omega)))
            repeat still_step
            refine wpStill_nil ?_
            change wpList _ _ _ _ _ wr.drew
            go_wp2
            go_roundw
            case rel => exact ⟨j + 1, _, by omega, by go_num, hd2, hset, k4⟩
            case measure => simp [intOf]; omega
          · obtain rfl : n = j := by omega
            go_wp2
            go_roundw
            case rel => exact ⟨i + 1, P, by omega, by go_num, hd, hI.out.congr fun r s hr hs => by
              unfold restP
              by_cases e5 : r < i ∨ (r = i ∧ s < n)
              · rw [if_pos e5, if_pos (by omega)]
              · rw [if_neg e5, if_neg (by omega)], k3⟩
            case measure => simp [intOf]; omega
      · obtain rfl : n = i := by omega
        have hF : ∀ r s, r < n → s < n → en P r s = en M r s % 9973 := fun r s hr hs => by
          rw [hI.out.2 r s hr hs]; unfold restP; rw [if_pos (.inl hr)]
        have HDE : Hid (det n (mx P) % 9973 = d % 9973) := by
          unfold Hid
          rw [← HDV.out]
          exact det_eqm fun r s hr hs => by show en P r s % 9973 = en M r s % 9973; rw [hF r s hr hs]; omega
        have HGP : Hid (Good n n P) := ⟨⟨g1, n5⟩, ⟨g1, n5⟩, hI.out.1, fun r s hr hs => by rw [hF r s hr hs]; omega⟩
        have hP := hd.toM.rd
        clear hd hF hI
        have C := det_Of_ok hP (squareR_of (lo := 0) (hi := 9972) (most := 5) g1 (by omega) HGP.out.dm HGP.out.ent)
        rw [HDE.out] at C
        have C := Lib.hid C
        obtain ⟨E, hE⟩ : ∃ E, E = d % 9973 := ⟨_, rfl⟩
        rw [← hE] at C HDE
        have HEE := Lib.hid hE
        clear hE
        go_wp2_with (first | (go_at_call 36; (with_reducible refine C.out.mono ?_); rintro e w4 ⟨rfl, hb4⟩) | (go_at_call 37; fail))
        have k4 := below_tr k3 hb4
        have hP := hP.below hb4
        clear C hb4 k3
        have C := Lib.hid (Split_ok hP HGP.out)
        (with_reducible refine C.out.mono ?_)
        clear C
        rintro e w5 ⟨ao, co, al, cl, au, cu, U, L, o, rfl, hoO, hlO, huO, hi, hb5⟩
        have k5 := below_tr k4 hb5
        have hP := hP.below hb5
        have hO := hoO.rd
        have hU := huO.rd
        have hLl := hlO.rd
        have HI := Lib.hid hi
        clear hoO huO hlO hi hb5 k4
        obtain ⟨eF, bF, F⟩ := FL.ex (n := n) g1 (mx P)
        have HFL := Lib.hid F
        clear F
        have C := char_Of_ok hP HGP.out HFL.out
        obtain ⟨N, hN⟩ : ∃ N, N = n + 1 := ⟨_, rfl⟩
        rw [← hN] at C
        have C := Lib.hid C
        have z3 : ((N : Int) != (n : Int) + 1) = false := bne_eq_false_iff_eq.2 (by omega)
        have z4 : ((n : Int) != (n : Int)) = false := bne_eq_false_iff_eq.2 rfl
        have N1 : 1 ≤ N := by omega
        clear hN
        go_wp2_with (go_at_call 26; fail)
        (with_reducible refine C.out.mono ?_)
        clear C
        rintro e w6 ⟨aK, cK, l, rfl, hKO, hk, hb6⟩
        have k6 := below_tr k5 hb6
        have hP := hP.below hb6
        have hO := hO.below hb6
        have hU := hU.below hb6
        have hK := hKO.rd
        have e0 : ix l 0 = sg n * det n (mx P) % 9973 := by rw [hk 0 (Nat.zero_le _), HFL.out.end0]
        have H0 := Lib.hid e0
        clear hKO hk hb6 k5 e0 HFL hLl
        have C := Lib.hid (Adj_ok hP HGP.out)
        go_wp2_with (go_at_call 38; fail)
        (with_reducible refine C.out.mono ?_)
        clear C
        rintro e w7 ⟨aA, cA, Q, rfl, hAO, hQ, hb7⟩
        have k7 := below_tr k6 hb7
        have hP := hP.below hb7
        have hO := hO.below hb7
        have hU := hU.below hb7
        have hK := hK.below hb7
        have hA := hAO.rd
        have HQQ := Lib.hid hQ
        clear hAO hb7 k6 hQ
        obtain ⟨S, hS⟩ : ∃ S, signC o = S := ⟨_, rfl⟩
        have bS : -1 ≤ S ∧ S ≤ 1 := by rcases signC_pm o with e | e | e <;> omega
        have C := T_Sign_is hO
        rw [hS] at C
        have C := Lib.hid C
        have HS := Lib.hid hS
        clear hS
        go_wp2_with (first | (go_at_call 39; fail))
        (with_reducible refine C.out.mono ?_)
        clear C
        rintro e w8 ⟨rfl, hb8⟩
        have k8 := below_tr k7 hb8
        have hP := hP.below hb8
        have hU := hU.below hb8
        have hK := hK.below hb8
        have hA := hA.below hb8
        clear hb8 k7 hO
        go_wp2_with (first | (go_at_call 28; refine (R_Mod_any _ _ (by omega) (by omega)).mono ?_; rintro e w' ⟨rfl, rfl⟩))
        go_loopw [18, 19, 20] (fun vp vs v wr => ∃ (k : Nat) (V X : Int), k ≤ n ∧ v = .int .i64 k ∧ vp = .int .i64 V ∧ vs = .int .i64 X ∧ Hid (V = S * prodTo (fun i => en U i i) k % 9973) ∧ Hid (X = lapS P Q k % 9973) ∧ Below w8.heap.size w8 wr) (fun _ _ v _ => n - (intOf v).toNat)
        case atStart => exact ⟨0, S % 9973, 0, Nat.zero_le _, rfl, rfl, rfl, by unfold Hid; simp [prodTo], by unfold Hid; simp [lapS, sumTo], Below.refl _ _⟩
        case round =>
          obtain ⟨k, V, X, hk, rfl, rfl, rfl, HV, HX, hb⟩ := hrel
          have k9 := below_tr k8 hb
          have bV : 0 ≤ V ∧ V ≤ 9972 := by have := HV.out; omega
          have bX : 0 ≤ X ∧ X ≤ 9972 := by have := HX.out; omega
          by_cases hlt : k < n
          · have hlt' : (k : Int) < (n : Int) := by omega
            have b1 : (0 : Int) < (n : Int) := by omega
            have b2 : (1 : Int) ≤ (n : Int) := by omega
            obtain ⟨bu, ou, rfl, au1, ccu, hcu, hru⟩ := (hU.below hb).rowIn HI.out.dU hlt
            obtain ⟨buu, ouu, rfl, _, hcuu⟩ := hru.at hlt
            replace hcuu := hcuu k hlt
            have bu1 := HI.out.eU k k hlt hlt
            rw [show ix (rowOf U k) k = en U k k from rfl] at hcuu
            obtain ⟨u, hu⟩ : ∃ u, en U k k = u := ⟨_, rfl⟩
            rw [hu] at hcuu bu1
            obtain ⟨ba, oa, rfl, aa1, cca, hca, hra⟩ := (hA.below hb).rowIn HQQ.out.1 hlt
            obtain ⟨baa, oaa, rfl, _, hcaa⟩ := hra.at (k := 0) (by omega)
            replace hcaa := hcaa 0 (by omega)
            rw [show ix (rowOf Q k) 0 = en Q k 0 from rfl, Nat.add_zero] at hcaa
            have bq1 : 0 ≤ en Q k 0 ∧ en Q k 0 ≤ 9972 := by have e5 := HQQ.out.2 k 0 hlt (by omega); dsimp only at e5; omega
            obtain ⟨q, hq⟩ : ∃ q, en Q k 0 = q := ⟨_, rfl⟩
            rw [hq] at hcaa bq1
            obtain ⟨bp, op, hz, ap1, ccp, hcp, hrp⟩ := (hP.below hb).rowIn HGP.out.dm (k := 0) (by omega)
            cases hz
            obtain ⟨bpp, opp, rfl, _, hcpp⟩ := hrp.at hlt
            replace hcpp := hcpp k hlt
            rw [Nat.add_zero] at hcp
            have bp1 := HGP.out.ent 0 k (by omega) hlt
            rw [show ix (rowOf P 0) k = en P 0 k from rfl] at hcpp
            obtain ⟨y, hy⟩ : ∃ y, en P 0 k = y := ⟨_, rfl⟩
            rw [hy] at hcpp bp1
            have I1 : inB u 0 9972 = true := by unfold inB; simp; omega
            have I2 : inB q 0 9972 = true := by unfold inB; simp; omega
            have CI := Lib.hid (fun (x : Int) (w : World) => T_in_any x 0 9972 w)
            have hm := mul_bd bV bu1
            have hm2 := mul_bd bp1 bq1
            have hw : IntKind.i64.wrap (V * u) = V * u := Go.IntWalk.i64_in _ (by omega)
            have hw2 : IntKind.i64.wrap (y * q) = y * q := Go.IntWalk.i64_in _ (by omega)
            have hw3 : IntKind.i64.wrap (X + y * q) = X + y * q := Go.IntWalk.i64_in _ (by omega)
            have HE1 : Hid (V * u % 9973 = S * prodTo (fun i => en U i i) (k + 1) % 9973) := by
              unfold Hid
              have e1 := HV.out
              show _ = S * (prodTo (fun i => en U i i) k * en U k k) % 9973
              rw [hu, ← Int.mul_assoc, e1, Int.mul_emod, Int.emod_emod_of_dvd _ (Int.dvd_refl _), ← Int.mul_emod]
            have HE2 : Hid ((X + y * q) % 9973 = lapS P Q (k + 1) % 9973) := by
              unfold Hid
              have e1 := HX.out
              rw [show lapS P Q (k + 1) = lapS P Q k + en P 0 k * en Q k 0 from rfl, hy, hq, e1, Int.emod_add_emod]
            have HI1 := Lib.hid I1
            have HI2 := Lib.hid I2
            have hwo : Hid (Below w8.heap.size w8 wr) := hb
            clear hu hq hy hru hra hrp I1 I2
            go_wp2_with (first
              | (go_at_call 22; refine (CI.out _ _).mono ?_; rintro e w' ⟨rfl, rfl⟩; first | rw [HI1.out] | rw [HI2.out])
              | (go_at_call 28; refine (R_Mod_any _ _ (by omega) (by omega)).mono ?_; rintro e w' ⟨rfl, rfl⟩))
            go_quiet ((go_at_call 28; exact quietW (R_Mod_any _ _ (by omega) (by omega))))
            clear hw hw2 hw3
            go_wp2
            go_roundw
            case rel => exact ⟨k + 1, _, _, by omega, by go_num, rfl, rfl, HE1, HE2, below_drewN hb nq⟩
            case measure => simp [intOf]; omega
          · obtain rfl : n = k := by omega
            have hVd : V = E := by
              have e := HI.out.det
              unfold Eqm at e
              rw [HS.out] at e
              rw [HV.out, e, HDE.out]
            have hXd : X = E := by rw [HX.out, lap_is g1 HQQ.out, HDE.out]
            subst hVd
            subst hXd
            have hK9 := hK.below hb
            obtain ⟨bl, ol, rfl, _, hlc⟩ := hK9.at (k := 0) (by omega)
            have y0 := hlc 0 (by omega)
            rw [Nat.add_zero] at y0
            have e0 := H0.out
            obtain ⟨Y, hY⟩ : ∃ Y, Y = ix l 0 := ⟨_, rfl⟩
            rw [← hY] at y0 e0
            have bY : 0 ≤ Y ∧ Y ≤ 9972 := by omega
            have i1 : (0 : Int) < (N : Int) := by omega
            have i2 : (1 : Int) ≤ (N : Int) := by omega
            have zV : (X == X) = true := beq_iff_eq.2 rfl
            have C1 := T_in_any Y 0 9972
            rw [show inB Y 0 9972 = true by unfold inB; simp; omega] at C1
            have C1 := Lib.hid C1
            have C2 := T_in_any d (-10000000) 10000000
            rw [show inB d (-10000000) 10000000 = true by unfold inB; simp; omega] at C2
            have C2 := Lib.hid C2
            have C3 := fun w => R_Mod_any d w (by omega) (by omega)
            simp only [← HEE.out] at C3
            have C3 := Lib.hid C3
            have t2 : (n : Int).tmod 2 = ((n % 2 : Nat) : Int) := Int.tmod_eq_emod_of_nonneg (by omega)
            have HD3 := HDE.out
            rcases Nat.mod_two_eq_zero_or_one n with hp | hp
            · have C4 := fun w => R_Mod_any Y w (by omega) (by omega)
              rw [show Y % 9973 = X from by
                rw [e0, show sg n = 1 from by unfold sg; rw [if_pos hp], Int.one_mul, HD3]
                have := bX
                omega] at C4
              have C4 := Lib.hid C4
              rw [hp] at t2
              clear hp hY e0 HD3 HV HX hlc hK9
              go_wp2_with (first
                | (go_at_call 22; first | ((with_reducible refine (C1.out _).mono ?_); rintro e w' ⟨rfl, rfl⟩) | ((with_reducible refine (C2.out _).mono ?_); rintro e w' ⟨rfl, rfl⟩))
                | (go_at_call 28; first | ((with_reducible refine (C3.out _).mono ?_); rintro e w' ⟨rfl, rfl⟩) | ((with_reducible refine (C4.out _).mono ?_); rintro e w' ⟨rfl, rfl⟩)))
              go_ret
              exact ⟨rfl, k9⟩
            · have C4 := fun w => R_Mod_any (-Y) w (by omega) (by omega)
              rw [show -Y % 9973 = X from by
                have h5 : Y = -det n (mx P) % 9973 := by rw [e0, show sg n = -1 from by unfold sg; rw [if_neg (by omega)]]; congr 1; omega
                have := bX
                omega] at C4
              have C4 := Lib.hid C4
              rw [hp] at t2
              clear hp hY e0 HD3 HV HX hlc hK9
              go_wp2_with (first
                | (go_at_call 22; first | ((with_reducible refine (C1.out _).mono ?_); rintro e w' ⟨rfl, rfl⟩) | ((with_reducible refine (C2.out _).mono ?_); rintro e w' ⟨rfl, rfl⟩))
                | (go_at_call 28; first | ((with_reducible refine (C3.out _).mono ?_); rintro e w' ⟨rfl, rfl⟩) | ((with_reducible refine (C4.out _).mono ?_); rintro e w' ⟨rfl, rfl⟩)))
              go_ret
              exact ⟨rfl, k9⟩
  · have C := Lib.hid (bareiss_Of_err h hq)
    clear hq
    go_enter Try.func11, Try.ntmps11
    go_wp2_with (go_at_call 23; (with_reducible refine C.out.mono ?_); rintro e w2 ⟨rfl, rfl⟩)
    go_ret
    exact ⟨rfl, Below.refl _ _⟩
end
end Go.Proofs.Ytfocfgddlnjfmaa
