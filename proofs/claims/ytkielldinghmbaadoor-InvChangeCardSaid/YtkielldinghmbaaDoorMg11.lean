/-
  InvChange walked: what is told of a small change undoes the matrix with the products added, if anything does.
-/
import Derived.Test.YtkielldinghmbaaDoorRows
import Derived.Test.YtkielldinghmbaaDoorMg0
import Derived.Test.YtkielldinghmbaaDoorMg1
import Derived.Test.YtkielldinghmbaaDoorMg2
import Derived.Test.YtkielldinghmbaaDoorMg8
import Derived.Test.YtkielldinghmbaaDoorMg10
namespace Go.Proofs.YtkielldinghmbaaDoor
open Go.RowKit Go.Rk

section
variable {n : Nat} {M X K B C : List (List Int)} {u v : List Int}
theorem chgK_is : Eqm (1 + sumTo (fun i => ix v i * colM n (mx X) (fun j => ix u j) i) n) (chgK n X u v) := by
  unfold chgK
  refine (Eqm.add (Eqm.refl 1) (sumTo_eqm fun i _ => Eqm.mul (Eqm.refl _) ?_)).trans (Eqm.mod _).symm
  exact (Eqm.mod _).symm
theorem chgK_bd (n : Nat) (A : List (List Int)) (u v : List Int) : 0 ≤ chgK n A u v ∧ chgK n A u v ≤ 9972 := by unfold chgK; omega
theorem chgK_zero (hI : IsInv n (mx M) (mx X)) (hK : EqM n n (mx K) (chgM (mx M) (fun i => ix u i) fun j => ix v j)) (h : chgK n X u v = 0) : det n (mx K) % 9973 = 0 := by
  have h1 := chg_none (u := fun i => ix u i) (v := fun j => ix v j) hI.right (chgK_is.trans (Eqm.of_eq h))
  have h2 : Eqm (det n (mx K)) _ := det_eqm hK
  unfold Eqm at h2
  rw [h2, h1]
theorem chgK_one (hI : IsInv n (mx M) (mx X)) (hK : EqM n n (mx K) (chgM (mx M) (fun i => ix u i) fun j => ix v j)) (h : chgK n X u v ≠ 0) (hB : IsR n n B (chgE n X u v)) : EqM n n (mulM n (mx K) (mx B)) oneM := by
  have bd := chgK_bd n X u v
  have ho : Eqm (chgK n X u v * powm (chgK n X u v) 9971) 1 := by
    have := over_inv (d := chgK n X u v) (by omega)
    rwa [Int.emod_eq_of_lt bd.1 (by omega)] at this
  refine (EqM.mul hK fun i j hi hj => ?_).trans (chg_inv hI.right chgK_is ho)
  show Eqm (en B i j) _
  rw [hB.2 i j hi hj]
  unfold chgE
  refine (Eqm.mod _).trans (Eqm.sub (Eqm.refl _) (Eqm.mul ((Eqm.mod _).trans (Eqm.mul (Eqm.mod _) (Eqm.mod _))) (Eqm.refl _)))
theorem chg_same (GM : Good n n M) (hK : IsR n n K fun i j => (en M i j + ix u i * ix v j) % 9973) : Good n n K ∧ EqM n n (mx K) (chgM (mx M) (fun i => ix u i) fun j => ix v j) :=
  ⟨⟨GM.n1, GM.n1, hK.1, fun i j hi hj => by rw [hK.2 i j hi hj]; dsimp only; omega⟩, fun i j hi hj => by show Eqm (en K i j) _; rw [hK.2 i j hi hj]; exact Eqm.mod _⟩
theorem chg_good (GX : Good n n X) (hB : IsR n n B (chgE n X u v)) : Good n n B :=
  ⟨GX.n1, GX.n1, hB.1, fun i j hi hj => by rw [hB.2 i j hi hj]; unfold chgE; omega⟩
end

/-- The products are added at all places ahead of one. -/
def chgPart (M : List (List Int)) (u v : List Int) (i j r s : Nat) : Int := if r < i ∨ (r = i ∧ s < j) then (en M r s + ix u r * ix v s) % 9973 else en M r s

set_option maxHeartbeats 4000000 in
set_option maxRecDepth 100000 in
theorem invChange_walk {a b d : Option Addr} {n ca m cb k cd : Nat} {M : List (List Int)} {u v : List Int} {w : World} (hg : ErrT w) (hM : RdM w a n ca M) (_ : ∀ r ∈ M, Fit r) (hu : RdI w b m cb u) (_ : Fit u) (hv : RdI w d k cd v) (_ : Fit v) :
    Calls Tryd.prog 13 #[.slice a n ca, .slice b m cb, .slice d k cd] w fun e w' => e = .returned (.bool true) ∧ Below w.heap.size w w' := by
  have lm := hM.len_max
  have lu := hu.len_max
  have lv := hv.len_max
  have EU := Lib.hid hu.len_eq
  have EV := Lib.hid hv.len_eq
  go_enter Tryd.func13, Tryd.ntmps13
  go_wp2_with (first | (go_at_call 59; refine (invFact_any hg).mono ?_; rintro e w1 ⟨rfl, k1⟩) | (go_at_call 56; fail))
  refine (inv_Of_or (hM.below k1)).mono ?_
  rintro e w2 ⟨b2, hor⟩
  have k2 := below_tr k1 b2
  clear b2 k1
  rcases hor with ⟨x, rfl⟩ | ⟨GM, hdM, aX, cX, X, rfl, hX, hXi⟩
  · go_wp2
    go_ret
    exact ⟨rfl, k2⟩
  · obtain ⟨GX, hI⟩ := GM.inv hdM hXi
    have HGM := Lib.hid GM
    have HGX := Lib.hid GX
    have HI := Lib.hid hI
    have hX2 := hX.rd
    have nA := GM.n1
    clear GM hdM hX hXi GX hI
    by_cases h1 : m = n
    · subst h1
      have z1 : ((m : Int) != (m : Int)) = false := bne_eq_false_iff_eq.2 rfl
      by_cases h2 : k = m
      · subst h2
        have C1 := fun w' (q : Below w.heap.size w w') => R_All_any 0 9972 (hu.below q)
        have C2 := fun w' (q : Below w.heap.size w w') => R_All_any 0 9972 (hv.below q)
        rcases hal : allB 0 9972 u with _ | _
        · simp only [hal] at C1
          have C1 := Lib.hid C1
          clear C2 hal
          go_wp2_with (first | (go_at_call 50; (with_reducible refine (C1.out _ k2).mono ?_); rintro e w' ⟨rfl, rfl⟩))
          go_ret
          exact ⟨rfl, k2⟩
        rcases hal2 : allB 0 9972 v with _ | _
        · simp only [hal] at C1
          simp only [hal2] at C2
          have C1 := Lib.hid C1
          have C2 := Lib.hid C2
          clear hal hal2
          go_wp2_with (first | (go_at_call 50; (first | ((with_reducible refine (C1.out _ k2).mono ?_); rintro e w' ⟨rfl, rfl⟩) | ((with_reducible refine (C2.out _ k2).mono ?_); rintro e w' ⟨rfl, rfl⟩))))
          go_ret
          exact ⟨rfl, k2⟩
        simp only [hal] at C1
        simp only [hal2] at C2
        have C1 := Lib.hid C1
        have C2 := Lib.hid C2
        have IU := Lib.hid (allB_in hal)
        have IV := Lib.hid (allB_in hal2)
        clear hal hal2
        go_wp2_with (first | (go_at_call 50; (first | ((with_reducible refine (C1.out _ k2).mono ?_); rintro e w' ⟨rfl, rfl⟩) | ((with_reducible refine (C2.out _ k2).mono ?_); rintro e w' ⟨rfl, rfl⟩))) | (go_at_call 60; fail))
        clear C1 C2
        refine (R_Copy_any (hM.below k2) (by omega) (fun r hr => by rw [HGM.out.dm.2 r hr]; omega)).mono ?_
        rintro e w3 ⟨a3, c3, rfl, ho3, b3⟩
        obtain ⟨g, D, Cp, hz, hd3⟩ := ho3.named (by omega) (fun r hr => by rw [HGM.out.dm.2 r hr]; omega)
        cases hz
        clear ho3
        have hP0 : Hid (Dm k k M ∧ ∀ r s, r < k → s < k → en M r s = chgPart M u v 0 0 r s) := ⟨HGM.out.dm, fun r s _ _ => by unfold chgPart; rw [if_neg (by omega)]⟩
        go_wp2_with fail
        go_loopw [11] (fun x wt => ∃ (i : Nat) (P : List (List Int)), i ≤ k ∧ x = .int .i64 i ∧ OwMD wt w2.heap.size 32 3 g D Cp k c3 P ∧ Hid (Dm k k P ∧ ∀ r s, r < k → s < k → en P r s = chgPart M u v i 0 r s) ∧ Below w2.heap.size w2 wt) (fun x _ => k - (intOf x).toNat)
        case atStart => exact ⟨0, M, Nat.zero_le _, rfl, hd3, hP0, b3⟩
        case round =>
          clear hd3 hP0 b3
          obtain ⟨i, P, hi, rfl, hd, hP, hb⟩ := hrel
          by_cases hin : i < k
          · have i1 : (i : Int) < (k : Int) := by omega
            go_wp2_with fail
            go_loopw [12] (fun x wt => ∃ (j : Nat) (P : List (List Int)), j ≤ k ∧ x = .int .i64 j ∧ OwMD wt w2.heap.size 32 3 g D Cp k c3 P ∧ Hid (Dm k k P ∧ ∀ r s, r < k → s < k → en P r s = chgPart M u v i j r s) ∧ Below w2.heap.size w2 wt) (fun x _ => k - (intOf x).toNat)
            case atStart => exact ⟨0, P, Nat.zero_le _, rfl, hd, hP, hb⟩
            case round =>
              clear hd hP hb
              obtain ⟨j, P, hj, rfl, hd, hP, hb⟩ := hrel
              by_cases hjn : j < k
              · have i2 : (j : Int) < (k : Int) := by omega
                have a1 := hd.cellO hin
                have a2 := hd.cellI hin (j := j) (by rw [hP.out.1.2 i hin]; exact hjn)
                have a3 := hd.frozenI hin (by rw [hP.out.1.2 i hin]; omega) j
                rw [hP.out.1.2 i hin] at a1
                have kb := below_tr k2 hb
                obtain ⟨bu, ou, rfl, _, hcu⟩ := (hu.below kb).at hin
                have x1 := hcu i hin
                obtain ⟨bv, ov, rfl, _, hcv⟩ := (hv.below kb).at hjn
                have x2 := hcv j hjn
                have e0 : en P i j = en M i j := by
                  rw [hP.out.2 i j hin hjn]; unfold chgPart; rw [if_neg (by omega)]
                rw [e0] at a2
                have bX := HGM.out.ent i j hin hjn
                have bU := IU.out i (by rw [EU.out]; exact hin)
                have bV := IV.out j (by rw [EV.out]; exact hjn)
                obtain ⟨X0, hX0⟩ : ∃ X0, en M i j = X0 := ⟨_, rfl⟩
                obtain ⟨U0, hU0⟩ : ∃ U0, ix u i = U0 := ⟨_, rfl⟩
                obtain ⟨V0, hV0⟩ : ∃ V0, ix v j = V0 := ⟨_, rfl⟩
                rw [hX0] at a2 bX
                rw [hU0] at x1 bU
                rw [hV0] at x2 bV
                have bm := mul_bd bU bV
                have u1 : IntKind.i64.wrap (U0 * V0) = U0 * V0 := Go.IntWalk.i64_in _ (by omega)
                have u2 : IntKind.i64.wrap (X0 + U0 * V0) = X0 + U0 * V0 := Go.IntWalk.i64_in _ (by omega)
                have HX0 := Lib.hid hX0
                have HU0 := Lib.hid hU0
                have HV0 := Lib.hid hV0
                clear hX0 hU0 hV0 hcu hcv e0
                go_wp2
                go_still_tail 24, (by kernel_rfl)
                still_call (stillW (R_Mod_any _ _ (by omega) (by omega)))
                repeat still_step
                refine wpStill_nil ?_
                change wpList _ _ _ _ _ wr.drew
                clear u1 u2
                go_wp2
                go_roundw
                case rel => exact ⟨j + 1, _, by omega, by go_num, (hd.set matTy.ne hin _).drew, ⟨hP.out.1.setE _ _ _, fun r s hr hs => by
                  rw [hP.out.1.en_set _ hr hs]
                  by_cases e : i = r ∧ j = s
                  · rw [if_pos e, ← e.1, ← e.2]
                    unfold chgPart
                    rw [if_pos (by omega), HX0.out, HU0.out, HV0.out]
                  · rw [if_neg e, hP.out.2 r s hr hs]
                    unfold chgPart
                    by_cases e2 : r < i ∨ (r = i ∧ s < j)
                    · rw [if_pos e2, if_pos (by omega)]
                    · rw [if_neg e2, if_neg (by omega)]⟩, (hb.setCell (p := ⟨D i, j, none⟩) (hd.lowI hin).1 _).drew⟩
                case measure => simp [intOf]; omega
              · obtain rfl : k = j := by omega
                go_wp2
                go_roundw
                case rel => exact ⟨i + 1, P, by omega, by go_num, hd, ⟨hP.out.1, fun r s hr hs => by
                  rw [hP.out.2 r s hr hs]
                  unfold chgPart
                  by_cases e2 : r < i ∨ (r = i ∧ s < k)
                  · rw [if_pos e2, if_pos (by omega)]
                  · rw [if_neg e2, if_neg (by omega)]⟩, hb⟩
                case measure => simp [intOf]; omega
          · obtain rfl : k = i := by omega
            have k4 := below_tr k2 hb
            have hX4 := hX2.below hb
            have hK4 := hd.toM.rd
            have HK := Lib.hid (chg_same (u := u) (v := v) HGM.out (K := P) ⟨hP.out.1, fun r s hr hs => by rw [hP.out.2 r s hr hs]; unfold chgPart; rw [if_pos (.inl hr)]⟩)
            clear hd hP hb k2 hX2
            go_wp2_with (go_at_call 58; fail)
            refine (Change_ok hX4 HGX.out (hu.below k4) (hv.below k4) IU.out IV.out).mono ?_
            rintro e w5 ⟨b5, hor⟩
            have k5 := below_tr k4 b5
            have hK5 := hK4.below b5
            clear b5 k4 hX4 hK4
            rcases hor with ⟨hz, rfl⟩ | ⟨hz, aB, cB, B, rfl, hB, hBi⟩
            · have hd0 := Lib.hid (chgK_zero HI.out HK.out.2 hz)
              clear hz
              go_wp2_with (go_at_call 56; fail)
              refine (inv_Of_none hK5 HK.out.1 hd0.out).mono ?_
              rintro e w6 ⟨rfl, b6⟩
              have k6 := below_tr k5 b6
              clear b6 k5 hK5
              go_wp2_with (go_at_call 17; fail)
              refine (E_same (hg.below k6)).mono ?_
              rintro e w7 ⟨rfl, b7⟩
              have k7 := below_tr k6 b7
              go_wp2_with (go_at_call 17; fail)
              refine (E_same (hg.below k7)).mono ?_
              rintro e w8 ⟨rfl, b8⟩
              have k8 := below_tr k7 b8
              go_wp2
              go_ret
              exact ⟨rfl, k8⟩
            · have HO := Lib.hid (chgK_one HI.out HK.out.2 hz hBi)
              have HB := Lib.hid (chg_good HGX.out hBi)
              have hB5 := hB.rd
              clear hz hB hBi
              go_wp2_with (go_at_call 56; fail)
              refine (inv_Of_ok hK5 HK.out.1 (det_nz HO.out)).mono ?_
              rintro e w6 ⟨aC, cC, C, rfl, hC, hCi, b6⟩
              have HBC : Hid (B = C) := (HB.out.dm).ext hCi.1 fun i j hi hj => by rw [hCi.2 i j hi hj, (HK.out.1.inv_is HB.out HO.out).2 i j hi hj]
              have k6 := below_tr k5 b6
              have hB6 := hB5.below b6
              have hC6 := hC.rd
              clear b6 k5 hK5 hB5 hC hCi
              go_wp2_with (go_at_call 21; fail)
              refine (Rows_eq hB6 hC6 HBC.out).mono ?_
              rintro e w7 ⟨rfl, b7⟩
              have k7 := below_tr k6 b7
              go_wp2
              go_ret
              exact ⟨rfl, k7⟩
      · have z2 : ((k : Int) != (m : Int)) = true := bne_iff_ne.2 (by omega)
        go_wp2
        go_ret
        exact ⟨rfl, k2⟩
    · have z1 : ((m : Int) != (n : Int)) = true := bne_iff_ne.2 (by omega)
      go_wp2
      go_ret
      exact ⟨rfl, k2⟩
end Go.Proofs.YtkielldinghmbaaDoor
