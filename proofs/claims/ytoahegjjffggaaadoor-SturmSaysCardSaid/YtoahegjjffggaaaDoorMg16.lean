/-
  Package sturm walked: what is left of one by another one.
  Package sturm walked: the chain.
  Package sturm walked: what goes outright, and the chain of what comes to 0 once.
-/
import Derived.Test.YtoahegjjffggaaaDoorRows
import Derived.BigQuiet
import Derived.StillTailTactics
import Derived.Deep.QuietTactic
import Derived.Deep.Cut
import Derived.Deep.CutRange
import Derived.Deep.DeepCutAuto
import Derived.Test.YtoahegjjffggaaaDoorMg0
import Derived.Test.YtoahegjjffggaaaDoorMg1
import Derived.Test.YtoahegjjffggaaaDoorMg2
import Derived.Test.YtoahegjjffggaaaDoorMg13
import Derived.Test.YtoahegjjffggaaaDoorMg15
namespace Go.Proofs.YtoahegjjffggaaaDoor
open Go.RowKit Go.Rk

theorem fit_use {A B l m : Nat} (h : A * (2 * B) ^ (l + 1 - m) ≤ 4611686018427387904) (hm : m ≤ l) (hB : 1 ≤ B) : A * (2 * B) ≤ 4611686018427387904 := by
  refine Nat.le_trans (Nat.mul_le_mul_left A ?_) h
  rw [show l + 1 - m = (l - m) + 1 by omega, Nat.pow_succ]
  have : 1 ≤ (2 * B) ^ (l - m) := Nat.one_le_pow _ _ (by omega)
  exact Nat.le_mul_of_pos_left _ this
theorem fit_next {A B l m l' : Nat} (h : A * (2 * B) ^ (l + 1 - m) ≤ 4611686018427387904) (hm : m ≤ l) (hB : 1 ≤ B) (hl : l' < l) : A * (2 * B) * (2 * B) ^ (l' + 1 - m) ≤ 4611686018427387904 := by
  refine Nat.le_trans ?_ h
  rw [Nat.mul_assoc, ← Nat.pow_succ']
  exact Nat.mul_le_mul_left A (Nat.pow_le_pow_right (by omega) (by omega))
theorem fit_le {A B e : Nat} (h : A * (2 * B) ^ e ≤ 4611686018427387904) (hB : 1 ≤ B) : A ≤ 4611686018427387904 :=
  Nat.le_trans (Nat.le_mul_of_pos_right A (Nat.one_le_pow _ _ (by omega))) h
theorem restF_end {g C : List Int} {k : Nat} (hp : plainL C = C) (h : C.length < g.length) : restF g k C = C := by
  cases k with
  | zero => exact hp
  | succ k => rw [restF, hp, if_neg (by omega)]
theorem restF_next {g C : List Int} {k : Nat} (hp : plainL C = C) (h : g.length ≤ C.length) : restF g (k + 1) C = restF g k (plainL (stepL C g)) := by
  rw [restF, hp, if_pos h]
  exact restF_ray (plainL_ray _) k

set_option maxHeartbeats 8000000 in
set_option maxRecDepth 100000 in
theorem rest_any {a b : Option Addr} {n ca m cb : Nat} {f g : List Int} {w : World} (hf : RdI w a n ca f) (hg : RdI w b m cb g) (hF : FitS f g) (ht : topL g ≠ 0) (hig : In (-1000000) 1000000 g) (h1 : 1 ≤ m) (hn : n ≤ 8) (hm : m ≤ 8) :
    Calls Tryd.prog 82 #[.slice a n ca, .slice b m cb] w fun e w' => ∃ a' c', e = .returned (.slice a' (restL f g).length c') ∧ OwI w' w.heap.size 3 a' (restL f g).length c' (restL f g) ∧ Below w.heap.size w w' := by
  obtain ⟨A, B, hA, hB, hA1, hB1, hfit⟩ := hF
  have HM := Lib.hid intTy
  have HGL := Lib.hid hg.len_eq
  have HBg := Lib.hid hB
  have HB1 := Lib.hid hB1
  have hlA := fit_le hfit hB1
  have C0 := Lib.hid (plain_any hf (fun k hk => by have := hA k hk; omega) (by omega))
  have IC : Hid (In (-(A : Int)) A (plainL f)) := plainL_in hA
  have FC : Hid (A * (2 * B) ^ ((plainL f).length + 1 - m) ≤ 4611686018427387904) := by
    refine Nat.le_trans (Nat.mul_le_mul_left A (Nat.pow_le_pow_right (by omega) ?_)) hfit
    have := plainL_len_le f
    rw [hg.len_eq]; omega
  have RC : Hid (plainL (plainL f) = plainL f ∧ restF g f.length (plainL f) = restL f g ∧ (plainL f).length < m + f.length) :=
    ⟨plainL_plainL f, restF_ray (plainL_ray f).symm _, by have := plainL_len_le f; omega⟩
  have LC : (plainL f).length ≤ n := by rw [← hf.len_eq]; exact plainL_len_le f
  have HT := Lib.hid ht
  clear hA hB hfit ht
  obtain ⟨q, rfl⟩ : ∃ q, m = q + 1 := ⟨m - 1, by omega⟩
  obtain ⟨bg, og, rfl, hbg, hcg⟩ := hg.at (k := q) (by omega)
  have yT := hcg q (by omega)
  obtain ⟨T, hT⟩ : ∃ T, ix g q = T := ⟨_, rfl⟩
  rw [hT] at yT
  have eT : Hid (topL g = T) := by unfold Hid topL; rw [HGL.out]; exact hT
  have bT := HBg.out q (by rw [HGL.out]; omega)
  rw [hT] at bT
  have bT2 := hig q (by rw [HGL.out]; omega)
  rw [hT] at bT2
  have HIG := Lib.hid hig
  clear hig
  have HcG := Lib.hid hcg
  have t1 : ((q + 1 : Nat) : Int) - 1 = (q : Int) := by omega
  have t2 : ((q : Int) + 1) - 1 = (q : Int) := by omega
  have i1 : (q : Int) < (q : Int) + 1 := by omega
  have i0 : (q : Int) < ((q + 1 : Nat) : Int) := by omega
  clear hT hcg
  go_enter Tryd.func82, Tryd.ntmps82
  go_wp2_with (go_at_call 80; fail)
  (with_reducible refine C0.out.mono ?_)
  clear C0
  rintro e w1 ⟨a1, c1, rfl, ho1, b1⟩
  have y1 := b1.keep hbg yT
  obtain ⟨L, hL⟩ : ∃ L, (plainL f).length = L := ⟨_, rfl⟩
  rw [hL] at ho1 FC RC LC
  simp only [hL]
  obtain ⟨C0, hC0⟩ : ∃ C, plainL f = C := ⟨_, rfl⟩
  rw [hC0] at ho1 RC IC
  clear hL hC0
  go_wp2_with fail
  go_loopw [0] (fun v wt => ∃ (k A' l : Nat) (p : Option Addr) (c : Nat) (C : List Int), v = .slice p l c ∧ l ≤ n ∧ OwI wt w.heap.size 3 p l c C ∧ Hid (plainL C = C ∧ restF g k C = restL f g ∧ l < q + 1 + k) ∧ Hid (In (-(A' : Int)) A' C) ∧ Hid (A' * (2 * B) ^ (l + 1 - (q + 1)) ≤ 4611686018427387904) ∧ Below w.heap.size w wt) (fun v _ => lenOf v)
  case atStart => exact ⟨f.length, A, L, a1, c1, C0, rfl, LC, ho1, RC, IC, FC, b1⟩
  case round =>
    clear ho1 RC IC FC LC b1 y1
    obtain ⟨k, A', l, p, c, C, rfl, hln, ho, hR, hI, hFt, hb⟩ := hrel
    have HCL := Lib.hid ho.len_eq
    by_cases hlt : l < q + 1
    · have i2 : (l : Int) < (q : Int) + 1 := by omega
      have i3 : (l : Int) < ((q + 1 : Nat) : Int) := by omega
      have hE : Hid (restL f g = C) := by unfold Hid; rw [← hR.out.2.1, restF_end hR.out.1 (by rw [HCL.out, HGL.out]; exact hlt)]
      go_wp2
      go_ret
      refine ⟨p, c, ?_, ?_, hb⟩
      · rw [hE.out, HCL.out]; rfl
      · rw [hE.out, HCL.out]; exact ho
    · obtain ⟨k, rfl⟩ : ∃ k', k = k' + 1 := ⟨k - 1, by have := hR.out.2.2; omega⟩
      obtain ⟨r, rfl⟩ : ∃ r, l = r + 1 := ⟨l - 1, by omega⟩
      obtain ⟨s, rfl⟩ : ∃ s, r = q + s := ⟨r - q, by omega⟩
      have i2 : (q : Int) + 1 ≤ ((q + s + 1 : Nat) : Int) := by omega
      have hM := fit_use hFt.out (by omega) HB1.out
      obtain ⟨D, hD⟩ : ∃ D, A' * B = D := ⟨_, rfl⟩
      have hD2 : 2 * D ≤ 4611686018427387904 := by rw [← hD]; have e : A' * (2 * B) = 2 * (A' * B) := by grind
                                                   omega
      have eD : (A' : Int) * (B : Int) = (D : Int) := by rw [← hD, Int.natCast_mul]
      have HD := Lib.hid hD
      have hAD : A' ≤ D := by rw [← hD]; exact Nat.le_mul_of_pos_right _ HB1.out
      clear hD hM
      have eN : Hid (restF g k (plainL (stepL C g)) = restL f g) := by unfold Hid; rw [← hR.out.2.1, restF_next hR.out.1 (by rw [HCL.out, HGL.out]; omega)]
      obtain ⟨g0, hz, hg0, _, hcC, _⟩ := ho.at (by omega)
      subst hz
      have x1 := hcC (q + s) (by omega)
      obtain ⟨K, hK⟩ : ∃ K, ix C (q + s) = K := ⟨_, rfl⟩
      have bK := hI.out (q + s) (by rw [HCL.out]; omega)
      rw [hK] at x1 bK
      have eK : Hid (topL C = K) := by unfold Hid topL; rw [HCL.out]; exact hK
      have t3 : ((q + s + 1 : Nat) : Int) - ((q + 1 : Nat) : Int) = (s : Int) := by omega
      have t4 : ((q + s + 1 : Nat) : Int) - ((q : Int) + 1) = (s : Int) := by omega
      have t5 : ((q + s + 1 : Nat) : Int) - 1 = ((q + s : Nat) : Int) := by omega
      have t6 : ((q : Int) + (s : Int) + 1) - ((q : Int) + 1) = (s : Int) := by omega
      have t7 : ((q : Int) + (s : Int) + 1) - 1 = (q : Int) + (s : Int) := by omega
      have t8 : ((q : Int) + (s : Int)).toNat = q + s := by omega
      have i4 : (q : Int) + (s : Int) < (q : Int) + (s : Int) + 1 := by omega
      have i5 : (q : Int) + (s : Int) < ((q + s + 1 : Nat) : Int) := by omega
      have i6 : (0 : Int) ≤ (q : Int) + (s : Int) := by omega
      have i7 : (q : Int) + 1 ≤ (q : Int) + (s : Int) + 1 := by omega
      have uK : IntKind.i64.wrap (-K) = -K := Go.IntWalk.i64_in _ (by omega)
      clear hK hcC
      go_wp2_with fail
      go_quiet (fail)
      go_upto_if 36 with (fail)
      go_cut [7] (fun v wx => ∃ K' : Int, v = .int .i64 K' ∧ Hid (K' = sgT T * K) ∧ OwI wx w.heap.size 3 (some ⟨g0, 0, none⟩) (q + s + 1) c C ∧ Below w.heap.size w wx)
      case first =>
        by_cases hT0 : T < 0
        · have HV : Hid (-K = sgT T * K) := by unfold Hid sgT; rw [if_pos hT0]; omega
          go_wp2_with fail
          go_meet
          exact ⟨_, rfl, HV, ho.drewN _, below_drewN hb _⟩
        · have HV : Hid (K = sgT T * K) := by unfold Hid sgT; rw [if_neg hT0]; omega
          have hT1 : 0 ≤ T := by omega
          clear hT0
          go_wp2_with fail
          go_meet
          exact ⟨_, rfl, HV, ho.drewN _, below_drewN hb _⟩
      case rest =>
        clear ho hb x1 uK
        obtain ⟨K', rfl, hK', ho, hb⟩ := hcut
        have bK' : -(A' : Int) ≤ K' ∧ K' ≤ A' := by
          rw [hK'.out]; unfold sgT; split <;> omega
        obtain ⟨Z, hZ⟩ : ∃ Z, (T.natAbs : Int) = Z := ⟨_, rfl⟩
        have bZ : 0 ≤ Z ∧ Z ≤ 1000000 ∧ Z ≤ B := by omega
        have CA : Hid (∀ (w : World), Calls Tryd.prog 83 #[.int .i64 T] w fun e w' => e = .returned (.int .i64 Z) ∧ w = w') := fun w => by rw [← hZ]; exact Abs_any T w (by omega) (by omega)
        have HZ := Lib.hid hZ
        have bP : ∀ x, -(A' : Int) ≤ x ∧ x ≤ A' → -(D : Int) ≤ x * Z ∧ x * Z ≤ D := fun x hx => by
          have := prod_bd' (x := x) (y := Z) (A := A') (B := B) hx (by omega)
          rw [eD] at this; exact this
        have HbP := Lib.hid bP
        have HbK : Hid (∀ i, i < q + 1 → -(D : Int) ≤ K' * ix g i ∧ K' * ix g i ≤ D) := fun i hi => by
          have := prod_bd' (x := K') (y := ix g i) (A := A') (B := B) bK' (HBg.out i (by rw [HGL.out]; exact hi))
          rw [eD] at this; exact this
        have t9 : ((q : Int) + (s : Int) + 1).toNat = q + s + 1 := by omega
        have t10 : ((q + s + 1 : Nat) : Int) = (q : Int) + (s : Int) + 1 := by omega
        have HT10 := Lib.hid t10
        clear hZ bP t10
        go_wp2_with fail
        go_loopw [41] (fun x wt => ∃ (i : Nat) (P : List Int), i ≤ q + s + 1 ∧ x = .int .i64 i ∧ OwI wt w.heap.size 3 (some ⟨g0, 0, none⟩) (q + s + 1) c P ∧ Hid (∀ j, ix P j = if j < i then ix C j * Z else ix C j) ∧ Below w.heap.size w wt) (fun x _ => q + s + 1 - (intOf x).toNat)
        case atStart => exact ⟨0, C, Nat.zero_le _, rfl, ho, fun j => by rw [if_neg (Nat.not_lt_zero j)], hb⟩
        case round =>
          clear ho hb
          obtain ⟨i, P, hi, rfl, hO, hP, hb⟩ := hrel
          by_cases hlt2 : i < q + s + 1
          · have j1 : (i : Int) < ((q + s + 1 : Nat) : Int) := by omega
            have j2 : (i : Int) < (q : Int) + (s : Int) + 1 := by omega
            obtain ⟨gz, hz, hgz, _, hcO, hfO⟩ := hO.at (by omega)
            cases hz
            have x1 := hcO i hlt2
            have f1 := hfO i
            obtain ⟨X, hX⟩ : ∃ X, ix P i = X := ⟨_, rfl⟩
            have eX : X = ix C i := by rw [← hX, hP.out, if_neg (Nat.lt_irrefl i)]
            have bX := hI.out i (by rw [HCL.out]; exact hlt2)
            rw [← eX] at bX
            have bXZ := HbP.out X bX
            rw [hX] at x1
            have u1 : IntKind.i64.wrap (X * Z) = X * Z := Go.IntWalk.i64_in _ (by omega)
            have HLP := Lib.hid hO.len_eq
            have hO1 := hO.set (k := i) (X * Z)
            have hb1 := hb.setCell (p := ⟨g0, i, none⟩) hgz (.int .i64 (X * Z))
            have HP1 : Hid (∀ j, ix (P.set i (X * Z)) j = if j < i + 1 then ix C j * Z else ix C j) := fun j => by
              rw [ix_set, HLP.out, hP.out, eX]
              by_cases e1 : i = j
              · subst e1
                rw [if_pos ⟨rfl, hlt2⟩, if_pos (Nat.lt_succ_self i)]
              · rw [if_neg (fun q => e1 q.1)]
                by_cases e2 : j < i
                · rw [if_pos e2, if_pos (by omega)]
                · rw [if_neg e2, if_neg (by omega)]
            clear hX eX bX bXZ hcO hfO hO hP hb
            go_wp2
            go_still_tail 8, (by kernel_rfl)
            still_call (stillW (CA.out _))
            repeat still_step
            refine wpStill_nil ?_
            change wpList _ _ _ _ _ wr.drew
            clear u1
            go_wp2
            go_roundw
            case rel => exact ⟨i + 1, _, by omega, by go_num, hO1.drew, HP1.out, hb1.drew⟩
            case measure => simp [intOf]; omega
          · obtain rfl : q + s + 1 = i := by omega
            have hP0 : Hid (∀ j, ix P j = ix C j * Z) := fun j => by
              rw [hP.out]
              split
              · rfl
              · rename_i h
                rw [ix_ge (l := C) (by rw [HCL.out]; omega), Int.zero_mul]
            obtain ⟨P0, hP0e⟩ : ∃ P0, P0 = P := ⟨_, rfl⟩
            rw [← hP0e] at hP0
            have hP2 := Lib.hid hP0e
            clear hP0e hP
            go_wp2_with fail
            go_loopw [55] (fun x wt => ∃ (i : Nat) (P : List Int), i ≤ q + 1 ∧ x = .int .i64 i ∧ OwI wt w.heap.size 3 (some ⟨g0, 0, none⟩) (q + s + 1) c P ∧ Hid (∀ j, ix P j = ix C j * Z - (if s ≤ j ∧ j < s + i then K' * ix g (j - s) else 0)) ∧ Below w.heap.size w wt) (fun x _ => q + 1 - (intOf x).toNat)
            case atStart => exact ⟨0, P, Nat.zero_le _, rfl, hO, fun j => by rw [← hP2.out, hP0.out, if_neg (by omega), Int.sub_zero], hb⟩
            case round =>
              clear hO hb hP0 hP2
              obtain ⟨i, P, hi, rfl, hO, hP, hb⟩ := hrel
              by_cases hlt3 : i < q + 1
              · have j1 : (i : Int) < ((q + 1 : Nat) : Int) := by omega
                have j2 : (i : Int) < (q : Int) + 1 := by omega
                obtain ⟨gz, hz, hgz, _, hcO, hfO⟩ := hO.at (by omega)
                cases hz
                have yg := hb.keep hbg (HcG.out i hlt3)
                have x1 := hcO (s + i) (by omega)
                have f1 := hfO (s + i)
                have t11 : ((s : Int) + (i : Int)).toNat = s + i := by omega
                have j3 : (s : Int) + (i : Int) < (q : Int) + (s : Int) + 1 := by omega
                have j4 : (s : Int) + (i : Int) < ((q + s + 1 : Nat) : Int) := by omega
                have j5 : (0 : Int) ≤ (s : Int) + (i : Int) := by omega
                obtain ⟨X, hX⟩ : ∃ X, ix P (s + i) = X := ⟨_, rfl⟩
                obtain ⟨Y, hY⟩ : ∃ Y, ix g i = Y := ⟨_, rfl⟩
                have eX : X = ix C (s + i) * Z := by rw [← hX, hP.out, if_neg (by omega), Int.sub_zero]
                have bX := HbP.out _ (hI.out (s + i) (by rw [HCL.out]; omega))
                rw [← eX] at bX
                have bY := HbK.out i hlt3
                rw [hY] at bY yg
                rw [hX] at x1
                have u1 : IntKind.i64.wrap (K' * Y) = K' * Y := Go.IntWalk.i64_in _ (by omega)
                have u2 : IntKind.i64.wrap (X - K' * Y) = X - K' * Y := Go.IntWalk.i64_in _ (by omega)
                have HLP := Lib.hid hO.len_eq
                have hO1 := hO.set (k := s + i) (X - K' * Y)
                have hb1 := hb.setCell (p := ⟨g0, s + i, none⟩) hgz (.int .i64 (X - K' * Y))
                have HP1 : Hid (∀ j, ix (P.set (s + i) (X - K' * Y)) j = ix C j * Z - (if s ≤ j ∧ j < s + (i + 1) then K' * ix g (j - s) else 0)) := fun j => by
                  rw [ix_set, HLP.out]
                  by_cases e1 : s + i = j
                  · subst e1
                    rw [if_pos ⟨rfl, by omega⟩, if_pos (by omega), show s + i - s = i by omega, hY, eX]
                  · rw [if_neg (fun q => e1 q.1), hP.out]
                    by_cases e2 : s ≤ j ∧ j < s + i
                    · rw [if_pos e2, if_pos (by omega)]
                    · rw [if_neg e2, if_neg (by omega)]
                clear hX hY eX bX bY hcO hfO hO hP hb
                go_wp2
                generalize wr.setCell ⟨g0, s + i, none⟩ (.int .i64 (X - K' * Y)) = W1 at *
                go_roundw
                case rel => exact ⟨i + 1, _, by omega, by go_num, hO1, HP1.out, hb1⟩
                case measure => simp [intOf]; omega
              · obtain rfl : q + 1 = i := by omega
                have hlen := hO.len_eq
                have hst : Hid (P = stepL C g) := by
                  unfold Hid stepL
                  refine ix_ext (by rw [hlen, rowF_len, HCL.out]) fun j hj => ?_
                  rw [hlen] at hj
                  rw [hP.out, rowF_ix (by rw [HCL.out]; exact hj)]
                  unfold stepE
                  rw [eT.out, eK.out, HZ.out, HCL.out, HGL.out, show q + s + 1 - (q + 1) = s by omega, Int.mul_comm (ix C j) Z, hK'.out]
                  by_cases e2 : s ≤ j
                  · rw [if_pos (by omega), if_pos e2]
                  · rw [if_neg (by omega), if_neg e2]
                have bnd : Hid (In (-((2 * D : Nat) : Int)) ((2 * D : Nat) : Int) P) := fun j hj => by
                  rw [hlen] at hj
                  rw [hP.out]
                  have b1 := HbP.out _ (hI.out j (by rw [HCL.out]; omega))
                  split
                  · have b2 := HbK.out (j - s) (by omega)
                    omega
                  · omega
                have CP := Lib.hid (plain_any hO.rd (fun j hj => by have := bnd.out j hj; omega) (by omega))
                have hl2 : Hid ((plainL P).length < q + s + 1) := by
                  have := step_len (f := C) (g := g) (by rw [HGL.out]; omega) (by rw [HCL.out, HGL.out]; omega)
                  unfold Hid
                  rw [hst.out]
                  rw [HCL.out] at this
                  exact this
                have bnd2 : Hid (In (-((A' * (2 * B) : Nat) : Int)) ((A' * (2 * B) : Nat) : Int) (plainL P)) := by
                  have e : A' * (2 * B) = 2 * D := by rw [← HD.out]; grind
                  unfold Hid
                  rw [e]
                  exact plainL_in bnd.out
                have fit2 : Hid (A' * (2 * B) * (2 * B) ^ ((plainL P).length + 1 - (q + 1)) ≤ 4611686018427387904) := fit_next hFt.out (by omega) HB1.out hl2.out
                have R2 : Hid (plainL (plainL P) = plainL P ∧ restF g k (plainL P) = restL f g ∧ (plainL P).length < q + 1 + k) :=
                  ⟨plainL_plainL P, by rw [hst.out]; exact eN.out, by have := hl2.out; have := hR.out.2.2; omega⟩
                obtain ⟨N, hN⟩ : ∃ N, (plainL P).length = N := ⟨_, rfl⟩
                rw [hN] at CP hl2 fit2 R2
                clear hst bnd hP
                go_wp2_with (go_at_call 80; fail)
                (with_reducible refine CP.out.mono ?_)
                clear CP
                rintro e w5 ⟨a5, c5, rfl, ho5, b5⟩
                have ho5 := ho5.mono hb.size
                have b5 := below_tr hb b5
                have hl3 : N < q + s + 1 := hl2.out
                clear hO hb
                go_wp2
                go_roundw
                case rel => exact ⟨k, A' * (2 * B), N, a5, c5, plainL P, rfl, by omega, ho5, R2, bnd2, fit2, b5⟩
                case measure => simp [lenOf]; omega
end Go.Proofs.YtoahegjjffggaaaDoor
namespace Go.Rk
open Go.RowKit

section
variable {P : Program} {TT T E B : Nat} {w : World}
/-- As wpList_push_row; and the row that was put reads as it did. -/
theorem wpList_push_row2 (hT : MatTy P TT T E) {ops : Array Oper} {rest : List Oper} {o : Oper} {ac : Act} {Q : Exit → Act → World → Prop} (hgd : o.guard = none) (s x : Operand)
    (ho : o.op = .call { callee := .builtin .append, args := #[s, x], argTypes := #[TT, TT] })
    {w0 : World} {a ar : Option Addr} {n cap blk_ c2 nr cr : Nat} {M : List (List Int)} {l : List Int} (hs : ac.eval s = .slice a n cap) (hx : ac.eval x = .slice (some ⟨blk_, 0, none⟩) 1 c2) (h : OwM w0 B T E a n cap M) (hb : Below w0.heap.size w0 w)
    (ho2 : OwI w w0.heap.size E ar nr cr l) (hc : w.cell? ⟨blk_, 0, none⟩ = some (.slice ar nr cr)) (hn : (n + 1) * 24 ≤ 140737488355328) (hB : B ≤ w0.heap.size)
    (hK : ∀ a' cap' w', OwM w' B T E a' (n + 1) cap' (M ++ [l]) → OwI w' w0.heap.size E ar nr cr l → Below B w w' → wpList P ops Q rest (ac.put o.dst (.slice a' (n + 1) cap')) w') : wpList P ops Q (o :: rest) ac w := by
  obtain ⟨i, hi, hz, hs1, hby⟩ := hT.hi
  obtain ⟨vs', ho', hr', hd'⟩ := (h.below hb).own
  refine wpList_append_own w hgd s x TT ho B T i (.slice none 0 0) 1 24 hT.ht hi hz hs1 hby rfl (by decide) (.slice a n cap) n vs' hs ho' ⟨blk_, 0, none⟩ 1 c2 [.slice ar nr cr] hx rfl (fun j u hu => ?_) (fun u hu => ?_) (by unfold maxLen; omega) hn (Nat.le_trans hB hb.size) fun v' w' h1 h2 _ => ?_
  · rcases j with _ | j
    · simp at hu
      subst hu
      have : (⟨blk_, 0, none⟩ : Addr).add 0 = ⟨blk_, 0, none⟩ := by simp [Addr.add]
      rw [this]; exact hc
    · simp at hu
  · simp at hu; subst hu; rfl
  · obtain ⟨a', cap', rfl⟩ : ∃ a' cap', v' = .slice a' (n + 1) cap' := by
      rcases h1.2 with ⟨e, h0⟩ | ⟨g, c, cur, e, _⟩
      · exact absurd h0 (by omega)
      · exact ⟨_, _, e⟩
    refine hK a' cap' w' (h.pushed hb ho2 hB hT.ne ho' h1 h2 hr' hd') (ho2.grown h2 ?_) ((Below.refl B w).grown h2 (Nat.le_trans hB hb.size) fun k hk => (ho'.lt k hk).1)
    rcases eo : (Value.slice ar nr cr).ownBlock with _ | b
    · exact .inl rfl
    · exact .inr fun e2 => own_ne hT.ne ho' ho2.own e2.symm eo
/-- A literal of one row. -/
theorem OwM.lit1 {ar : Option Addr} {nr cr : Nat} {l : List Int} (h : OwI w B E ar nr cr l) (hB : B ≤ w.heap.size) : OwM (w.alloc (.cells #[.slice ar nr cr] T)) B T E (some ⟨w.heap.size, 0, none⟩) 1 1 [l] := by
  have hlen := h.len_eq
  subst hlen
  refine ⟨rfl, _, World.ownsRow_lit w #[.slice ar l.length cr] 1 hB (by decide) rfl, fun k hk => ?_, fun i j b hi hj hij => absurd (by omega) hij⟩
  obtain rfl : k = 0 := by omega
  exact ⟨ar, cr, rfl, h.alloc _⟩
end

theorem row_take {M : List (List Int)} {n k : Nat} (h : k < n) : rowOf (M.take n) k = rowOf M k := by simp [rowOf, List.getD, h]
theorem chain_next {LL : List (List Int)} {j k : Nat} {prev N : List Int} (h : LL.drop j = chF (k + 1) prev N) (h0 : N.length ≠ 0) : j < LL.length ∧ rowOf LL j = N ∧ LL.drop (j + 1) = chF k N (negL (restL prev N)) := by
  rw [chF_step h0] at h
  have hj : j < LL.length := by
    rcases Nat.lt_or_ge j LL.length with e | e
    · exact e
    · rw [List.drop_eq_nil_of_le e] at h; cases h
  rw [List.drop_eq_getElem_cons hj] at h
  injection h with h1 h2
  exact ⟨hj, by simp [rowOf, List.getD, hj, h1], h2⟩
end Go.Rk
namespace Go.Proofs.YtoahegjjffggaaaDoor
open Go.RowKit Go.Rk

set_option maxHeartbeats 8000000 in
set_option maxRecDepth 100000 in
theorem chain_any {a : Option Addr} {n ca : Nat} {f : List Int} {w : World} (hf : RdI w a n ca f) (hi : In (-1000000) 1000000 f) (hF : FitL (chainL f)) (h1 : 1 ≤ n) (h4 : n ≤ 4) :
    Calls Tryd.prog 68 #[.slice a n ca] w fun e w' => ∃ a' c', e = .returned (.slice a' (chainL f).length c') ∧ RdM w' a' (chainL f).length c' (chainL f) ∧ Below w.heap.size w w' := by
  have HM := Lib.hid matTy
  have C1 := Lib.hid (plain_any hf (fun k hk => by have := hi k hk; omega) (by omega))
  have HI := Lib.hid hi
  have HLF := Lib.hid hf.len_eq
  obtain ⟨LL, hLL⟩ : ∃ LL, chainL f = LL := ⟨_, rfl⟩
  have D1 : Hid (LL.drop 1 = chF f.length (plainL f) (slopeL f) ∧ LL.take 1 = [plainL f] ∧ rowOf LL 0 = plainL f ∧ 1 ≤ LL.length) := by rw [← hLL]; exact ⟨rfl, rfl, rfl, by unfold chainL; simp⟩
  have PS : Hid (Pl (slopeL f) ∧ (slopeL f).length ≤ f.length) := ⟨plainL_pl _, by have := slopeL_len f; omega⟩
  rw [hLL] at hF
  simp only [hLL]
  have HF := Lib.hid hF
  clear hi hLL hF
  go_enter Tryd.func68, Tryd.ntmps68
  go_wp2_with (go_at_call 80; fail)
  (with_reducible refine C1.out.mono ?_)
  clear C1
  rintro e w1 ⟨a1, c1, rfl, ho1, b1⟩
  have hM1 := OwM.lit1 (T := 24) ho1 b1.size
  have hb1 := below_al b1 (.cells #[.slice a1 (plainL f).length c1] 24)
  have C2 := Lib.hid (slope_any (hf.below hb1) HI.out h1 h4)
  clear ho1 b1
  go_wp2_with (go_at_call 81; fail)
  (with_reducible refine C2.out.mono ?_)
  clear C2
  rintro e w2 ⟨a2, c2, rfl, ho2, b2⟩
  generalize w1.alloc (.cells #[.slice a1 (plainL f).length c1] 24) = W0 at *
  generalize w1.heap.size = g1 at *
  have k2 := below_tr hb1 b2
  obtain ⟨l2, hl2⟩ : ∃ l2, (slopeL f).length = l2 := ⟨_, rfl⟩
  rw [hl2] at ho2 PS
  simp only [hl2]
  obtain ⟨S2, hS2⟩ : ∃ S2, slopeL f = S2 := ⟨_, rfl⟩
  rw [hS2] at ho2 PS D1
  have HW0 := hb1.size
  clear hl2 hS2
  go_wp2_with fail
  go_loopw [3, 4] (fun v y wt => ∃ (w0 : World) (j k : Nat) (p pn : Option Addr) (cp ln cn : Nat) (N : List Int), v = .slice p j cp ∧ y = .slice pn ln cn ∧ 1 ≤ j ∧ j + ln ≤ 5 ∧ OwM w0 w.heap.size 24 3 p j cp (LL.take j) ∧ w.heap.size ≤ w0.heap.size ∧ Below w0.heap.size w0 wt ∧ OwI wt w0.heap.size 3 pn ln cn N ∧ Below w.heap.size w wt ∧ Hid (LL.drop j = chF k (rowOf LL (j - 1)) N ∧ j ≤ LL.length ∧ ln ≤ k ∧ Pl N)) (fun _ y _ => lenOf y)
  case atStart => exact ⟨W0, 1, f.length, some ⟨g1, 0, none⟩, a2, 1, l2, c2, S2, rfl, rfl, Nat.le_refl _, by have := PS.out.2; have := HLF.out; omega, by rw [D1.out.2.1]; exact hM1, HW0, b2, ho2, k2, ⟨by rw [D1.out.1, show 1 - 1 = 0 from rfl, D1.out.2.2.1], D1.out.2.2.2, PS.out.2, PS.out.1⟩⟩
  case round =>
    clear hM1 b2 ho2 k2 D1 PS HW0 hb1
    obtain ⟨w0, j, k, p, pn, cp, ln, cn, N, rfl, rfl, hj1, hjl, hO, hw0, hb0, hN, hb, hS⟩ := hrel
    have HNL := Lib.hid hN.len_eq
    by_cases h0 : ln = 0
    · subst h0
      have hE : Hid (LL.length = j ∧ LL.take j = LL) := by
        have e := hS.out.1
        rw [List.eq_nil_of_length_eq_zero HNL.out, chF_nil, List.drop_eq_nil_iff] at e
        exact ⟨by have := hS.out.2.1; omega, List.take_of_length_le e⟩
      have hR := hO.rd.below hb0
      go_wp2
      go_ret
      refine ⟨p, cp, ?_, ?_, hb⟩
      · rw [hE.out.1]; rfl
      · rw [hE.out.2] at hR
        rw [hE.out.1]; exact hR
    · obtain ⟨k, rfl⟩ : ∃ k', k = k' + 1 := ⟨k - 1, by have := hS.out.2.2.1; omega⟩
      have HX := Lib.hid (chain_next hS.out.1 (by rw [HNL.out]; exact h0))
      obtain ⟨i, rfl⟩ : ∃ i, j = i + 1 := ⟨j - 1, by omega⟩
      have e1 : i + 1 - 1 = i := rfl
      rw [e1] at HX
      have z1 : (0 : Int) < (ln : Int) := by omega
      have HTk : Hid (LL.take (i + 1) ++ [N] = LL.take (i + 2)) := by
        have := take_succ_row HX.out.1
        unfold Hid; rw [this, HX.out.2.1]
      have HSt := Lib.hid (HF.out.step i HX.out.1)
      have HRow := Lib.hid (HF.out.row (i + 1) HX.out.1)
      have HRow0 := Lib.hid (HF.out.row i (by have := HX.out.1; omega))
      rw [HX.out.2.1] at HSt HRow
      have hPl := hS.out.2.2.2
      have hkl := hS.out.2.2.1
      have ht : Hid (topL N ≠ 0) := hPl.top (by rw [HNL.out]; omega)
      have HI1 := Lib.hid (HRow.out.2.2)
      have hb0' := hb0
      clear hS hPl h0
      have q1 : ((i + 1 + 1 : Nat) : Int) - 2 = (i : Int) := by omega
      have q2 : ((i : Int) + 1 + 1) - 2 = (i : Int) := by omega
      have q3 : ((i : Int) + 1) - 1 = (i : Int) := by omega
      have q4 : (i : Int) < ((i + 1 + 1 : Nat) : Int) := by omega
      have q5 : (i : Int) < (i : Int) + 1 + 1 := by omega
      go_wp2_with (first | (at_builtin; refine wpList_push_row2 HM.out rfl (.tmp 14) (.tmp 16) rfl rfl rfl hO (hb0.alloc hb0.size _) (hN.alloc _) (by simp) (by omega) hw0 ?_; intro a7 cap7 w7 ho7 hn7 hb7; rw [HTk.out] at ho7; obtain ⟨g7, hz7, _, _, _, hrows⟩ := ho7.at (k := i) (by omega); subst hz7; obtain ⟨ar, cr, hcell, hpr⟩ := hrows i (by omega); rw [row_take (by omega)] at hcell hpr) | (go_at_call 82; fail))
      have hk7 := (below_al hb (.cells #[.slice pn ln cn] 24)).trans hb7
      have C := Lib.hid (rest_any hpr.rd hn7.rd HSt.out ht.out HI1.out (by omega) (by have := HRow0.out.2.1; omega) (by omega))
      (with_reducible refine C.out.mono ?_)
      clear C hcell hpr hrows
      rintro e w8 ⟨a8, c8, rfl, hr8, b8⟩
      have hk8 := below_tr hk7 b8
      have hs7 := hk7.size
      have HR2 : Hid (Pl (negL (restL (rowOf LL i) N)) ∧ (restL (rowOf LL i) N).length < ln ∧ LL.drop (i + 2) = chF k N (negL (restL (rowOf LL i) N))) := by
        refine ⟨(restL_pl _ _).neg, ?_, HX.out.2.2⟩
        have := restL_len (f := rowOf LL i) (g := N) (by rw [HNL.out]; omega)
        rwa [HNL.out] at this
      have HRB : Hid (∀ r, r < (restL (rowOf LL i) N).length → -1000000 ≤ ix (restL (rowOf LL i) N) r ∧ ix (restL (rowOf LL i) N) r ≤ 1000000) := fun r hr => by
        obtain ⟨k, rfl⟩ : ∃ k', k = k' + 1 := ⟨k - 1, by have := HR2.out.2.1; omega⟩
        have e := chain_next HR2.out.2.2 (by rw [negL_len]; omega)
        have e2 := (HF.out.row (i + 2) e.1).2.2
        rw [e.2.1] at e2
        have e3 := e2 r (by rw [negL_len]; exact hr)
        rw [negL_ix] at e3
        omega
      have hlt8 := HR2.out.2.1
      obtain ⟨R, hR⟩ : ∃ R, restL (rowOf LL i) N = R := ⟨_, rfl⟩
      rw [hR] at hr8 HR2 HRB hlt8
      simp only [hR]
      obtain ⟨m, hm⟩ : ∃ m, R.length = m := ⟨_, rfl⟩
      rw [hm] at hr8 HR2 HRB hlt8
      have HRm := Lib.hid hm
      simp only [hm]
      have hn2 : Hid (rowOf LL (i + 1) = N ∧ i + 2 ≤ LL.length) := ⟨HX.out.2.1, HX.out.1⟩
      clear hR hm hO hN hb0 hb hb7 hn7 hb0' HX HSt HRow HRow0 ht HI1
      go_wp2_with fail
      go_loopw [28] (fun y wt => ∃ (r : Nat) (Q : List Int), r ≤ m ∧ y = .int .i64 r ∧ OwI wt w7.heap.size 3 a8 m c8 Q ∧ Hid (∀ t, ix Q t = if t < r then -ix R t else ix R t) ∧ Below w7.heap.size w7 wt) (fun y _ => m - (intOf y).toNat)
      case atStart => exact ⟨0, R, Nat.zero_le _, rfl, hr8, fun t => by rw [if_neg (Nat.not_lt_zero t)], b8⟩
      case round =>
        clear hr8 b8 hk8
        obtain ⟨r, Q, hr, rfl, hO, hQ, hb⟩ := hrel
        by_cases hlt : r < m
        · have j1 : (r : Int) < (m : Int) := by omega
          obtain ⟨g8, hz, hg8, _, hcO, hfO⟩ := hO.at (by omega)
          subst hz
          have x1 := hcO r hlt
          have f1 := hfO r
          obtain ⟨X, hX⟩ : ∃ X, ix Q r = X := ⟨_, rfl⟩
          have eX : X = ix R r := by rw [← hX, hQ.out, if_neg (Nat.lt_irrefl r)]
          have bX := HRB.out r hlt
          rw [← eX] at bX
          rw [hX] at x1
          have u1 : IntKind.i64.wrap (-X) = -X := Go.IntWalk.i64_in _ (by omega)
          have HLP := Lib.hid hO.len_eq
          have hO1 := hO.set (k := r) (-X)
          have hb1 := hb.setCell (p := ⟨g8, r, none⟩) hg8 (.int .i64 (-X))
          have HP1 : Hid (∀ t, ix (Q.set r (-X)) t = if t < r + 1 then -ix R t else ix R t) := fun t => by
            rw [ix_set, HLP.out, hQ.out, eX]
            by_cases e1 : r = t
            · subst e1
              rw [if_pos ⟨rfl, hlt⟩, if_pos (Nat.lt_succ_self r)]
            · rw [if_neg (fun q => e1 q.1)]
              by_cases e2 : t < r
              · rw [if_pos e2, if_pos (by omega)]
              · rw [if_neg e2, if_neg (by omega)]
          clear hX eX bX hcO hfO hO hQ hb
          go_wp2
          generalize wr.setCell ⟨g8, r, none⟩ (.int .i64 (-X)) = W1 at *
          go_roundw
          case rel => exact ⟨r + 1, _, by omega, by go_num, hO1, HP1.out, hb1⟩
          case measure => simp [intOf]; omega
        · obtain rfl : m = r := by omega
          have hlen := hO.len_eq
          have hQN : Hid (Q = negL R) := by
            refine ix_ext (by rw [hlen, negL_len, HRm.out]) fun t ht => ?_
            rw [hlen] at ht
            rw [hQ.out, if_pos ht, negL_ix]
          have hk9 := below_tr hk7 hb
          have hfin : Hid (LL.drop (i + 2) = chF k (rowOf LL (i + 2 - 1)) Q ∧ i + 2 ≤ LL.length ∧ m ≤ k ∧ Pl Q) := by
            rw [hQN.out, show i + 2 - 1 = i + 1 from rfl, hn2.out.1]
            exact ⟨HR2.out.2.2, hn2.out.2, by omega, HR2.out.1⟩
          clear hQ
          go_wp2
          go_roundw
          case rel => exact ⟨w7, i + 1 + 1, k, some ⟨g7, 0, none⟩, a8, cap7, m, c8, Q, rfl, rfl, by omega, by omega, ho7, hs7, hb, hO, hk9, hfin⟩
          case measure => simp [lenOf]; omega
end Go.Proofs.YtoahegjjffggaaaDoor
namespace Go.Rk
open Go.RowKit Go.Proofs.YtoahegjjffggaaaDoor

theorem qS_succ (h g : List Int) (n i : Nat) : qS h g (n + 1) i = qS h g n i + (if n ≤ i then ix h n * ix g (i - n) else 0) := rfl
theorem ix_bd {A : Nat} {l : List Int} (h : In (-(A : Int)) A l) (k : Nat) : -(A : Int) ≤ ix l k ∧ ix l k ≤ A := by
  rcases Nat.lt_or_ge k l.length with e | e
  · exact h k e
  · rw [ix_ge e]; omega
theorem qS_bd {h g : List Int} (hh : In (-1000000) 1000000 h) (hg : In (-1000000) 1000000 g) (i : Nat) : ∀ n : Nat, -(1000000000000 * (n : Int)) ≤ qS h g n i ∧ qS h g n i ≤ 1000000000000 * (n : Int)
  | 0 => by show -(1000000000000 * ((0 : Nat) : Int)) ≤ 0 ∧ 0 ≤ 1000000000000 * ((0 : Nat) : Int); omega
  | n + 1 => by
    have e := qS_bd hh hg i n
    have p := prod_bd' (ix_bd (A := 1000000) hh n) (ix_bd (A := 1000000) hg (i - n))
    rw [qS_succ]
    split <;> omega
theorem qS_top {h g : List Int} {t q : Nat} (hg : g.length = q + 1) : qS h g (t + 1) (t + q) = ix h t * ix g q := by
  have e : ∀ n, n ≤ t → qS h g n (t + q) = 0 := by
    intro n
    induction n with
    | zero => intro _; rfl
    | succ n ih =>
      intro hn
      rw [qS_succ, ih (by omega), if_pos (by omega), ix_ge (l := g) (by omega), Int.mul_zero]; rfl
  rw [qS_succ, e t (Nat.le_refl t), if_pos (by omega), Int.zero_add, show t + q - t = q by omega]

theorem chF_pl : ∀ (k : Nat) (a b : List Int), Pl b → ∀ x ∈ chF k a b, Pl x
  | 0, _, _, _, x, h => by cases h
  | k + 1, a, b, hb, x, h => by
    rw [chF] at h
    split at h
    · cases h
    · rcases List.mem_cons.1 h with e | e
      · rw [e]; exact hb
      · exact chF_pl k b _ (restL_pl a b).neg x e
theorem chainL_pl (f : List Int) : ∀ x ∈ chainL f, Pl x := fun x h => by
  rcases List.mem_cons.1 h with e | e
  · rw [e]; exact plainL_pl f
  · exact chF_pl _ _ _ (plainL_pl _) x e
theorem chainL_len (f : List Int) : 1 ≤ (chainL f).length := by unfold chainL; simp
theorem lastL_mem (f : List Int) : lastL (chainL f) ∈ chainL f := by
  have h := chainL_len f
  have e : lastL (chainL f) = (chainL f)[(chainL f).length - 1] := by simp [lastL, rowOf, List.getD, show (chainL f).length - 1 < (chainL f).length by omega]
  rw [e]; exact List.getElem_mem _
theorem quo_pos {f g h : List Int} (hp : Pl f) (hQ : Quo f g h) (hg : 2 ≤ g.length) : 1 ≤ h.length := by
  rcases Nat.eq_zero_or_pos h.length with e | e
  · have h1 := hQ.len
    have h2 := hp.top (by omega)
    have h3 := hQ.eq (f.length - 1)
    rw [e] at h3
    exact absurd h3 h2
  · exact e
end Go.Rk
namespace Go.Proofs.YtoahegjjffggaaaDoor
open Go.RowKit Go.Rk

set_option maxHeartbeats 8000000 in
set_option maxRecDepth 100000 in
theorem quotient_any {a b : Option Addr} {n ca m cb : Nat} {f g h : List Int} {w : World} (hf : RdI w a n ca f) (hg : RdI w b m cb g) (hQ : Quo f g h) (ht : topL g ≠ 0) (hgi : In (-1000000) 1000000 g) (hhi : In (-1000000) 1000000 h) (h1 : 1 ≤ m) (hh1 : 1 ≤ h.length) (hn : n ≤ 8) :
    Calls Tryd.prog 69 #[.slice a n ca, .slice b m cb] w fun e w' => ∃ a' c', e = .returned (.slice a' h.length c') ∧ OwI w' w.heap.size 3 a' h.length c' h ∧ Below w.heap.size w w' := by
  have HM := Lib.hid intTy
  have HGL := Lib.hid hg.len_eq
  have HQ := Lib.hid hQ.eq
  have HHI := Lib.hid hhi
  have hql := hQ.len
  rw [hf.len_eq, hg.len_eq] at hql
  have HB := Lib.hid (fun i n => qS_bd hhi hgi i n)
  have HGI := Lib.hid hgi
  obtain ⟨N, hN⟩ : ∃ N, h.length = N := ⟨_, rfl⟩
  rw [hN] at hql hh1 HQ
  simp only [hN]
  have HHL := Lib.hid hN
  obtain ⟨q, rfl⟩ : ∃ q, m = q + 1 := ⟨m - 1, by omega⟩
  obtain ⟨bg, og, rfl, hbg, hcg⟩ := hg.at (k := q) (by omega)
  have HcG := Lib.hid hcg
  have eT : topL g = ix g q := by unfold topL; rw [HGL.out]; rfl
  obtain ⟨T, hT⟩ : ∃ T, ix g q = T := ⟨_, rfl⟩
  have yT := hcg q (by omega)
  rw [hT] at yT
  have T0 : T ≠ 0 := by rw [← hT, ← eT]; exact ht
  have z0 : (T == 0) = false := beq_eq_false_iff_ne.2 T0
  have HT := Lib.hid hT
  obtain rfl : n = N + q := by omega
  have v1 : ((N + q : Nat) : Int) - ((q + 1 : Nat) : Int) + 1 = (N : Int) := by omega
  have v2 : ((N : Int) + (q : Int)) - ((q : Int) + 1) + 1 = (N : Int) := by omega
  have v3 : ((N + q : Nat) : Int) - ((q : Int) + 1) + 1 = (N : Int) := by omega
  have t1 : ((q + 1 : Nat) : Int) - 1 = (q : Int) := by omega
  have t2 : ((q : Int) + 1) - 1 = (q : Int) := by omega
  have i0 : (q : Int) < ((q + 1 : Nat) : Int) := by omega
  have i1 : (q : Int) < (q : Int) + 1 := by omega
  have hle := hf.le
  clear hQ ht hgi hhi hcg eT hT hN
  go_enter Tryd.func69, Tryd.ntmps69
  go_wp2_with (first | (at_builtin; refine wpList_append_ints HM.out rfl (.const (.slice none 0 0)) (.tmp 10) rfl rfl rfl (OwI.nil w w.heap.size _) hf (by omega) (Nat.le_refl _) ?_; intro a3 cap3 w3 ho3 hg3; have hb3 := below_of_grown hg3; rw [Nat.zero_add, List.nil_append] at ho3; rw [Nat.zero_add]) | (refine wpList_make_ints HM.out rfl (.tmp 17) (.tmp 17) (n := N) rfl rfl rfl (by omega) ?_; intro w4 ho4 hb4))
  have ho3' := ho3.below hb4
  obtain ⟨gf, hz, hgf, hgl, _, _⟩ := ho3.at (by omega)
  subst hz
  have hs3 := hb3.size
  have k4 := below_tr hb3 hb4
  have hO0 : Hid (∀ j, ix (List.replicate N (0 : Int)) j = if N ≤ j then ix h j else 0) := fun j => by
    by_cases e : N ≤ j
    · rw [if_pos e, ix_ge (by simpa using e), ix_ge (by rw [HHL.out]; exact e)]
    · rw [if_neg e, ix_lt (by simpa using e)]; simp
  go_loopw [6] (fun x wt => ∃ (r : Nat) (F O : List Int), r ≤ N ∧ x = .int .i64 ((r : Int) - 1) ∧ OwI wt w.heap.size 3 (some ⟨gf, 0, none⟩) (N + q) cap3 F ∧ OwI wt w3.heap.size 3 (some ⟨w3.heap.size, 0, none⟩) N N O ∧ Hid (∀ i, ix F i = qS h g r i) ∧ Hid (∀ j, ix O j = if r ≤ j then ix h j else 0) ∧ Below w.heap.size w wt) (fun x _ => (intOf x + 1).toNat)
  case atStart => exact ⟨N, f, _, Nat.le_refl _, by go_num, ho3', ho4, HQ.out, hO0, k4⟩
  case round =>
    clear ho3 ho3' ho4 hb3 hb4 hg3 k4 hO0
    obtain ⟨r, F, O, hr, rfl, hF, hO, hFq, hOq, hb⟩ := hrel
    by_cases h0 : 0 < r
    · obtain ⟨t, rfl⟩ : ∃ t, r = t + 1 := ⟨r - 1, by omega⟩
      have e1 : ((t + 1 : Nat) : Int) - 1 = (t : Int) := by omega
      simp only [e1]
      have j1 : (t : Int) < (N : Int) := by omega
      have j2 : (0 : Int) ≤ (t : Int) := by omega
      obtain ⟨gz, hz, hgz, hgl2, hcF, hfF⟩ := hF.at (by omega)
      cases hz
      have x1 := hcF (t + q) (by omega)
      obtain ⟨H, hH⟩ : ∃ H, ix h t = H := ⟨_, rfl⟩
      rw [hFq.out, qS_top HGL.out, hH, HT.out] at x1
      have bH := HHI.out t (by rw [HHL.out]; omega)
      rw [hH] at bH
      have y2 := hb.keep hbg yT
      have v4 : (t : Int) + (q : Int) + 1 - 1 = (t : Int) + (q : Int) := by omega
      have v5 : (t : Int) + ((q : Int) + 1) - 1 = (t : Int) + (q : Int) := by omega
      have v6 : ((t : Int) + (q : Int)).toNat = t + q := by omega
      have v7 : (t : Int) + ((q + 1 : Nat) : Int) - 1 = (t : Int) + (q : Int) := by omega
      have j3 : (t : Int) + (q : Int) < ((N + q : Nat) : Int) := by omega
      have j4 : (t : Int) + (q : Int) < (N : Int) + (q : Int) := by omega
      have j5 : (0 : Int) ≤ (t : Int) + (q : Int) := by omega
      have u1 : (H * T).tdiv T = H := Int.mul_tdiv_cancel _ T0
      have u2 : IntKind.i64.wrap H = H := Go.IntWalk.i64_in _ (by omega)
      have HH := Lib.hid hH
      clear hH e1 hcF
      go_wp2_with fail
      go_quiet (fail)
      have hF := hF.drewN nq
      have hO := hO.drewN nq
      have hb := below_drewN hb nq
      clear x1 y2 hfF
      generalize wr.drewN nq = W2 at *
      obtain ⟨go, hz, hgo, _, hcO, hfO⟩ := hO.at (by omega)
      cases hz
      have x2 := hcO t (by omega)
      have f2 := hfO t
      have HLO := Lib.hid hO.len_eq
      have hO1 := hO.set (k := t) H
      have hF1 := hF.setElse (p := ⟨w3.heap.size, t, none⟩) (by show w3.heap.size ≠ gf; omega) (.int .i64 H)
      have hb1 := hb.setCell (p := ⟨w3.heap.size, t, none⟩) (by show w.heap.size ≤ w3.heap.size; omega) (.int .i64 H)
      have HO1 : Hid (∀ j, ix (O.set t H) j = if t ≤ j then ix h j else 0) := fun j => by
        rw [ix_set, HLO.out]
        by_cases e1 : t = j
        · subst e1
          rw [if_pos ⟨rfl, by omega⟩, if_pos (Nat.le_refl _), HH.out]
        · rw [if_neg (fun q => e1 q.1), hOq.out]
          by_cases e2 : t + 1 ≤ j
          · rw [if_pos e2, if_pos (by omega)]
          · rw [if_neg e2, if_neg (by omega)]
      clear hO hF hb hcO hfO
      go_wp2_with fail
      generalize W2.setCell ⟨w3.heap.size, t, none⟩ (.int .i64 H) = W3 at *
      go_loopw [47] (fun x wt => ∃ (i : Nat) (F : List Int), i ≤ q + 1 ∧ x = .int .i64 i ∧ OwI wt w.heap.size 3 (some ⟨gf, 0, none⟩) (N + q) cap3 F ∧ OwI wt w3.heap.size 3 (some ⟨w3.heap.size, 0, none⟩) N N (O.set t H) ∧ Hid (∀ j, ix F j = qS h g (t + 1) j - (if t ≤ j ∧ j < t + i then H * ix g (j - t) else 0)) ∧ Below w.heap.size w wt) (fun x _ => q + 1 - (intOf x).toNat)
      case atStart => exact ⟨0, F, Nat.zero_le _, rfl, hF1, hO1, fun j => by rw [hFq.out, if_neg (by omega), Int.sub_zero], hb1⟩
      case round =>
        clear hF1 hO1 hb1 x2 f2
        obtain ⟨i, F, hi, rfl, hF, hO, hFi, hb⟩ := hrel
        by_cases hlt : i < q + 1
        · have l1 : (i : Int) < ((q + 1 : Nat) : Int) := by omega
          have l2 : (i : Int) < (q : Int) + 1 := by omega
          obtain ⟨gz, hz, hgz, hgl3, hcF, hfF⟩ := hF.at (by omega)
          cases hz
          have yg := hb.keep hbg (HcG.out i hlt)
          have x1 := hcF (t + i) (by omega)
          have f1 := hfF (t + i)
          have v8 : ((t : Int) + (i : Int)).toNat = t + i := by omega
          have l3 : (t : Int) + (i : Int) < ((N + q : Nat) : Int) := by omega
          have l4 : (t : Int) + (i : Int) < (N : Int) + (q : Int) := by omega
          have l5 : (0 : Int) ≤ (t : Int) + (i : Int) := by omega
          obtain ⟨X, hX⟩ : ∃ X, ix F (t + i) = X := ⟨_, rfl⟩
          obtain ⟨Y, hY⟩ : ∃ Y, ix g i = Y := ⟨_, rfl⟩
          have eX : X = qS h g (t + 1) (t + i) := by rw [← hX, hFi.out, if_neg (by omega), Int.sub_zero]
          have bX := HB.out (t + i) (t + 1)
          rw [← eX] at bX
          have bY := HGI.out i (by rw [HGL.out]; exact hlt)
          rw [hY] at bY yg
          have bHY := prod_bd' bH bY
          rw [hX] at x1
          have w1 : IntKind.i64.wrap (H * Y) = H * Y := Go.IntWalk.i64_in _ (by omega)
          have w2 : IntKind.i64.wrap (X - H * Y) = X - H * Y := Go.IntWalk.i64_in _ (by omega)
          have HLF := Lib.hid hF.len_eq
          have hF1 := hF.set (k := t + i) (X - H * Y)
          have hO1 := hO.setElse (p := ⟨gf, t + i, none⟩) (by show gf ≠ w3.heap.size; omega) (.int .i64 (X - H * Y))
          have hb1 := hb.setCell (p := ⟨gf, t + i, none⟩) hgf (.int .i64 (X - H * Y))
          have HF1 : Hid (∀ j, ix (F.set (t + i) (X - H * Y)) j = qS h g (t + 1) j - (if t ≤ j ∧ j < t + (i + 1) then H * ix g (j - t) else 0)) := fun j => by
            rw [ix_set, HLF.out]
            by_cases e1 : t + i = j
            · subst e1
              rw [if_pos ⟨rfl, by omega⟩, if_pos (by omega), show t + i - t = i by omega, hY, eX]
            · rw [if_neg (fun q => e1 q.1), hFi.out]
              by_cases e2 : t ≤ j ∧ j < t + i
              · rw [if_pos e2, if_pos (by omega)]
              · rw [if_neg e2, if_neg (by omega)]
          clear hX hY eX bX bY bHY hcF hfF hF hO hb hFi
          go_wp2
          generalize wr.setCell ⟨gf, t + i, none⟩ (.int .i64 (X - H * Y)) = W4 at *
          go_roundw
          case rel => exact ⟨i + 1, _, by omega, by go_num, hF1, hO1, HF1.out, hb1⟩
          case measure => first | (simp [intOf]; done) | (simp [intOf]; omega)
        · obtain rfl : q + 1 = i := by omega
          have HFt : Hid (∀ j, ix F j = qS h g t j) := fun j => by
            rw [hFi.out, qS_succ, HH.out]
            by_cases e1 : t ≤ j
            · rw [if_pos e1]
              by_cases e2 : j < t + (q + 1)
              · rw [if_pos ⟨e1, e2⟩]; omega
              · rw [if_neg (fun q => e2 q.2), ix_ge (l := g) (by rw [HGL.out]; omega), Int.mul_zero]; omega
            · rw [if_neg e1, if_neg (fun q => e1 q.1)]; omega
          clear hFi
          go_wp2
          go_roundw
          case rel => exact ⟨t, F, _, by omega, by go_num, hF, hO, HFt.out, HO1.out, hb⟩
          case measure => first | (simp [intOf]; done) | (simp [intOf]; omega)
    · obtain rfl : r = 0 := by omega
      have e1 : ((0 : Nat) : Int) - 1 = -1 := by omega
      simp only [e1]
      have hE : Hid (O = h) := ix_ext (by rw [hO.len_eq, HHL.out]) fun j _ => by rw [hOq.out, if_pos (Nat.zero_le _)]
      go_wp2
      go_ret
      refine ⟨_, _, rfl, ?_, hb⟩
      rw [hE.out] at hO
      exact hO.mono hs3
set_option maxHeartbeats 4000000 in
set_option maxRecDepth 100000 in
theorem simple_any {a : Option Addr} {n ca : Nat} {f : List Int} {L : List (List Int)} {w : World} (hf : RdI w a n ca f) (hi : In (-1000000) 1000000 f) (hS : Simp f L) (h1 : 1 ≤ n) (h4 : n ≤ 4) :
    Calls Tryd.prog 48 #[.slice a n ca] w fun e w' => ∃ a' c', e = .returned (.slice a' L.length c') ∧ RdM w' a' L.length c' L ∧ Below w.heap.size w w' := by
  have hlen := chainL_len f
  have hPf := plainL_pl f
  have hPl := plainL_len_le f
  rw [hf.len_eq] at hPl
  have hlast := chainL_pl f _ (lastL_mem f)
  have hr0 : rowOf (chainL f) 0 = plainL f := rfl
  obtain ⟨LL, hLL⟩ : ∃ LL, chainL f = LL := ⟨_, rfl⟩
  obtain ⟨K, hK⟩ : ∃ K, LL.length = K := ⟨_, rfl⟩
  have HFit : FitL (chainL f) := by cases hS with
    | same _ h => exact h
    | cut _ _ h _ _ _ _ => exact h
  have C1 := chain_any hf hi HFit h1 h4
  rw [hLL, hK] at C1
  have C1 := Lib.hid C1
  rw [hLL, hK] at hlen
  rw [hLL] at hlast hr0 HFit
  obtain ⟨k, rfl⟩ : ∃ k, K = k + 1 := ⟨K - 1, by omega⟩
  have el : lastL LL = rowOf LL k := by unfold lastL; rw [hK]; rfl
  have hrk := (HFit.row k (by omega)).2
  rw [el] at hlast
  have q1 : ((k + 1 : Nat) : Int) - 1 = (k : Int) := by omega
  have q2 : ((k : Int) + 1) - 1 = (k : Int) := by omega
  have q3 : (k : Int) < ((k + 1 : Nat) : Int) := by omega
  have q4 : (k : Int) < (k : Int) + 1 := by omega
  have q5 : (0 : Int) < ((k + 1 : Nat) : Int) := by omega
  have q6 : (0 : Int) < (k : Int) + 1 := by omega
  obtain ⟨G, hG⟩ : ∃ G, rowOf LL k = G := ⟨_, rfl⟩
  obtain ⟨R0, hR0⟩ : ∃ R, rowOf LL 0 = R := ⟨_, rfl⟩
  rw [hR0] at hr0
  rw [hG] at el hrk hlast
  have HG := Lib.hid hG
  have HR0 := Lib.hid hR0
  cases hS with
  | same h2 _ =>
    rw [hLL, el] at h2
    have q7 : (G.length : Int) < 2 := by omega
    have HL := Lib.hid hLL
    have HK := Lib.hid hK
    clear hLL hK hG hR0 HFit hr0 el
    go_enter Tryd.func48, Tryd.ntmps48
    go_wp2_with (go_at_call 68; fail)
    (with_reducible refine C1.out.mono ?_)
    clear C1
    rintro e w1 ⟨a1, c1, rfl, hM, b1⟩
    have lm := hM.len_max
    obtain ⟨bm, om, rfl, _, hrows⟩ := hM.at (k := k) (by omega)
    obtain ⟨ar, cr, hcell, hr⟩ := hrows k (by omega)
    rw [HG.out] at hcell hr
    clear hrows
    go_wp2
    go_ret
    rw [HL.out, HK.out]
    exact ⟨_, _, rfl, hM, b1⟩
  | cut h h2 _ hQ hhi hF2 _ =>
    rw [hLL, el] at h2 hQ
    have hq1 := quo_pos hPf hQ h2
    have hq2 := hQ.len
    have ht : topL G ≠ 0 := hlast.top (by omega)
    have q7 : (2 : Int) ≤ (G.length : Int) := by omega
    have e0 : R0 = plainL f := hr0
    rw [← e0] at hQ hq2 hPl
    have HQ := Lib.hid hQ
    have HHI := Lib.hid hhi
    have HF2 := Lib.hid hF2
    have HT := Lib.hid ht
    have HRK := Lib.hid hrk
    clear hLL hK hG hR0 HFit hr0 el hQ hhi hF2 ht hrk e0 hPf hlast
    go_enter Tryd.func48, Tryd.ntmps48
    go_wp2_with (go_at_call 68; fail)
    (with_reducible refine C1.out.mono ?_)
    clear C1
    rintro e w1 ⟨a1, c1, rfl, hM, b1⟩
    have lm := hM.len_max
    obtain ⟨bm, om, rfl, _, hrows⟩ := hM.at (k := k) (by omega)
    obtain ⟨ar, cr, hcell, hr⟩ := hrows k (by omega)
    obtain ⟨ar0, cr0, hcell0, hr0⟩ := hrows 0 (by omega)
    rw [HG.out] at hcell hr
    rw [HR0.out, Nat.add_zero] at hcell0
    rw [HR0.out] at hr0
    clear hrows
    go_wp2_with (go_at_call 69; fail)
    refine (quotient_any hr0 hr HQ.out HT.out HRK.out.2 HHI.out (by omega) hq1 (by omega)).mono ?_
    rintro e w2 ⟨a2, c2, rfl, ho2, b2⟩
    have k2 := below_tr b1 b2
    go_wp2_with (go_at_call 68; fail)
    refine (chain_any ho2.rd HHI.out HF2.out hq1 (by omega)).mono ?_
    rintro e w3 ⟨a3, c3, rfl, hM3, b3⟩
    have k3 := below_tr k2 b3
    go_wp2
    go_ret
    exact ⟨a3, c3, rfl, hM3, k3⟩
end Go.Proofs.YtoahegjjffggaaaDoor
