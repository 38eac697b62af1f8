/-
  The reference's Ends and Signs of whole factors walked.
  SturmSays walked: package sturm says what the document says.
-/
import Derived.Test.YtoahegjjffggaaaDoorRows
import Derived.BigQuiet
import Derived.Test.YtoahegjjffggaaaDoorMg0
import Derived.Test.YtoahegjjffggaaaDoorMg1
import Derived.Test.YtoahegjjffggaaaDoorMg2
import Derived.Test.YtoahegjjffggaaaDoorMg11
import Derived.Test.YtoahegjjffggaaaDoorMg15
import Derived.Test.YtoahegjjffggaaaDoorMg17
import Derived.Test.YtoahegjjffggaaaDoorMg18
namespace Go.Proofs.YtoahegjjffggaaaDoor
open Go.RowKit Go.Rk

set_option maxHeartbeats 2000000 in
theorem H_Signs_any {a : Option Addr} {n ca : Nat} {L : List (List Int)} {x : Int} {w : World} (hL : RdM w a n ca L) (hfit : ∀ i, i < n → (rowOf L i).length ≤ 4 ∧ In (-1000000) 1000000 (rowOf L i)) (hn : n ≤ 1000) (hx : -100 ≤ x ∧ x ≤ 100) :
    Calls Tryd.prog 26 #[.slice a n ca, .int .i64 x] w fun e w' => e = .returned (.int .i64 (VL L x : Int)) ∧ Below w.heap.size w w' := by
  have HM := Lib.hid intTy
  have HF := Lib.hid hfit
  have HL := Lib.hid hL.len_eq
  have b0 := Below.refl w.heap.size w
  clear hfit
  go_enter Tryd.func26, Tryd.ntmps26
  go_wp2
  go_loopw [5, 6] (fun v y wt => ∃ (k : Nat) (p : Option Addr) (cp : Nat), k ≤ n ∧ y = .int .i64 k ∧ v = .slice p k cp ∧ OwI wt w.heap.size 3 p k cp (rowF (fun i => evL (rowOf L i) x) k) ∧ Below w.heap.size w wt) (fun _ y _ => n - (intOf y).toNat)
  case atStart => exact ⟨0, none, 0, Nat.zero_le _, rfl, rfl, OwI.nil _ _ _, b0⟩
  case round =>
    obtain ⟨k, p, cp, hk, rfl, rfl, ho, hb⟩ := hrel
    by_cases hlt : k < n
    · have i1 : (k : Int) < (n : Int) := by omega
      obtain ⟨bm, om, rfl, hbm, hrows⟩ := hL.at hlt
      obtain ⟨ar, cr, hcell, hr0⟩ := hrows k hlt
      have y1 := hb.keep hbm hcell
      have hr := hr0.below hb
      obtain ⟨hl4, hin⟩ := HF.out k hlt
      have C := Lib.hid (H_Value_any (x := x) hr hin hl4 hx)
      have HX : Hid (rowF (fun i => evL (rowOf L i) x) (k + 1) = rowF (fun i => evL (rowOf L i) x) k ++ [evL (rowOf L k) x]) := rowF_succ _ _
      have hs := hb.size
      obtain ⟨f, hf⟩ : ∃ f, rowOf L k = f := ⟨_, rfl⟩
      rw [hf] at y1 C HX
      obtain ⟨V, hV⟩ : ∃ V, evL f x = V := ⟨_, rfl⟩
      rw [hV] at C HX
      obtain ⟨m, hm⟩ : ∃ m, f.length = m := ⟨_, rfl⟩
      rw [hm] at y1 C
      clear hf hin hcell hr0 hrows hr hl4 hV hm
      go_wp2_with (first | (go_at_call 52; (with_reducible refine C.out.mono ?_); clear C; rintro e w' ⟨rfl, rfl⟩) | (at_builtin; refine wpList_push_int HM.out rfl (.tmp 13) (.tmp 20) rfl rfl rfl (ho.alloc _) (z := V) (by simp) (by decide) (by decide) (by omega) (by simp; omega) ?_; intro a6 cap6 w6 ho6 hg6))
      have hb6 := (hb.alloc hs _).grown hg6 (by simp; omega) (fun r e => (ho.own.lt r e).1)
      go_roundw
      case rel => exact ⟨k + 1, a6, cap6, by omega, by go_num, rfl, by rw [HX.out]; exact ho6, hb6⟩
      case measure => simp [intOf]; omega
    · obtain rfl : n = k := by omega
      have e := rowF_map HL.out fun p => evL p x
      rw [e] at ho
      have C := Lib.hid (H_Turns_any ho.rd)
      go_wp2_with (first | (go_at_call 20; (with_reducible refine C.out.mono ?_); clear C; rintro e w' ⟨rfl, rfl⟩))
      go_ret
      exact ⟨rfl, hb⟩

set_option maxHeartbeats 4000000 in
theorem H_Ends_any {a : Option Addr} {n ca : Nat} {L : List (List Int)} {w : World} (hL : RdM w a n ca L) (hfit : ∀ i, i < n → 1 ≤ (rowOf L i).length ∧ (rowOf L i).length ≤ 4 ∧ In (-1000000) 1000000 (rowOf L i)) (hn : n ≤ 1000) :
    Calls Tryd.prog 18 #[.slice a n ca] w fun e w' => e = .returned (.int .i64 ((loL L : Int) - (hiL L : Int))) ∧ Below w.heap.size w w' := by
  have HM := Lib.hid intTy
  have HF := Lib.hid hfit
  have HL := Lib.hid hL.len_eq
  have b0 := Below.refl w.heap.size w
  clear hfit
  go_enter Tryd.func18, Tryd.ntmps18
  go_wp2
  go_loopw [3, 4, 5] (fun u v y wt => ∃ (k : Nat) (p q : Option Addr) (cp cq : Nat), k ≤ n ∧ y = .int .i64 k ∧ u = .slice p k cp ∧ v = .slice q k cq ∧ OwI wt w.heap.size 3 p k cp (rowF (fun i => lowT (rowOf L i)) k) ∧ OwI wt w.heap.size 3 q k cq (rowF (fun i => topL (rowOf L i)) k) ∧ ApartS (.slice q k cq) (.slice p k cp) ∧ Below w.heap.size w wt) (fun _ _ y _ => n - (intOf y).toNat)
  case atStart => exact ⟨0, none, none, 0, 0, Nat.zero_le _, rfl, rfl, rfl, OwI.nil _ _ _, OwI.nil _ _ _, (fun b h => by cases h), b0⟩
  case round =>
    obtain ⟨k, p, q, cp, cq, hk, rfl, rfl, rfl, hlo, hhi, hap, hb⟩ := hrel
    by_cases hlt : k < n
    · have i1 : (k : Int) < (n : Int) := by omega
      obtain ⟨bm, om, rfl, hbm, hrows⟩ := hL.at hlt
      obtain ⟨ar, cr, hcell, hr0⟩ := hrows k hlt
      have y1 := hb.keep hbm hcell
      have hr := hr0.below hb
      obtain ⟨hl1, hl4, hin⟩ := HF.out k hlt
      have HX : Hid (rowF (fun i => lowT (rowOf L i)) (k + 1) = rowF (fun i => lowT (rowOf L i)) k ++ [lowT (rowOf L k)]) := rowF_succ _ _
      have HY : Hid (rowF (fun i => topL (rowOf L i)) (k + 1) = rowF (fun i => topL (rowOf L i)) k ++ [topL (rowOf L k)]) := rowF_succ _ _
      obtain ⟨f, hf⟩ : ∃ f, rowOf L k = f := ⟨_, rfl⟩
      rw [hf] at y1 hr hl4 hin hl1 HX HY
      have hs := hb.size
      obtain ⟨m, hm⟩ : ∃ m, f.length = m + 1 := ⟨f.length - 1, by omega⟩
      have HIn := Lib.hid hin
      have HcL : Hid (w.cell? ⟨bm, om + k, none⟩ = some (.slice ar (m + 1) cr)) := by rw [hf, hm] at hcell; exact hcell
      clear hf hcell hr0 hrows
      rw [hm] at y1 hr hl4
      have b3 := HIn.out m (by rw [hm]; omega)
      have eT : topL f = ix f m := by unfold topL; rw [hm]; rfl
      obtain ⟨bf, of_, rfl, _, hc⟩ := hr.at (k := m) (by omega)
      have y2 := hc m (by omega)
      obtain ⟨X, hX⟩ : ∃ X, ix f m = X := ⟨_, rfl⟩
      rw [hX] at y2 b3 eT
      rw [eT] at HY
      have t1 : ((m + 1 : Nat) : Int) - 1 = (m : Int) := by omega
      have t2 : ((m : Int) + 1) - 1 = (m : Int) := by omega
      have i2 : (m : Int) < (m : Int) + 1 := by omega
      have i3 : (m : Int) < ((m + 1 : Nat) : Int) := by omega
      have u1 : IntKind.i64.wrap (-X) = -X := Go.IntWalk.i64_in _ (by omega)
      have um : IntKind.i64.wrap (m : Int) = (m : Int) := Go.IntWalk.i64_in _ (by omega)
      have hlowv : (m + 1) % 2 = 0 ∧ lowT f = -X ∨ (m + 1) % 2 = 1 ∧ lowT f = X := by
        rcases Nat.mod_two_eq_zero_or_one (m + 1) with e | e
        · left; refine ⟨e, ?_⟩; unfold lowT; rw [if_pos (by rw [hm]; exact e), eT]
        · right; refine ⟨e, ?_⟩; unfold lowT; rw [if_neg (by rw [hm, e]; decide), eT]
      clear hX hc hin hl1 hm eT hr
      go_wp2_with fail
      go_quiet (fail)
      have hlo := hlo.drewN nq
      have hhi := hhi.drewN nq
      have hb := below_drewN hb nq
      clear y1 y2
      generalize wr.drewN nq = W2 at *
      have hs := hb.size
      rcases hlowv with ⟨e, hv⟩ | ⟨e, hv⟩
      · have z0 : ((m : Int) + 1).tmod 2 = 0 := by rw [Int.tmod_eq_emod_of_nonneg (by omega)]; omega
        have z1 : (((m + 1 : Nat) : Int)).tmod 2 = 0 := by rw [Int.tmod_eq_emod_of_nonneg (by omega)]; omega
        rw [hv] at HX
        clear hv e
        go_wp2_with (first | (at_builtin; refine wpList_push_int2 HM.out rfl (.tmp 25) (.tmp 27) rfl rfl rfl (hhi.alloc _) (z := X) (by simp) (by decide) (by decide) (by omega) (by simp; omega) ?_; intro a6 cap6 w6 ho6 hg6 hn6; have k6 := below_grown (hb.alloc hs (.cells #[.int .i64 X] 3)) (hhi.alloc _) (by simp; omega) hg6; have y1 := k6.keep hbm HcL.out; have hs6 := k6.size; have hlo6 := (hlo.alloc (.cells #[.int .i64 X] 3)).grown hg6 hap.row; have hap6 := hap.fresh hn6 fun b hb => ((hlo.alloc (.cells #[.int .i64 X] 3)).own.lt b hb).2) | (at_builtin; refine wpList_push_int2 HM.out rfl (.tmp 38) (.tmp 40) rfl rfl rfl (hlo6.alloc _) (z := -X) (by simp) (by decide) (by decide) (by omega) (by simp; omega) ?_; intro a7 cap7 w7 ho7 hg7 hn7))
        have k7 := below_grown (k6.alloc hs6 (.cells #[.int .i64 (-X)] 3)) (hlo6.alloc _) (by simp; omega) hg7
        have hhi7 := (ho6.alloc (.cells #[.int .i64 (-X)] 3)).grown hg7 hap6.symm.row
        have hap7 := (hap6.symm.fresh hn7 fun b hb => ((ho6.alloc (.cells #[.int .i64 (-X)] 3)).own.lt b hb).2).symm
        go_roundw
        case rel => exact ⟨k + 1, a7, a6, cap7, cap6, by omega, by go_num, rfl, rfl, by rw [HX.out]; exact ho7, by rw [HY.out]; exact hhi7, hap7, k7⟩
        case measure => simp [intOf]; omega
      · have z0 : ((m : Int) + 1).tmod 2 = 1 := by rw [Int.tmod_eq_emod_of_nonneg (by omega)]; omega
        have z1 : (((m + 1 : Nat) : Int)).tmod 2 = 1 := by rw [Int.tmod_eq_emod_of_nonneg (by omega)]; omega
        rw [hv] at HX
        clear hv e
        go_wp2_with (first | (at_builtin; refine wpList_push_int2 HM.out rfl (.tmp 25) (.tmp 27) rfl rfl rfl (hhi.alloc _) (z := X) (by simp) (by decide) (by decide) (by omega) (by simp; omega) ?_; intro a6 cap6 w6 ho6 hg6 hn6; have k6 := below_grown (hb.alloc hs (.cells #[.int .i64 X] 3)) (hhi.alloc _) (by simp; omega) hg6; have y1 := k6.keep hbm HcL.out; have hs6 := k6.size; have hlo6 := (hlo.alloc (.cells #[.int .i64 X] 3)).grown hg6 hap.row; have hap6 := hap.fresh hn6 fun b hb => ((hlo.alloc (.cells #[.int .i64 X] 3)).own.lt b hb).2) | (at_builtin; refine wpList_push_int2 HM.out rfl (.tmp 38) (.tmp 40) rfl rfl rfl (hlo6.alloc _) (z := X) (by simp) (by decide) (by decide) (by omega) (by simp; omega) ?_; intro a7 cap7 w7 ho7 hg7 hn7))
        have k7 := below_grown (k6.alloc hs6 (.cells #[.int .i64 (X)] 3)) (hlo6.alloc _) (by simp; omega) hg7
        have hhi7 := (ho6.alloc (.cells #[.int .i64 (X)] 3)).grown hg7 hap6.symm.row
        have hap7 := (hap6.symm.fresh hn7 fun b hb => ((ho6.alloc (.cells #[.int .i64 (X)] 3)).own.lt b hb).2).symm
        go_roundw
        case rel => exact ⟨k + 1, a7, a6, cap7, cap6, by omega, by go_num, rfl, rfl, by rw [HX.out]; exact ho7, by rw [HY.out]; exact hhi7, hap7, k7⟩
        case measure => simp [intOf]; omega
    · obtain rfl : n = k := by omega
      have e1 := rowF_map HL.out lowT
      have e2 := rowF_map HL.out topL
      rw [e1] at hlo
      rw [e2] at hhi
      have C1 := H_Turns_any hlo.rd
      have C2 := H_Turns_any hhi.rd
      have c1 := changesL_le (L.map lowT)
      have c2 := changesL_le (L.map topL)
      rw [List.length_map, HL.out] at c1 c2
      have f1 : changesL (L.map lowT) = loL L := rfl
      have f2 : changesL (L.map topL) = hiL L := rfl
      rw [f1] at C1 c1
      rw [f2] at C2 c2
      have C1 := Lib.hid C1
      have C2 := Lib.hid C2
      have u1 : IntKind.i64.wrap ((loL L : Int) - (hiL L : Int)) = (loL L : Int) - (hiL L : Int) := Go.IntWalk.i64_in _ (by omega)
      clear e1 e2 f1 f2 hlo hhi hap
      go_wp2_with (first | (go_at_call 20; first | ((with_reducible refine C1.out.mono ?_); clear C1; rintro e w' ⟨rfl, rfl⟩) | ((with_reducible refine C2.out.mono ?_); clear C2; rintro e w' ⟨rfl, rfl⟩)))
      go_ret
      exact ⟨rfl, hb⟩
end Go.Proofs.YtoahegjjffggaaaDoor
namespace Go.Proofs.YtoahegjjffggaaaDoor
open Go.RowKit Go.Rk

theorem wholeR_nz {f : List Int} {x : Int} (h : wholeR f = some x) : x ≠ 0 := by
  unfold wholeR at h
  split at h
  · cases h; decide
  · split at h
    · cases h; decide
    · split at h
      · cases h; decide
      · split at h
        · cases h; decide
        · cases h

set_option maxHeartbeats 8000000 in
set_option maxRecDepth 100000 in
theorem sturmSays_walk {p : Option Addr} {n ca : Nat} {f : List Int} {x y : Int} {w : World} (hg : ErrT w) (hf : RdI w p n ca f) (_ : Fit f) (_ : (Lit.int .i64 x).wf = true) (_ : (Lit.int .i64 y).wf = true) :
    Calls Tryd.prog 5 #[.slice p n ca, .int .i64 x, .int .i64 y] w fun e w' => e = .returned (.bool true) ∧ Below w.heap.size w w' := by
  have CW := H_Whole_any hf
  rcases ho : wholeR f with _ | c
  rotate_left
  · have hc := wholeR_nz ho
    rw [ho] at CW
    have CW := Lib.hid CW
    have HO := Lib.hid ho
    have z0 : (c == 0) = false := beq_eq_false_iff_ne.2 hc
    clear ho hc
    go_enter Tryd.func5, Tryd.ntmps5
    go_wp2_with (first | (go_at_call 16; (with_reducible refine CW.out.mono ?_); clear CW; rintro e w' ⟨rfl, rfl⟩; simp only [Option.getD_some]) | (go_at_call 17; refine (sturm_Check_is hf HO.out).mono ?_; rintro e w' ⟨rfl, rfl⟩; simp only [errV]) | (go_at_call 10; fail))
    refine (E_same hg).mono ?_
    rintro e w1 ⟨rfl, k1⟩
    go_wp2_with (first | (go_at_call 22; refine (sturm_All_err (hf.below k1) HO.out).mono ?_; rintro e w' ⟨rfl, rfl⟩) | (go_at_call 10; fail))
    refine (E_same (hg.below k1)).mono ?_
    rintro e w2 ⟨rfl, b2⟩
    have k2 := below_tr k1 b2
    go_wp2_with (first | (go_at_call 23; refine (sturm_Turns_err (hf.below k2) HO.out).mono ?_; rintro e w' ⟨rfl, rfl⟩) | (go_at_call 10; fail))
    refine (E_same (hg.below k2)).mono ?_
    rintro e w3 ⟨rfl, b3⟩
    have k3 := below_tr k2 b3
    go_wp2_with (first | (go_at_call 24; refine (sturm_Content_err (hf.below k3) HO.out).mono ?_; rintro e w' ⟨rfl, rfl⟩) | (go_at_call 10; fail))
    refine (E_same (hg.below k3)).mono ?_
    rintro e w4 ⟨rfl, b4⟩
    have k4 := below_tr k3 b4
    go_wp2_with (first | (go_at_call 27; refine (sturm_Count_err (hf.below k4) HO.out).mono ?_; rintro e w' ⟨rfl, rfl⟩) | (go_at_call 10; fail))
    refine (E_same (hg.below k4)).mono ?_
    rintro e w5 ⟨rfl, b5⟩
    have k5 := below_tr k4 b5
    go_wp2
    go_ret
    exact ⟨rfl, k5⟩
  rw [ho] at CW
  have CW := Lib.hid CW
  obtain ⟨h1, h4, hi, ht⟩ := wholeR_none ho
  obtain ⟨L, hS, hT⟩ := simp_stm h1 h4 hi ht
  rw [hf.len_eq] at h1 h4
  have HO := Lib.hid ho
  have HS := Lib.hid hS
  have HI : Hid (In (-1000000) 1000000 f) := fun k hk => by have := hi k hk; omega
  have HI2 : Hid (In (-4611686018427387904) 4611686018427387904 f) := fun k hk => by have := hi k hk; omega
  have HF := Lib.hid hS.fit.row
  have HF2 : Hid (∀ i, i < L.length → (rowOf L i).length ≤ 4 ∧ In (-1000000) 1000000 (rowOf L i)) := fun i hi => (hS.fit.row i hi).2
  have ln4 : Hid (L.length ≤ 1000) := by have := hS.len (by rw [hf.len_eq]; exact h4); unfold Hid; omega
  clear ho hi ht hS hT
  go_enter Tryd.func5, Tryd.ntmps5
  go_wp2_with (first | (go_at_call 16; (with_reducible refine CW.out.mono ?_); clear CW; rintro e w' ⟨rfl, rfl⟩; simp only [Option.getD_none]) | (go_at_call 17; refine (sturm_Check_is hf HO.out).mono ?_; rintro e w' ⟨rfl, rfl⟩; simp only [errV]) | (go_at_call 10; fail))
  refine (E_nil0 hg).mono ?_
  rintro e w1 ⟨rfl, k1⟩
  go_wp2_with (go_at_call 19; fail)
  refine (H_Chain_any (hf.below k1) HI.out HS.out h1 h4).mono ?_
  rintro e w2 ⟨a2, c2, rfl, hL2, b2⟩
  have k2 := below_tr k1 b2
  go_wp2_with (go_at_call 18; fail)
  refine (H_Ends_any hL2 HF.out ln4.out).mono ?_
  rintro e w3 ⟨rfl, b3⟩
  have k3 := below_tr k2 b3
  obtain ⟨A, hA⟩ : ∃ A, (loL L : Int) - (hiL L : Int) = A := ⟨_, rfl⟩
  rw [hA]
  have HA := Lib.hid hA
  clear hL2 hA b2 b3
  go_wp2_with (first | (go_at_call 20; refine (H_Turns_any (hf.below k3)).mono ?_; rintro e w' ⟨rfl, rfl⟩) | (go_at_call 21; refine (H_Content_any (hf.below k3) HI2.out).mono ?_; rintro e w' ⟨rfl, rfl⟩) | (go_at_call 22; fail))
  refine (sturm_All_ok (hf.below k3) HO.out HS.out).mono ?_
  rintro e w4 ⟨rfl, b4⟩
  have k4 := below_tr k3 b4
  rw [HA.out]
  obtain ⟨T, hTt⟩ : ∃ T, (changesL f : Int) = T := ⟨_, rfl⟩
  obtain ⟨C, hC⟩ : ∃ C, (contL f : Int) = C := ⟨_, rfl⟩
  simp only [hTt, hC]
  have HT := Lib.hid hTt
  have HC := Lib.hid hC
  have zA : (A == A) = true := beq_iff_eq.2 rfl
  have zT : (T == T) = true := beq_iff_eq.2 rfl
  have zC : (C == C) = true := beq_iff_eq.2 rfl
  clear hTt hC b4
  go_wp2_with (go_at_call 10; fail)
  refine (E_nil0 (hg.below k4)).mono ?_
  rintro e w5 ⟨rfl, b5⟩
  have k5 := below_tr k4 b5
  clear b5
  go_wp2_with (go_at_call 23; fail)
  refine (sturm_Turns_ok (hf.below k5) HO.out).mono ?_
  rintro e w' ⟨rfl, rfl⟩
  rw [HT.out]
  go_wp2_with (go_at_call 10; fail)
  refine (E_nil0 (hg.below k5)).mono ?_
  rintro e w6 ⟨rfl, b6⟩
  have k6 := below_tr k5 b6
  clear b6
  go_wp2_with (go_at_call 24; fail)
  refine (sturm_Content_ok (hf.below k6) HO.out).mono ?_
  rintro e w7 ⟨rfl, b7⟩
  have k7 := below_tr k6 b7
  rw [HC.out]
  clear b7
  go_wp2_with (go_at_call 10; fail)
  refine (E_nil0 (hg.below k7)).mono ?_
  rintro e w8 ⟨rfl, b8⟩
  have k8 := below_tr k7 b8
  clear b8
  have C1 := L3_in_any x (-100) 100
  have C2 := L3_in_any y x 100
  by_cases hr : InR x y
  · rw [show inB x (-100) 100 = true by unfold inB; simp; exact ⟨hr.1, hr.2.1⟩] at C1
    rw [show inB y x 100 = true by unfold inB; simp; exact ⟨hr.2.2.1, hr.2.2.2⟩] at C2
    have C1 := Lib.hid C1
    have C2 := Lib.hid C2
    have HR := Lib.hid hr
    have hx1 : -100 ≤ x ∧ x ≤ 100 := ⟨hr.1, hr.2.1⟩
    have hy1 : -100 ≤ y ∧ y ≤ 100 := ⟨by have := hr.1; have := hr.2.2.1; omega, hr.2.2.2⟩
    clear hr
    go_wp2_with (first | (go_at_call 25; first | ((with_reducible refine (C1.out _).mono ?_); clear C1; rintro e w' ⟨rfl, rfl⟩) | ((with_reducible refine (C2.out _).mono ?_); clear C2; rintro e w' ⟨rfl, rfl⟩)) | (go_at_call 19; fail))
    refine (H_Chain_any (hf.below k8) HI.out HS.out h1 h4).mono ?_
    rintro e w9 ⟨a9, c9, rfl, hL9, b9⟩
    have k9 := below_tr k8 b9
    go_wp2_with (go_at_call 26; fail)
    refine (H_Signs_any hL9 HF2.out ln4.out hx1).mono ?_
    rintro e w10 ⟨rfl, b10⟩
    have k10 := below_tr k9 b10
    have hL10 := hL9.below b10
    go_wp2_with (go_at_call 26; fail)
    refine (H_Signs_any hL10 HF2.out ln4.out hy1).mono ?_
    rintro e w11 ⟨rfl, b11⟩
    have k11 := below_tr k10 b11
    have c1 := changesL_le (L.map fun p => evL p x)
    have c2 := changesL_le (L.map fun p => evL p y)
    rw [List.length_map] at c1 c2
    have CC := sturm_Count_ok (hf.below k11) HO.out HR.out HS.out
    have e1 : changesL (L.map fun p => evL p x) = VL L x := rfl
    have e2 : changesL (L.map fun p => evL p y) = VL L y := rfl
    rw [e1] at c1
    rw [e2] at c2
    have hl5 := ln4.out
    have u1 : IntKind.i64.wrap ((VL L x : Int) - (VL L y : Int)) = (VL L x : Int) - (VL L y : Int) := Go.IntWalk.i64_in _ (by omega)
    obtain ⟨V1, hV1⟩ : ∃ V, VL L x = V := ⟨_, rfl⟩
    obtain ⟨V2, hV2⟩ : ∃ V, VL L y = V := ⟨_, rfl⟩
    rw [hV1, hV2] at CC u1
    rw [hV1] at c1
    rw [hV2] at c2
    simp only [hV1, hV2]
    have CC := Lib.hid CC
    have zV : ((V1 : Int) - (V2 : Int) == (V1 : Int) - (V2 : Int)) = true := beq_iff_eq.2 rfl
    clear e1 e2 hV1 hV2 hL9 hL10 b9 b10 b11
    go_wp2_with (first | (go_at_call 27; (with_reducible refine CC.out.mono ?_); clear CC; rintro e w12 ⟨rfl, b12⟩; have k12 := below_tr k11 b12) | (go_at_call 10; fail))
    refine (E_nil0 (hg.below k12)).mono ?_
    rintro e w13 ⟨rfl, b13⟩
    have k13 := below_tr k12 b13
    go_wp2
    go_ret
    exact ⟨rfl, k13⟩
  · have CC := Lib.hid (sturm_Count_out (hf.below k8) HO.out hr)
    rcases g1 : inB x (-100) 100 with _ | _
    · rw [g1] at C1
      have C1 := Lib.hid C1
      clear g1 hr C2
      go_wp2_with (first | (go_at_call 25; (with_reducible refine (C1.out _).mono ?_); clear C1; rintro e w' ⟨rfl, rfl⟩) | (go_at_call 27; (with_reducible refine CC.out.mono ?_); clear CC; rintro e w' ⟨rfl, rfl⟩) | (go_at_call 10; fail))
      refine (E_same (hg.below k8)).mono ?_
      rintro e w9 ⟨rfl, b9⟩
      have k9 := below_tr k8 b9
      go_wp2
      go_ret
      exact ⟨rfl, k9⟩
    · have g2 : inB y x 100 = false := by
        rcases g2 : inB y x 100 with _ | _
        · rfl
        · have e1 := inB_true g1
          have e2 := inB_true g2
          exact absurd ⟨e1.1, e1.2, e2.1, e2.2⟩ hr
      rw [g1] at C1
      rw [g2] at C2
      have C1 := Lib.hid C1
      have C2 := Lib.hid C2
      clear g1 g2 hr
      go_wp2_with (first | (go_at_call 25; first | ((with_reducible refine (C1.out _).mono ?_); clear C1; rintro e w' ⟨rfl, rfl⟩) | ((with_reducible refine (C2.out _).mono ?_); clear C2; rintro e w' ⟨rfl, rfl⟩)) | (go_at_call 27; (with_reducible refine CC.out.mono ?_); clear CC; rintro e w' ⟨rfl, rfl⟩) | (go_at_call 10; fail))
      refine (E_same (hg.below k8)).mono ?_
      rintro e w9 ⟨rfl, b9⟩
      have k9 := below_tr k8 b9
      go_wp2
      go_ret
      exact ⟨rfl, k9⟩
end Go.Proofs.YtoahegjjffggaaaDoor
