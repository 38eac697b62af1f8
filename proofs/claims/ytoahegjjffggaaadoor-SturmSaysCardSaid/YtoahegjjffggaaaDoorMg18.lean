/-
  The reference's split of whole factors walked.
  The reference's rests, Chain, Ends and Signs of whole factors walked.
-/
import Derived.Test.YtoahegjjffggaaaDoorRows
import Derived.BigQuiet
import Derived.StillTailTactics
import Derived.Deep.QuietTactic
import Derived.Deep.Cut
import Derived.Deep.CutRange
import Derived.Deep.DeepCutAuto
import Derived.Test.YtoahegjjffggaaaDoorMg0
import Derived.Test.YtoahegjjffggaaaDoorMg1
import Derived.Test.YtoahegjjffggaaaDoorMg2
import Derived.Test.YtoahegjjffggaaaDoorMg11
import Derived.Test.YtoahegjjffggaaaDoorMg14
import Derived.Test.YtoahegjjffggaaaDoorMg16
import Derived.Test.YtoahegjjffggaaaDoorMg17
namespace Go.Rk
open Go.RowKit Go.Proofs.YtoahegjjffggaaaDoor

theorem rep_ix (n k : Nat) : ix (List.replicate n (0 : Int)) k = 0 := by
  rcases Nat.lt_or_ge k n with h | h
  · rw [ix_lt (by simpa using h)]; simp
  · exact ix_ge (by simpa using h)
theorem qS_step {Q Q' g : List Int} {Z K : Int} {s i : Nat} : ∀ n : Nat, (∀ j, j < n → ix Q' j = Z * ix Q j + if j = s then K else 0) → qS Q' g n i = Z * qS Q g n i + (if s < n ∧ s ≤ i then K * ix g (i - s) else 0)
  | 0, _ => by
    rw [if_neg (by omega)]
    show (0 : Int) = Z * 0 + 0
    omega
  | n + 1, h => by
    rw [qS_succ, qS_succ, qS_step n fun j hj => h j (by omega), h n (by omega)]
    by_cases e1 : n ≤ i
    · rw [if_pos e1, if_pos e1]
      by_cases e2 : n = s
      · subst e2
        rw [if_pos rfl, if_neg (by omega), if_pos ⟨by omega, e1⟩]
        grind
      · rw [if_neg e2]
        by_cases e3 : s < n ∧ s ≤ i
        · rw [if_pos e3, if_pos ⟨by omega, e3.2⟩]; grind
        · rw [if_neg e3, if_neg (by omega)]; grind
    · rw [if_neg e1, if_neg e1, Int.add_zero, Int.add_zero]
      by_cases e3 : s < n ∧ s ≤ i
      · rw [if_pos e3, if_pos ⟨by omega, e3.2⟩]
      · rw [if_neg e3, if_neg (by omega)]
/-- What has gone so far. -/
structure SpSt (a g Q F : List Int) (M : Int) : Prop where
  pos : 0 < M
  eq : ∀ i, M * ix a i = qS Q g 8 i + ix F i
theorem SpSt.step {a g Q F Q' : List Int} {M Z K : Int} {s : Nat} (h : SpSt a g Q F M) (hl : F.length = s + g.length) (hg : 0 < g.length) (hs : s < 8) (hZ : Z = ((topL g).natAbs : Int)) (hT : topL g ≠ 0) (hK : K = sgT (topL g) * topL F) (hQ : ∀ j, j < 8 → ix Q' j = Z * ix Q j + if j = s then K else 0) :
    SpSt a g Q' (rowF (stepE F g) (F.length - 1)) (Z * M) := by
  have Z0 : 0 < Z := by omega
  refine ⟨Int.mul_pos Z0 h.pos, fun i => ?_⟩
  rw [Int.mul_assoc, h.eq, qS_step 8 hQ, Int.mul_add, Int.add_assoc]
  congr 1
  rw [ix_rowF]
  have e0 : stepE F g i = Z * ix F i - (if s ≤ i then K * ix g (i - s) else 0) := by
    unfold stepE
    rw [← hZ, ← hK, show F.length - g.length = s by omega]
  by_cases e1 : i < F.length - 1
  · rw [if_pos e1, e0]
    by_cases e2 : s ≤ i
    · rw [if_pos ⟨hs, e2⟩, if_pos e2]; omega
    · rw [if_neg (by omega), if_neg e2]; omega
  · rw [if_neg e1]
    by_cases e3 : i = F.length - 1
    · have e4 := step_top (f := F) (g := g) hg (by omega)
      rw [← e3, e0, if_pos (by omega)] at e4
      rw [if_pos ⟨hs, by omega⟩]; omega
    · rw [ix_ge (l := F) (by omega), ix_ge (l := g) (by omega)]
      simp
theorem RdI.setAway {w : World} {a : Option Addr} {n c : Nat} {l : List Int} {p : Addr} {v : Value} (h : RdI w a n c l) (hp : n = 0 ∨ ∀ b off, a = some ⟨b, off, none⟩ → p.block ≠ b) : RdI (w.setCell p v) a n c l := by
  refine ⟨h.len_eq, h.le, h.max, fun k hk => ?_⟩
  obtain ⟨b, off, ha, hc⟩ := h.cell k hk
  refine ⟨b, off, ha, ?_⟩
  rcases hp with e | e
  · omega
  · rw [World.cell?_setCell_other _ _ _ _ (fun q => e b off ha (by rw [q]))]
    exact hc
end Go.Rk
namespace Go.Proofs.YtoahegjjffggaaaDoor
open Go.RowKit Go.Rk

set_option maxHeartbeats 8000000 in
set_option maxRecDepth 100000 in
theorem H_split_any {a b : Option Addr} {n ca m cb : Nat} {f g : List Int} {w : World} (hf : RdI w a n ca f) (hg : RdI w b m cb g) (hF : FitS f g) (ht : topL g ≠ 0) (hig : In (-1000000) 1000000 g) (h1 : 1 ≤ m) (hn : n ≤ 8) (hm : m ≤ 8) :
    Calls Tryd.prog 45 #[.slice a n ca, .slice b m cb] w fun e w' => ∃ a1 c1 a2 c2 Q M F, e = .returned (.tuple #[.slice a1 (plainL Q).length c1, .slice a2 (restL f g).length c2]) ∧ RdI w' a1 (plainL Q).length c1 (plainL Q) ∧ RdI w' a2 (restL f g).length c2 (restL f g) ∧ SpSt f g Q F M ∧ F.length < m ∧ Q.length = 8 ∧ Below w.heap.size w w' := by
  obtain ⟨A, B, hA, hB, hA1, hB1, hfit⟩ := hF
  have HM := Lib.hid intTy
  have HGL := Lib.hid hg.len_eq
  have HBg := Lib.hid hB
  have HB1 := Lib.hid hB1
  have HFit0 : Hid (A * (2 * B) ^ (n + 1 - m) ≤ 4611686018427387904) := by rw [← hf.len_eq, ← hg.len_eq]; exact hfit
  have HIF : Hid (In (-(A : Int)) A f) := hA
  have HT := Lib.hid ht
  have HA1 := Lib.hid hA1
  clear hA hB hfit ht
  obtain ⟨q, rfl⟩ : ∃ q, m = q + 1 := ⟨m - 1, by omega⟩
  obtain ⟨bg, og, rfl, hbg, hcg⟩ := hg.at (k := q) (by omega)
  have yT := hcg q (by omega)
  obtain ⟨T, hT⟩ : ∃ T, ix g q = T := ⟨_, rfl⟩
  rw [hT] at yT
  have eT : Hid (topL g = T) := by unfold Hid topL; rw [HGL.out]; exact hT
  have bT := HBg.out q (by rw [HGL.out]; omega)
  rw [hT] at bT
  have bT2 := hig q (by rw [HGL.out]; omega)
  rw [hT] at bT2
  have HcG := Lib.hid hcg
  have t1 : ((q + 1 : Nat) : Int) - 1 = (q : Int) := by omega
  have t2 : ((q : Int) + 1) - 1 = (q : Int) := by omega
  have i1 : (q : Int) < (q : Int) + 1 := by omega
  have i0 : (q : Int) < ((q + 1 : Nat) : Int) := by omega
  clear hT hcg hig
  go_enter Tryd.func45, Tryd.ntmps45
  go_wp2_with (first | (at_make; refine wpList_make_ints HM.out rfl (.const (.int .i64 8)) (.const (.int .i64 8)) (n := 8) rfl rfl rfl (by decide) ?_; intro w2 ho2 hb2))
  obtain ⟨gq, hz, _, _, _, _⟩ := ho2.at (by decide)
  have hgq : gq = w.heap.size := by cases hz; rfl
  have S0 : Hid (SpSt f g (List.replicate 8 (0 : Int)) f 1) := by
    refine ⟨by decide, fun i => ?_⟩
    have e : ∀ k, ix (List.replicate 8 (0 : Int)) k = 0 := rep_ix 8
    have e2 : qS (List.replicate 8 (0 : Int)) g 8 i = 0 := by
      unfold qS
      rw [sumTo_congr (h := fun _ => 0) fun j _ => by rw [e]; split <;> simp, sumTo_zero]
    rw [e2]; omega
  have QB0 : Hid (∀ j, -(A : Int) ≤ ix (List.replicate 8 (0 : Int)) j ∧ ix (List.replicate 8 (0 : Int)) j ≤ A) := fun j => by rw [rep_ix]; omega
  have hf2 := hf.below hb2
  go_loopw [0] (fun v wt => ∃ (A' l : Nat) (p : Option Addr) (c : Nat) (F Q : List Int) (M : Int), v = .slice p l c ∧ l ≤ n ∧ RdI wt p l c F ∧ OwI wt w.heap.size 3 (some ⟨w.heap.size, 0, none⟩) 8 8 Q ∧ Hid (restL F g = restL f g) ∧ Hid (In (-(A' : Int)) A' F) ∧ Hid (∀ j, -(A' : Int) ≤ ix Q j ∧ ix Q j ≤ A') ∧ Hid (A' * (2 * B) ^ (l + 1 - (q + 1)) ≤ 4611686018427387904) ∧ Hid (SpSt f g Q F M) ∧ Below w.heap.size w wt) (fun v _ => lenOf v)
  case atStart => exact ⟨A, n, a, ca, f, _, 1, rfl, Nat.le_refl _, hf2, ho2, rfl, HIF.out, QB0.out, HFit0.out, S0.out, hb2⟩
  case round =>
    clear ho2 hf2 hb2 S0 QB0 hz hgq
    obtain ⟨A', l, p, c, F, Q, M, rfl, hln, hFr, hO, hR, hI, hQb, hFt, hS, hb⟩ := hrel
    obtain ⟨wo, hwo⟩ : ∃ x, x = wr := ⟨_, rfl⟩
    subst hwo
    have HFL := Lib.hid hFr.len_eq
    have hA62 := fit_le hFt.out HB1.out
    by_cases hlt : l < q + 1
    · have i2 : (l : Int) ≤ (q : Int) := by omega
      have HQL := Lib.hid hO.len_eq
      have C1 := Lib.hid (H_plain_any hO.rd (fun j hj => by have := hQb.out j; omega) (by decide))
      have hE : Hid (restL f g = plainL F) := by unfold Hid; rw [← hR.out, restL_small (by rw [HFL.out, HGL.out]; exact hlt)]
      go_wp2_with (go_at_call 66; fail)
      (with_reducible refine C1.out.mono ?_)
      clear C1
      rintro e w3 ⟨a3, c3, rfl, ho3, b3⟩
      have k3 := below_tr hb b3
      have C2 := Lib.hid (H_plain_any (hFr.below b3) (fun j hj => by have := hI.out j hj; omega) (by omega))
      have r3 := ho3.rd
      clear ho3
      go_wp2_with (go_at_call 66; fail)
      (with_reducible refine C2.out.mono ?_)
      clear C2
      rintro e w4 ⟨a4, c4, rfl, ho4, b4⟩
      have k4 := below_tr k3 b4
      have r4 := ho4.rd
      have r3' := r3.below b4
      clear ho4 r3
      go_wp2
      go_ret2
      refine ⟨a3, c3, a4, c4, Q, M, F, ?_, r3', ?_, hS.out, ?_, HQL.out, k4⟩
      · rw [hE.out]; rfl
      · rw [hE.out]; exact r4
      · rw [HFL.out]; exact hlt
    · obtain ⟨s, rfl⟩ : ∃ s, l = q + s + 1 := ⟨l - q - 1, by omega⟩
      have hs8 : s < 8 := by omega
      have i2 : (q : Int) < ((q + s + 1 : Nat) : Int) := by omega
      have i2' : (0 : Int) < ((q + s + 1 : Nat) : Int) := by omega
      have i3 : (q : Int) < (q : Int) + (s : Int) + 1 := by omega
      have i3' : (0 : Int) < (q : Int) + (s : Int) + 1 := by omega
      have hM := fit_use hFt.out (by omega) HB1.out
      obtain ⟨D, hD⟩ : ∃ D, A' * B = D := ⟨_, rfl⟩
      have hD2 : 2 * D ≤ 4611686018427387904 := by rw [← hD]; have e : A' * (2 * B) = 2 * (A' * B) := by grind
                                                   omega
      have eD : (A' : Int) * (B : Int) = (D : Int) := by rw [← hD, Int.natCast_mul]
      have HD := Lib.hid hD
      have hAD : A' ≤ D := by rw [← hD]; exact Nat.le_mul_of_pos_right _ HB1.out
      clear hD hM
      have eN : Hid (restL (rowF (stepE F g) (q + s)) g = restL f g) := by
        unfold Hid
        rw [← hR.out, restL_step (f := F) (by rw [eT.out]; rw [← eT.out]; exact HT.out) (by rw [HFL.out, HGL.out]; omega) (by rw [HGL.out]; omega), HFL.out]
        rfl
      obtain ⟨bf, of_, rfl, hbf, hcF⟩ := hFr.at (k := q + s) (by omega)
      have x1 := hcF (q + s) (by omega)
      obtain ⟨K, hK⟩ : ∃ K, ix F (q + s) = K := ⟨_, rfl⟩
      have bK := hI.out (q + s) (by rw [HFL.out]; omega)
      rw [hK] at x1 bK
      have eK : Hid (topL F = K) := by unfold Hid topL; rw [HFL.out]; exact hK
      have t3 : ((q + s + 1 : Nat) : Int) - 1 - (q : Int) = (s : Int) := by omega
      have t5 : ((q + s + 1 : Nat) : Int) - 1 = ((q + s : Nat) : Int) := by omega
      have t6 : ((q : Int) + (s : Int) + 1) - 1 - (q : Int) = (s : Int) := by omega
      have t7 : ((q : Int) + (s : Int) + 1) - 1 = (q : Int) + (s : Int) := by omega
      have t7' : (q : Int) + (s : Int) - (q : Int) = (s : Int) := by omega
      have t8 : ((q : Int) + (s : Int)).toNat = q + s := by omega
      have i4 : (q : Int) + (s : Int) < (q : Int) + (s : Int) + 1 := by omega
      have i5 : (q : Int) + (s : Int) < ((q + s + 1 : Nat) : Int) := by omega
      have i6 : (0 : Int) ≤ (q : Int) + (s : Int) := by omega
      have uK : IntKind.i64.wrap (-K) = -K := Go.IntWalk.i64_in _ (by omega)
      have HcF := Lib.hid hcF
      clear hK hcF
      go_upto_if 44 with (fail)
      go_cut [10] (fun v wx => ∃ K' : Int, v = .int .i64 K' ∧ Hid (K' = sgT T * K) ∧ wo = wx)
      case first =>
        by_cases hT0 : T < 0
        · have HV : Hid (-K = sgT T * K) := by unfold Hid sgT; rw [if_pos hT0]; omega
          go_wp2_with fail
          go_meet
          exact ⟨_, rfl, HV, rfl⟩
        · have HV : Hid (K = sgT T * K) := by unfold Hid sgT; rw [if_neg hT0]; omega
          have hT1 : 0 ≤ T := by omega
          clear hT0
          go_wp2_with fail
          go_meet
          exact ⟨_, rfl, HV, rfl⟩
      case rest =>
        clear x1 uK
        obtain ⟨K', rfl, hK', rfl⟩ := hcut
        have bK' : -(A' : Int) ≤ K' ∧ K' ≤ A' := by
          rw [hK'.out]; unfold sgT; split <;> omega
        obtain ⟨Z, hZ⟩ : ∃ Z, (T.natAbs : Int) = Z := ⟨_, rfl⟩
        have bZ : 0 ≤ Z ∧ Z ≤ 1000000 ∧ Z ≤ B := by omega
        have CA : Hid (∀ (w : World), Calls Tryd.prog 67 #[.int .i64 T] w fun e w' => e = .returned (.int .i64 Z) ∧ w = w') := fun w => by rw [← hZ]; exact R_Abs_any T w (by omega) (by omega)
        have HZ := Lib.hid hZ
        have bP : ∀ x, -(A' : Int) ≤ x ∧ x ≤ A' → -(D : Int) ≤ x * Z ∧ x * Z ≤ D := fun x hx => by
          have := prod_bd' (x := x) (y := Z) (A := A') (B := B) hx (by omega)
          rw [eD] at this; exact this
        have HbP := Lib.hid bP
        have HbK : Hid (∀ i, i < q + 1 → -(D : Int) ≤ K' * ix g i ∧ K' * ix g i ≤ D) := fun i hi => by
          have := prod_bd' (x := K') (y := ix g i) (A := A') (B := B) bK' (HBg.out i (by rw [HGL.out]; exact hi))
          rw [eD] at this; exact this
        have t9 : ((q : Int) + (s : Int) + 1).toNat = q + s + 1 := by omega
        have hsF : Hid (∀ i, stepE F g i = ix F i * Z - (if s ≤ i then K' * ix g (i - s) else 0)) := fun i => by
          unfold stepE
          rw [eT.out, eK.out, HZ.out, HFL.out, HGL.out, show q + s + 1 - (q + 1) = s by omega, Int.mul_comm (ix F i) Z, hK'.out]
        clear hZ bP
        go_wp2_with fail
        go_loopw [11, 12] (fun v y wt => ∃ (i : Nat) (p : Option Addr) (cp : Nat), i ≤ q + s ∧ y = .int .i64 i ∧ v = .slice p i cp ∧ OwI wt wo.heap.size 3 p i cp (rowF (stepE F g) i) ∧ Below wo.heap.size wo wt) (fun _ y _ => q + s - (intOf y).toNat)
        case atStart => exact ⟨0, none, 0, Nat.zero_le _, rfl, rfl, OwI.nil _ _ _, Below.refl _ _⟩
        case round =>
          obtain ⟨i, p, cp, hi, rfl, rfl, hN, hbt⟩ := hrel
          by_cases hlt2 : i < q + s
          · have j1 : (i : Int) + 1 < ((q + s + 1 : Nat) : Int) := by omega
            have j2 : (i : Int) < (q : Int) + (s : Int) := by omega
            have j3 : (i : Int) + 1 < (q : Int) + (s : Int) + 1 := by omega
            have j4 : (i : Int) < ((q + s + 1 : Nat) : Int) := by omega
            have j5 : (i : Int) < (q : Int) + (s : Int) + 1 := by omega
            have x1 := hbt.keep hbf (HcF.out i (by omega))
            have bX := hI.out i (by rw [HFL.out]; omega)
            have eS := hsF.out i
            obtain ⟨X, hX⟩ : ∃ X, ix F i = X := ⟨_, rfl⟩
            rw [hX] at x1 bX eS
            have bXZ := HbP.out X bX
            have u1 : IntKind.i64.wrap (X * Z) = X * Z := Go.IntWalk.i64_in _ (by omega)
            have kt := below_tr hb hbt
            have yg := fun j hj => kt.keep hbg (HcG.out j hj)
            have HYG := Lib.hid yg
            have hsz := hbt.size
            clear hX yg
            go_wp2_with fail
            go_quiet ((go_at_call 67; exact quietW (CA.out _)))
            have hN := hN.drewN nq
            have hbt := below_drewN hbt nq
            have HYG2 : Hid (∀ j, j < q + 1 → (wr.drewN nq).cell? ⟨bg, og + j, none⟩ = some (.int .i64 (ix g j))) := fun j hj => (below_drewN kt nq).keep hbg (HcG.out j hj)
            clear x1 u1 HYG kt hsz
            generalize wr.drewN nq = W2 at *
            have hsz := hbt.size
            by_cases hsi : s ≤ i
            · have l1 : (s : Int) ≤ (i : Int) := by omega
              have l2 : ((i : Int) - (s : Int)).toNat = i - s := by omega
              have l3 : (i : Int) - (s : Int) < ((q + 1 : Nat) : Int) := by omega
              have l4 : (i : Int) - (s : Int) < (q : Int) + 1 := by omega
              have l5 : (0 : Int) ≤ (i : Int) - (s : Int) := by omega
              have yg := HYG2.out (i - s) (by omega)
              have bY := HbK.out (i - s) (by omega)
              rw [if_pos hsi] at eS
              obtain ⟨Y, hY⟩ : ∃ Y, ix g (i - s) = Y := ⟨_, rfl⟩
              rw [hY] at yg bY eS
              have u2 : IntKind.i64.wrap (K' * Y) = K' * Y := Go.IntWalk.i64_in _ (by omega)
              have u3 : IntKind.i64.wrap (X * Z - K' * Y) = X * Z - K' * Y := Go.IntWalk.i64_in _ (by omega)
              have HX : Hid (rowF (stepE F g) (i + 1) = rowF (stepE F g) i ++ [X * Z - K' * Y]) := by unfold Hid; rw [rowF_succ, eS]
              clear hY eS bY
              go_wp2_with (at_builtin; refine wpList_push_int HM.out rfl (.tmp 74) (.tmp 76) rfl rfl rfl (hN.alloc _) (z := X * Z - K' * Y) (by simp) (by decide) (by decide) (by omega) (by simp; omega) ?_; intro a6 cap6 w6 ho6 hg6)
              have hb6 := (hbt.alloc hsz _).grown hg6 (by simp; omega) (fun r e => (hN.own.lt r e).1)
              go_roundw
              case rel => exact ⟨i + 1, a6, cap6, by omega, by go_num, rfl, by rw [HX.out]; exact ho6, hb6⟩
              case measure => simp [intOf]; omega
            · have l1 : (i : Int) < (s : Int) := by omega
              rw [if_neg hsi, Int.sub_zero] at eS
              have HX : Hid (rowF (stepE F g) (i + 1) = rowF (stepE F g) i ++ [X * Z]) := by unfold Hid; rw [rowF_succ, eS]
              clear eS hsi
              go_wp2_with (at_builtin; refine wpList_push_int HM.out rfl (.tmp 74) (.tmp 76) rfl rfl rfl (hN.alloc _) (z := X * Z) (by simp) (by decide) (by decide) (by omega) (by simp; omega) ?_; intro a6 cap6 w6 ho6 hg6)
              have hb6 := (hbt.alloc hsz _).grown hg6 (by simp; omega) (fun r e => (hN.own.lt r e).1)
              go_roundw
              case rel => exact ⟨i + 1, a6, cap6, by omega, by go_num, rfl, by rw [HX.out]; exact ho6, hb6⟩
              case measure => simp [intOf]; omega
          · obtain ⟨N, hNi⟩ : ∃ N, N = i := ⟨_, rfl⟩
            subst hNi
            have hNq : N = q + s := by omega
            have HNq := Lib.hid hNq
            have n1 : ((q + s + 1 : Nat) : Int) ≤ (N : Int) + 1 := by omega
            have n2 : (q : Int) + (s : Int) + 1 ≤ (N : Int) + 1 := by omega
            have n3 : (q : Int) + (s : Int) ≤ (N : Int) := by omega
            have n4 : q + s ≤ N := by omega
            clear hlt2
            have hNr := hN.rd
            have hAway : Hid (N = 0 ∨ ∀ b off, p = some ⟨b, off, none⟩ → wo.heap.size ≤ b) := by
              rcases Nat.eq_zero_or_pos N with h | h
              · exact .inl h
              · obtain ⟨g1, hz, hg1, _, _, _⟩ := hN.at h
                subst hz
                exact .inr fun b off e => by cases e; exact hg1
            have hO2 := hO.below hbt
            have eN2 : Hid (restL (rowF (stepE F g) N) g = restL f g) := by unfold Hid; rw [hNq]; exact eN.out
            have kt := below_tr hb hbt
            have hqlt : w.heap.size < wo.heap.size := (hO.own.lt _ rfl).2
            have hN2 : Hid (In (-((A' * (2 * B) : Nat) : Int)) ((A' * (2 * B) : Nat) : Int) (rowF (stepE F g) N)) := by
              have e : A' * (2 * B) = 2 * D := by rw [← HD.out]; grind
              unfold Hid
              rw [e]
              intro j hj
              rw [rowF_len] at hj
              rw [rowF_ix hj, hsF.out]
              have b1 := HbP.out _ (hI.out j (by rw [HFL.out]; omega))
              split
              · have b2 := HbK.out (j - s) (by omega)
                omega
              · omega
            clear hN hNq
            go_wp2_with fail
            go_loopw [14] (fun y wt => ∃ (i : Nat) (Q' : List Int), i ≤ 8 ∧ y = .int .i64 i ∧ OwI wt w.heap.size 3 (some ⟨w.heap.size, 0, none⟩) 8 8 Q' ∧ RdI wt p N cp (rowF (stepE F g) N) ∧ Hid (∀ j, ix Q' j = if j < i then ix Q j * Z else ix Q j) ∧ Below w.heap.size w wt) (fun y _ => 8 - (intOf y).toNat)
            case atStart => exact ⟨0, Q, Nat.zero_le _, rfl, hO2, hNr, fun j => by rw [if_neg (Nat.not_lt_zero j)], kt⟩
            case round =>
              clear hO2 hNr kt hbt
              obtain ⟨i, Q', hi8, rfl, hO2, hNr, hQ', hb2⟩ := hrel
              by_cases hl8 : i < 8
              · have j1 : (i : Int) < 8 := by omega
                obtain ⟨gz, hz, hgz, _, hcO, hfO⟩ := hO2.at (by omega)
                cases hz
                have x1 := hcO i hl8
                have f1 := hfO i
                obtain ⟨X, hX⟩ : ∃ X, ix Q' i = X := ⟨_, rfl⟩
                have eX : X = ix Q i := by rw [← hX, hQ'.out, if_neg (Nat.lt_irrefl i)]
                have bX := hQb.out i
                rw [← eX] at bX
                have bXZ := HbP.out X bX
                rw [hX] at x1
                have u1 : IntKind.i64.wrap (X * Z) = X * Z := Go.IntWalk.i64_in _ (by omega)
                have HLP := Lib.hid hO2.len_eq
                have hO3 := hO2.set (k := i) (X * Z)
                have hb3 := hb2.setCell (p := ⟨w.heap.size, i, none⟩) (Nat.le_refl _) (.int .i64 (X * Z))
                have hN3 : RdI (wr.setCell ⟨w.heap.size, i, none⟩ (.int .i64 (X * Z))) p N cp (rowF (stepE F g) N) := hNr.setAway (by
                  rcases hAway.out with h | h
                  · exact .inl h
                  · exact .inr fun b off e => by have := h b off e; show w.heap.size ≠ b; omega)
                have HQ3 : Hid (∀ j, ix (Q'.set i (X * Z)) j = if j < i + 1 then ix Q j * Z else ix Q j) := fun j => by
                  rw [ix_set, HLP.out, hQ'.out, eX]
                  by_cases e1 : i = j
                  · subst e1
                    rw [if_pos ⟨rfl, hl8⟩, if_pos (Nat.lt_succ_self i)]
                  · rw [if_neg (fun q => e1 q.1)]
                    by_cases e2 : j < i
                    · rw [if_pos e2, if_pos (by omega)]
                    · rw [if_neg e2, if_neg (by omega)]
                clear hX eX bX bXZ hcO hfO hO2 hQ' hb2 hNr
                go_wp2
                go_still_tail 10, (by kernel_rfl)
                still_call (stillW (CA.out _))
                repeat still_step
                try refine wpStill_nil ?_
                change wpList _ _ _ _ _ wr.drew
                clear u1
                go_wp2
                go_roundw
                case rel => exact ⟨i + 1, _, by omega, by go_num, hO3.drew, hN3.drewN 1, HQ3.out, hb3.drew⟩
                case measure => simp [intOf]; omega
              · obtain rfl : i = 8 := by omega
                obtain ⟨gz, hz, hgz, _, hcO, hfO⟩ := hO2.at (by omega)
                cases hz
                have x1 := hcO s hs8
                have f1 := hfO s
                obtain ⟨X, hX⟩ : ∃ X, ix Q' s = X := ⟨_, rfl⟩
                have eX : X = ix Q s * Z := by rw [← hX, hQ'.out, if_pos hs8]
                have bX := HbP.out _ (hQb.out s)
                rw [← eX] at bX
                rw [hX] at x1
                have j1 : (s : Int) < 8 := by omega
                have u1 : IntKind.i64.wrap (X + K') = X + K' := Go.IntWalk.i64_in _ (by omega)
                have HLP := Lib.hid hO2.len_eq
                have hO3 := hO2.set (k := s) (X + K')
                have hb3 := hb2.setCell (p := ⟨w.heap.size, s, none⟩) (Nat.le_refl _) (.int .i64 (X + K'))
                have hN3 : RdI (wr.setCell ⟨w.heap.size, s, none⟩ (.int .i64 (X + K'))) p N cp (rowF (stepE F g) N) := hNr.setAway (by
                  rcases hAway.out with h | h
                  · exact .inl h
                  · exact .inr fun b off e => by have := h b off e; show w.heap.size ≠ b; omega)
                have HQ3 : ∀ j, j < 8 → ix (Q'.set s (X + K')) j = Z * ix Q j + if j = s then K' else 0 := fun j hj => by
                  rw [ix_set, HLP.out, hQ'.out, eX]
                  by_cases e1 : s = j
                  · subst e1
                    rw [if_pos ⟨rfl, hs8⟩, if_pos rfl, Int.mul_comm]
                  · rw [if_neg (fun q => e1 q.1), if_pos hj, if_neg (fun q => e1 q.symm), Int.add_zero, Int.mul_comm]
                have hS3 : Hid (SpSt f g (Q'.set s (X + K')) (rowF (stepE F g) N) (Z * M)) := by
                  have h := hS.out.step (Q' := Q'.set s (X + K')) (Z := Z) (K := K') (s := s) (by rw [HFL.out, HGL.out]; omega) (by rw [HGL.out]; omega) hs8 (by rw [eT.out]; exact HZ.out.symm) HT.out (by rw [eT.out, eK.out]; exact hK'.out) HQ3
                  rw [HFL.out] at h
                  rw [HNq.out]
                  exact h
                have hQb3 : Hid (∀ j, -((A' * (2 * B) : Nat) : Int) ≤ ix (Q'.set s (X + K')) j ∧ ix (Q'.set s (X + K')) j ≤ ((A' * (2 * B) : Nat) : Int)) := fun j => by
                  have e : A' * (2 * B) = 2 * D := by rw [← HD.out]; grind
                  rw [e]
                  rcases Nat.lt_or_ge j 8 with h | h
                  · rw [HQ3 j h, Int.mul_comm]
                    have := HbP.out _ (hQb.out j)
                    split <;> omega
                  · rw [ix_ge (by rw [List.length_set, HLP.out]; exact h)]; omega
                have hNlt : N < q + s + 1 := by have := HNq.out; omega
                have fit2 : Hid (A' * (2 * B) * (2 * B) ^ (N + 1 - (q + 1)) ≤ 4611686018427387904) := fit_next hFt.out (by omega) HB1.out hNlt
                clear hX eX bX hcO hfO hO2 hQ' hb2 hNr HQ3
                go_wp2
                generalize wr.setCell ⟨w.heap.size, s, none⟩ (.int .i64 (X + K')) = W4 at *
                go_roundw
                case rel => exact ⟨A' * (2 * B), N, p, cp, rowF (stepE F g) N, _, Z * M, rfl, by omega, hN3, hO3, eN2, hN2, hQb3.out, fit2, hS3, hb3⟩
                case measure => simp [lenOf]; omega
end Go.Proofs.YtoahegjjffggaaaDoor
namespace Go.Rk
open Go.RowKit Go.Proofs.YtoahegjjffggaaaDoor

section
variable {P : Program} {TT T E B : Nat} {w : World}
/-- As wpList_push_row; and each row of numbers stays. -/
theorem wpList_push_row3 (hT : MatTy P TT T E) {ops : Array Oper} {rest : List Oper} {o : Oper} {ac : Act} {Q : Exit → Act → World → Prop} (hgd : o.guard = none) (s x : Operand)
    (ho : o.op = .call { callee := .builtin .append, args := #[s, x], argTypes := #[TT, TT] })
    {w0 : World} {a ar : Option Addr} {n cap blk_ c2 nr cr : Nat} {M : List (List Int)} {l : List Int} (hs : ac.eval s = .slice a n cap) (hx : ac.eval x = .slice (some ⟨blk_, 0, none⟩) 1 c2) (h : OwM w0 B T E a n cap M) (hb : Below w0.heap.size w0 w)
    (ho2 : OwI w w0.heap.size E ar nr cr l) (hc : w.cell? ⟨blk_, 0, none⟩ = some (.slice ar nr cr)) (hn : (n + 1) * 24 ≤ 140737488355328) (hB : B ≤ w0.heap.size)
    (hK : ∀ a' cap' w', OwM w' B T E a' (n + 1) cap' (M ++ [l]) → (∀ (B0 : Nat) (ar0 : Option Addr) (n0 c0 : Nat) (l0 : List Int), OwI w B0 E ar0 n0 c0 l0 → OwI w' B0 E ar0 n0 c0 l0) → Below B w w' → wpList P ops Q rest (ac.put o.dst (.slice a' (n + 1) cap')) w') : wpList P ops Q (o :: rest) ac w := by
  obtain ⟨i, hi, hz, hs1, hby⟩ := hT.hi
  obtain ⟨vs', ho', hr', hd'⟩ := (h.below hb).own
  refine wpList_append_own w hgd s x TT ho B T i (.slice none 0 0) 1 24 hT.ht hi hz hs1 hby rfl (by decide) (.slice a n cap) n vs' hs ho' ⟨blk_, 0, none⟩ 1 c2 [.slice ar nr cr] hx rfl (fun j u hu => ?_) (fun u hu => ?_) (by unfold maxLen; omega) hn (Nat.le_trans hB hb.size) fun v' w' h1 h2 _ => ?_
  · rcases j with _ | j
    · simp at hu
      subst hu
      have : (⟨blk_, 0, none⟩ : Addr).add 0 = ⟨blk_, 0, none⟩ := by simp [Addr.add]
      rw [this]; exact hc
    · simp at hu
  · simp at hu; subst hu; rfl
  · obtain ⟨a', cap', rfl⟩ : ∃ a' cap', v' = .slice a' (n + 1) cap' := by
      rcases h1.2 with ⟨e, h0⟩ | ⟨g, c, cur, e, _⟩
      · exact absurd h0 (by omega)
      · exact ⟨_, _, e⟩
    refine hK a' cap' w' (h.pushed hb ho2 hB hT.ne ho' h1 h2 hr' hd') (fun B0 ar0 n0 c0 l0 o => o.grown h2 ?_) ((Below.refl B w).grown h2 (Nat.le_trans hB hb.size) fun k hk => (ho'.lt k hk).1)
    rcases eo : (Value.slice ar0 n0 c0).ownBlock with _ | b
    · exact .inl rfl
    · exact .inr fun e2 => own_ne hT.ne ho' o.own e2.symm eo
end
/-- Two rows that lie apart. -/
def ApartS (u v : Value) : Prop := ∀ b, u.ownBlock = some b → v.ownBlock ≠ some b
theorem ApartS.symm {u v : Value} (h : ApartS u v) : ApartS v u := fun b h1 h2 => h b h2 h1
theorem ApartS.row {u v : Value} (h : ApartS u v) : v.ownBlock = none ∨ v.ownBlock ≠ u.ownBlock := by
  rcases e : v.ownBlock with _ | b
  · exact .inl rfl
  · exact .inr fun q => h b q.symm e
theorem ApartS.fresh {u u' v : Value} {N : Nat} (h : ApartS u v) (hn : ∀ b, u'.ownBlock = some b → some b = u.ownBlock ∨ N ≤ b) (hl : ∀ b, v.ownBlock = some b → b < N) : ApartS u' v := fun b h1 h2 => by
  rcases hn b h1 with e | e
  · exact h b e.symm h2
  · have := hl b h2; omega

theorem qS_same {h Q g : List Int} {M : Int} {i k : Nat} : ∀ n, k ≤ n → (∀ j, k ≤ j → j < n → M * ix h j = ix Q j) → M * qS h g n i - qS Q g n i = M * qS h g k i - qS Q g k i
  | 0, hk, _ => by rw [Nat.le_zero.1 hk]
  | n + 1, hk, e => by
    rcases Nat.lt_or_ge n k with h1 | h1
    · rw [show k = n + 1 by omega]
    · rw [qS_succ, qS_succ, ← qS_same n h1 fun j h2 h3 => e j h2 (by omega), ← e n h1 (by omega)]
      split
      · grind
      · rw [Int.add_zero, Int.add_zero]
theorem qS_more {h g : List Int} {i : Nat} : ∀ n, h.length ≤ n → qS h g n i = qS h g h.length i
  | 0, hn => by rw [Nat.le_zero.1 hn]
  | n + 1, hn => by
    rcases Nat.lt_or_ge n h.length with h1 | h1
    · rw [show h.length = n + 1 by omega]
    · rw [qS_succ, qS_more n h1, ix_ge (l := h) h1, Int.zero_mul, ite_self, Int.add_zero]
/-- What has gone in all is what goes outright, times a number. -/
theorem split_whole {a g h Q F : List Int} {M : Int} (hS : SpSt a g Q F M) (hQ : Quo a g h) (hF : F.length < g.length) (hg : topL g ≠ 0) (hl : Q.length = 8) (hh : h.length ≤ 8) : plainL Q = plainL h := by
  obtain ⟨q, hq⟩ : ∃ q, g.length = q + 1 := ⟨g.length - 1, by omega⟩
  have hgq : ix g q ≠ 0 := by
    unfold topL at hg
    rw [hq] at hg
    exact hg
  have key : ∀ d, d ≤ 8 → ∀ j, 8 - d ≤ j → j < 8 → M * ix h j = ix Q j := by
    intro d
    induction d with
    | zero => intro _ j h1 h2; omega
    | succ d ih =>
      intro hd j h1 h2
      rcases Nat.lt_or_ge (8 - (d + 1)) j with h3 | h3
      · exact ih (by omega) j (by omega) h2
      · obtain rfl : j = 8 - (d + 1) := by omega
        generalize hk : 8 - (d + 1) = k at *
        have e1 := qS_same (h := h) (Q := Q) (g := g) (M := M) (i := k + q) (k := k + 1) 8 (by omega) fun j h4 h5 => ih (by omega) j (by omega) h5
        have e2 := hS.eq (k + q)
        rw [hQ.eq, ix_ge (l := F) (by omega), Int.add_zero, ← qS_more 8 hh] at e2
        rw [e2, Int.sub_self, qS_top hq, qS_top hq] at e1
        have e3 : (M * ix h k - ix Q k) * ix g q = 0 := by rw [Int.sub_mul, Int.mul_assoc]; exact e1.symm
        rcases Int.mul_eq_zero.1 e3 with h6 | h6
        · omega
        · exact absurd h6 hgq
  refine plain_ray hS.pos fun k => ?_
  rcases Nat.lt_or_ge k 8 with h1 | h1
  · exact (key 8 (by omega) k (by omega) h1).symm
  · rw [ix_ge (by omega), ix_ge (by omega), Int.mul_zero]
theorem Simp.fitC {f : List Int} {L : List (List Int)} (h : Simp f L) : FitL (chainL f) := by
  cases h with
  | same _ h => exact h
  | cut _ _ h _ _ _ _ => exact h
theorem quo_top {f g h : List Int} (hQ : Quo f g h) (hf : topL f ≠ 0) (hg : 1 ≤ g.length) (hh : 1 ≤ h.length) : topL h ≠ 0 := by
  obtain ⟨q, hq⟩ : ∃ q, g.length = q + 1 := ⟨g.length - 1, by omega⟩
  obtain ⟨t, ht⟩ : ∃ t, h.length = t + 1 := ⟨h.length - 1, by omega⟩
  have hl := hQ.len
  intro e
  refine hf ?_
  unfold topL at e ⊢
  rw [ht] at e
  rw [hQ.eq, ht, show f.length - 1 = t + q by omega, qS_top hq]
  have e : ix h t = 0 := e
  rw [e, Int.zero_mul]
end Go.Rk
namespace Go.Proofs.YtoahegjjffggaaaDoor
open Go.RowKit Go.Rk

set_option maxHeartbeats 8000000 in
set_option maxRecDepth 100000 in
theorem H_rests_any {a : Option Addr} {n ca : Nat} {f : List Int} {w : World} (hf : RdI w a n ca f) (hi : In (-1000000) 1000000 f) (hF : FitL (chainL f)) (h1 : 1 ≤ n) (h4 : n ≤ 4) :
    Calls Tryd.prog 44 #[.slice a n ca] w fun e w' => ∃ a' c', e = .returned (.slice a' (chainL f).length c') ∧ RdM w' a' (chainL f).length c' (chainL f) ∧ Below w.heap.size w w' := by
  have HM := Lib.hid matTy
  have C1 := Lib.hid (H_plain_any hf (fun k hk => by have := hi k hk; omega) (by omega))
  have HI := Lib.hid hi
  have HLF := Lib.hid hf.len_eq
  obtain ⟨LL, hLL⟩ : ∃ LL, chainL f = LL := ⟨_, rfl⟩
  have D1 : Hid (LL.drop 1 = chF f.length (plainL f) (slopeL f) ∧ LL.take 1 = [plainL f] ∧ rowOf LL 0 = plainL f ∧ 1 ≤ LL.length) := by rw [← hLL]; exact ⟨rfl, rfl, rfl, by unfold chainL; simp⟩
  have PS : Hid (Pl (slopeL f) ∧ (slopeL f).length ≤ f.length) := ⟨plainL_pl _, by have := slopeL_len f; omega⟩
  rw [hLL] at hF
  simp only [hLL]
  have HF := Lib.hid hF
  clear hi hLL hF
  go_enter Tryd.func44, Tryd.ntmps44
  go_wp2_with (go_at_call 66; fail)
  (with_reducible refine C1.out.mono ?_)
  clear C1
  rintro e w1 ⟨a1, c1, rfl, ho1, b1⟩
  have hM1 := OwM.lit1 (T := 24) ho1 b1.size
  have hb1 := below_al b1 (.cells #[.slice a1 (plainL f).length c1] 24)
  have hp1 := ho1.alloc (.cells #[.slice a1 (plainL f).length c1] 24)
  clear ho1 b1
  obtain ⟨l1, hl1⟩ : ∃ l1, (plainL f).length = l1 := ⟨_, rfl⟩
  rw [hl1] at hp1 hM1 hb1
  simp only [hl1]
  have HL1 := Lib.hid hl1
  clear hl1
  go_wp2_with fail
  generalize w1.alloc (.cells #[.slice a1 l1 c1] 24) = W0 at *
  generalize w1.heap.size = g1 at *
  have HW0 := hb1.size
  go_loopw [5, 6] (fun v x wt => ∃ (k : Nat) (p : Option Addr) (cp : Nat), k + 1 ≤ n ∧ x = .int .i64 ((k : Int) + 1) ∧ v = .slice p k cp ∧ OwI wt W0.heap.size 3 p k cp (rowF (fun i => ((i : Int) + 1) * ix f (i + 1)) k) ∧ Below W0.heap.size W0 wt) (fun _ x _ => n - (intOf x).toNat)
  case atStart => exact ⟨0, none, 0, h1, by go_num, rfl, OwI.nil _ _ _, Below.refl _ _⟩
  case round =>
    obtain ⟨k, p, cp, hk, rfl, rfl, ho, hb⟩ := hrel
    have kt := below_tr hb1 hb
    by_cases hlt : k + 1 < n
    · have i1 : (k : Int) + 1 < (n : Int) := by omega
      have t1 : ((k : Int) + 1).toNat = k + 1 := by omega
      obtain ⟨bf, of_, rfl, hbf, hc⟩ := hf.at (k := k + 1) hlt
      have y1 := kt.keep hbf (hc (k + 1) hlt)
      have bX := HI.out (k + 1) (by rw [HLF.out]; exact hlt)
      obtain ⟨X, hX⟩ : ∃ X, ix f (k + 1) = X := ⟨_, rfl⟩
      rw [hX] at y1 bX
      have pb := prod_bd' (x := (k : Int) + 1) (y := X) (A := 4) (B := 1000000) (by omega) bX
      have u1 : IntKind.i64.wrap (((k : Int) + 1) * X) = ((k : Int) + 1) * X := Go.IntWalk.i64_in _ (by omega)
      have HX : Hid (rowF (fun i => ((i : Int) + 1) * ix f (i + 1)) (k + 1) = rowF (fun i => ((i : Int) + 1) * ix f (i + 1)) k ++ [((k : Int) + 1) * X]) := by unfold Hid; rw [rowF_succ, hX]
      have hs := hb.size
      clear hX bX hc pb
      go_wp2_with (at_builtin; refine wpList_push_int HM.out.int rfl (.tmp 22) (.tmp 29) rfl rfl rfl (ho.alloc _) (z := ((k : Int) + 1) * X) (by simp) (by decide) (by decide) (by omega) (by simp; omega) ?_; intro a6 cap6 w6 ho6 hg6)
      have hb6 := (hb.alloc hs _).grown hg6 (by simp; omega) (fun r e => (ho.own.lt r e).1)
      go_roundw
      case rel => exact ⟨k + 1, a6, cap6, by omega, by go_num, rfl, by rw [HX.out]; exact ho6, hb6⟩
      case measure => simp [intOf]; omega
    · obtain rfl : n = k + 1 := by omega
      have i1 : ¬ (k : Int) + 1 < ((k + 1 : Nat) : Int) := by omega
      have hr : Hid (slopeL f = plainL (rowF (fun i => ((i : Int) + 1) * ix f (i + 1)) k)) := by unfold Hid slopeL; rw [HLF.out]; rfl
      have hin : In (-4611686018427387904) 4611686018427387904 (rowF (fun i => ((i : Int) + 1) * ix f (i + 1)) k) := fun i hi => by
        rw [rowF_len] at hi
        rw [rowF_ix hi]
        have := prod_bd' (x := (i : Int) + 1) (y := ix f (i + 1)) (A := 4) (B := 1000000) (by omega) (HI.out (i + 1) (by rw [HLF.out]; omega))
        omega
      have C := H_plain_any ho.rd hin (by omega)
      rw [← hr.out] at C
      have C := Lib.hid C
      clear hin
      go_wp2_with (go_at_call 66; fail)
      (with_reducible refine C.out.mono ?_)
      clear C
      rintro e w2 ⟨a2, c2, rfl, ho2, b2⟩
      have hb2 := below_tr hb b2
      have ho2 := ho2.mono hb.size
      have k2 := below_tr hb1 hb2
      have hp2 := hp1.below hb2
      clear ho hb b2 kt hp1
      obtain ⟨l2, hl2⟩ : ∃ l2, (slopeL f).length = l2 := ⟨_, rfl⟩
      rw [hl2] at ho2 PS
      simp only [hl2]
      obtain ⟨S2, hS2⟩ : ∃ S2, slopeL f = S2 := ⟨_, rfl⟩
      rw [hS2] at ho2 PS D1
      have hrow0 : Hid (rowOf LL 0 = plainL f) := D1.out.2.2.1
      clear hl2 hS2 hr
      go_wp2_with fail
      go_loopw [3, 4, 7] (fun u v y wt => ∃ (w0 : World) (j kk lp : Nat) (pp p pn : Option Addr) (cpp cp ln cn : Nat) (N : List Int), u = .slice pp lp cpp ∧ v = .slice p j cp ∧ y = .slice pn ln cn ∧ 1 ≤ j ∧ j + ln ≤ 5 ∧ OwI wt w.heap.size 3 pp lp cpp (rowOf LL (j - 1)) ∧ OwM w0 w.heap.size 24 3 p j cp (LL.take j) ∧ w.heap.size ≤ w0.heap.size ∧ Below w0.heap.size w0 wt ∧ OwI wt w0.heap.size 3 pn ln cn N ∧ Below w.heap.size w wt ∧ Hid (LL.drop j = chF kk (rowOf LL (j - 1)) N ∧ j ≤ LL.length ∧ ln ≤ kk ∧ Pl N)) (fun _ _ y _ => lenOf y)
      case atStart => exact ⟨W0, 1, f.length, l1, a1, some ⟨g1, 0, none⟩, a2, c1, 1, l2, c2, S2, rfl, rfl, rfl, Nat.le_refl _, by have := PS.out.2; have := HLF.out; omega, by rw [show 1 - 1 = 0 from rfl, hrow0.out]; exact hp2, by rw [D1.out.2.1]; exact hM1, HW0, hb2, ho2, k2, ⟨by rw [D1.out.1, show 1 - 1 = 0 from rfl, D1.out.2.2.1], D1.out.2.2.2, PS.out.2, PS.out.1⟩⟩
      case round =>
        clear hM1 hb2 ho2 k2 D1 PS HW0 hb1 hp2
        obtain ⟨w0, j, kk, lp, pp, p, pn, cpp, cp, ln, cn, N, rfl, rfl, rfl, hj1, hjl, hPp, hO, hw0, hb0, hN, hb, hS⟩ := hrel
        have HNL := Lib.hid hN.len_eq
        by_cases h0 : ln = 0
        · subst h0
          have hE : Hid (LL.length = j ∧ LL.take j = LL) := by
            have e := hS.out.1
            rw [List.eq_nil_of_length_eq_zero HNL.out, chF_nil, List.drop_eq_nil_iff] at e
            exact ⟨by have := hS.out.2.1; omega, List.take_of_length_le e⟩
          have hR := hO.rd.below hb0
          go_wp2
          go_ret
          refine ⟨p, cp, ?_, ?_, hb⟩
          · rw [hE.out.1]; rfl
          · rw [hE.out.2] at hR
            rw [hE.out.1]; exact hR
        · obtain ⟨kk, rfl⟩ : ∃ k', kk = k' + 1 := ⟨kk - 1, by have := hS.out.2.2.1; omega⟩
          have HX := Lib.hid (chain_next hS.out.1 (by rw [HNL.out]; exact h0))
          obtain ⟨i, rfl⟩ : ∃ i, j = i + 1 := ⟨j - 1, by omega⟩
          have e1 : i + 1 - 1 = i := rfl
          rw [e1] at HX hPp
          have z1 : (0 : Int) < (ln : Int) := by omega
          have HTk : Hid (LL.take (i + 1) ++ [N] = LL.take (i + 2)) := by
            have := take_succ_row HX.out.1
            unfold Hid; rw [this, HX.out.2.1]
          have HSt := Lib.hid (HF.out.step i HX.out.1)
          have HRow := Lib.hid (HF.out.row (i + 1) HX.out.1)
          have HRow0 := Lib.hid (HF.out.row i (by have := HX.out.1; omega))
          rw [HX.out.2.1] at HSt HRow
          have hPl := hS.out.2.2.2
          have hkl := hS.out.2.2.1
          have ht : Hid (topL N ≠ 0) := hPl.top (by rw [HNL.out]; omega)
          have HI1 := Lib.hid (HRow.out.2.2)
          have hlp : lp ≤ 4 := by have := HRow0.out.2.1; rw [hPp.len_eq] at this; exact this
          clear hS hPl h0
          go_wp2_with (first | (at_builtin; refine wpList_push_row3 HM.out rfl (.tmp 36) (.tmp 38) rfl rfl rfl hO (hb0.alloc hb0.size _) (hN.alloc _) (by simp) (by omega) hw0 ?_; intro a7 cap7 w7 ho7 hkeep hb7; rw [HTk.out] at ho7) | (go_at_call 45; fail))
          have hn7 := hkeep _ _ _ _ _ (hN.alloc (.cells #[.slice pn ln cn] 24))
          have hp7 := hkeep _ _ _ _ _ (hPp.alloc (.cells #[.slice pn ln cn] 24))
          have hk7 := (below_al hb (.cells #[.slice pn ln cn] 24)).trans hb7
          have C := Lib.hid (H_split_any hp7.rd hn7.rd HSt.out ht.out HI1.out (by omega) (by omega) (by omega))
          (with_reducible refine C.out.mono ?_)
          clear C
          rintro e w8 ⟨a8, c8, a9, c9, Qq, Mm, Ff, rfl, _, hr9, _, _, _, b8⟩
          have hk8 := below_tr hk7 b8
          have hn8 := (hn7.mono hw0).below b8
          have hs7 := hk7.size
          have HR2 : Hid (Pl (negL (restL (rowOf LL i) N)) ∧ (restL (rowOf LL i) N).length < ln ∧ LL.drop (i + 2) = chF kk N (negL (restL (rowOf LL i) N))) := by
            refine ⟨(restL_pl _ _).neg, ?_, HX.out.2.2⟩
            have := restL_len (f := rowOf LL i) (g := N) (by rw [HNL.out]; omega)
            rwa [HNL.out] at this
          have HRB : Hid (∀ r, r < (restL (rowOf LL i) N).length → -1000000 ≤ ix (restL (rowOf LL i) N) r ∧ ix (restL (rowOf LL i) N) r ≤ 1000000) := fun r hr => by
            obtain ⟨k, rfl⟩ : ∃ k', kk = k' + 1 := ⟨kk - 1, by have := HR2.out.2.1; omega⟩
            have e := chain_next HR2.out.2.2 (by rw [negL_len]; omega)
            have e2 := (HF.out.row (i + 2) e.1).2.2
            rw [e.2.1] at e2
            have e3 := e2 r (by rw [negL_len]; exact hr)
            rw [negL_ix] at e3
            omega
          have hlt8 := HR2.out.2.1
          obtain ⟨R, hR⟩ : ∃ R, restL (rowOf LL i) N = R := ⟨_, rfl⟩
          rw [hR] at hr9 HR2 HRB hlt8
          simp only [hR]
          obtain ⟨m, hm⟩ : ∃ m, R.length = m := ⟨_, rfl⟩
          rw [hm] at hr9 HR2 HRB hlt8
          have HRm := Lib.hid hm
          simp only [hm]
          have hn2 : Hid (rowOf LL (i + 1) = N ∧ i + 2 ≤ LL.length) := ⟨HX.out.2.1, HX.out.1⟩
          clear hR hm hO hN hb0 hb hb7 hn7 hp7 hkeep hPp HX HSt HRow HRow0 ht HI1
          go_wp2_with fail
          go_loopw [10, 11] (fun v y wt => ∃ (r : Nat) (p : Option Addr) (cp : Nat), r ≤ m ∧ y = .int .i64 r ∧ v = .slice p r cp ∧ OwI wt w8.heap.size 3 p r cp (rowF (fun t => -ix R t) r) ∧ Below w8.heap.size w8 wt) (fun _ y _ => m - (intOf y).toNat)
          case atStart => exact ⟨0, none, 0, Nat.zero_le _, rfl, rfl, OwI.nil _ _ _, Below.refl _ _⟩
          case round =>
            obtain ⟨r, p, cp, hr, rfl, rfl, hO, hb⟩ := hrel
            by_cases hlt : r < m
            · have j1 : (r : Int) < (m : Int) := by omega
              obtain ⟨b9, o9, rfl, hb9, hc9⟩ := hr9.at hlt
              have x1 := hb.keep hb9 (hc9 r hlt)
              have bX := HRB.out r hlt
              obtain ⟨X, hX⟩ : ∃ X, ix R r = X := ⟨_, rfl⟩
              rw [hX] at bX x1
              have u1 : IntKind.i64.wrap (-X) = -X := Go.IntWalk.i64_in _ (by omega)
              have HXX : Hid (rowF (fun t => -ix R t) (r + 1) = rowF (fun t => -ix R t) r ++ [-X]) := by unfold Hid; rw [rowF_succ, hX]
              have hs := hb.size
              clear hX bX hc9
              go_wp2_with (at_builtin; refine wpList_push_int HM.out.int rfl (.tmp 52) (.tmp 58) rfl rfl rfl (hO.alloc _) (z := -X) (by simp) (by decide) (by decide) (by omega) (by simp; omega) ?_; intro a6 cap6 w6 ho6 hg6)
              have hb6 := (hb.alloc hs _).grown hg6 (by simp; omega) (fun r e => (hO.own.lt r e).1)
              go_roundw
              case rel => exact ⟨r + 1, a6, cap6, by omega, by go_num, rfl, by rw [HXX.out]; exact ho6, hb6⟩
              case measure => simp [intOf]; omega
            · obtain rfl : m = r := by omega
              have hQN : Hid (rowF (fun t => -ix R t) m = negL R) := by
                refine ix_ext (by rw [rowF_len, negL_len, HRm.out]) fun t ht => ?_
                rw [rowF_len] at ht
                rw [rowF_ix ht, negL_ix]
              rw [hQN.out] at hO
              have hb78 := below_tr b8 hb
              have hk9 := below_tr hk8 hb
              have hn9 := hn8.below hb
              have hO9 := hO.mono b8.size
              have hfin : Hid (LL.drop (i + 2) = chF kk (rowOf LL (i + 2 - 1)) (negL R) ∧ i + 2 ≤ LL.length ∧ m ≤ kk ∧ Pl (negL R)) := by
                rw [show i + 2 - 1 = i + 1 from rfl, hn2.out.1]
                exact ⟨HR2.out.2.2, hn2.out.2, by omega, HR2.out.1⟩
              clear hO hb
              go_wp2
              go_roundw
              case rel => exact ⟨w7, i + 1 + 1, kk, ln, pn, a7, p, cn, cap7, m, cp, negL R, rfl, rfl, rfl, by omega, by omega, by rw [show i + 1 + 1 - 1 = i + 1 from rfl, hn2.out.1]; exact hn9, ho7, hs7, hb78, hO9, hk9, hfin⟩
              case measure => simp [lenOf]; omega
set_option maxHeartbeats 4000000 in
set_option maxRecDepth 100000 in
theorem H_Chain_any {a : Option Addr} {n ca : Nat} {f : List Int} {L : List (List Int)} {w : World} (hf : RdI w a n ca f) (hi : In (-1000000) 1000000 f) (hS : Simp f L) (h1 : 1 ≤ n) (h4 : n ≤ 4) :
    Calls Tryd.prog 19 #[.slice a n ca] w fun e w' => ∃ a' c', e = .returned (.slice a' L.length c') ∧ RdM w' a' L.length c' L ∧ Below w.heap.size w w' := by
  have hlen := chainL_len f
  have hPf := plainL_pl f
  have hPl := plainL_len_le f
  rw [hf.len_eq] at hPl
  have hlast := chainL_pl f _ (lastL_mem f)
  have hr0 : rowOf (chainL f) 0 = plainL f := rfl
  obtain ⟨LL, hLL⟩ : ∃ LL, chainL f = LL := ⟨_, rfl⟩
  obtain ⟨K, hK⟩ : ∃ K, LL.length = K := ⟨_, rfl⟩
  have HFit : FitL (chainL f) := hS.fitC
  have C1 := H_rests_any hf hi HFit h1 h4
  rw [hLL, hK] at C1
  have C1 := Lib.hid C1
  rw [hLL, hK] at hlen
  rw [hLL] at hlast hr0 HFit
  obtain ⟨k, rfl⟩ : ∃ k, K = k + 1 := ⟨K - 1, by omega⟩
  have el : lastL LL = rowOf LL k := by unfold lastL; rw [hK]; rfl
  have hrk := (HFit.row k (by omega)).2
  rw [el] at hlast
  have q1 : ((k + 1 : Nat) : Int) - 1 = (k : Int) := by omega
  have q2 : ((k : Int) + 1) - 1 = (k : Int) := by omega
  have q3 : (k : Int) < ((k + 1 : Nat) : Int) := by omega
  have q4 : (k : Int) < (k : Int) + 1 := by omega
  have q5 : (0 : Int) < ((k + 1 : Nat) : Int) := by omega
  have q6 : (0 : Int) < (k : Int) + 1 := by omega
  obtain ⟨G, hG⟩ : ∃ G, rowOf LL k = G := ⟨_, rfl⟩
  obtain ⟨R0, hR0⟩ : ∃ R, rowOf LL 0 = R := ⟨_, rfl⟩
  rw [hR0] at hr0
  rw [hG] at el hrk hlast
  have HG := Lib.hid hG
  have HR0 := Lib.hid hR0
  cases hS with
  | same h2 _ =>
    rw [hLL, el] at h2
    have q7 : (G.length : Int) < 2 := by omega
    have HL := Lib.hid hLL
    have HK := Lib.hid hK
    clear hLL hK hG hR0 HFit hr0 el
    go_enter Tryd.func19, Tryd.ntmps19
    go_wp2_with (go_at_call 44; fail)
    (with_reducible refine C1.out.mono ?_)
    clear C1
    rintro e w1 ⟨a1, c1, rfl, hM, b1⟩
    have lm := hM.len_max
    obtain ⟨bm, om, rfl, _, hrows⟩ := hM.at (k := k) (by omega)
    obtain ⟨ar, cr, hcell, hr⟩ := hrows k (by omega)
    rw [HG.out] at hcell hr
    clear hrows
    go_wp2
    go_ret
    rw [HL.out, HK.out]
    exact ⟨_, _, rfl, hM, b1⟩
  | cut h h2 _ hQ hhi hF2 hFS =>
    rw [hLL, el] at h2 hQ hFS
    have hq1 := quo_pos hPf hQ h2
    have hq2 := hQ.len
    have ht : topL G ≠ 0 := hlast.top (by omega)
    have q7 : (2 : Int) ≤ (G.length : Int) := by omega
    have e0 : R0 = plainL f := hr0
    have htf : topL (plainL f) ≠ 0 := hPf.top (by omega)
    have hth := quo_top hQ htf (by omega) hq1
    rw [← e0] at hQ hq2 hPl hFS
    have HQ := Lib.hid hQ
    have HHI : Hid (In (-1000000) 1000000 (plainL h)) := plainL_in (A := 1000000) hhi
    have HCP := Lib.hid (chainL_plain h hth)
    have HF2 : Hid (FitL (chainL (plainL h))) := by unfold Hid; rw [HCP.out]; exact hF2
    have HLh : Hid ((plainL h).length = h.length) := plain_len_top hth
    have HT := Lib.hid ht
    have HFS := Lib.hid hFS
    have HRK := Lib.hid hrk
    clear hLL hK hG hR0 HFit hr0 el hQ hhi hF2 ht hrk e0 hPf hlast htf hth hFS
    go_enter Tryd.func19, Tryd.ntmps19
    go_wp2_with (go_at_call 44; fail)
    (with_reducible refine C1.out.mono ?_)
    clear C1
    rintro e w1 ⟨a1, c1, rfl, hM, b1⟩
    have lm := hM.len_max
    obtain ⟨bm, om, rfl, _, hrows⟩ := hM.at (k := k) (by omega)
    obtain ⟨ar, cr, hcell, hr⟩ := hrows k (by omega)
    obtain ⟨ar0, cr0, hcell0, hr0⟩ := hrows 0 (by omega)
    rw [HG.out] at hcell hr
    rw [HR0.out, Nat.add_zero] at hcell0
    rw [HR0.out] at hr0
    clear hrows
    go_wp2_with (go_at_call 45; fail)
    refine (H_split_any hr0 hr HFS.out HT.out HRK.out.2 (by omega) (by omega) (by have := HRK.out.1; omega)).mono ?_
    rintro e w2 ⟨a2, c2, a3, c3, Qq, Mm, Ff, rfl, hr2, _, hSp, hFl, hQl, b2⟩
    have hPQ := split_whole hSp HQ.out hFl HT.out hQl (by omega)
    rw [hPQ, HLh.out] at hr2
    rw [hPQ, HLh.out]
    have k2 := below_tr b1 b2
    clear hSp hPQ
    go_wp2_with (go_at_call 44; fail)
    refine (H_rests_any hr2 HHI.out HF2.out hq1 (by omega)).mono ?_
    rintro e w3 ⟨a3, c3, rfl, hM3, b3⟩
    have k3 := below_tr k2 b3
    rw [HCP.out] at hM3 ⊢
    go_wp2
    go_ret
    exact ⟨a3, c3, rfl, hM3, k3⟩
end Go.Proofs.YtoahegjjffggaaaDoor
