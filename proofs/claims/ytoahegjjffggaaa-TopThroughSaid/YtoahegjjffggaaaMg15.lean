/-
  TopUndo walked: what undoes a matrix is the sum of its powers with its factors, and solving brings its columns.
-/
import Derived.Test.YtoahegjjffggaaaRows
import Derived.Test.YtoahegjjffggaaaMg0
import Derived.Test.YtoahegjjffggaaaMg2
import Derived.Test.YtoahegjjffggaaaMg10
import Derived.Test.YtoahegjjffggaaaMg11
import Derived.Test.YtoahegjjffggaaaMg12
import Derived.Test.YtoahegjjffggaaaMg14
namespace Go.Proofs.Ytoahegjjffggaaa
open Go.RowKit Go.Rk

theorem undo_ints {a a2 : Option Addr} {len len2 cap cap2 : Nat} {l m : List Int} {w : World} (h : RdI w a len cap l) (h2 : RdI w a2 len2 cap2 m) (e : l = m) :
    Calls Try.prog 32 #[.slice a len cap, .slice a2 len2 cap2] w fun e w' => e = .returned (.bool true) ∧ Below w.heap.size w w' := by
  refine (Ints_any h h2).mono ?_
  rintro _ _ ⟨rfl, hb⟩
  exact ⟨by rw [decide_eq_true e], hb⟩
theorem undo_rows {a a2 : Option Addr} {len len2 cap cap2 : Nat} {M N : List (List Int)} {w : World} (h : RdM w a len cap M) (h2 : RdM w a2 len2 cap2 N) (e : M = N) :
    Calls Try.prog 42 #[.slice a len cap, .slice a2 len2 cap2] w fun e w' => e = .returned (.bool true) ∧ Below w.heap.size w w' := by
  refine (Rows_any h h2).mono ?_
  rintro _ _ ⟨rfl, hb⟩
  exact ⟨by rw [decide_eq_true e], hb⟩
/-- inv.Of of any matrix: an error, or the inverse. -/
theorem undo_inv {a : Option Addr} {n ca : Nat} {A : List (List Int)} {w : World} (hA : RdM w a n ca A) :
    Calls Try.prog 35 #[.slice a n ca] w fun e w' => Below w.heap.size w w' ∧ ((∃ x, e = .returned (.tuple #[.slice none 0 0, .iface 59 (.int .i64 x)])) ∨
      (Good n n A ∧ det n (mx A) % 9973 ≠ 0 ∧ ∃ a' cap' P, e = .returned (.tuple #[.slice a' n cap', .nilIface]) ∧ OwM w' w.heap.size 22 3 a' n cap' P ∧ IsR n n P (invE n A))) := by
  rcases hq : squareR 5 0 9972 A with _ | x
  · obtain ⟨g1, g2⟩ := squareR_grounds hq
    have GA := Good.of hA.len_eq g1
    rw [g2, hA.len_eq] at GA
    by_cases hd : det n (mx A) % 9973 = 0
    · exact (inv_Of_none hA GA hd).mono fun e w' ⟨h1, h2⟩ => ⟨h2, .inl ⟨_, h1⟩⟩
    · exact (inv_Of_ok hA GA hd).mono fun e w' ⟨a', c', P, h1, h2, h3, h4⟩ => ⟨h4, .inr ⟨GA, hd, a', c', P, h1, h2, h3⟩⟩
  · exact (inv_Of_err hA hq).mono fun e w' ⟨h1, h2⟩ => ⟨by rw [← h2]; exact Below.refl _ _, .inl ⟨_, h1⟩⟩
theorem oneM_comm (i j : Nat) : oneM i j = oneM j i := by
  unfold oneM
  by_cases h : i = j
  · rw [if_pos h, if_pos h.symm]
  · rw [if_neg h, if_neg (fun e => h e.symm)]

/-- What is solved is the inverse's column. -/
theorem undo_col {n j : Nat} {A S : List (List Int)} {x : List Int} (GS : Good n n S) (I : IsInv n (mx A) (mx S)) (hj : j < n) (lx : x.length = n) (ex : In 0 9972 x) (h : toN A x n n = rowF (oneM j) n) : x = rowOf (flipL S n n) j := by
  have D := flipL_is S n n
  refine ix_ext (by rw [lx, D.1.2 j hj]) fun k hk => ?_
  rw [lx] at hk
  have e1 : EqM n n (mulM n (mx A) fun r _ => ix x r) (fun i _ => oneM i j) := fun i s hi hs => by
    have e2 := toN_ix (M := A) (l := x) (c := n) hi
    rw [h, rowF_ix hi] at e2
    unfold toV at e2
    show Eqm (sumTo (fun t => en A i t * ix x t) n) (oneM i j)
    rw [oneM_comm, e2]
    exact (Eqm.mod _).symm
  have e3 := (EqM.mul (EqM.refl n n (mx S)) e1) k 0 hk (by omega)
  rw [← mulM_go] at e3
  have e4 := (EqM.mul (I.left) (EqM.refl n n fun r _ => ix x r)) k 0 hk (by omega)
  have e5 := one_left (n := n) (fun r _ => ix x r) k 0 hk (by omega)
  have e6 : mulM n (mx S) (fun i _ => oneM i j) k 0 = mx S k j := mulM_one (mx S) k hj
  rw [e6] at e3
  have e7 : Eqm (ix x k) (en S k j) := e5.symm.trans (e4.symm.trans e3)
  have e8 : ix (rowOf (flipL S n n) j) k = en S k j := D.2 j k hj hk
  rw [e8]
  exact Eqm.eq e7 (ex k (by omega)) (GS.ent k j hk hj)

theorem rowF_in {n : Nat} (j : Nat) : In 0 9972 (rowF (oneM j) n) := fun k hk => by
  rw [rowF_len] at hk
  rw [rowF_ix hk]
  unfold oneM
  split <;> omega

/-- What the sum holds amid a power. -/
def undoPut (n : Nat) (A : List (List Int)) (l : List Int) (K : Int) (q i j r s : Nat) : Int := if r < i ∨ (r = i ∧ s < j) then undoS n A l K (q + 1) r s else undoS n A l K q r s
theorem undoPut_in (n : Nat) (A : List (List Int)) (l : List Int) (K : Int) (q i j r s : Nat) : 0 ≤ undoPut n A l K q i j r s ∧ undoPut n A l K q i j r s ≤ 9972 := by
  unfold undoPut
  split
  · exact undoS_in _ _ _ _ _ _ _
  · exact undoS_in _ _ _ _ _ _ _

set_option maxHeartbeats 4000000 in
set_option maxRecDepth 100000 in
theorem topUndo_one {w w0 : World} {x : Option Addr} {k c : Nat} (hb : Below w.heap.size w w0) (hk : k = 1) (hc : c = 1) {p q : Nat} (hx : x = some ⟨p, 0, none⟩) (h0 : w0.cell? ⟨p, 0, none⟩ = some (.slice (some ⟨q, 0, none⟩) 1 1)) (h1 : w0.cell? ⟨q, 0, none⟩ = some (.int .i64 2)) :
    Calls Try.prog 35 #[.slice x k c] w0 fun e w' => Below w.heap.size w w' ∧ ∃ g o cap aa ca, e = .returned (.tuple #[.slice (some ⟨g, o, none⟩) 1 cap, .nilIface]) ∧ w'.cell? ⟨g, o, none⟩ = some (.slice aa 1 ca) ∧ RdI w' aa 1 ca [4987] := by
  subst hk hc hx
  have G : Good 1 1 [[2]] := Good.of (n := 1) (M := [[2]]) rfl (by decide)
  have hM : RdM w0 (some ⟨p, 0, none⟩) 1 1 [[2]] := by
    refine ⟨rfl, Nat.le_refl _, by decide, fun k hk => ?_⟩
    obtain rfl : k = 0 := by omega
    exact ⟨p, 0, some ⟨q, 0, none⟩, 1, 1, rfl, h0, RdI.one h1 (Nat.le_refl _) (by decide)⟩
  have hd : det 1 (mx [[2]]) % 9973 ≠ 0 := by decide
  refine (inv_Of_ok hM G hd).mono ?_
  rintro e w' ⟨a', c', P, rfl, hP, hi, hb2⟩
  obtain ⟨GP, I⟩ := G.inv hd hi
  have e1 : rowOf P 0 = [4987] := by
    refine ix_ext (by rw [hi.1.2 0 (by omega)]; rfl) fun k hk => ?_
    rw [hi.1.2 0 (by omega)] at hk
    obtain rfl : k = 0 := by omega
    have h2 := I.right 0 0 (by omega) (by omega)
    have h3 := GP.ent 0 0 (by omega) (by omega)
    have h4 : Eqm (0 + 2 * en P 0 0) 1 := h2
    show en P 0 0 = 4987
    unfold Eqm at h4
    omega
  obtain ⟨g, o, rfl, aa, ca, e2, e3⟩ := hP.rd.rowIn hi.1 (k := 0) (by omega)
  rw [e1] at e3
  rw [Nat.add_zero] at e2
  exact ⟨below_tr hb hb2, g, o, c', aa, ca, rfl, e2, e3⟩

set_option maxHeartbeats 8000000 in
set_option maxRecDepth 100000 in
theorem topUndo_walk {a : Option Addr} {n ca : Nat} {A : List (List Int)} {w : World} (hA : RdM w a n ca A) (_ : ∀ r ∈ A, Fit r) :
    Calls Try.prog 12 #[.slice a n ca] w fun e w' => e = .returned (.bool true) ∧ Below w.heap.size w w' := by
  have HM := Lib.hid matTy
  have lm := hA.len_max
  go_enter Try.func12, Try.ntmps12
  go_wp2_with (go_at_call 35; fail)
  refine (undo_inv hA).mono ?_
  rintro e w2 ⟨k2, hor⟩
  rcases hor with ⟨x, rfl⟩ | ⟨GA, hdA, aX, cX, X, rfl, hX, hXi⟩
  · go_wp2_with (go_at_call 35; fail)
    refine (topUndo_one (w := w) (below_al (below_al k2 _) _) rfl rfl rfl (p := w2.heap.size + 1) (q := w2.heap.size) (by simp [go_sem]) (by simp [go_sem])).mono ?_
    rintro e w3 ⟨k3, g, o, cap, aa, co, rfl, y1, hr⟩
    have hlt := k3.size
    go_wp2_with (go_at_call 32; fail)
    refine (undo_ints (hr.alloc _) (RdI.one (z := 4987) (by simp [go_sem]) (Nat.le_refl _) (by decide)) rfl).mono ?_
    rintro e w4 ⟨rfl, b4⟩
    have k4 := below_tr (below_al k3 _) b4
    go_wp2
    go_ret
    exact ⟨rfl, k4⟩
  · have hX2 := hX.rd
    have HGA := Lib.hid GA
    have HD := Lib.hid hdA
    have HXI := Lib.hid hXi
    have n1 := GA.n1
    clear GA hdA hX hXi
    go_wp2_with (go_at_call 35; fail)
    refine (topUndo_one (w := w2) (below_al (below_al (Below.refl _ _) _) _) rfl rfl rfl (p := w2.heap.size + 1) (q := w2.heap.size) (by simp [go_sem]) (by simp [go_sem])).mono ?_
    rintro e w3 ⟨b3, g, o, cap, aa, co, rfl, y1, hr⟩
    go_wp2_with (go_at_call 32; fail)
    refine (undo_ints (hr.alloc _) (RdI.one (z := 4987) (by simp [go_sem]) (Nat.le_refl _) (by decide)) rfl).mono ?_
    rintro e w4 ⟨rfl, b4⟩
    have b24 := below_tr (below_al b3 _) b4
    have k4 := below_tr k2 b24
    have hX4 := hX2.below b24
    clear b3 y1 hr b4 b24 hX2 k2
    obtain ⟨eF, bF, F⟩ := FL.ex n1.1 (mx A)
    have HF := Lib.hid F
    clear F
    go_wp2_with (go_at_call 36; fail)
    refine (char_Of_ok (hA.below k4) HGA.out HF.out).mono ?_
    rintro e w5 ⟨aL, cL, l, rfl, hL0, hl, b5⟩
    have k5 := below_tr k4 b5
    have hX5 := hX4.below b5
    have hL := hL0.rd
    have LL := Lib.hid hL.len_eq
    have HL := Lib.hid hl
    have hall : allB 0 9972 l = true := List.all_eq_true.2 fun x hx => by
      obtain ⟨i, hi, rfl⟩ := List.getElem_of_mem hx
      have h1 : ix l i = l[i] := ix_lt hi
      have h2 := hl i (by have := LL.out; omega)
      rw [← h1, h2]
      unfold inB
      simp
      omega
    have IL := Lib.hid (allB_in hall)
    have C := R_All_any 0 9972 hL
    rw [hall] at C
    have C := Lib.hid C
    have hl0 : ix l 0 ≠ 0 := undo_low n1.1 HF.out HD.out (hl 0 (Nat.zero_le _))
    have bl0 : 0 ≤ ix l 0 ∧ ix l 0 ≤ 9972 := IL.out 0 (by rw [LL.out]; omega)
    obtain ⟨pl, ol, rfl, lbl, cl⟩ := hL.at (k := 0) (by omega)
    have y0 := cl 0 (by omega)
    rw [Nat.add_zero] at y0
    obtain ⟨Z0, hZ0⟩ : ∃ Z0, ix l 0 = Z0 := ⟨_, rfl⟩
    rw [hZ0] at y0 hl0 bl0
    have HZ0 := Lib.hid hZ0
    have z0 : ((n : Int) + 1 != (n : Int) + 1) = false := bne_eq_false_iff_eq.2 rfl
    have z1 : ((n : Int) != (n : Int)) = false := bne_eq_false_iff_eq.2 rfl
    have z2 : (Z0 == 0) = false := beq_eq_false_iff_ne.2 hl0
    have c0 : (0 : Int) < ((n + 1 : Nat) : Int) := by omega
    have c1 : (0 : Int) < (n : Int) + 1 := by omega
    have CC := Lib.hid cl
    clear hL0 hl hall cl b5 hX4 k4 hZ0
    go_wp2_with (first | (go_at_call 18; (with_reducible refine C.out.mono ?_); rintro e w' ⟨rfl, rfl⟩) | (go_at_call 37; fail))
    clear C
    refine (R_Copy_any hX5 (by omega) (fun r hr => by rw [HXI.out.1.2 r hr]; omega)).mono ?_
    rintro e w6 ⟨a6, c6, rfl, ho6, b6⟩
    obtain ⟨g, D, Cp, hz, hd6⟩ := ho6.named (by omega) (fun r hr => by rw [HXI.out.1.2 r hr]; omega)
    cases hz
    have hX0 : Hid (Dm n n X ∧ ∀ r s, r < n → s < n → (r < 0 ∨ (r = 0 ∧ s < 0)) → en X r s = 0) := ⟨HXI.out.1, fun r s _ _ h => by omega⟩
    clear ho6
    go_wp2_with fail
    go_loopw [10] (fun x wt => ∃ (i : Nat) (P : List (List Int)), i ≤ n ∧ x = .int .i64 i ∧ OwMD wt w5.heap.size 22 3 g D Cp n c6 P ∧ Hid (Dm n n P ∧ ∀ r s, r < n → s < n → (r < i ∨ (r = i ∧ s < 0)) → en P r s = 0) ∧ Below w5.heap.size w5 wt) (fun x _ => n - (intOf x).toNat)
    case atStart => exact ⟨0, X, Nat.zero_le _, rfl, hd6, hX0, b6⟩
    case round =>
      clear hd6 hX0 b6
      obtain ⟨i, P, hi, rfl, hd, hP, hb⟩ := hrel
      by_cases hin : i < n
      · have i1 : (i : Int) < (n : Int) := by omega
        have x1 := hd.cellO hin
        rw [hP.out.1.2 i hin] at x1
        go_wp2
        go_loopw [11] (fun x wt => ∃ (j : Nat) (P : List (List Int)), j ≤ n ∧ x = .int .i64 j ∧ OwMD wt w5.heap.size 22 3 g D Cp n c6 P ∧ Hid (Dm n n P ∧ ∀ r s, r < n → s < n → (r < i ∨ (r = i ∧ s < j)) → en P r s = 0) ∧ Below w5.heap.size w5 wt) (fun x _ => n - (intOf x).toNat)
        case atStart => exact ⟨0, P, Nat.zero_le _, rfl, hd, hP, hb⟩
        case round =>
          clear hd hP hb x1
          obtain ⟨j, P, hj, rfl, hd, hP, hb⟩ := hrel
          by_cases hjn : j < n
          · have i2 : (j : Int) < (n : Int) := by omega
            have a1 := hd.cellO hin
            have a2 := hd.cellI hin (j := j) (by rw [hP.out.1.2 i hin]; exact hjn)
            have a3 := hd.frozenI hin (by rw [hP.out.1.2 i hin]; omega) j
            rw [hP.out.1.2 i hin] at a1
            go_wp2
            go_roundw
            case rel => exact ⟨j + 1, _, by omega, by go_num, hd.set matTy.ne hin _, ⟨hP.out.1.setE _ _ _, fun r s hr hs h => by
              rw [hP.out.1.en_set _ hr hs]
              by_cases e : i = r ∧ j = s
              · rw [if_pos e]
              · rw [if_neg e]; exact hP.out.2 r s hr hs (by omega)⟩, hb.setCell (p := ⟨D i, j, none⟩) (hd.lowI hin).1 _⟩
            case measure => simp [intOf]; omega
          · obtain rfl : n = j := by omega
            go_wp2
            go_roundw
            case rel => exact ⟨i + 1, P, by omega, by go_num, hd, ⟨hP.out.1, fun r s hr hs h => hP.out.2 r s hr hs (by omega)⟩, hb⟩
            case measure => simp [intOf]; omega
      · obtain rfl : n = i := by omega
        obtain ⟨wk, hwk⟩ : ∃ x, x = wr := ⟨_, rfl⟩
        subst hwk
        obtain ⟨o, ho⟩ : ∃ o, o = powm Z0 9971 := ⟨_, rfl⟩
        have bO : 0 ≤ o ∧ o ≤ 9972 := by rw [ho]; exact powm_in _ _
        have CO : Hid (∀ w, Calls Try.prog 38 #[.int .i64 Z0, .int .i64 9971] w fun e w' => e = .returned (.int .i64 o) ∧ w = w') := fun w => by rw [ho]; exact R_Pow_any 9971 9971 Z0 w (Nat.le_refl _) (by omega) bl0
        obtain ⟨K, hK⟩ : ∃ K, (-o) % 9973 = K := ⟨_, rfl⟩
        have bK : 0 ≤ K ∧ K ≤ 9972 := by omega
        have HK : Hid (Eqm (K * ix l 0) (-1)) := by
          unfold Hid
          rw [HZ0.out]
          have h1 : Eqm (o * Z0) 1 := by rw [ho]; exact over_mul bl0.1 bl0.2 hl0
          rw [← hK]
          exact ((Eqm.mod _).mul (Eqm.refl Z0)).trans ((Eqm.of_eq (by grind)).trans h1.neg)
        have CM : Hid (∀ w, Calls Try.prog 17 #[.int .i64 (-o)] w fun e w' => e = .returned (.int .i64 K) ∧ w = w') := fun w => by rw [← hK]; exact R_Mod_any _ _ (by omega) (by omega)
        have u1 : IntKind.i64.wrap (-o) = -o := Go.IntWalk.i64_in _ (by omega)
        have hkz := hb.size
        have k7 := below_tr k5 hb
        have hX7 := hX5.below hb
        have hL7 := hL.below hb
        have y0 := hb.keep lbl y0
        have hP0 : Hid (IsR n n P (undoS n A l K 0)) := ⟨hP.out.1, fun r s hr hs => by rw [hP.out.2 r s hr hs (by omega)]; rfl⟩
        have hq : squareR 5 0 9972 A = none := squareR_of (lo := 0) (hi := 9972) (most := 5) n1.1 (by omega) HGA.out.dm HGA.out.ent
        have HQ := Lib.hid hq
        have hX5' := hX5
        clear hq hK ho hX5 hL hP
        go_wp2_with (first | (go_at_call 38; (with_reducible refine (CO.out _).mono ?_); rintro e w' ⟨rfl, rfl⟩) | (go_at_call 17; (with_reducible refine (CM.out _).mono ?_); rintro e w' ⟨rfl, rfl⟩))
        clear CO CM u1 y0 z0
        go_loopw [13] (fun x wt => ∃ (q p : Nat) (S : List (List Int)), p = q + 1 ∧ q ≤ n ∧ x = .int .i64 p ∧ OwMD wt w5.heap.size 22 3 g D Cp n c6 S ∧ Hid (IsR n n S (undoS n A l K q)) ∧ Below w5.heap.size w5 wt) (fun x _ => n + 1 - (intOf x).toNat)
        case atStart => exact ⟨0, 1, P, rfl, Nat.zero_le _, rfl, hd, hP0, hb⟩
        case round =>
          clear hd hP0
          obtain ⟨q, p, S, hpq, hqn, rfl, hd, hS, hb⟩ := hrel
          have k8 := below_tr k5 hb
          by_cases hql : q < n
          · have i1 : (p : Int) ≤ (n : Int) := by omega
            have u1 : IntKind.i64.wrap ((p : Int) - 1) = (q : Int) := by rw [Go.IntWalk.i64_in _ (by omega)]; omega
            have HPQ := Lib.hid hpq
            have hpn : p ≤ n := by omega
            clear hpq
            have hlowO := hd.lowO
            have hlowI := Lib.hid (fun i (hi : i < n) => hd.lowI hi)
            obtain ⟨wo, hwo⟩ : ∃ wo, wo = wr := ⟨_, rfl⟩
            subst hwo
            have C := Lib.hid (Pow_ok (e := q) (hA.below k8) HQ.out (by omega))
            go_wp2_with (first | (go_at_call 39; fail))
            (with_reducible refine C.out.mono ?_)
            clear C
            rintro e w9 ⟨aP, cP, Q, rfl, hQ0, hQi, b9⟩
            have hd9 := hd.below b9
            have hb9 := below_tr hb b9
            have k9 := below_tr k5 hb9
            have HQI := Lib.hid hQi
            obtain ⟨g2, D2, C2, hz, hp⟩ := hQ0.named (by omega) fun r hr => by rw [HQI.out.1.2 r hr]; omega
            subst hz
            have lowP := hp.lowO
            have lowPI := Lib.hid (fun i (hi : i < n) => hp.lowI hi)
            have HP0 : Hid (Dm n n S ∧ ∀ r s, r < n → s < n → en S r s = undoPut n A l K q 0 0 r s) := ⟨hS.out.1, fun r s hr hs => by rw [hS.out.2 r s hr hs]; unfold undoPut; rw [if_neg (by omega)]⟩
            clear hQ0 hQi b9 hd hb hS k8 u1
            go_wp2_with fail
            go_loopw [16] (fun x wt => ∃ (i : Nat) (S : List (List Int)), i ≤ n ∧ x = .int .i64 i ∧ OwMD wt w5.heap.size 22 3 g D Cp n c6 S ∧ OwMD wt wo.heap.size 22 3 g2 D2 C2 n cP Q ∧ Hid (Dm n n S ∧ ∀ r s, r < n → s < n → en S r s = undoPut n A l K q i 0 r s) ∧ Below w5.heap.size w5 wt) (fun x _ => n - (intOf x).toNat)
            case atStart => exact ⟨0, S, Nat.zero_le _, rfl, hd9, hp, HP0, hb9⟩
            case round =>
              clear hd9 hp HP0 hb9
              obtain ⟨i, S, hi, rfl, hd, hp, hP, hb⟩ := hrel
              by_cases hin : i < n
              · have i1 : (i : Int) < (n : Int) := by omega
                have x1 := hp.cellO hin
                rw [HQI.out.1.2 i hin] at x1
                have z9 : ((n : Int) != (n : Int)) = false := bne_eq_false_iff_eq.2 rfl
                go_wp2_with fail
                go_loopw [17] (fun x wt => ∃ (j : Nat) (S : List (List Int)), j ≤ n ∧ x = .int .i64 j ∧ OwMD wt w5.heap.size 22 3 g D Cp n c6 S ∧ OwMD wt wo.heap.size 22 3 g2 D2 C2 n cP Q ∧ Hid (Dm n n S ∧ ∀ r s, r < n → s < n → en S r s = undoPut n A l K q i j r s) ∧ Below w5.heap.size w5 wt) (fun x _ => n - (intOf x).toNat)
                case atStart => exact ⟨0, S, Nat.zero_le _, rfl, hd, hp, hP, hb⟩
                case round =>
                  clear hd hp hP hb x1
                  obtain ⟨j, S, hj, rfl, hd, hp, hP, hb⟩ := hrel
                  by_cases hjn : j < n
                  · have i2 : (j : Int) < (n : Int) := by omega
                    have a1 := hd.cellO hin
                    have a2 := hd.cellI hin (j := j) (by rw [hP.out.1.2 i hin]; exact hjn)
                    have a3 := hd.frozenI hin (by rw [hP.out.1.2 i hin]; omega) j
                    rw [hP.out.1.2 i hin] at a1
                    have ePut := hP.out.2 i j hin hjn
                    have bX := undoPut_in n A l K q i j i j
                    rw [← ePut] at bX
                    obtain ⟨X0, hX0⟩ : ∃ X0, en S i j = X0 := ⟨_, rfl⟩
                    rw [hX0] at a2 bX
                    have x1 := hp.cellO hin
                    rw [HQI.out.1.2 i hin] at x1
                    have x0 := hp.cellI hin (j := j) (by rw [HQI.out.1.2 i hin]; exact hjn)
                    obtain ⟨Z, hZ⟩ : ∃ Z, en Q i j = Z := ⟨_, rfl⟩
                    have bZ : 0 ≤ Z ∧ Z ≤ 9972 := by rw [← hZ, HQI.out.2 i j hin hjn]; dsimp only; omega
                    rw [hZ] at x0
                    have x2 := hb.keep lbl (CC.out p (by omega))
                    have i3 : (p : Int) < ((n + 1 : Nat) : Int) := by omega
                    have i4 : (p : Int) < (n : Int) + 1 := by omega
                    obtain ⟨L, hLp⟩ : ∃ L, ix l p = L := ⟨_, rfl⟩
                    have bL : 0 ≤ L ∧ L ≤ 9972 := by rw [← hLp]; exact IL.out p (by rw [LL.out]; omega)
                    rw [hLp] at x2
                    have bm := mul_bd bL bK
                    obtain ⟨m, hm⟩ : ∃ m, (L * K) % 9973 = m := ⟨_, rfl⟩
                    have bM : 0 ≤ m ∧ m ≤ 9972 := by omega
                    have bn := mul_bd bM bZ
                    have CM : Hid (∀ w, Calls Try.prog 17 #[.int .i64 (L * K)] w fun e w' => e = .returned (.int .i64 m) ∧ w = w') := fun w => by rw [← hm]; exact R_Mod_any _ _ (by omega) (by omega)
                    have u1 : IntKind.i64.wrap (L * K) = L * K := Go.IntWalk.i64_in _ (by omega)
                    have u4 : IntKind.i64.wrap (m * Z) = m * Z := Go.IntWalk.i64_in _ (by omega)
                    have u5 : IntKind.i64.wrap (X0 + m * Z) = X0 + m * Z := Go.IntWalk.i64_in _ (by omega)
                    have HV : Hid ((X0 + m * Z) % 9973 = undoS n A l K (q + 1) i j) := by
                      unfold Hid
                      rw [← undoS_step, ← hX0, ePut, ← hm, ← hLp, ← hZ, HQI.out.2 i j hin hjn, HPQ.out]
                      unfold undoPut
                      rw [if_neg (by omega)]
                    clear hX0 hZ hLp hm ePut
                    have li := hlowI.out i hin
                    have hp2 := hp.setElse (p := ⟨D i, j, none⟩) (by show D i ≠ g2; omega) (fun r hr => by have := lowPI.out r hr; show D i ≠ D2 r; omega) (.int .i64 ((X0 + m * Z) % 9973))
                    go_wp2
                    go_still_tail 30, (by kernel_rfl)
                    still_call (stillW (CM.out _))
                    repeat still_step
                    still_call (stillW (R_Mod_any _ _ (by omega) (by omega)))
                    repeat still_step
                    refine wpStill_nil ?_
                    change wpList _ _ _ _ _ wr.drew
                    clear u1 u4 u5 CM
                    go_wp2
                    go_roundw
                    case rel => exact ⟨j + 1, _, by omega, by go_num, (hd.set matTy.ne hin _).drew, hp2.drew, ⟨hP.out.1.setE _ _ _, fun r s hr hs => by
                      rw [hP.out.1.en_set _ hr hs]
                      by_cases e : i = r ∧ j = s
                      · rw [if_pos e, ← e.1, ← e.2, HV.out]
                        unfold undoPut
                        rw [if_pos (by omega)]
                      · rw [if_neg e, hP.out.2 r s hr hs]
                        unfold undoPut
                        by_cases e2 : r < i ∨ (r = i ∧ s < j)
                        · rw [if_pos e2, if_pos (by omega)]
                        · rw [if_neg e2, if_neg (by omega)]⟩, (hb.setCell (p := ⟨D i, j, none⟩) li.1 _).drew⟩
                    case measure => simp [intOf]; omega
                  · obtain rfl : n = j := by omega
                    go_wp2
                    go_roundw
                    case rel => exact ⟨i + 1, S, by omega, by go_num, hd, hp, ⟨hP.out.1, fun r s hr hs => by
                      rw [hP.out.2 r s hr hs]
                      unfold undoPut
                      by_cases e2 : r < i ∨ (r = i ∧ s < n)
                      · rw [if_pos e2, if_pos (by omega)]
                      · rw [if_neg e2, if_neg (by omega)]⟩, hb⟩
                    case measure => simp [intOf]; omega
              · obtain rfl : n = i := by omega
                go_wp2
                go_roundw
                case rel => exact ⟨q + 1, p + 1, S, by have := HPQ.out; omega, by omega, by go_num, hd, ⟨hP.out.1, fun r s hr hs => by rw [hP.out.2 r s hr hs]; unfold undoPut; rw [if_pos (.inl hr)]⟩, hb⟩
                case measure => simp [intOf]; omega
          · obtain rfl : n = q := by omega
            have i1 : ¬ (p : Int) ≤ (n : Int) := by omega
            have i0 : (n : Int) < (p : Int) := by omega
            clear hpq
            have HSI : Hid (IsR n n S (invE n A)) := by
              have e := undo_is HGA.out HF.out HD.out HL.out HK.out hS.out
              unfold Hid
              rw [e]
              exact mkM_is n n _
            have HG := Lib.hid (HGA.out.inv HD.out HSI.out)
            have HXS : Hid (X = S) := HXI.out.same HSI.out
            obtain ⟨wq, hwq⟩ : ∃ x, x = wr := ⟨_, rfl⟩
            subst hwq
            have hS8 := hd.toM.rd
            have hX8 := hX5'.below hb
            clear hd hS hb
            go_wp2_with fail
            go_loopw [18] (fun x wt => ∃ j : Nat, j ≤ n ∧ x = .int .i64 j ∧ Below wq.heap.size wq wt) (fun x _ => n - (intOf x).toNat)
            case atStart => exact ⟨0, Nat.zero_le _, rfl, Below.refl _ _⟩
            case round =>
              obtain ⟨j, hj, rfl, hb⟩ := hrel
              have k9 := below_tr k8 hb
              by_cases hjn : j < n
              · have i2 : (j : Int) < (n : Int) := by omega
                have HU := Lib.hid (rowsF_is oneM n n)
                go_wp2_with (go_at_call 40; fail)
                refine (R_Unit_any n _ (by omega)).mono ?_
                rintro e w9 ⟨aU, cU, rfl, hU0, b9⟩
                obtain ⟨bu, ou, rfl, au, du, e2, hru⟩ := hU0.rd.rowIn HU.out.1 hjn
                rw [rowsF_row hjn] at hru
                have k10 := below_tr k9 b9
                have hb10 := below_tr hb b9
                go_wp2_with (go_at_call 33; fail)
                refine (One_ok (hA.below k10) HGA.out hru (rowF_in j)).mono ?_
                rintro e w10 ⟨P1, T1, ps, x, hR, hX1, hor, b11⟩
                have htold := told HGA.out.dm hR hX1 (rowF_len _ _) (rowF_in j) (fun k => en S k j) fun i hi => by
                  rw [rowF_ix hi, oneM_comm]
                  exact HG.out.2.right i j hi hjn
                rcases hor with ⟨hT, ax, cx, rfl, hx0⟩ | ⟨hT, rfl⟩
                rotate_left
                · exact absurd htold hT
                have HEQ : Hid (x = rowOf (flipL S n n) j) := undo_col HG.out.1 HG.out.2 hjn hX1.len (hX1.range hR.eT (by rw [hR.lT]; exact (hR.left HGA.out.dm).st.le) hR.inv.pos) hT
                have hx := hx0.rd
                have hb11 := below_tr hb10 b11
                have k11 := below_tr k10 b11
                clear hR hX1 htold hT hx0 b11 hru e2 hU0 b9 hb10 k10
                go_wp2_with (go_at_call 41; fail)
                refine (R_Flip_any (hS8.below hb11) HSI.out.1 (by omega) (by omega) (by omega)).mono ?_
                rintro e w12 ⟨aF, cF, rfl, hF0, b12⟩
                obtain ⟨bf, of, rfl, af, df, e3, hrf⟩ := hF0.rd.rowIn (flipL_is S n n).1 hjn
                go_wp2_with (go_at_call 32; fail)
                refine (undo_ints (hx.below b12) hrf HEQ.out).mono ?_
                rintro e w13 ⟨rfl, b13⟩
                have hb13 := below_tr (below_tr hb11 b12) b13
                go_wp2
                go_roundw
                case rel => exact ⟨j + 1, by omega, by go_num, hb13⟩
                case measure => simp [intOf]; omega
              · obtain rfl : n = j := by omega
                go_wp2_with (go_at_call 42; fail)
                refine (undo_rows (hX8.below hb) (hS8.below hb) HXS.out).mono ?_
                rintro e w9 ⟨rfl, b9⟩
                have k10 := below_tr k9 b9
                go_wp2
                go_ret
                exact ⟨rfl, k10⟩
end Go.Proofs.Ytoahegjjffggaaa
