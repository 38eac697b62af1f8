/-
  MinorsCramer walked: with the row where it is taken in the place of a column, the determinant is that column's number times the determinant.
-/
import Derived.Test.YtohconpfpecldaaRows
import Derived.Test.YtohconpfpecldaaLib
import Derived.Test.YtohconpfpecldaaRef
import Derived.Test.YtohconpfpecldaaRefTo
import Derived.Test.YtohconpfpecldaaDetOf
import Derived.Test.YtohconpfpecldaaDetMul
import Derived.Test.YtohconpfpecldaaMatLaw
import Derived.Test.YtohconpfpecldaaMinors
import Derived.StillTailTactics
namespace Go.Rk

theorem det_row_comb {n : Nat} (A : Mx) {i : Nat} (hi : i < n) (x : Nat → Int) (R : Nat → Nat → Int) : ∀ m, det n (setRow A i fun c => sumTo (fun k => x k * R k c) m) = sumTo (fun k => x k * det n (setRow A i (R k))) m := by
  intro m
  induction m with
  | zero =>
    show det n (setRow A i fun _ => 0) = 0
    exact (det_alt n).zero_row _ hi fun c _ => by simp [setRow]
  | succ m ih =>
    show det n (setRow A i fun c => sumTo (fun k => x k * R k c) m + x m * R m c) = sumTo (fun k => x k * det n (setRow A i (R k))) m + _
    rw [det_row_add A i hi, ih, det_row_mul A i hi]
/-- Cramer's rule. -/
theorem cramer {n : Nat} (A : Mx) (x : Nat → Int) {j : Nat} (hj : j < n) : det n (fun r c => if c = j then sumTo (fun k => A r k * x k) n else A r c) = det n A * x j := by
  rw [← det_tr, ← det_tr A]
  have e : trM (fun r c => if c = j then sumTo (fun k => A r k * x k) n else A r c) = setRow (trM A) j fun c => sumTo (fun k => x k * trM A k c) n := by
    funext r c
    unfold trM setRow
    show (if r = j then _ else _) = (if r = j then _ else _)
    by_cases e : r = j
    · rw [if_pos e, if_pos e]
      exact sumTo_congr fun k _ => Int.mul_comm _ _
    · rw [if_neg e, if_neg e]
  rw [e, det_row_comb _ hj]
  have e2 : ∀ k, k < n → x k * det n (setRow (trM A) j (trM A k)) = (if j = k then 1 else 0) * (x k * det n (trM A)) := fun k hk => by
    by_cases h : j = k
    · subst h
      rw [if_pos rfl, Int.one_mul, setRow_self]
    · rw [if_neg h, Int.zero_mul, (det_alt n).eq_zero (setRow (trM A) j (trM A k)) h hj hk fun c _ => by simp [setRow], Int.mul_zero]
  rw [sumTo_congr e2, sumTo_pick (fun k => x k * det n (trM A)) hj, Int.mul_comm]
end Go.Rk
namespace Go.Proofs.Ytohconpfpecldaa
open Go.RowKit Go.Rk

set_option maxHeartbeats 4000000 in
set_option maxRecDepth 100000 in
theorem minorsCramer_walk {a b : Option Addr} {n l ca cb : Nat} {A : List (List Int)} {x : List Int} {w : World} (hA : RdM w a n ca A) (_ : ∀ r ∈ A, Fit r) (hx : RdI w b l cb x) (_ : Fit x) :
    Calls Try.prog 10 #[.slice a n ca, .slice b l cb] w fun e w' => e = .returned (.bool true) ∧ Below w.heap.size w w' := by
  have lx := hx.len_max
  go_enter Try.func10, Try.ntmps10
  go_wp2_with (first | (go_at_call 36; refine (minorsFact_any _).mono ?_; rintro e w1 ⟨rfl, k1⟩) | (go_at_call 27; fail))
  rcases hq : squareR 5 0 9972 A with _ | z
  · obtain ⟨g1, g2⟩ := squareR_grounds hq
    have GA0 := Good.of hA.len_eq g1
    rw [g2, hA.len_eq] at GA0
    have GA := Lib.hid GA0
    have n1 := GA0.n1
    have HQ := Lib.hid hq
    have HN := Lib.hid n1
    clear GA0 g1 g2 hq
    have C := Lib.hid (det_Of_ok (hA.below k1) HQ.out)
    obtain ⟨d, hd⟩ : ∃ d, det n (mx A) % 9973 = d := ⟨_, rfl⟩
    have bd : 0 ≤ d ∧ d ≤ 9972 := by omega
    rw [hd] at C
    have HD := Lib.hid hd
    clear hd HQ
    (with_reducible refine C.out.mono ?_)
    clear C
    rintro e w2 ⟨rfl, hb⟩
    have k2 := below_tr k1 hb
    clear hb k1
    have hin : inB d 0 9972 = true := by unfold inB; simp; omega
    by_cases hln : l = n
    · subst hln
      have z1 : ((l : Int) != (l : Int)) = false := bne_eq_false_iff_eq.2 rfl
      by_cases hal : allB 0 9972 x = true
      · have C := Lib.hid (R_All_any 0 9972 (hx.below k2))
        rw [hal] at C
        have HX := Lib.hid (allB_in hal)
        have hxl := hx.len_eq
        clear hal
        go_wp2_with (first | (go_at_call 20; (with_reducible refine C.out.mono ?_); rintro e w' ⟨rfl, rfl⟩) | (go_at_call 37; refine (L2_in_any _ _ _ _).mono ?_; rintro e w' ⟨rfl, rfl⟩; rw [hin]) | (go_at_call 38; refine (To_any (hA.below k2) GA.out.dm GA.out.ent (hx.below k2) HX.out (by omega)).mono ?_; rintro e w3 ⟨a3, c3, rfl, ho, hb⟩))
        clear C
        have k3 := below_tr k2 hb
        have hT := ho.rd
        clear ho hb k2
        go_loopw [9] (fun v wr => ∃ j : Nat, j ≤ l ∧ v = .int .i64 j ∧ Below w3.heap.size w3 wr) (fun v _ => l - (intOf v).toNat)
        case atStart => exact ⟨0, Nat.zero_le _, rfl, Below.refl _ _⟩
        case round =>
          obtain ⟨j, hj, rfl, hb⟩ := hrel
          have k4 := below_tr k3 hb
          by_cases hlt : j < l
          · have hT := hT.below hb
            have hlt' : (j : Int) < (l : Int) := by omega
            obtain ⟨wo, hwo⟩ : ∃ wo, wo = wr := ⟨_, rfl⟩
            subst hwo
            have C := Lib.hid (R_Copy_any (hA.below k4) (by omega) fun r hr => by rw [GA.out.dm.2 r hr]; omega)
            go_wp2_with (first | (go_at_call 39; fail))
            (with_reducible refine C.out.mono ?_)
            clear C
            rintro e w5 ⟨a5, c5, rfl, ho, hb5⟩
            obtain ⟨g, D, C, hz, hd⟩ := ho.named (by omega) fun r hr => by rw [GA.out.dm.2 r hr]; omega
            subst hz
            clear ho
            go_wp2
            go_loopw [11] (fun v wt => ∃ (q : Nat) (W' : List (List Int)), q ≤ l ∧ v = .int .i64 q ∧ OwMD wt wo.heap.size 22 3 g D C l c5 W' ∧ Hid (IsR l l W' (fun r c => if r < q ∧ c = j then toV A x l r else en A r c)) ∧ Below wo.heap.size wo wt) (fun v _ => l - (intOf v).toNat)
            case atStart => exact ⟨0, A, Nat.zero_le _, rfl, hd, ⟨GA.out.dm, fun r c _ _ => by simp⟩, hb5⟩
            case round =>
              clear hd hb5
              obtain ⟨q, W', hqn, rfl, hd, HW, hb5⟩ := hrel
              by_cases hql : q < l
              · have hql' : (q : Int) < (l : Int) := by omega
                have a1 := hd.cellO hql
                have a2 := hd.cellI hql (j := j) (by rw [HW.out.1.2 q hql]; exact hlt)
                have a3 := hd.frozenI hql (by rw [HW.out.1.2 q hql]; omega) j
                rw [HW.out.1.2 q hql] at a1
                obtain ⟨bt, ot, rfl, _, hct⟩ := (hT.below hb5).at hql
                replace hct := hct q hql
                rw [toN_ix hql] at hct
                obtain ⟨V, hV⟩ : ∃ V, toV A x l q = V := ⟨_, rfl⟩
                rw [hV] at hct
                have HV := Lib.hid hV
                clear hV
                go_wp2
                go_still_tail 10, (by kernel_rfl)
                go_wp2
                go_roundw
                case rel => exact ⟨q + 1, _, by omega, by go_num, (hd.set matTy.ne hql _).drew, ⟨HW.out.1.setE _ _ _, fun r c hr hc => by
                  rw [HW.out.1.en_set _ hr hc, HW.out.2 r c hr hc]
                  dsimp only
                  by_cases e : q = r ∧ j = c
                  · rw [if_pos e, if_pos (by omega), ← e.1, HV.out]
                  · rw [if_neg e]
                    by_cases e2 : r < q ∧ c = j
                    · rw [if_pos e2, if_pos (by omega)]
                    · rw [if_neg e2, if_neg (by omega)]⟩, (hb5.setCell (p := ⟨D q, j, none⟩) (hd.lowI hql).1 _).drew⟩
                case measure => simp [intOf]; omega
              · obtain rfl : q = l := by omega
                have hW := hd.toM.rd
                have k6 := below_tr k4 hb5
                have GW : Good q q W' := ⟨HN.out, HN.out, HW.out.1, fun r c hr hc => by
                  rw [HW.out.2 r c hr hc]
                  dsimp only
                  split
                  · exact toV_in _ _ _ _
                  · exact GA.out.ent r c hr hc⟩
                have HDW : Hid (det q (mx W') % 9973 = d * ix x j % 9973) := by
                  unfold Hid
                  have e1 : Eqm (det q (mx W')) (det q (fun r c => if c = j then sumTo (fun k => mx A r k * ix x k) q else mx A r c)) := det_eqm fun r c hr hc => by
                    show Eqm (en W' r c) _
                    rw [HW.out.2 r c hr hc]
                    dsimp only
                    by_cases e : c = j
                    · rw [if_pos ⟨hr, e⟩, if_pos e]; exact Eqm.mod _
                    · rw [if_neg fun h => e h.2, if_neg e]; exact Eqm.refl _
                  rw [cramer (mx A) (ix x) hlt] at e1
                  rw [← HD.out]
                  exact e1.trans (Eqm.mul (Eqm.mod _).symm (Eqm.refl _))
                have C := Lib.hid (det_Of_ok hW (squareR_of (lo := 0) (hi := 9972) (most := 5) n1.1 (by omega) GW.dm GW.ent))
                rw [HDW.out] at C
                obtain ⟨bx, ox, rfl, _, hcx⟩ := (hx.below k6).at hlt
                have hbx := HX.out j (by rw [hxl]; exact hlt)
                have hcx := hcx j hlt
                clear GW hd
                go_wp2_with (first | (go_at_call 27; fail))
                (with_reducible refine C.out.mono ?_)
                clear C
                rintro e w7 ⟨rfl, hb7⟩
                have hb8 := hb5.trans (hb7.mono hb5.size)
                have hb9 := below_tr hb hb8
                have hcx := hb7.keep (World.block_lt_of_cell? _ _ hcx) hcx
                generalize ix x j = X at *
                have m3 : 0 ≤ d * X ∧ d * X ≤ 9972 * 9972 := ⟨Int.mul_nonneg bd.1 hbx.1, Int.mul_le_mul bd.2 hbx.2 hbx.1 (by omega)⟩
                obtain ⟨T, hT2⟩ : ∃ T, T = d * X := ⟨_, rfl⟩
                rw [← hT2] at m3 ⊢
                have u1 : IntKind.i64.wrap (d * X) = T := by rw [hT2]; exact Go.IntWalk.i64_in _ (by omega)
                have zT : (T % 9973 != T % 9973) = false := bne_eq_false_iff_eq.2 rfl
                clear hT2
                go_wp2_with (first | (go_at_call 18; refine (R_Mod_any _ _ (by omega) (by omega)).mono ?_; rintro e w' ⟨rfl, rfl⟩))
                go_roundw
                case rel => exact ⟨j + 1, by omega, by go_num, hb9⟩
                case measure => simp [intOf]; omega
          · go_wp2
            go_ret
            exact ⟨rfl, k4⟩
      · have hal : allB 0 9972 x = false := by cases h : allB 0 9972 x <;> simp_all
        have C := Lib.hid (R_All_any 0 9972 (hx.below k2))
        rw [hal] at C
        clear hal
        go_wp2_with (first | (go_at_call 20; (with_reducible refine C.out.mono ?_); rintro e w' ⟨rfl, rfl⟩) | (go_at_call 37; refine (L2_in_any _ _ _ _).mono ?_; rintro e w' ⟨rfl, rfl⟩; rw [hin]))
        go_ret
        exact ⟨rfl, k2⟩
    · have z1 : ((l : Int) != (n : Int)) = true := bne_iff_ne.2 (by omega)
      clear hln
      go_wp2_with (first | (go_at_call 37; refine (L2_in_any _ _ _ _).mono ?_; rintro e w' ⟨rfl, rfl⟩; rw [hin]))
      go_ret
      exact ⟨rfl, k2⟩
  · have C := Lib.hid (det_Of_err (hA.below k1) hq)
    clear hq
    (with_reducible refine C.out.mono ?_)
    rintro e w2 ⟨rfl, rfl⟩
    go_wp2
    go_ret
    exact ⟨rfl, k1⟩
end Go.Proofs.Ytohconpfpecldaa
