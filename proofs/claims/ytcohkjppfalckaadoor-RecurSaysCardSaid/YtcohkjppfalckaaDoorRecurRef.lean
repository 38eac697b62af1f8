/-
  The reference's Recur and Row walked: what is wrong with a recurrence, and its row.
-/
import Derived.Test.YtcohkjppfalckaaDoorRows
import Derived.Test.YtcohkjppfalckaaDoorLib
import Derived.Test.YtcohkjppfalckaaDoorNum
import Derived.Test.YtcohkjppfalckaaDoorRef
import Derived.Test.YtcohkjppfalckaaDoorRecur
import Derived.Deep.QuietTactic
import Derived.BigQuiet
namespace Go.Proofs.YtcohkjppfalckaaDoor
open Go.RowKit Go.Rk

theorem allB_not (lo hi : Int) (l : List Int) : allB lo hi l = !anyB lo hi l := by
  unfold allB anyB
  rw [List.all_eq_not_any_not]
  congr 2
  funext x
  unfold inB outB
  by_cases h1 : lo ≤ x <;> by_cases h2 : x ≤ hi <;> simp [h1, h2] <;> omega

theorem checkR_nz {f s : List Int} {c : Int} (h : checkR f s = some c) : c ≠ 0 := by
  unfold checkR at h
  (repeat' split at h) <;> first | (injection h with h; subst h; decide) | cases h

set_option maxHeartbeats 1000000 in
theorem M_Recur_any {a1 a2 : Option Addr} {n1 c1 n2 c2 : Nat} {f s : List Int} {w : World} (hf : RdI w a1 n1 c1 f) (hs : RdI w a2 n2 c2 s) :
    Calls Tryd.prog 4 #[.slice a1 n1 c1, .slice a2 n2 c2] w fun e w' => e = .returned (.int .i64 ((checkR f s).getD 0)) ∧ w = w' := by
  have hm1 := hf.len_max
  have hm2 := hs.len_max
  have A1 := R_All_any 0 9972 hf
  have A2 := R_All_any 0 9972 hs
  rw [allB_not] at A1 A2
  have B1 := Lib.hid hf.len_eq
  have B2 := Lib.hid hs.len_eq
  rcases h1 : anyB 0 9972 f <;> rcases h2 : anyB 0 9972 s
  all_goals
    rw [h1] at A1
    rw [h2] at A2
    have H1 := Lib.hid h1
    have H2 := Lib.hid h2
    clear h1 h2
    have A1' := Lib.hid A1
    have A2' := Lib.hid A2
    clear A1 A2
    go_enter Tryd.func4, Tryd.ntmps4
    go_wp2_with (go_at_call 12; first | ((with_reducible refine A1'.out.mono ?_); rintro e w' ⟨rfl, rfl⟩) | ((with_reducible refine A2'.out.mono ?_); rintro e w' ⟨rfl, rfl⟩))
  all_goals
    go_ret
    refine ⟨?_, rfl⟩
    unfold checkR
    rw [B1.out, B2.out, H1.out, H2.out]
    (try simp only [beq_iff_eq, bne_iff_ne, beq_eq_false_iff_ne, bne_eq_false_iff_eq, ne_eq] at *)
    (repeat' split) <;> first | rfl | (exfalso; omega) | (exfalso; simp_all; done) | (exfalso; contradiction)

set_option maxHeartbeats 2000000 in
set_option maxRecDepth 100000 in
theorem M_Row_any {a1 a2 : Option Addr} {n1 c1 n2 c2 : Nat} {f s : List Int} {w : World} (many : Nat) (hf : RdI w a1 n1 c1 f) (hs : RdI w a2 n2 c2 s) (if_ : In 0 9972 f) (is_ : In 0 9972 s) (h12 : n1 ≤ n2) (h5 : n1 ≤ 1000) (hm : many ≤ 1001) :
    Calls Tryd.prog 8 #[.slice a1 n1 c1, .slice a2 n2 c2, .int .i64 many] w fun e w' =>
      ∃ a cap, e = .returned (.slice a many cap) ∧ OwI w' w.heap.size 3 a many cap (rowN f s many) ∧ Below w.heap.size w w' := by
  have HIT := Lib.hid intTy
  have HS := Lib.hid hs.len_eq
  have HF := Lib.hid hf.len_eq
  have hm2 := hs.len_max
  go_enter Tryd.func8, Tryd.ntmps8
  go_wp2
  go_loopw [7, 8] (fun v x wr => ∃ (i : Nat) (a : Option Addr) (cap : Nat), i ≤ many ∧ x = .int .i64 i ∧ v = .slice a i cap ∧ OwI wr w.heap.size 3 a i cap (rowN f s i) ∧ Below w.heap.size w wr) (fun _ x _ => many - (intOf x).toNat)
  case atStart => exact ⟨0, none, 0, Nat.zero_le _, rfl, rfl, OwI.nil _ _ _, Below.refl _ _⟩
  case round =>
    obtain ⟨i, a, cap, hi, rfl, rfl, ho, hb⟩ := hrel
    obtain ⟨wo, rfl⟩ : ∃ x, x = wr := ⟨_, rfl⟩
    by_cases hlt : i < many
    · have i1 : (i : Int) < (many : Int) := by omega
      have hsz := hb.size
      by_cases hst : i < n2
      · have i2 : (i : Int) < (n2 : Int) := by omega
        obtain ⟨b2, o2, rfl, hb2, hc2⟩ := hs.at hst
        have y1 := hb.keep hb2 (hc2 i hst)
        clear hc2
        go_wp2_with (first | (at_builtin; refine wpList_push_int HIT.out rfl (.tmp 20) (.tmp 25) rfl rfl rfl (ho.alloc _) (z := ix s i) (by simp) (by decide) (by decide) (by omega) (by simp; omega) ?_; intro a4 c4 w4 ho4 hg4))
        have hb4 := below_grown (hb.alloc (by omega) (.cells #[.int .i64 (ix s i)] 3)) (ho.alloc _) (by simp; omega) hg4
        go_roundw
        case rel => exact ⟨i + 1, a4, c4, by omega, by go_num, rfl, by rw [rowN, if_pos (by rw [HS.out]; exact hst)]; exact ho4, hb4⟩
        case measure => simp [intOf]; omega
      · have i2 : ¬ (i : Int) < (n2 : Int) := by omega
        have HO := Lib.hid (rowN_in f s i is_)
        have HL := Lib.hid (rowN_len f s i)
        have HBd := Lib.hid (sumR_bd if_ HO.out)
        go_wp2
        go_loopw [9, 10] (fun v x wt => ∃ k q : Nat, k ≤ n1 ∧ x = .int .i64 k ∧ v = .int .i64 (sumR f (rowN f s i) k) ∧ Hid (wt = wo.drewN q)) (fun _ x _ => n1 - (intOf x).toNat)
        case atStart => exact ⟨0, 0, by omega, rfl, rfl, (World.drewN_zero _).symm⟩
        case round =>
          obtain ⟨k, q, hk, rfl, rfl, HQ⟩ := hrel
          have kb : Below w.heap.size w wr := by rw [HQ.out]; exact below_drewN hb q
          by_cases hkl : k < n1
          · obtain ⟨b1, o1, rfl, hb1, hc1⟩ := (hf.below kb).at hkl
            have y1 := hc1 k hkl
            have ho2 : OwI wr w.heap.size 3 a i cap (rowN f s i) := by rw [HQ.out]; exact ho.drewN q
            obtain ⟨g, rfl, hg1, hg2, hcell, _⟩ := ho2.at (by omega)
            have y2 : wr.cell? ⟨g, i - 1 - k, none⟩ = some (.int .i64 (ix (rowN f s i) (i - 1 - k))) := hcell _ (by omega)
            have bd1 := HBd.out k (by rw [HF.out]; omega) (by rw [HL.out]; omega)
            have bf := if_ k (by rw [HF.out]; omega)
            have bo := HO.out (i - 1 - k) (by rw [HL.out]; omega)
            have bp := mul_bd bf bo
            have i3 : (k : Int) < (n1 : Int) := by omega
            have t1 : ((i : Int) - 1 - k).toNat = i - 1 - k := by omega
            have u1 : IntKind.i64.wrap ((i : Int) - 1) = (i : Int) - 1 := Go.IntWalk.i64_in _ (by omega)
            have u2 : IntKind.i64.wrap ((i : Int) - 1 - k) = (i : Int) - 1 - k := Go.IntWalk.i64_in _ (by omega)
            obtain ⟨X, hX⟩ : ∃ X, X = ix f k * ix (rowN f s i) (i - 1 - k) := ⟨_, rfl⟩
            obtain ⟨S, hS⟩ : ∃ S, S = sumR f (rowN f s i) k := ⟨_, rfl⟩
            rw [← hX] at bp
            rw [← hS] at bd1 ⊢
            have u3 : IntKind.i64.wrap (ix f k * ix (rowN f s i) (i - 1 - k)) = X := by rw [hX]; exact Go.IntWalk.i64_in _ (by omega)
            have u4 : IntKind.i64.wrap (S + X) = S + X := Go.IntWalk.i64_in _ (by omega)
            have i4 : (0 : Int) ≤ (i : Int) - 1 - k := by omega
            have i5 : (i : Int) - 1 - k < (i : Int) := by omega
            have HX := Lib.hid hX
            have HSS := Lib.hid hS
            clear hX hS hc1 hcell
            go_wp2
            go_quiet (fail)
            clear u1 u2 u3 u4
            go_wp2
            go_roundw
            case rel => exact ⟨k + 1, q + nq, by omega, by go_num, ret_int' (by rw [sumR, HL.out, ← HX.out, ← HSS.out]), by unfold Hid; rw [HQ.out, World.drewN_drewN]⟩
            case measure => simp [intOf]; omega
          · obtain rfl : n1 = k := by omega
            have bd1 := HBd.out n1 (by rw [HF.out]; exact Nat.le_refl _) (by rw [HL.out]; omega)
            have HZ : Hid (sumR f (rowN f s i) n1 % 9973 = nextR f (rowN f s i)) := by unfold Hid nextR; rw [HF.out]
            have ho2 : OwI wr w.heap.size 3 a i cap (rowN f s i) := by rw [HQ.out]; exact ho.drewN q
            have hsz2 := kb.size
            go_wp2_with (first | (go_at_call 15; refine (R_Mod_any _ _ (by omega) (by omega)).mono ?_; rintro e w' ⟨rfl, rfl⟩; rw [HZ.out]) | (at_builtin; refine wpList_push_int HIT.out rfl (.tmp 47) (.tmp 50) rfl rfl rfl (ho2.alloc _) (z := nextR f (rowN f s i)) (by simp) (by decide) (by decide) (by omega) (by simp; omega) ?_; intro a4 c4 w4 ho4 hg4))
            have hb4 := below_grown (kb.alloc (by omega) (.cells #[.int .i64 (nextR f (rowN f s i))] 3)) (ho2.alloc _) (by simp; omega) hg4
            go_roundw
            case rel => exact ⟨i + 1, a4, c4, by omega, by go_num, rfl, by rw [rowN, if_neg (by rw [HS.out]; omega)]; exact ho4, hb4⟩
            case measure => simp [intOf]; omega
    · obtain rfl : many = i := by omega
      go_wp2
      go_ret
      exact ⟨a, cap, rfl, ho, hb⟩
end Go.Proofs.YtcohkjppfalckaaDoor
