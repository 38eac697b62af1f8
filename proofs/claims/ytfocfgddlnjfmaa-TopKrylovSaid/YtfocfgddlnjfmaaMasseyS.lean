/-
  massey.shortest, Fewest, Factors walked: the fewest factors that generate a sequence.
-/
import Derived.Test.YtfocfgddlnjfmaaRows
import Derived.Test.YtfocfgddlnjfmaaLib
import Derived.Test.YtfocfgddlnjfmaaNum
import Derived.Test.YtfocfgddlnjfmaaElim
import Derived.Test.YtfocfgddlnjfmaaTr
import Derived.Test.YtfocfgddlnjfmaaMasseyP
import Derived.Test.YtfocfgddlnjfmaaMasseyW
import Derived.Test.YtfocfgddlnjfmaaMasseyC
import Derived.RangeFuncBox
import Derived.Deep.QuietTactic
import Derived.BigQuiet
import Derived.StillTailTactics
namespace Go.Proofs.Ytfocfgddlnjfmaa
open Go.RowKit Go.Rk

theorem bm_recoef {s c d : Nat → Int} {i L : Nat} (h : BM s i c L) (e : ∀ k, k < L → Eqm (c k) (d k)) : BM s i d L :=
  ⟨h.le, h.gen.congr (fun _ _ => Eqm.refl _) e, h.low, h.eld⟩

/-- What is known of the elder factors. -/
structure Elder (w : World) (l : List Int) (k L : Nat) (first el at_ ms : Value) : Prop where
  or : (first = .bool true ∧ el = .slice none 0 0 ∧ at_ = .int .i64 0 ∧ ms = .int .i64 0 ∧ L = 0) ∨
    ∃ (G : List Int) (L' a : Nat) (ae : Option Addr) (ce : Nat) (d : Int), first = .bool false ∧ el = .slice ae L' ce ∧ at_ = .int .i64 a ∧ ms = .int .i64 d ∧ RdI w ae L' ce G ∧ Hid (In 0 9972 G) ∧ L' ≤ a ∧ a < k ∧ L + L' = a + 1 ∧ Hid (GenF (ix l) (ix G) L' a) ∧ Hid (d = Rz (ix l) (ix G) L' a % 9973 ∧ d ≠ 0)

section
variable {a b : Option Addr} {n ca m cb : Nat} {l f : List Int} {w : World}
set_option maxRecDepth 100000 in
set_option maxHeartbeats 2000000 in
theorem shortest_any (h : RdI w a n ca l) (h1 : In 0 9972 l) (h16 : n ≤ 16) :
    Calls Try.prog 77 #[.slice a n ca] w fun e w' => ∃ a' L c' F, e = .returned (.slice a' L c') ∧ RdI w' a' L c' F ∧ In 0 9972 F ∧ BM (ix l) n (ix F) L ∧ Below w.heap.size w w' := by
  have HIT := Lib.hid intTy
  have HL := Lib.hid h.len_eq
  have HI := Lib.hid h1
  clear h1
  go_enter Try.func77, Try.ntmps77
  go_wp2
  go_loopw [3, 4, 5, 6, 7, 13] (fun fs el at_ ms fi v wr => ∃ (k L : Nat) (af : Option Addr) (cf : Nat) (F : List Int), k ≤ n ∧ v = .int .i64 k ∧ fs = .slice af L cf ∧ RdI wr af L cf F ∧ Hid (In 0 9972 F) ∧ Hid (BM (ix l) k (ix F) L) ∧ Elder wr l k L fi el at_ ms ∧ Below w.heap.size w wr) (fun _ _ _ _ _ v _ => n - (intOf v).toNat)
  case atStart => exact ⟨0, 0, none, 0, [], Nat.zero_le _, rfl, rfl, RdI.nil _, fun j hj => absurd hj (Nat.not_lt_zero _), BM.start _ _, ⟨.inl ⟨rfl, rfl, rfl, rfl, rfl⟩⟩, Below.refl _ _⟩
  case round =>
    obtain ⟨k, L, af, cf, F, hk, rfl, rfl, hF, HFI, HBM, hE, hb⟩ := hrel
    have hLk := HBM.out.le
    by_cases hkn : k < n
    · have i1 : (k : Int) < (n : Int) := by omega
      have CM := misses_any (h.below hb) hF HI.out HFI.out hLk hkn h16
      by_cases hz : Rz (ix l) (ix F) L k % 9973 = 0
      · rw [hz] at CM
        have CM := Lib.hid CM
        have HB2 : Hid (BM (ix l) (k + 1) (ix F) L) := HBM.out.pass (show Rz (ix l) (ix F) L k % 9973 = 0 % 9973 by omega)
        have hE2 : ∀ fi el at_ ms, Elder wr l k L fi el at_ ms → Elder wr l (k + 1) L fi el at_ ms := fun fi el at_ ms ⟨q⟩ => ⟨q.imp id fun ⟨G, L', a, ae, ce, d, q1, q2, q3, q4, q5, q6, q7, q8, q9⟩ => ⟨G, L', a, ae, ce, d, q1, q2, q3, q4, q5, q6, q7, Nat.lt_succ_of_lt q8, q9⟩⟩
        have hE3 := hE2 _ _ _ _ hE
        clear hz hE hE2 HBM
        go_wp2_with (first | (go_at_call 79; (with_reducible refine CM.out.mono ?_); rintro e w' ⟨rfl, rfl⟩))
        go_roundw
        case rel => exact ⟨k + 1, L, af, cf, F, by omega, by go_num, rfl, hF, HFI, HB2, hE3, hb⟩
        case measure => simp [intOf]; omega
      · have z1 : (Rz (ix l) (ix F) L k % 9973 == 0) = false := beq_eq_false_iff_ne.2 hz
        have HZ : Hid (¬ Eqm (Rz (ix l) (ix F) L k) 0) := fun e => hz (by have e : Rz (ix l) (ix F) L k % 9973 = 0 % 9973 := e; omega)
        have hdb : 0 ≤ Rz (ix l) (ix F) L k % 9973 ∧ Rz (ix l) (ix F) L k % 9973 ≤ 9972 := by omega
        obtain ⟨d, hd⟩ : ∃ d, d = Rz (ix l) (ix F) L k % 9973 := ⟨_, rfl⟩
        rw [← hd] at z1 hz hdb CM
        have CM := Lib.hid CM
        have HD : Hid (d = Rz (ix l) (ix F) L k % 9973 ∧ d ≠ 0) := ⟨hd, hz⟩
        clear hd hz
        obtain ⟨q⟩ := hE
        rcases q with ⟨rfl, rfl, rfl, rfl, rfl⟩ | ⟨G, L', at_, ae, ce, dd, rfl, rfl, rfl, rfl, hG, HGI, c1, c2, c3, HGG, HDD⟩
        · have HZ2 : Hid (¬ Eqm (ix l k) 0) := fun e => HZ.out (by unfold Rz; simp only [sumTo]; rw [Int.sub_zero]; exact e)
          have HB2 : Hid (BM (ix l) (k + 1) (ix (List.replicate (k + 1) 0)) (k + 1)) := (HBM.out.first rfl HZ2.out _).1
          have HG2 : Hid (GenF (ix l) (ix []) 0 k) := fun t _ ht => by
            have := (HBM.out.first rfl HZ2.out (ix [])).2 t ht
            unfold Rz
            simp only [sumTo]
            rw [Int.sub_zero]
            exact this
          have HD2 : Hid (d = Rz (ix l) (ix []) 0 k % 9973 ∧ d ≠ 0) := ⟨by rw [HD.out.1]; rfl, HD.out.2⟩
          obtain ⟨N, hN⟩ : ∃ N, N = k + 1 := ⟨_, rfl⟩
          have u1 : IntKind.i64.wrap ((k : Int) + 1) = (N : Int) := by rw [Go.IntWalk.i64_in _ (by omega)]; omega
          have HN := Lib.hid hN
          have hN2 : N ≤ 17 := by omega
          clear HBM hN
          go_wp2_with (first | (go_at_call 79; (with_reducible refine CM.out.mono ?_); rintro e w' ⟨rfl, rfl⟩) | (at_make; refine wpList_make_ints HIT.out rfl (.tmp 26) (.tmp 26) rfl rfl rfl (by omega) ?_; intro w4 ho4 hb4))
          have k4 := hb.trans (hb4.mono hb.size)
          have hr4 := ho4.rd
          rw [HN.out] at hr4
          have hvN : Value.slice (some ⟨wr.heap.size, 0, none⟩) N N = Value.slice (some ⟨wr.heap.size, 0, none⟩) (k + 1) (k + 1) := by rw [HN.out]
          clear ho4 hb4
          rw [hvN]
          have hN := HN.out
          go_roundw
          case rel => exact ⟨k + 1, k + 1, _, _, _, by omega, by go_num, rfl, hr4, fun j hj => by rw [ix_lt hj]; simp, HB2, ⟨.inr ⟨[], 0, k, none, 0, d, rfl, rfl, rfl, rfl, RdI.nil _, fun j hj => absurd hj (Nat.not_lt_zero _), Nat.zero_le _, Nat.lt_succ_self _, by omega, HG2, HD2⟩⟩, k4⟩
          case measure => simp [intOf]; omega
        · have hddb : 0 ≤ dd ∧ dd ≤ 9972 := by have := HDD.out.1; omega
          have u1 : IntKind.i64.wrap ((k : Int) - at_) = (k : Int) - at_ := Go.IntWalk.i64_in _ (by omega)
          have u2 : IntKind.i64.wrap ((k : Int) - at_ - 1) = ((k - at_ - 1 : Nat) : Int) := by rw [Go.IntWalk.i64_in _ (by omega)]; omega
          have bo := powm_in dd 9971
          have hov := over_mul hddb.1 hddb.2 HDD.out.2
          obtain ⟨ov, hovv⟩ : ∃ ov, ov = powm dd 9971 := ⟨_, rfl⟩
          have C0 := Lib.hid (fun w => Over_any dd w hddb.1 hddb.2)
          rw [← hovv] at bo hov C0
          have HOV := Lib.hid hov
          clear hov hovv
          have bp := mul_bd hdb bo
          have u3 : IntKind.i64.wrap (d * ov) = d * ov := Go.IntWalk.i64_in _ (by omega)
          have u4 : (d * ov).tmod 9973 = d * ov % 9973 := Int.tmod_eq_emod_of_nonneg bp.1
          have hxb : 0 ≤ d * ov % 9973 ∧ d * ov % 9973 ≤ 9972 := by omega
          have HBY : Hid (Eqm (d * ov % 9973 * Rz (ix l) (ix G) L' at_) (Rz (ix l) (ix F) L k)) := by
            have e1 : Eqm (d * ov % 9973) (d * ov) := Eqm.mod _
            have e2 : Eqm (Rz (ix l) (ix G) L' at_) dd := by rw [HDD.out.1]; exact (Eqm.mod _).symm
            have e3 : Eqm d (Rz (ix l) (ix F) L k) := by rw [HD.out.1]; exact Eqm.mod _
            have e4 : Eqm (ov * dd) 1 := HOV.out
            have e5 := (e1.mul e2).trans (show Eqm (d * ov * dd) (d * (ov * dd)) from by rw [Int.mul_assoc]; exact Eqm.refl _)
            exact (e5.trans ((Eqm.refl d).mul e4)).trans (by rw [Int.mul_one]; exact e3)
          have HST := Lib.hid (HBM.out.step c1 c2 c3 HGG.out (fun e => HDD.out.2 (by have e : Rz (ix l) (ix G) L' at_ % 9973 = 0 % 9973 := e; rw [HDD.out.1]; omega)) HBY.out HZ.out)
          generalize d * ov % 9973 = by_ at *
          have C := Lib.hid (corrected_any (gap := k - at_ - 1) (x := by_) hF hG HFI.out HGI.out (by omega) (by omega) (by omega) hxb)
          clear bp hxb
          go_wp2_with (first | (go_at_call 79; (with_reducible refine CM.out.mono ?_); rintro e w' ⟨rfl, rfl⟩) | (go_at_call 61; (with_reducible refine (C0.out _).mono ?_); rintro e w' ⟨rfl, rfl⟩) | (go_at_call 92; fail))
          (with_reducible refine C.out.mono ?_)
          clear C
          rintro e w4 ⟨a4, c4, rfl, ho4, hb4⟩
          have k4 := hb.trans (hb4.mono hb.size)
          have hr4 := ho4.rd
          have hF4 := hF.below hb4
          have hG4 := hG.below hb4
          have hln : max L (k - at_ - 1 + 1 + L') = max L (k - at_ + L') := by omega
          rw [hln] at hr4 ⊢
          have HNI : Hid (In 0 9972 (corK F G (k - at_ - 1) by_ L')) := corK_in HFI.out _ _ _ _
          have HNB : Hid (BM (ix l) (k + 1) (ix (corK F G (k - at_ - 1) by_ L')) (max L (k - at_ + L'))) := bm_recoef HST.out fun j _ => by
            have := corK_eqm F G (k - at_ - 1) by_ j
            rw [hF.len_eq, hG.len_eq] at this
            exact this.symm
          generalize corK F G (k - at_ - 1) by_ L' = N at *
          obtain ⟨M, hM⟩ : ∃ M, M = max L (k - at_ + L') := ⟨_, rfl⟩
          rw [← hM] at hr4 HNB ⊢
          have hM2 : M ≤ 17 := by omega
          have i4 : ¬ (M : Int) < (L : Int) := by omega
          have u5 : IntKind.i64.wrap ((k : Int) - at_ + L') = (k : Int) - at_ + L' := Go.IntWalk.i64_in _ (by omega)
          clear ho4 hb4 hF hG hb HST HBY HOV C0 bo CM hln
          by_cases hgt : L < k - at_ + L'
          · have i5 : (L : Int) < (k : Int) - at_ + L' := by omega
            have HS := Lib.hid (show M + L = k + 1 by omega)
            clear hM hgt
            go_wp2
            refine wp_loop_rounds 1 ?_
            rw [rounds_succ]
            go_wp2
            go_roundw
            case rel => exact ⟨k + 1, M, _, _, _, by omega, by go_num, rfl, hr4, HNI, HNB, ⟨.inr ⟨F, L, k, _, _, d, rfl, rfl, rfl, rfl, hF4, HFI, hLk, Nat.lt_succ_self _, HS.out, HBM.out.gen, HD⟩⟩, k4⟩
            case measure => simp [intOf]; omega
          · have i5 : ¬ (L : Int) < (k : Int) - at_ + L' := by omega
            have HS := Lib.hid (show M + L' = at_ + 1 by omega)
            clear hM hgt
            go_wp2
            refine wp_loop_rounds 1 ?_
            rw [rounds_succ]
            go_wp2
            go_roundw
            case rel => exact ⟨k + 1, M, _, _, _, by omega, by go_num, rfl, hr4, HNI, HNB, ⟨.inr ⟨G, L', at_, _, _, dd, rfl, rfl, rfl, rfl, hG4, HGI, c1, by omega, HS.out, HGG, HDD⟩⟩, k4⟩
            case measure => simp [intOf]; omega
    · obtain rfl : k = n := by omega
      go_wp2
      go_ret
      exact ⟨af, L, cf, F, rfl, hF, HFI.out, HBM.out, hb⟩
end
end Go.Proofs.Ytfocfgddlnjfmaa
