/-
  massey.shortest, Fewest, Factors walked: the fewest factors that generate a sequence.
  massey.Fewest, Factors, Goes walked.
  The references' To (a matrix taken to a row), Unit, Pow walked.
  Matrices by a rule, row by row. No program in sight.
  Fewest factors are one list when the sequence is twice as long; factors as what solves a system. Plain Lean on the words of the walks.
-/
import Derived.Test.YtefmllkimdaimaaDoorRows
import Derived.RangeFuncBox
import Derived.Deep.QuietTactic
import Derived.BigQuiet
import Derived.StillTailTactics
import Derived.Test.YtefmllkimdaimaaDoorMgMasseySaysF0
import Derived.Test.YtefmllkimdaimaaDoorMgMasseySaysF1
import Derived.Test.YtefmllkimdaimaaDoorMgMasseySaysF2
import Derived.Test.YtefmllkimdaimaaDoorMgMasseySaysF4
import Derived.Test.YtefmllkimdaimaaDoorMgMasseySaysF5
import Derived.Test.YtefmllkimdaimaaDoorMgMasseySaysF6
namespace Go.Proofs.YtefmllkimdaimaaDoor
open Go.RowKit Go.Rk

theorem bm_recoef {s c d : Nat → Int} {i L : Nat} (h : BM s i c L) (e : ∀ k, k < L → Eqm (c k) (d k)) : BM s i d L :=
  ⟨h.le, h.gen.congr (fun _ _ => Eqm.refl _) e, h.low, h.eld⟩

/-- What is known of the elder factors. -/
structure Elder (w : World) (l : List Int) (k L : Nat) (first el at_ ms : Value) : Prop where
  or : (first = .bool true ∧ el = .slice none 0 0 ∧ at_ = .int .i64 0 ∧ ms = .int .i64 0 ∧ L = 0) ∨
    ∃ (G : List Int) (L' a : Nat) (ae : Option Addr) (ce : Nat) (d : Int), first = .bool false ∧ el = .slice ae L' ce ∧ at_ = .int .i64 a ∧ ms = .int .i64 d ∧ RdI w ae L' ce G ∧ Hid (In 0 9972 G) ∧ L' ≤ a ∧ a < k ∧ L + L' = a + 1 ∧ Hid (GenF (ix l) (ix G) L' a) ∧ Hid (d = Rz (ix l) (ix G) L' a % 9973 ∧ d ≠ 0)

section
variable {a b : Option Addr} {n ca m cb : Nat} {l f : List Int} {w : World}
set_option maxRecDepth 100000 in
set_option maxHeartbeats 2000000 in
theorem shortest_any (h : RdI w a n ca l) (h1 : In 0 9972 l) (h16 : n ≤ 16) :
    Calls Tryd.prog 88 #[.slice a n ca] w fun e w' => ∃ a' L c' F, e = .returned (.slice a' L c') ∧ RdI w' a' L c' F ∧ In 0 9972 F ∧ BM (ix l) n (ix F) L ∧ Below w.heap.size w w' := by
  have HIT := Lib.hid intTy
  have HL := Lib.hid h.len_eq
  have HI := Lib.hid h1
  clear h1
  go_enter Tryd.func88, Tryd.ntmps88
  go_wp2
  go_loopw [3, 4, 5, 6, 7, 13] (fun fs el at_ ms fi v wr => ∃ (k L : Nat) (af : Option Addr) (cf : Nat) (F : List Int), k ≤ n ∧ v = .int .i64 k ∧ fs = .slice af L cf ∧ RdI wr af L cf F ∧ Hid (In 0 9972 F) ∧ Hid (BM (ix l) k (ix F) L) ∧ Elder wr l k L fi el at_ ms ∧ Below w.heap.size w wr) (fun _ _ _ _ _ v _ => n - (intOf v).toNat)
  case atStart => exact ⟨0, 0, none, 0, [], Nat.zero_le _, rfl, rfl, RdI.nil _, fun j hj => absurd hj (Nat.not_lt_zero _), BM.start _ _, ⟨.inl ⟨rfl, rfl, rfl, rfl, rfl⟩⟩, Below.refl _ _⟩
  case round =>
    obtain ⟨k, L, af, cf, F, hk, rfl, rfl, hF, HFI, HBM, hE, hb⟩ := hrel
    have hLk := HBM.out.le
    by_cases hkn : k < n
    · have i1 : (k : Int) < (n : Int) := by omega
      have CM := misses_any (h.below hb) hF HI.out HFI.out hLk hkn h16
      by_cases hz : Rz (ix l) (ix F) L k % 9973 = 0
      · rw [hz] at CM
        have CM := Lib.hid CM
        have HB2 : Hid (BM (ix l) (k + 1) (ix F) L) := HBM.out.pass (show Rz (ix l) (ix F) L k % 9973 = 0 % 9973 by omega)
        have hE2 : ∀ fi el at_ ms, Elder wr l k L fi el at_ ms → Elder wr l (k + 1) L fi el at_ ms := fun fi el at_ ms ⟨q⟩ => ⟨q.imp id fun ⟨G, L', a, ae, ce, d, q1, q2, q3, q4, q5, q6, q7, q8, q9⟩ => ⟨G, L', a, ae, ce, d, q1, q2, q3, q4, q5, q6, q7, Nat.lt_succ_of_lt q8, q9⟩⟩
        have hE3 := hE2 _ _ _ _ hE
        clear hz hE hE2 HBM
        go_wp2_with (first | (go_at_call 90; (with_reducible refine CM.out.mono ?_); rintro e w' ⟨rfl, rfl⟩))
        go_roundw
        case rel => exact ⟨k + 1, L, af, cf, F, by omega, by go_num, rfl, hF, HFI, HB2, hE3, hb⟩
        case measure => simp [intOf]; omega
      · have z1 : (Rz (ix l) (ix F) L k % 9973 == 0) = false := beq_eq_false_iff_ne.2 hz
        have HZ : Hid (¬ Eqm (Rz (ix l) (ix F) L k) 0) := fun e => hz (by have e : Rz (ix l) (ix F) L k % 9973 = 0 % 9973 := e; omega)
        have hdb : 0 ≤ Rz (ix l) (ix F) L k % 9973 ∧ Rz (ix l) (ix F) L k % 9973 ≤ 9972 := by omega
        obtain ⟨d, hd⟩ : ∃ d, d = Rz (ix l) (ix F) L k % 9973 := ⟨_, rfl⟩
        rw [← hd] at z1 hz hdb CM
        have CM := Lib.hid CM
        have HD : Hid (d = Rz (ix l) (ix F) L k % 9973 ∧ d ≠ 0) := ⟨hd, hz⟩
        clear hd hz
        obtain ⟨q⟩ := hE
        rcases q with ⟨rfl, rfl, rfl, rfl, rfl⟩ | ⟨G, L', at_, ae, ce, dd, rfl, rfl, rfl, rfl, hG, HGI, c1, c2, c3, HGG, HDD⟩
        · have HZ2 : Hid (¬ Eqm (ix l k) 0) := fun e => HZ.out (by unfold Rz; simp only [sumTo]; rw [Int.sub_zero]; exact e)
          have HB2 : Hid (BM (ix l) (k + 1) (ix (List.replicate (k + 1) 0)) (k + 1)) := (HBM.out.first rfl HZ2.out _).1
          have HG2 : Hid (GenF (ix l) (ix []) 0 k) := fun t _ ht => by
            have := (HBM.out.first rfl HZ2.out (ix [])).2 t ht
            unfold Rz
            simp only [sumTo]
            rw [Int.sub_zero]
            exact this
          have HD2 : Hid (d = Rz (ix l) (ix []) 0 k % 9973 ∧ d ≠ 0) := ⟨by rw [HD.out.1]; rfl, HD.out.2⟩
          obtain ⟨N, hN⟩ : ∃ N, N = k + 1 := ⟨_, rfl⟩
          have u1 : IntKind.i64.wrap ((k : Int) + 1) = (N : Int) := by rw [Go.IntWalk.i64_in _ (by omega)]; omega
          have HN := Lib.hid hN
          have hN2 : N ≤ 17 := by omega
          clear HBM hN
          go_wp2_with (first | (go_at_call 90; (with_reducible refine CM.out.mono ?_); rintro e w' ⟨rfl, rfl⟩) | (at_make; refine wpList_make_ints HIT.out rfl (.tmp 26) (.tmp 26) rfl rfl rfl (by omega) ?_; intro w4 ho4 hb4))
          have k4 := hb.trans (hb4.mono hb.size)
          have hr4 := ho4.rd
          rw [HN.out] at hr4
          have hvN : Value.slice (some ⟨wr.heap.size, 0, none⟩) N N = Value.slice (some ⟨wr.heap.size, 0, none⟩) (k + 1) (k + 1) := by rw [HN.out]
          clear ho4 hb4
          rw [hvN]
          have hN := HN.out
          go_roundw
          case rel => exact ⟨k + 1, k + 1, _, _, _, by omega, by go_num, rfl, hr4, fun j hj => by rw [ix_lt hj]; simp, HB2, ⟨.inr ⟨[], 0, k, none, 0, d, rfl, rfl, rfl, rfl, RdI.nil _, fun j hj => absurd hj (Nat.not_lt_zero _), Nat.zero_le _, Nat.lt_succ_self _, by omega, HG2, HD2⟩⟩, k4⟩
          case measure => simp [intOf]; omega
        · have hddb : 0 ≤ dd ∧ dd ≤ 9972 := by have := HDD.out.1; omega
          have u1 : IntKind.i64.wrap ((k : Int) - at_) = (k : Int) - at_ := Go.IntWalk.i64_in _ (by omega)
          have u2 : IntKind.i64.wrap ((k : Int) - at_ - 1) = ((k - at_ - 1 : Nat) : Int) := by rw [Go.IntWalk.i64_in _ (by omega)]; omega
          have bo := powm_in dd 9971
          have hov := over_mul hddb.1 hddb.2 HDD.out.2
          obtain ⟨ov, hovv⟩ : ∃ ov, ov = powm dd 9971 := ⟨_, rfl⟩
          have C0 := Lib.hid (fun w => Over_any dd w hddb.1 hddb.2)
          rw [← hovv] at bo hov C0
          have HOV := Lib.hid hov
          clear hov hovv
          have bp := mul_bd hdb bo
          have u3 : IntKind.i64.wrap (d * ov) = d * ov := Go.IntWalk.i64_in _ (by omega)
          have u4 : (d * ov).tmod 9973 = d * ov % 9973 := Int.tmod_eq_emod_of_nonneg bp.1
          have hxb : 0 ≤ d * ov % 9973 ∧ d * ov % 9973 ≤ 9972 := by omega
          have HBY : Hid (Eqm (d * ov % 9973 * Rz (ix l) (ix G) L' at_) (Rz (ix l) (ix F) L k)) := by
            have e1 : Eqm (d * ov % 9973) (d * ov) := Eqm.mod _
            have e2 : Eqm (Rz (ix l) (ix G) L' at_) dd := by rw [HDD.out.1]; exact (Eqm.mod _).symm
            have e3 : Eqm d (Rz (ix l) (ix F) L k) := by rw [HD.out.1]; exact Eqm.mod _
            have e4 : Eqm (ov * dd) 1 := HOV.out
            have e5 := (e1.mul e2).trans (show Eqm (d * ov * dd) (d * (ov * dd)) from by rw [Int.mul_assoc]; exact Eqm.refl _)
            exact (e5.trans ((Eqm.refl d).mul e4)).trans (by rw [Int.mul_one]; exact e3)
          have HST := Lib.hid (HBM.out.step c1 c2 c3 HGG.out (fun e => HDD.out.2 (by have e : Rz (ix l) (ix G) L' at_ % 9973 = 0 % 9973 := e; rw [HDD.out.1]; omega)) HBY.out HZ.out)
          generalize d * ov % 9973 = by_ at *
          have C := Lib.hid (corrected_any (gap := k - at_ - 1) (x := by_) hF hG HFI.out HGI.out (by omega) (by omega) (by omega) hxb)
          clear bp hxb
          go_wp2_with (first | (go_at_call 90; (with_reducible refine CM.out.mono ?_); rintro e w' ⟨rfl, rfl⟩) | (go_at_call 109; (with_reducible refine (C0.out _).mono ?_); rintro e w' ⟨rfl, rfl⟩) | (go_at_call 120; fail))
          (with_reducible refine C.out.mono ?_)
          clear C
          rintro e w4 ⟨a4, c4, rfl, ho4, hb4⟩
          have k4 := hb.trans (hb4.mono hb.size)
          have hr4 := ho4.rd
          have hF4 := hF.below hb4
          have hG4 := hG.below hb4
          have hln : max L (k - at_ - 1 + 1 + L') = max L (k - at_ + L') := by omega
          rw [hln] at hr4 ⊢
          have HNI : Hid (In 0 9972 (corK F G (k - at_ - 1) by_ L')) := corK_in HFI.out _ _ _ _
          have HNB : Hid (BM (ix l) (k + 1) (ix (corK F G (k - at_ - 1) by_ L')) (max L (k - at_ + L'))) := bm_recoef HST.out fun j _ => by
            have := corK_eqm F G (k - at_ - 1) by_ j
            rw [hF.len_eq, hG.len_eq] at this
            exact this.symm
          generalize corK F G (k - at_ - 1) by_ L' = N at *
          obtain ⟨M, hM⟩ : ∃ M, M = max L (k - at_ + L') := ⟨_, rfl⟩
          rw [← hM] at hr4 HNB ⊢
          have hM2 : M ≤ 17 := by omega
          have i4 : ¬ (M : Int) < (L : Int) := by omega
          have u5 : IntKind.i64.wrap ((k : Int) - at_ + L') = (k : Int) - at_ + L' := Go.IntWalk.i64_in _ (by omega)
          clear ho4 hb4 hF hG hb HST HBY HOV C0 bo CM hln
          by_cases hgt : L < k - at_ + L'
          · have i5 : (L : Int) < (k : Int) - at_ + L' := by omega
            have HS := Lib.hid (show M + L = k + 1 by omega)
            clear hM hgt
            go_wp2
            refine wp_loop_rounds 1 ?_
            rw [rounds_succ]
            go_wp2
            go_roundw
            case rel => exact ⟨k + 1, M, _, _, _, by omega, by go_num, rfl, hr4, HNI, HNB, ⟨.inr ⟨F, L, k, _, _, d, rfl, rfl, rfl, rfl, hF4, HFI, hLk, Nat.lt_succ_self _, HS.out, HBM.out.gen, HD⟩⟩, k4⟩
            case measure => simp [intOf]; omega
          · have i5 : ¬ (L : Int) < (k : Int) - at_ + L' := by omega
            have HS := Lib.hid (show M + L' = at_ + 1 by omega)
            clear hM hgt
            go_wp2
            refine wp_loop_rounds 1 ?_
            rw [rounds_succ]
            go_wp2
            go_roundw
            case rel => exact ⟨k + 1, M, _, _, _, by omega, by go_num, rfl, hr4, HNI, HNB, ⟨.inr ⟨G, L', at_, _, _, dd, rfl, rfl, rfl, rfl, hG4, HGI, c1, by omega, HS.out, HGG, HDD⟩⟩, k4⟩
            case measure => simp [intOf]; omega
    · obtain rfl : k = n := by omega
      go_wp2
      go_ret
      exact ⟨af, L, cf, F, rfl, hF, HFI.out, HBM.out, hb⟩
end
end Go.Proofs.YtefmllkimdaimaaDoor
namespace Go.Proofs.YtefmllkimdaimaaDoor
open Go.RowKit Go.Rk

section
variable {a b : Option Addr} {n ca m cb : Nat} {l f : List Int} {w : World}
theorem Fewest_err {c : Int} (h : RdI w a n ca l) (hc : seqR l = some c) :
    Calls Tryd.prog 44 #[.slice a n ca] w fun e w' => e = .returned (.tuple #[.int .i64 0, .iface 75 (.int .i64 c)]) ∧ w = w' := by
  have C := Lib.hid (massey_Check_is h hc)
  clear hc
  go_enter Tryd.func44, Tryd.ntmps44
  go_wp2_with (go_at_call 42; refine C.out.mono ?_; rintro e w' ⟨rfl, rfl⟩; simp only [errV])
  go_ret2
  exact ⟨rfl, rfl⟩
theorem Fewest_ok (h : RdI w a n ca l) (hc : seqR l = none) :
    Calls Tryd.prog 44 #[.slice a n ca] w fun e w' => ∃ (L : Nat) (F : List Int), e = .returned (.tuple #[.int .i64 L, .nilIface]) ∧ BM (ix l) n (ix F) L ∧ F.length = L ∧ In 0 9972 F ∧ Below w.heap.size w w' := by
  have C := Lib.hid (massey_Check_is h hc)
  obtain ⟨g1, g2⟩ := seqR_none hc
  rw [h.len_eq] at g1
  have C2 := Lib.hid (shortest_any h g2 g1)
  clear hc
  go_enter Tryd.func44, Tryd.ntmps44
  go_wp2_with (first | (go_at_call 42; refine C.out.mono ?_; rintro e w' ⟨rfl, rfl⟩; simp only [errV]) | (go_at_call 88; (with_reducible refine C2.out.mono ?_); rintro e w' ⟨a', L, c', F, rfl, hF, hi, hB, hb⟩))
  go_ret2
  exact ⟨L, F, rfl, hB, hF.len_eq, hi, hb⟩
theorem Factors_err {c : Int} (h : RdI w a n ca l) (hc : seqR l = some c) :
    Calls Tryd.prog 45 #[.slice a n ca] w fun e w' => e = .returned (.tuple #[.slice none 0 0, .iface 75 (.int .i64 c)]) ∧ w = w' := by
  have C := Lib.hid (massey_Check_is h hc)
  clear hc
  go_enter Tryd.func45, Tryd.ntmps45
  go_wp2_with (go_at_call 42; refine C.out.mono ?_; rintro e w' ⟨rfl, rfl⟩; simp only [errV])
  go_ret2
  exact ⟨rfl, rfl⟩
theorem Factors_ok (h : RdI w a n ca l) (hc : seqR l = none) :
    Calls Tryd.prog 45 #[.slice a n ca] w fun e w' => ∃ (L : Nat) (F : List Int), BM (ix l) n (ix F) L ∧ F.length = L ∧ In 0 9972 F ∧ Below w.heap.size w w' ∧
      ((2 * L ≤ n ∧ ∃ a' c', e = .returned (.tuple #[.slice a' L c', .nilIface]) ∧ RdI w' a' L c' F) ∨ (n < 2 * L ∧ e = .returned (.tuple #[.slice none 0 0, .iface 75 (.int .i64 5)]))) := by
  have C := Lib.hid (massey_Check_is h hc)
  obtain ⟨g1, g2⟩ := seqR_none hc
  rw [h.len_eq] at g1
  have C2 := Lib.hid (shortest_any h g2 g1)
  clear hc
  go_enter Tryd.func45, Tryd.ntmps45
  go_wp2_with (first | (go_at_call 42; refine C.out.mono ?_; rintro e w' ⟨rfl, rfl⟩; simp only [errV]) | (go_at_call 88; fail))
  (with_reducible refine C2.out.mono ?_)
  rintro e w' ⟨a', L, c', F, rfl, hF, hi, hB, hb⟩
  have hL := hB.le
  have u1 : IntKind.i64.wrap (2 * (L : Int)) = 2 * (L : Int) := Go.IntWalk.i64_in _ (by omega)
  by_cases h2 : n < 2 * L
  · have i1 : (n : Int) < 2 * (L : Int) := by omega
    go_wp2
    go_ret2
    exact ⟨L, F, hB, hF.len_eq, hi, hb, .inr ⟨h2, rfl⟩⟩
  · have i1 : ¬ (n : Int) < 2 * (L : Int) := by omega
    go_wp2
    go_ret2
    exact ⟨L, F, hB, hF.len_eq, hi, hb, .inl ⟨by omega, a', c', rfl, hF⟩⟩

def firstE (a b : Option Int) : Option Int := match a with | some x => some x | none => b
theorem FirstE_any {x y : Option Int} {b : Nat} {w : World} (h0 : w.cell? ⟨b, 0, none⟩ = some (errV x)) (h1 : w.cell? ⟨b, 1, none⟩ = some (errV y)) :
    Calls Tryd.prog 89 #[.slice (some ⟨b, 0, none⟩) 2 2] w fun e w' => e = .returned (errV (firstE x y)) ∧ w = w' := by
  go_enter Tryd.func89, Tryd.ntmps89
  go_wp2
  go_loop [7] (fun i => ∃ k : Nat, k ≤ 2 ∧ i = .int .i64 k ∧ Hid (1 ≤ k → x = none) ∧ Hid (2 ≤ k → y = none)) (fun i => 2 - (intOf i).toNat)
  case atStart => exact ⟨0, by omega, rfl, fun h => absurd h (by omega), fun h => absurd h (by omega)⟩
  case round =>
    obtain ⟨k, hk, rfl, q1, q2⟩ := hrel
    rcases (show k = 0 ∨ k = 1 ∨ k = 2 by omega) with rfl | rfl | rfl
    · rcases x with _ | x
      · simp only [errV] at h0
        go_wp2
        go_round
        case rel => exact ⟨1, by omega, by go_num, fun _ => by first | rfl | trivial, fun h => absurd h (by omega)⟩
        case measure => simp [intOf]
      · simp only [errV] at h0
        go_wp2
        go_ret
        exact ⟨rfl, rfl⟩
    · have e := q1.out (by omega)
      subst e
      rcases y with _ | y
      · simp only [errV] at h1
        go_wp2
        go_round
        case rel => exact ⟨2, by omega, by go_num, fun _ => by first | rfl | trivial, fun _ => by first | rfl | trivial⟩
        case measure => simp [intOf]
      · simp only [errV] at h1
        go_wp2
        go_ret
        exact ⟨rfl, rfl⟩
    · have e := q1.out (by omega)
      have e2 := q2.out (by omega)
      subst e; subst e2
      go_wp2
      go_ret
      exact ⟨rfl, rfl⟩

/-- Does a sequence go by some factors? -/
def goB (l f : List Int) : Bool := (List.range l.length).all fun t => decide (t < f.length) || decide (Rz (ix l) (ix f) f.length t % 9973 = 0)
theorem goB_iff {l f : List Int} : goB l f = true ↔ GenF (ix l) (ix f) f.length l.length := by
  unfold goB
  rw [List.all_eq_true]
  constructor
  · intro h t h1 h2
    have := h t (List.mem_range.2 h2)
    rw [Bool.or_eq_true, decide_eq_true_eq, decide_eq_true_eq] at this
    rcases this with h3 | h3
    · omega
    · exact h3
  · intro h t ht
    rw [Bool.or_eq_true, decide_eq_true_eq, decide_eq_true_eq]
    rcases Nat.lt_or_ge t f.length with h3 | h3
    · exact .inl h3
    · exact .inr (h t h3 (List.mem_range.1 ht))
theorem Goes_err {c : Int} (h : RdI w a n ca l) (hf : RdI w b m cb f) (hc : firstE (seqR l) (seqR f) = some c) :
    Calls Tryd.prog 46 #[.slice a n ca, .slice b m cb] w fun e w' => e = .returned (.tuple #[.bool false, .iface 75 (.int .i64 c)]) ∧ Below w.heap.size w w' := by
  rcases h1 : seqR l with _ | c1 <;> rcases h2 : seqR f with _ | c2 <;> rw [h1, h2] at hc
  · cases hc
  · have HC := Lib.hid hc
    have C1 := Lib.hid (massey_Check_is h h1)
    have C2 := Lib.hid (massey_Check_is hf h2)
    simp only [errV] at C1 C2
    clear hc h1 h2
    go_enter Tryd.func46, Tryd.ntmps46
    go_wp2_with (first | (go_at_call 42; first | ((with_reducible refine C1.out.mono ?_); clear C1; rintro e w' ⟨rfl, rfl⟩) | ((with_reducible refine C2.out.mono ?_); rintro e w' ⟨rfl, rfl⟩)) | (go_at_call 89; refine (FirstE_any (x := none) (y := some c2) (by simp [errV]) (by simp [errV])).mono ?_; rintro e w' ⟨rfl, rfl⟩; rw [HC.out]; simp only [errV]))
    go_ret2
    exact ⟨rfl, (Below.refl w.heap.size w).alloc (Nat.le_refl _) _⟩
  · have HC := Lib.hid hc
    have C1 := Lib.hid (massey_Check_is h h1)
    have C2 := Lib.hid (massey_Check_is hf h2)
    simp only [errV] at C1 C2
    clear hc h1 h2
    go_enter Tryd.func46, Tryd.ntmps46
    go_wp2_with (first | (go_at_call 42; first | ((with_reducible refine C1.out.mono ?_); clear C1; rintro e w' ⟨rfl, rfl⟩) | ((with_reducible refine C2.out.mono ?_); rintro e w' ⟨rfl, rfl⟩)) | (go_at_call 89; refine (FirstE_any (x := some c1) (y := none) (by simp [errV]) (by simp [errV])).mono ?_; rintro e w' ⟨rfl, rfl⟩; rw [HC.out]; simp only [errV]))
    go_ret2
    exact ⟨rfl, (Below.refl w.heap.size w).alloc (Nat.le_refl _) _⟩
  · have HC := Lib.hid hc
    have C1 := Lib.hid (massey_Check_is h h1)
    have C2 := Lib.hid (massey_Check_is hf h2)
    simp only [errV] at C1 C2
    clear hc h1 h2
    go_enter Tryd.func46, Tryd.ntmps46
    go_wp2_with (first | (go_at_call 42; first | ((with_reducible refine C1.out.mono ?_); clear C1; rintro e w' ⟨rfl, rfl⟩) | ((with_reducible refine C2.out.mono ?_); rintro e w' ⟨rfl, rfl⟩)) | (go_at_call 89; refine (FirstE_any (x := some c1) (y := some c2) (by simp [errV]) (by simp [errV])).mono ?_; rintro e w' ⟨rfl, rfl⟩; rw [HC.out]; simp only [errV]))
    go_ret2
    exact ⟨rfl, (Below.refl w.heap.size w).alloc (Nat.le_refl _) _⟩
theorem Goes_ok (h : RdI w a n ca l) (hf : RdI w b m cb f) (h1 : seqR l = none) (h2 : seqR f = none) :
    Calls Tryd.prog 46 #[.slice a n ca, .slice b m cb] w fun e w' => e = .returned (.tuple #[.bool (goB l f), .nilIface]) ∧ Below w.heap.size w w' := by
  have C1 := Lib.hid (massey_Check_is h h1)
  have C2 := Lib.hid (massey_Check_is hf h2)
  simp only [errV] at C1 C2
  obtain ⟨g1, g2⟩ := seqR_none h1
  obtain ⟨g3, g4⟩ := seqR_none h2
  have e1 := h.len_eq
  have e2 := hf.len_eq
  have G2 := Lib.hid g2
  have G4 := Lib.hid g4
  have E1 := Lib.hid e1
  have E2 := Lib.hid e2
  clear h1 h2 g2 g4 e2
  go_enter Tryd.func46, Tryd.ntmps46
  go_wp2_with (first | (go_at_call 42; first | ((with_reducible refine C1.out.mono ?_); clear C1; rintro e w' ⟨rfl, rfl⟩) | ((with_reducible refine C2.out.mono ?_); rintro e w' ⟨rfl, rfl⟩)) | (go_at_call 89; refine (FirstE_any (x := none) (y := none) (by simp [errV]) (by simp [errV])).mono ?_; rintro e w' ⟨rfl, rfl⟩; simp only [firstE, errV]))
  have k1 := (Below.refl w.heap.size w).alloc (Nat.le_refl _) (.cells #[.nilIface, .nilIface] 26)
  generalize w.alloc (.cells #[.nilIface, .nilIface] 26) = w1 at *
  by_cases hmn : m ≤ n
  · go_loop [7] (fun v => ∃ i : Nat, m ≤ i ∧ i ≤ n ∧ v = .int .i64 i ∧ Hid (∀ t, m ≤ t → t < i → Rz (ix l) (ix f) m t % 9973 = 0)) (fun v => n - (intOf v).toNat)
    case atStart => exact ⟨m, Nat.le_refl _, hmn, rfl, fun t h1 h2 => absurd h2 (by omega)⟩
    case round =>
      obtain ⟨i, hmi, hi, rfl, HW⟩ := hrel
      by_cases hin : i < n
      · have i1 : (i : Int) < (n : Int) := by omega
        have C := misses_any (h.below k1) (hf.below k1) G2.out G4.out hmi hin (by omega)
        by_cases hz : Rz (ix l) (ix f) m i % 9973 = 0
        · rw [hz] at C
          have C := Lib.hid C
          have HZ := Lib.hid hz
          clear hz
          go_wp2_with (first | (go_at_call 90; (with_reducible refine C.out.mono ?_); rintro e w' ⟨rfl, rfl⟩))
          go_round
          case rel => exact ⟨i + 1, by omega, by omega, by go_num, fun t h1 h2 => by
            rcases Nat.lt_or_ge t i with h3 | h3
            · exact HW.out t h1 h3
            · obtain rfl : t = i := by omega
              exact HZ.out⟩
          case measure => simp [intOf]; omega
        · have hB : Hid (goB l f = false) := by
            unfold Hid
            rw [Bool.eq_false_iff]
            intro hg
            have h3 := goB_iff.1 hg i (by rw [E2.out]; exact hmi) (by rw [E1.out]; exact hin)
            rw [E2.out] at h3
            exact hz h3
          obtain ⟨d, hd⟩ : ∃ d, d = Rz (ix l) (ix f) m i % 9973 := ⟨_, rfl⟩
          rw [← hd] at C hz
          have C := Lib.hid C
          have z1 : (d != 0) = true := bne_iff_ne.2 hz
          clear hd hz
          go_wp2_with (first | (go_at_call 90; (with_reducible refine C.out.mono ?_); rintro e w' ⟨rfl, rfl⟩))
          go_ret2
          exact ⟨by rw [hB.out]; rfl, k1⟩
      · obtain rfl : i = n := by omega
        have hB : Hid (goB l f = true) := goB_iff.2 fun t h1 h2 => by
          rw [E2.out] at h1 ⊢
          rw [E1.out] at h2
          exact HW.out t h1 h2
        go_wp2
        go_ret2
        exact ⟨by rw [hB.out]; rfl, k1⟩
  · have hB : Hid (goB l f = true) := goB_iff.2 fun t h1 h2 => by
      rw [E2.out] at h1
      rw [E1.out] at h2
      omega
    have i1 : ¬ (m : Int) < (n : Int) := by omega
    refine wp_loop_rounds 1 ?_
    rw [rounds_succ]
    go_wp2
    go_ret2
    exact ⟨by rw [hB.out]; rfl, k1⟩
end
end Go.Proofs.YtefmllkimdaimaaDoor
namespace Go.Proofs.YtefmllkimdaimaaDoor
open Go.RowKit Go.Rk

/-- What a matrix takes a row to, by the prime. -/
def toV (M : List (List Int)) (l : List Int) (c i : Nat) : Int := sumTo (fun j => en M i j * ix l j) c % 9973
def toN (M : List (List Int)) (l : List Int) (c n : Nat) : List Int := (List.range n).map fun i => toV M l c i
theorem toN_len (M : List (List Int)) (l : List Int) (c n : Nat) : (toN M l c n).length = n := by simp [toN]
theorem toN_ix {M : List (List Int)} {l : List Int} {c n i : Nat} (h : i < n) : ix (toN M l c n) i = toV M l c i := by rw [ix_lt (by rw [toN_len]; exact h)]; simp [toN]
theorem toN_succ (M : List (List Int)) (l : List Int) (c n : Nat) : toN M l c (n + 1) = toN M l c n ++ [toV M l c n] := by simp [toN, List.range_succ]
theorem toV_in (M : List (List Int)) (l : List Int) (c i : Nat) : 0 ≤ toV M l c i ∧ toV M l c i ≤ 9972 := by unfold toV; omega
theorem toV_step (M : List (List Int)) (l : List Int) (c i : Nat) : (toV M l c i + en M i c * ix l c) % 9973 = toV M l (c + 1) i := by
  unfold toV
  rw [sumTo, Int.emod_add_emod]
set_option maxHeartbeats 2000000 in
theorem To_any {a b : Option Addr} {n c ca cb : Nat} {M : List (List Int)} {l : List Int} {w : World} (hM : RdM w a n ca M) (d : Dm n c M) (he : EntR 0 9972 n c M) (hl : RdI w b c cb l) (hi : In 0 9972 l) (hn : n ≤ 1000) :
    Calls Tryd.prog 20 #[.slice a n ca, .slice b c cb] w fun e w' => ∃ a' cap', e = .returned (.slice a' n cap') ∧ OwI w' w.heap.size 3 a' n cap' (toN M l c n) ∧ Below w.heap.size w w' := by
  have HIT := Lib.hid intTy
  have HD := Lib.hid d
  have HE := Lib.hid he
  have HI := Lib.hid hi
  have hm := hl.len_max
  have hle := hl.len_eq
  clear d he hi
  go_enter Tryd.func20, Tryd.ntmps20
  go_wp2
  go_loopw [5, 6] (fun v x wr => ∃ (k : Nat) (q : Option Addr) (cq : Nat), k ≤ n ∧ x = .int .i64 k ∧ v = .slice q k cq ∧ OwI wr w.heap.size 3 q k cq (toN M l c k) ∧ Below w.heap.size w wr) (fun _ x _ => n - (intOf x).toNat)
  case atStart => exact ⟨0, none, 0, Nat.zero_le _, rfl, rfl, OwI.nil _ _ _, Below.refl _ _⟩
  case round =>
    obtain ⟨k, q, cq, hk, rfl, rfl, ho, hb⟩ := hrel
    obtain ⟨wo, hwo⟩ : ∃ wo, wo = wr := ⟨_, rfl⟩
    subst hwo
    by_cases hlt : k < n
    · have hlt' : (k : Int) < (n : Int) := by omega
      go_wp2
      go_loopw [7, 8] (fun s x wr => ∃ (t r : Nat) (S : Int), t ≤ c ∧ x = .int .i64 t ∧ s = .int .i64 S ∧ Hid (S = toV M l t k) ∧ Hid (wr = wo.drewN r)) (fun _ x _ => c - (intOf x).toNat)
      case atStart => exact ⟨0, 0, 0, Nat.zero_le _, rfl, rfl, rfl, (World.drewN_zero _).symm⟩
      case round =>
        obtain ⟨t, r, S, ht, rfl, rfl, HS, HW⟩ := hrel
        have bS : 0 ≤ S ∧ S ≤ 9972 := by rw [HS.out]; exact toV_in _ _ _ _
        have kr : Below wo.heap.size wo wr := by rw [HW.out]; exact below_drewN (Below.refl _ _) r
        have hb' := hb.trans (kr.mono hb.size)
        by_cases htc : t < c
        · obtain ⟨bm, om, rfl, _, hr⟩ := (hM.below hb').at hlt
          obtain ⟨ar, cr, hcr, hrd⟩ := hr k hlt
          rw [HD.out.2 k hlt] at hcr hrd
          obtain ⟨p, o, rfl, _, hx⟩ := hrd.at htc
          replace hx := hx t htc
          obtain ⟨p2, o2, rfl, _, hy⟩ := (hl.below hb').at htc
          replace hy := hy t htc
          have m1 := HE.out k t hlt htc
          have m2 := HI.out t (by rw [hle]; exact htc)
          rw [show ix (rowOf M k) t = en M k t from rfl] at hx
          have HT := Lib.hid (toV_step M l t k)
          generalize hX : en M k t = X at hx m1 HT
          generalize hY : ix l t = Y at hy m2 HT
          have m3 : 0 ≤ X * Y ∧ X * Y ≤ 9972 * 9972 := ⟨Int.mul_nonneg m1.1 m2.1, Int.mul_le_mul m1.2 m2.2 m2.1 (by omega)⟩
          have u1 : IntKind.i64.wrap (X * Y) = X * Y := Go.IntWalk.i64_in _ (by omega)
          have u2 : IntKind.i64.wrap (S + X * Y) = S + X * Y := Go.IntWalk.i64_in _ (by omega)
          have i3 : (t : Int) < (c : Int) := by omega
          clear hr hrd hX hY
          go_wp2
          go_quiet ((go_at_call 66; exact quietW (R_Mod_any _ _ (by omega) (by omega))))
          clear u1 u2
          go_wp2
          go_roundw
          case rel => exact ⟨t + 1, r + nq, _, by omega, by go_num, rfl, by unfold Hid; rw [← HT.out, HS.out], by unfold Hid; rw [HW.out, World.drewN_drewN]⟩
          case measure => simp [intOf]; omega
        · obtain rfl : t = c := by omega
          have hsz := hb'.size
          have ho' := ho.below kr
          go_wp2_with (at_builtin; refine wpList_push_int HIT.out rfl (.tmp 36) (.tmp 38) rfl rfl rfl (ho'.alloc _) (z := S) (by simp) (by decide) (by decide) (by omega) (by simp; omega) ?_; intro a4 cap4 w4 ho4 hg4)
          have hb4 := below_grown (hb'.alloc hsz (.cells #[.int .i64 S] 3)) (ho'.alloc (.cells #[.int .i64 S] 3)) (by simp; omega) hg4
          go_roundw
          case rel => exact ⟨k + 1, a4, cap4, by omega, by go_num, rfl, by rw [toN_succ, ← HS.out]; exact ho4, hb4⟩
          case measure => simp [intOf]; omega
    · obtain rfl : k = n := by omega
      go_wp2
      go_ret
      exact ⟨q, cq, rfl, ho, hb⟩
theorem powm_half (a : Int) (n : Nat) (h : Int) (hh : h = powm (a * a % 9973) (n / 2)) : (n % 2 = 1 → h * a % 9973 = powm a n) ∧ (n % 2 = 0 → h = powm a n) := by
  have e : h = a ^ (2 * (n / 2)) % 9973 := by
    rw [hh]
    unfold powm
    rw [pow_emod, sq_pow]
  refine ⟨fun h1 => ?_, fun h1 => ?_⟩
  · rw [e, Int.mul_emod, Int.emod_emod_of_dvd _ (Int.dvd_refl _), ← Int.mul_emod, ← Int.pow_succ, show (2 * (n / 2)).succ = n by omega]
    rfl
  · rw [e, show 2 * (n / 2) = n by omega]
    rfl
theorem R_Pow_any : ∀ (m n : Nat) (a : Int) (w : World) (_ : n ≤ m) (_ : n ≤ 1000000) (_ : 0 ≤ a ∧ a ≤ 9972),
    Calls Tryd.prog 79 #[.int .i64 a, .int .i64 n] w fun e w' => e = .returned (.int .i64 (powm a n)) ∧ w = w' := by
  intro m
  induction m with
  | zero =>
    intro n a w hn _ ha
    obtain rfl : n = 0 := by omega
    go_enter Tryd.func79, Tryd.ntmps79
    go_wp2
    go_ret
    exact ⟨by show _ = Ending.returned (.int .i64 (a ^ 0 % 9973)); rw [Int.pow_zero]; rfl, rfl⟩
  | succ m ih =>
    intro n a w hn hn2 ha
    by_cases h0 : n = 0
    · subst h0
      go_enter Tryd.func79, Tryd.ntmps79
      go_wp2
      go_ret
      exact ⟨by show _ = Ending.returned (.int .i64 (a ^ 0 % 9973)); rw [Int.pow_zero]; rfl, rfl⟩
    · have C := Lib.hid (ih (n / 2) (a * a % 9973) w (by omega) (by omega) (by omega))
      have H := powm_half a n _ rfl
      obtain ⟨h, hh⟩ : ∃ h, powm (a * a % 9973) (n / 2) = h := ⟨_, rfl⟩
      have bh : 0 ≤ h ∧ h ≤ 9972 := by rw [← hh]; unfold powm; omega
      rw [hh] at C H
      clear hh ih
      have b1 : 0 ≤ a * a ∧ a * a ≤ 9972 * 9972 := ⟨Int.mul_nonneg ha.1 ha.1, Int.mul_le_mul ha.2 ha.2 ha.1 (by omega)⟩
      have b2 : 0 ≤ h * a ∧ h * a ≤ 9972 * 9972 := ⟨Int.mul_nonneg bh.1 ha.1, Int.mul_le_mul bh.2 ha.2 ha.1 (by omega)⟩
      have u1 : IntKind.i64.wrap (a * a) = a * a := Go.IntWalk.i64_in _ (by omega)
      have u2 : IntKind.i64.wrap (h * a) = h * a := Go.IntWalk.i64_in _ (by omega)
      have u3 : (a * a).tmod 9973 = a * a % 9973 := Int.tmod_eq_emod_of_nonneg b1.1
      have u4 : (h * a).tmod 9973 = h * a % 9973 := Int.tmod_eq_emod_of_nonneg b2.1
      have u5 : (n : Int).tdiv 2 = ((n / 2 : Nat) : Int) := by rw [Int.tdiv_eq_ediv_of_nonneg (by omega)]; omega
      have z0 : ((n : Int) == 0) = false := beq_eq_false_iff_ne.2 (by omega)
      by_cases hp : n % 2 = 1
      · have u6 : (n : Int).tmod 2 = 1 := by rw [Int.tmod_eq_emod_of_nonneg (by omega)]; omega
        have HR := Lib.hid (H.1 hp)
        clear H hp
        go_enter Tryd.func79, Tryd.ntmps79
        go_wp2_with (go_at_call 79; refine C.out.mono ?_; rintro e w' ⟨rfl, rfl⟩)
        go_ret
        exact ⟨by rw [← HR.out]; rfl, rfl⟩
      · have u6 : (n : Int).tmod 2 = 0 := by rw [Int.tmod_eq_emod_of_nonneg (by omega)]; omega
        have HR := Lib.hid (H.2 (by omega))
        clear H hp
        go_enter Tryd.func79, Tryd.ntmps79
        go_wp2_with (go_at_call 79; refine C.out.mono ?_; rintro e w' ⟨rfl, rfl⟩)
        go_ret
        exact ⟨by rw [← HR.out]; rfl, rfl⟩
end Go.Proofs.YtefmllkimdaimaaDoor
namespace Go.Rk

def rowF (f : Nat → Int) (c : Nat) : List Int := (List.range c).map f
def rowsF (F : Nat → Nat → Int) (c n : Nat) : List (List Int) := (List.range n).map fun i => rowF (F i) c
theorem rowF_succ (f : Nat → Int) (c : Nat) : rowF f (c + 1) = rowF f c ++ [f c] := by simp [rowF, List.range_succ]
theorem rowF_len (f : Nat → Int) (c : Nat) : (rowF f c).length = c := by simp [rowF]
theorem rowF_ix {f : Nat → Int} {c k : Nat} (h : k < c) : ix (rowF f c) k = f k := by
  rw [ix_lt (by rw [rowF_len]; exact h)]; simp [rowF]
theorem rowsF_succ (F : Nat → Nat → Int) (c n : Nat) : rowsF F c (n + 1) = rowsF F c n ++ [rowF (F n) c] := by simp [rowsF, List.range_succ]
theorem rowsF_row {F : Nat → Nat → Int} {c n i : Nat} (h : i < n) : rowOf (rowsF F c n) i = rowF (F i) c := by
  rw [rowOf_lt (by simp [rowsF]; exact h)]; simp [rowsF]
theorem rowsF_is (F : Nat → Nat → Int) (c n : Nat) : IsR n c (rowsF F c n) F :=
  ⟨⟨by simp [rowsF], fun i hi => by rw [rowsF_row hi, rowF_len]⟩, fun i j hi hj => by unfold en; rw [rowsF_row hi, rowF_ix hj]⟩
theorem IsR.same {n c : Nat} {F : Nat → Nat → Int} {P Q : List (List Int)} (h : IsR n c P F) (k : IsR n c Q F) : P = Q := h.1.ext k.1 fun i j hi hj => by rw [h.2 i j hi hj, k.2 i j hi hj]
end Go.Rk
namespace Go.Proofs.YtefmllkimdaimaaDoor
open Go.RowKit Go.Rk

theorem first_fail {s h : Nat → Int} {m : Nat} : ∀ {N a : Nat}, GenF s h m a → ¬ GenF s h m N → ∃ i, a ≤ i ∧ i < N ∧ m ≤ i ∧ GenF s h m i ∧ ¬ Eqm (Rz s h m i) 0
  | 0, _, _, hn => absurd (fun t _ h2 => absurd h2 (Nat.not_lt_zero _)) hn
  | N + 1, a, ha, hn => by
    by_cases hN : GenF s h m N
    · have h1 : m ≤ N ∧ ¬ Eqm (Rz s h m N) 0 := by
        rcases Nat.lt_or_ge N m with h2 | h2
        · exact absurd (fun t h3 h4 => absurd h3 (by omega)) hn
        · refine ⟨h2, fun e => hn fun t h3 h4 => ?_⟩
          rcases Nat.lt_or_ge t N with h5 | h5
          · exact hN t h3 h5
          · obtain rfl : t = N := by omega
            exact e
      rcases Nat.lt_or_ge N a with h2 | h2
      · exact absurd (ha.less (by omega)) hn
      · exact ⟨N, h2, Nat.lt_succ_self _, h1.1, hN, h1.2⟩
    · obtain ⟨i, h1, h2, h3⟩ := first_fail ha hN
      exact ⟨i, h1, by omega, h3⟩

theorem few_unique {s c d : Nat → Int} {L N : Nat} (hc : GenF s c L N) (hd : GenF s d L N) (low : ∀ m h, GenF s h m N → L ≤ m) (h2 : 2 * L ≤ N) : ∀ k, k < L → Eqm (c k) (d k) := by
  intro k0
  induction k0 using Nat.strongRecOn with
  | ind j ih =>
    intro hj
    refine Classical.byContradiction fun hne => ?_
    have hne2 : ¬ Eqm (c j - d j) 0 := fun e => hne (by unfold Eqm at e ⊢; omega)
    obtain ⟨v, hv⟩ := inv_ex hne2
    -- the difference tells each number by those ahead
    have hg : GenF s (fun k => -v * (c (j + 1 + k) - d (j + 1 + k))) (L - 1 - j) (N - 1 - j) := fun u h3 h4 => by
      have ec := Rz_eqm.1 (hc (u + 1 + j) (by omega) (by omega))
      have ed := Rz_eqm.1 (hd (u + 1 + j) (by omega) (by omega))
      have e0 : Eqm (sumTo (fun k => (c k - d k) * s (u + 1 + j - 1 - k)) L) 0 := by
        rw [sumTo_congr (h := fun k => c k * s (u + 1 + j - 1 - k) + -1 * (d k * s (u + 1 + j - 1 - k))) fun k _ => by grind, sumTo_add, sumTo_mul]
        unfold Eqm at ec ed ⊢
        omega
      have e1 : Eqm (sumTo (fun k => (c k - d k) * s (u + 1 + j - 1 - k)) L) (sumTo (fun k => if k < j then 0 else (c k - d k) * s (u + 1 + j - 1 - k)) L) := sumTo_eqm fun k hk => by
        by_cases h5 : k < j
        · rw [if_pos h5]
          have := ih k h5 hk
          have h6 : Eqm (c k - d k) 0 := by unfold Eqm at this ⊢; omega
          have := Eqm.mul h6 (Eqm.refl (s (u + 1 + j - 1 - k)))
          rwa [Int.zero_mul] at this
        · rw [if_neg h5]; exact Eqm.refl _
      have e2 : sumTo (fun k => if k < j then 0 else (c k - d k) * s (u + 1 + j - 1 - k)) L = (c j - d j) * s u + sumTo (fun k => (c (j + 1 + k) - d (j + 1 + k)) * s (u - 1 - k)) (L - 1 - j) := by
        have e3 := sumTo_shift0 (f := fun k => if k < j then 0 else (c k - d k) * s (u + 1 + j - 1 - k)) (a := j) (b := L - j) fun k hk => if_pos hk
        rw [show j + (L - j) = L by omega] at e3
        rw [e3, show L - j = (L - 1 - j) + 1 by omega, sumTo_succ_left]
        rw [if_neg (by omega), show j + 0 = j from rfl, show u + 1 + j - 1 - j = u by omega]
        congr 1
        refine sumTo_congr fun k hk => ?_
        rw [if_neg (by omega), show j + (k + 1) = j + 1 + k by omega, show u + 1 + j - 1 - (j + 1 + k) = u - 1 - k by omega]
      rw [e2] at e1
      have e4 := e1.symm.trans e0
      rw [Rz_eqm]
      have e5 := Eqm.mul (Eqm.refl v) e4
      rw [Int.mul_zero, Int.mul_add, ← Int.mul_assoc] at e5
      have e6 := Eqm.mul hv (Eqm.refl (s u))
      rw [Int.one_mul] at e6
      have e7 : sumTo (fun k => -v * (c (j + 1 + k) - d (j + 1 + k)) * s (u - 1 - k)) (L - 1 - j) = -(v * sumTo (fun k => (c (j + 1 + k) - d (j + 1 + k)) * s (u - 1 - k)) (L - 1 - j)) := by
        rw [← Int.neg_mul, ← sumTo_mul]
        exact sumTo_congr fun k _ => by grind
      rw [e7]
      unfold Eqm at e5 e6 ⊢
      omega
    by_cases hN : GenF s (fun k => -v * (c (j + 1 + k) - d (j + 1 + k))) (L - 1 - j) N
    · have := low _ _ hN
      omega
    · obtain ⟨i, h3, h4, h5, h6, h7⟩ := first_fail hg hN
      have := massey_low h6 h7 h5 (hc.less (by omega : i + 1 ≤ N))
      omega

/-- The rows of the system for k factors, of the first r places behind. -/
def hankF (l : List Int) (k : Nat) : Nat → Nat → Int := fun r c => ix l (k + r - 1 - c)
theorem hank_solves {l x : List Int} {k N : Nat} (hk : k ≤ N) : (∀ r, r < N - k → Eqm (sumTo (fun j => hankF l k r j * ix x j) k) (ix l (k + r))) ↔ GenF (ix l) (ix x) k N := by
  have e (r : Nat) : sumTo (fun j => hankF l k r j * ix x j) k = sumTo (fun j => ix x j * ix l (k + r - 1 - j)) k := sumTo_congr fun j _ => Int.mul_comm _ _
  constructor
  · intro h t h1 h2
    have := h (t - k) (by omega)
    rw [e, show k + (t - k) = t by omega] at this
    exact Rz_eqm.2 this.symm
  · intro h r hr
    have := Rz_eqm.1 (h (k + r) (by omega) (by omega))
    rw [e]
    exact this.symm

/-- The sum of the first k products for a number of a row. -/
def goS (l f : List Int) (i k : Nat) : Int := sumTo (fun k => ix f k * ix l (i - 1 - k)) k
theorem goS_bd {l f : List Int} (hl : In 0 9972 l) (hf : In 0 9972 f) {i : Nat} (hi : i ≤ l.length) : ∀ k, k ≤ f.length → k ≤ i → 0 ≤ goS l f i k ∧ goS l f i k ≤ 99440784 * k
  | 0, _, _ => by simp [goS, sumTo]
  | k + 1, h1, h2 => by
    have ih := goS_bd hl hf hi k (by omega) (by omega)
    have p := mul_bd (hf k (by omega)) (hl (i - 1 - k) (by omega))
    show 0 ≤ goS l f i k + ix f k * ix l (i - 1 - k) ∧ goS l f i k + ix f k * ix l (i - 1 - k) ≤ _
    push_cast
    omega
theorem goB_sums {l f : List Int} (hl : In 0 9972 l) : goB l f = true ↔ ∀ t, f.length ≤ t → t < l.length → goS l f t f.length % 9973 = ix l t := by
  rw [goB_iff]
  constructor
  · intro h t h1 h2
    have e := Rz_eqm.1 (h t h1 h2)
    have b := hl t h2
    unfold goS
    unfold Eqm at e
    omega
  · intro h t h1 h2
    have e := h t h1 h2
    rw [Rz_eqm, ← e]
    exact Eqm.mod _
end Go.Proofs.YtefmllkimdaimaaDoor
