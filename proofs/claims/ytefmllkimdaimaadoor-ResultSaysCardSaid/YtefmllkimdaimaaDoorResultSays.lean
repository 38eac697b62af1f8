/-
  The reference's Two and Syl walked; ResultSays.
-/
import Derived.Test.YtefmllkimdaimaaDoorRows
import Derived.Test.YtefmllkimdaimaaDoorLib
import Derived.Test.YtefmllkimdaimaaDoorNum
import Derived.Test.YtefmllkimdaimaaDoorRef
import Derived.Test.YtefmllkimdaimaaDoorTr
import Derived.Test.YtefmllkimdaimaaDoorOpen
import Derived.Test.YtefmllkimdaimaaDoorRDet
import Derived.Test.YtefmllkimdaimaaDoorSyl
import Derived.Test.YtefmllkimdaimaaDoorResW
import Derived.Test.YtefmllkimdaimaaDoorSaysKit
import Derived.Test.YtefmllkimdaimaaDoorBandRef
namespace Go.Proofs.YtefmllkimdaimaaDoor
open Go.RowKit Go.Rk

theorem inB_out (n lo hi : Int) : inB n lo hi = !outB n lo hi := by
  unfold inB outB
  by_cases h1 : lo ≤ n <;> by_cases h2 : n ≤ hi <;> simp [h1, h2] <;> omega
theorem M2_in_any (n lo hi : Int) (w : World) :
    Calls Tryd.prog 102 #[.int .i64 n, .int .i64 lo, .int .i64 hi] w fun e w' => e = .returned (.bool (inB n lo hi)) ∧ w = w' := by
  by_cases h : lo ≤ n
  all_goals
    go_enter Tryd.func102, Tryd.ntmps102
    go_wp2
    all_goals (go_ret; refine ⟨congrArg (fun b => Ending.returned (.bool b)) ?_, rfl⟩; unfold inB; simp; try omega)

section
variable {a b : Option Addr} {p q ca cb : Nat} {f g : List Int} {w : World}
set_option maxHeartbeats 4000000 in
set_option maxRecDepth 100000 in
theorem M_Two_any (hf : RdI w a p ca f) (hg : RdI w b q cb g) :
    Calls Tryd.prog 61 #[.slice a p ca, .slice b q cb] w fun e w' => e = .returned (numV (twoR f g)) ∧ w = w' := by
  have lf := hf.len_max
  have lg := hg.len_max
  have B1 := Lib.hid hf.len_eq
  have B2 := Lib.hid hg.len_eq
  have A1 := R_All_any 0 9972 hf
  have A2 := R_All_any 0 9972 hg
  rw [allB_any] at A1 A2
  by_cases h1 : p = 0
  · have hs : twoR f g = some 5 := by unfold twoR; rw [B1.out, B2.out]; rw [if_pos (.inl h1)]
    rw [hs]
    clear hs
    have z1 : ((p : Int) == 0) = true := beq_iff_eq.2 (by omega)
    clear h1
    have A1 := Lib.hid A1
    have A2 := Lib.hid A2
    go_enter Tryd.func61, Tryd.ntmps61
    go_wp2
    go_ret
    exact ⟨rfl, rfl⟩
  have z1 : ((p : Int) == 0) = false := beq_eq_false_iff_ne.2 (by omega)
  by_cases h2 : q = 0
  · have hs : twoR f g = some 5 := by unfold twoR; rw [B1.out, B2.out]; rw [if_pos (.inr h2)]
    rw [hs]
    clear hs
    have z2 : ((q : Int) == 0) = true := beq_iff_eq.2 (by omega)
    clear h1 h2
    have A1 := Lib.hid A1
    have A2 := Lib.hid A2
    go_enter Tryd.func61, Tryd.ntmps61
    go_wp2
    go_ret
    exact ⟨rfl, rfl⟩
  have z2 : ((q : Int) == 0) = false := beq_eq_false_iff_ne.2 (by omega)
  rcases h3 : anyB 0 9972 f with _ | _
  · rcases h4 : anyB 0 9972 g with _ | _
    · rw [h3] at A1
      rw [h4] at A2
      obtain ⟨bf, of_, rfl, _, cf⟩ := hf.at (k := p - 1) (by omega)
      obtain ⟨bg, og, rfl, _, cg⟩ := hg.at (k := q - 1) (by omega)
      have y1 := cf (p - 1) (by omega)
      have y2 := cg (q - 1) (by omega)
      have t1 : ((p : Int) - 1).toNat = p - 1 := by omega
      have t2 : ((q : Int) - 1).toNat = q - 1 := by omega
      have i1 : (0 : Int) ≤ (p : Int) - 1 := by omega
      have i2 : (0 : Int) ≤ (q : Int) - 1 := by omega
      have i3 : (1 : Int) ≤ (p : Int) := by omega
      have i4 : (1 : Int) ≤ (q : Int) := by omega
      have i5 : (p : Int) - 1 < (p : Int) := by omega
      have i6 : (q : Int) - 1 < (q : Int) := by omega
      clear cf cg
      by_cases h5 : ix f (p - 1) = 0
      · have hs : twoR f g = some 3 := by unfold twoR; rw [B1.out, B2.out]; rw [if_neg (by omega), h3, h4, if_neg (by simp), if_pos (.inl h5)]
        rw [hs]
        clear hs
        have z3 : (ix f (p - 1) == 0) = true := beq_iff_eq.2 h5
        clear h1 h2 h3 h4 h5
        have A1 := Lib.hid A1
        have A2 := Lib.hid A2
        go_enter Tryd.func61, Tryd.ntmps61
        go_wp2_with (first | (go_at_call 19; first | ((with_reducible refine A1.out.mono ?_); rintro e w' ⟨rfl, rfl⟩) | ((with_reducible refine A2.out.mono ?_); rintro e w' ⟨rfl, rfl⟩)))
        go_ret
        exact ⟨rfl, rfl⟩
      have z3 : (ix f (p - 1) == 0) = false := beq_eq_false_iff_ne.2 h5
      by_cases h6 : ix g (q - 1) = 0
      · have hs : twoR f g = some 3 := by unfold twoR; rw [B1.out, B2.out]; rw [if_neg (by omega), h3, h4, if_neg (by simp), if_pos (.inr h6)]
        rw [hs]
        clear hs
        have z4 : (ix g (q - 1) == 0) = true := beq_iff_eq.2 h6
        clear h1 h2 h3 h4 h5 h6
        have A1 := Lib.hid A1
        have A2 := Lib.hid A2
        go_enter Tryd.func61, Tryd.ntmps61
        go_wp2_with (first | (go_at_call 19; first | ((with_reducible refine A1.out.mono ?_); rintro e w' ⟨rfl, rfl⟩) | ((with_reducible refine A2.out.mono ?_); rintro e w' ⟨rfl, rfl⟩)))
        go_ret
        exact ⟨rfl, rfl⟩
      have z4 : (ix g (q - 1) == 0) = false := beq_eq_false_iff_ne.2 h6
      have CO := fun w' => M2_in_any (wrap64 (wrap64 ((p : Int) + (q : Int)) - 2)) 1 5 w'
      have HW := wrap_two (p := p) (q := q) (by omega) (by omega) (by omega) (by omega)
      rcases h7 : outB ((p : Int) + q - 2) 1 5 with _ | _
      · have hs : twoR f g = none := by unfold twoR; rw [B1.out, B2.out]; rw [if_neg (by omega), h3, h4, if_neg (by simp), if_neg (fun e => e.elim h5 h6), h7]; rfl
        rw [hs]
        clear hs
        simp only [inB_out, HW, h7, Bool.not_false] at CO
        clear HW
        have CO := Lib.hid CO
        clear h1 h2 h3 h4 h5 h6 h7
        have A1 := Lib.hid A1
        have A2 := Lib.hid A2
        go_enter Tryd.func61, Tryd.ntmps61
        go_wp2_with (first | (go_at_call 19; first | ((with_reducible refine A1.out.mono ?_); rintro e w' ⟨rfl, rfl⟩) | ((with_reducible refine A2.out.mono ?_); rintro e w' ⟨rfl, rfl⟩)) | (go_at_call 102; (with_reducible refine (CO.out _).mono ?_); rintro e w' ⟨rfl, rfl⟩))
        go_ret
        exact ⟨rfl, rfl⟩
      · have hs : twoR f g = some 4 := by unfold twoR; rw [B1.out, B2.out]; rw [if_neg (by omega), h3, h4, if_neg (by simp), if_neg (fun e => e.elim h5 h6), h7]; rfl
        rw [hs]
        clear hs
        simp only [inB_out, HW, h7, Bool.not_true] at CO
        clear HW
        have CO := Lib.hid CO
        clear h1 h2 h3 h4 h5 h6 h7
        have A1 := Lib.hid A1
        have A2 := Lib.hid A2
        go_enter Tryd.func61, Tryd.ntmps61
        go_wp2_with (first | (go_at_call 19; first | ((with_reducible refine A1.out.mono ?_); rintro e w' ⟨rfl, rfl⟩) | ((with_reducible refine A2.out.mono ?_); rintro e w' ⟨rfl, rfl⟩)) | (go_at_call 102; (with_reducible refine (CO.out _).mono ?_); rintro e w' ⟨rfl, rfl⟩))
        go_ret
        exact ⟨rfl, rfl⟩
    · rw [h3] at A1
      rw [h4] at A2
      have hs : twoR f g = some 1 := by unfold twoR; rw [B1.out, B2.out]; rw [if_neg (by omega), h3, h4, if_pos (by simp)]
      rw [hs]
      clear hs
      clear h1 h2 h3 h4
      have A1 := Lib.hid A1
      have A2 := Lib.hid A2
      go_enter Tryd.func61, Tryd.ntmps61
      go_wp2_with (first | (go_at_call 19; first | ((with_reducible refine A1.out.mono ?_); rintro e w' ⟨rfl, rfl⟩) | ((with_reducible refine A2.out.mono ?_); rintro e w' ⟨rfl, rfl⟩)))
      go_ret
      exact ⟨rfl, rfl⟩
  · rw [h3] at A1
    have hs : twoR f g = some 1 := by unfold twoR; rw [B1.out, B2.out]; rw [if_neg (by omega), h3, if_pos (by simp)]
    rw [hs]
    clear hs
    clear h1 h2 h3
    have A1 := Lib.hid A1
    have A2 := Lib.hid A2
    go_enter Tryd.func61, Tryd.ntmps61
    go_wp2_with (first | (go_at_call 19; first | ((with_reducible refine A1.out.mono ?_); rintro e w' ⟨rfl, rfl⟩) | ((with_reducible refine A2.out.mono ?_); rintro e w' ⟨rfl, rfl⟩)))
    go_ret
    exact ⟨rfl, rfl⟩
set_option maxHeartbeats 4000000 in
set_option maxRecDepth 100000 in
theorem M_Syl_any (hf : RdI w a p ca f) (hg : RdI w b q cb g) (hp : 1 ≤ p) (hq : 1 ≤ q) (h3 : 3 ≤ p + q) (h7 : p + q ≤ 1000) :
    Calls Tryd.prog 63 #[.slice a p ca, .slice b q cb] w fun e w' => ∃ z cz, e = .returned (.slice z (p + q - 2) cz) ∧ OwM w' w.heap.size 22 3 z (p + q - 2) cz (rowsF (sylM f g) (p + q - 2) (p + q - 2)) ∧ Below w.heap.size w w' := by
  obtain ⟨n, hn⟩ : ∃ n, n = p + q - 2 := ⟨_, rfl⟩
  rw [← hn]
  have t0 : (p : Int) + (q : Int) - 2 = (n : Int) := by omega
  have hn3 : n + 2 ≤ p + q := by omega
  have hn4 : p + q ≤ n + 2 := by omega
  have HM := Lib.hid matTy
  have HF := Lib.hid hf.len_eq
  have HG := Lib.hid hg.len_eq
  obtain ⟨bf, of_, rfl, hbf, hcf⟩ := hf.at (k := 0) (by omega)
  obtain ⟨bg, og, rfl, hbg, hcg⟩ := hg.at (k := 0) (by omega)
  have HCF := Lib.hid hcf
  have HCG := Lib.hid hcg
  clear hn hcf hcg
  go_enter Tryd.func63, Tryd.ntmps63
  go_wp2
  clear t0
  go_loopw [6, 7] (fun v x wr => ∃ (i : Nat) (z : Option Addr) (cz : Nat), i ≤ n ∧ x = .int .i64 i ∧ v = .slice z i cz ∧ OwM wr w.heap.size 22 3 z i cz (rowsF (sylM f g) n i) ∧ Below w.heap.size w wr) (fun _ x _ => n - (intOf x).toNat)
  case atStart => exact ⟨0, none, 0, Nat.zero_le _, rfl, rfl, OwM.nil _ _ _ _, Below.refl _ _⟩
  case round =>
    obtain ⟨i, z, cz, hi, rfl, rfl, ho, hb⟩ := hrel
    obtain ⟨wo, rfl⟩ : ∃ x, x = wr := ⟨_, rfl⟩
    have hsz := hb.size
    by_cases hin : i < n
    · have i1 : (i : Int) < (n : Int) := by omega
      by_cases hiq : i < q - 1
      · have i3 : ¬ (q : Int) - 1 ≤ (i : Int) := by omega
        have i4 : (i : Int) < (q : Int) - 1 := by omega
        go_wp2_with (refine wpList_make_ints HM.out.int rfl (.tmp 36) (.tmp 36) rfl rfl rfl (by omega) ?_; intro w4 ho4 hb4)
        go_loopw [11] (fun v wt => ∃ (k : Nat) (xs : List Int), k ≤ p ∧ v = .int .i64 k ∧ OwI wt wo.heap.size 3 (some ⟨wo.heap.size, 0, none⟩) n n xs ∧ Hid (∀ j, j < n → ix xs j = if i ≤ j ∧ j < i + k then ix f (p - 1 - (j - i)) else 0) ∧ Below wo.heap.size wo wt) (fun v _ => p - (intOf v).toNat)
        case atStart => exact ⟨0, _, Nat.zero_le _, rfl, ho4, fun j hj => by rw [if_neg (by omega), ix_lt (by simp; exact hj)]; simp, hb4⟩
        case round =>
          clear ho4 hb4
          obtain ⟨k, xs, hk, rfl, hx, HX, hbt⟩ := hrel
          have kt := hb.trans (hbt.mono hsz)
          by_cases hkp : k < p
          · have i2 : (k : Int) < (p : Int) := by omega
            have y1 := kt.keep hbf (HCF.out (p - 1 - k) (by omega))
            have hat : i + k < n := by omega
            obtain ⟨y2, f2⟩ := hx.store_at hat
            have t1 : ((i : Int) + (k : Int)).toNat = i + k := by omega
            have t2 : ((p : Int) - 1 - (k : Int)).toNat = p - 1 - k := by omega
            have j1 : (i : Int) + (k : Int) < (n : Int) := by omega
            have j2 : (0 : Int) ≤ (i : Int) + (k : Int) := by omega
            have j3 : (0 : Int) ≤ (p : Int) - 1 - (k : Int) := by omega
            have j4 : (p : Int) - 1 - (k : Int) < (p : Int) := by omega
            go_wp2
            go_roundw
            case rel => exact ⟨k + 1, _, by omega, by go_num, hx.set _, fun j hj => by
              rw [ix_set, HX.out j hj]
              by_cases e : i + k = j
              · rw [if_pos ⟨e, by rw [hx.len_eq]; exact hj⟩, if_pos (by omega)]; congr 1; omega
              · rw [if_neg fun h => e h.1]
                by_cases e2 : i ≤ j ∧ j < i + k
                · rw [if_pos e2, if_pos (by omega)]
                · rw [if_neg e2, if_neg (by omega)], hbt.setCell (p := ⟨wo.heap.size, i + k, none⟩) (Nat.le_refl _) _⟩
            case measure => simp [intOf]; omega
          · obtain rfl : p = k := by omega
            have E : Hid (xs = rowF (sylM f g i) n) := by
              refine ix_ext (by rw [hx.len_eq, rowF_len]) fun j hj => ?_
              rw [hx.len_eq] at hj
              rw [HX.out j hj, rowF_ix hj]
              have e0 :  i < g.length - 1 := by rw [HG.out]; omega
              unfold sylM
              rw [if_pos e0]
              unfold sylR
              rw [HF.out]
            go_wp2_with (at_builtin; refine wpList_push_row HM.out rfl (.tmp 57) (.tmp 59) rfl rfl rfl ho (hbt.alloc hbt.size _) (hx.below ((Below.refl _ _).alloc (Nat.le_refl _) _)) (by rw [World.cell?_alloc_at _ _ _ _ (by simp)]; rfl) (by omega) hsz ?_; intro a5 cap5 w5 ho5 hb6)
            have hb7 := ((hb.trans (hbt.mono hsz)).alloc (by have := hbt.size; omega) _).trans hb6
            go_roundw
            case rel => exact ⟨i + 1, a5, cap5, by omega, by go_num, rfl, by rw [rowsF_succ, ← E.out]; exact ho5, hb7⟩
            case measure => simp [intOf]; omega
      · have i3 : (q : Int) - 1 ≤ (i : Int) := by omega
        have i4 : ¬ (i : Int) < (q : Int) - 1 := by omega
        go_wp2_with (refine wpList_make_ints HM.out.int rfl (.tmp 36) (.tmp 36) rfl rfl rfl (by omega) ?_; intro w4 ho4 hb4)
        go_loopw [11] (fun v wt => ∃ (k : Nat) (xs : List Int), k ≤ q ∧ v = .int .i64 k ∧ OwI wt wo.heap.size 3 (some ⟨wo.heap.size, 0, none⟩) n n xs ∧ Hid (∀ j, j < n → ix xs j = if (i - (q - 1)) ≤ j ∧ j < (i - (q - 1)) + k then ix g (q - 1 - (j - (i - (q - 1)))) else 0) ∧ Below wo.heap.size wo wt) (fun v _ => q - (intOf v).toNat)
        case atStart => exact ⟨0, _, Nat.zero_le _, rfl, ho4, fun j hj => by rw [if_neg (by omega), ix_lt (by simp; exact hj)]; simp, hb4⟩
        case round =>
          clear ho4 hb4
          obtain ⟨k, xs, hk, rfl, hx, HX, hbt⟩ := hrel
          have kt := hb.trans (hbt.mono hsz)
          by_cases hkp : k < q
          · have i2 : (k : Int) < (q : Int) := by omega
            have y1 := kt.keep hbg (HCG.out (q - 1 - k) (by omega))
            have hat : (i - (q - 1)) + k < n := by omega
            obtain ⟨y2, f2⟩ := hx.store_at hat
            have t1 : (((i : Int) - ((q : Int) - 1)) + (k : Int)).toNat = (i - (q - 1)) + k := by omega
            have t2 : ((q : Int) - 1 - (k : Int)).toNat = q - 1 - k := by omega
            have j1 : ((i : Int) - ((q : Int) - 1)) + (k : Int) < (n : Int) := by omega
            have j2 : (0 : Int) ≤ ((i : Int) - ((q : Int) - 1)) + (k : Int) := by omega
            have j3 : (0 : Int) ≤ (q : Int) - 1 - (k : Int) := by omega
            have j4 : (q : Int) - 1 - (k : Int) < (q : Int) := by omega
            go_wp2
            go_roundw
            case rel => exact ⟨k + 1, _, by omega, by go_num, hx.set _, fun j hj => by
              rw [ix_set, HX.out j hj]
              by_cases e : (i - (q - 1)) + k = j
              · rw [if_pos ⟨e, by rw [hx.len_eq]; exact hj⟩, if_pos (by omega)]; congr 1; omega
              · rw [if_neg fun h => e h.1]
                by_cases e2 : (i - (q - 1)) ≤ j ∧ j < (i - (q - 1)) + k
                · rw [if_pos e2, if_pos (by omega)]
                · rw [if_neg e2, if_neg (by omega)], hbt.setCell (p := ⟨wo.heap.size, (i - (q - 1)) + k, none⟩) (Nat.le_refl _) _⟩
            case measure => simp [intOf]; omega
          · obtain rfl : q = k := by omega
            have E : Hid (xs = rowF (sylM f g i) n) := by
              refine ix_ext (by rw [hx.len_eq, rowF_len]) fun j hj => ?_
              rw [hx.len_eq] at hj
              rw [HX.out j hj, rowF_ix hj]
              have e0 : ¬ i < g.length - 1 := by rw [HG.out]; omega
              unfold sylM
              rw [if_neg e0]
              unfold sylR
              rw [HG.out]
            go_wp2_with (at_builtin; refine wpList_push_row HM.out rfl (.tmp 57) (.tmp 59) rfl rfl rfl ho (hbt.alloc hbt.size _) (hx.below ((Below.refl _ _).alloc (Nat.le_refl _) _)) (by rw [World.cell?_alloc_at _ _ _ _ (by simp)]; rfl) (by omega) hsz ?_; intro a5 cap5 w5 ho5 hb6)
            have hb7 := ((hb.trans (hbt.mono hsz)).alloc (by have := hbt.size; omega) _).trans hb6
            go_roundw
            case rel => exact ⟨i + 1, a5, cap5, by omega, by go_num, rfl, by rw [rowsF_succ, ← E.out]; exact ho5, hb7⟩
            case measure => simp [intOf]; omega
    · obtain rfl : n = i := by omega
      go_wp2
      go_ret
      exact ⟨_, _, rfl, ho, hb⟩

set_option maxHeartbeats 4000000 in
set_option maxRecDepth 100000 in
theorem resultSays_walk (hg0 : ErrT w) (hf : RdI w a p ca f) (_ : Fit f) (hg : RdI w b q cb g) (_ : Fit g) :
    Calls Tryd.prog 10 #[.slice a p ca, .slice b q cb] w fun e w' => e = .returned (.bool true) ∧ Below w.heap.size w w' := by
  have C0 := M_Two_any hf hg
  rcases h : twoR f g with _ | c
  · rw [h] at C0
    have C0 := Lib.hid C0
    obtain ⟨g1, g2, _, _, _, _, g7, g8⟩ := twoR_none h
    rw [hf.len_eq] at g1 g7 g8
    rw [hg.len_eq] at g2 g7 g8
    have e1 := hf.len_eq
    have e2 := hg.len_eq
    have G := Lib.hid (syl_good h (n := p + q - 2) (by omega))
    have HV := Lib.hid (syl_det (f := f) (g := g) (n := p + q - 2) (by omega))
    have n5 : p + q - 2 ≤ 5 := by omega
    have H := Lib.hid h
    have CS := Lib.hid (fun (w' : World) (k : Below w.heap.size w w') => M_Syl_any (hf.below k) (hg.below k) g1 g2 g7 (by omega))
    have CF := Lib.hid (fun (w' : World) (k : Below w.heap.size w w') => result_Full_ok (hf.below k) (hg.below k) h)
    have CO := Lib.hid (fun (w' : World) (k : Below w.heap.size w w') => result_Of_ok (hf.below k) (hg.below k) h)
    obtain ⟨n, hn⟩ : ∃ n, n = p + q - 2 := ⟨_, rfl⟩
    rw [← hn] at G HV n5 CS CF
    obtain ⟨D, hD⟩ : ∃ D, D = resV f g := ⟨_, rfl⟩
    rw [← hD] at HV CO
    have z1 : (D == D) = true := beq_iff_eq.2 rfl
    clear h g1 g2 g7 g8 e1 e2 hn hD
    go_enter Tryd.func10, Tryd.ntmps10
    go_wp2_with (first
      | (go_at_call 61; (with_reducible refine C0.out.mono ?_); rintro e w1 ⟨rfl, rfl⟩; simp only [numV, Option.getD_none])
      | (go_at_call 62; refine (result_Check_is hf hg H.out).mono ?_; rintro e w2 ⟨rfl, rfl⟩; simp only [errV])
      | (go_at_call 14; fail))
    refine (E_nil0 hg0).mono ?_
    rintro e w2 ⟨rfl, k2⟩
    clear C0
    go_wp2_with (first
      | (go_at_call 63; (with_reducible refine (CS.out _ k2).mono ?_); rintro e w3 ⟨zS, cS, rfl, hS, b3⟩; have k3 := below_tr k2 b3)
      | (go_at_call 17; fail))
    have hS3 := hS.rd
    have C := R_DetMod_any n hS3 G.out.dm G.out.ent n5
    rw [HV.out] at C
    have C := Lib.hid C
    (with_reducible refine C.out.mono ?_)
    clear C
    rintro e w4 ⟨rfl, b4⟩
    have k4 := below_tr k3 b4
    have hS4 := hS3.below b4
    clear b4 hS hS3 k2 b3 k3 CS
    go_wp2_with (first
      | (go_at_call 64; (with_reducible refine (CF.out _ k4).mono ?_); rintro e w5 ⟨zF, cF, rfl, hF, b5⟩; have k5 := below_tr k4 b5)
      | (go_at_call 14; fail))
    have hS5 := hS4.below b5
    have hF5 := hF.rd
    clear hS4 hF b5 k4 CF
    refine (E_nil0 (hg0.below k5)).mono ?_
    rintro e w6 ⟨rfl, b6⟩
    have k6 := below_tr k5 b6
    have C := Lib.hid (Rows_eq (hF5.below b6) (hS5.below b6) rfl)
    clear hS5 hF5 b6 k5
    go_wp2_with (first
      | (go_at_call 24; (with_reducible refine C.out.mono ?_); rintro e w7 ⟨rfl, b7⟩; have k7 := below_tr k6 b7)
      | (go_at_call 65; (with_reducible refine (CO.out _ k7).mono ?_); rintro e w8 ⟨rfl, b8⟩; have k8 := below_tr k7 b8)
      | (go_at_call 14; refine (E_nil0 (hg0.below k8)).mono ?_; rintro e w9 ⟨rfl, b9⟩))
    go_ret
    exact ⟨rfl, below_tr k8 b9⟩
  · rw [h] at C0
    have C0 := Lib.hid C0
    have z1 : (c == 0) = false := beq_eq_false_iff_ne.2 (twoR_nz h)
    have H := Lib.hid h
    clear h
    go_enter Tryd.func10, Tryd.ntmps10
    go_wp2_with (first
      | (go_at_call 61; (with_reducible refine C0.out.mono ?_); rintro e w1 ⟨rfl, rfl⟩; simp only [numV, Option.getD_some])
      | (go_at_call 62; refine (result_Check_is hf hg H.out).mono ?_; rintro e w2 ⟨rfl, rfl⟩; simp only [errV])
      | (go_at_call 14; fail))
    refine (E_same hg0).mono ?_
    rintro e w2 ⟨rfl, k2⟩
    clear C0
    go_wp2_with (first
      | (go_at_call 64; refine (result_Full_err (hf.below k2) (hg.below k2) H.out).mono ?_; rintro e w5 ⟨rfl, rfl⟩)
      | (go_at_call 14; fail))
    refine (E_same (hg0.below k2)).mono ?_
    rintro e w6 ⟨rfl, b6⟩
    have k6 := below_tr k2 b6
    clear b6 k2
    go_wp2_with (first
      | (go_at_call 24; refine (Rows_none _).mono ?_; rintro e w7 ⟨rfl, b7⟩; have k7 := below_tr k6 b7)
      | (go_at_call 65; refine (result_Of_err (hf.below k7) (hg.below k7) H.out).mono ?_; rintro e w8 ⟨rfl, rfl⟩)
      | (go_at_call 14; refine (E_same (hg0.below k7)).mono ?_; rintro e w9 ⟨rfl, b9⟩))
    go_ret
    exact ⟨rfl, below_tr k7 b9⟩
end
end Go.Proofs.YtefmllkimdaimaaDoor
