/-
  VanderSays walked: of any numbers what is wrong, the matrix of their powers and its determinant.
-/
import Derived.Test.YtefmllkimdaimaaDoorRows
import Derived.Test.YtefmllkimdaimaaDoorLib
import Derived.Test.YtefmllkimdaimaaDoorNum
import Derived.Test.YtefmllkimdaimaaDoorRef
import Derived.Test.YtefmllkimdaimaaDoorRefTo
import Derived.Test.YtefmllkimdaimaaDoorRDet
import Derived.Test.YtefmllkimdaimaaDoorTr
import Derived.Test.YtefmllkimdaimaaDoorOpen
import Derived.Test.YtefmllkimdaimaaDoorRowsF
import Derived.Test.YtefmllkimdaimaaDoorVander
import Derived.Test.YtefmllkimdaimaaDoorVanderP
import Derived.Test.YtefmllkimdaimaaDoorVanderW
import Derived.Test.YtefmllkimdaimaaDoorErrTold
namespace Go.Proofs.YtefmllkimdaimaaDoor
open Go.RowKit Go.Rk

theorem powersR_nz {l : List Int} {c : Int} (h : powersR l = some c) : c ≠ 0 := by
  unfold powersR at h
  (repeat' split at h) <;> first | (injection h with h; subst h; decide) | cases h

section
variable {a : Option Addr} {n ca : Nat} {l : List Int} {w : World}
theorem M_Powers_any (h : RdI w a n ca l) :
    Calls Tryd.prog 25 #[.slice a n ca] w fun e w' => e = .returned (numV (powersR l)) ∧ w = w' := by
  have e1 := h.len_eq
  have C := R_All_any 0 9972 h
  by_cases h0 : n = 0
  · have hs : powersR l = some 5 := by unfold powersR; rw [if_pos (by omega)]
    rw [hs]
    subst h0
    go_enter Tryd.func25, Tryd.ntmps25
    go_wp2
    go_ret
    exact ⟨rfl, rfl⟩
  · have z0 : ((n : Int) == 0) = false := beq_eq_false_iff_ne.2 (by omega)
    by_cases h5 : 5 < n
    · have hs : powersR l = some 4 := by unfold powersR; rw [if_neg (by omega), if_pos (by omega)]
      rw [hs]
      have i1 : (5 : Int) < (n : Int) := by omega
      go_enter Tryd.func25, Tryd.ntmps25
      go_wp2
      go_ret
      exact ⟨rfl, rfl⟩
    · have i1 : ¬ (5 : Int) < (n : Int) := by omega
      rw [allB_any] at C
      rcases hb : anyB 0 9972 l with _ | _
      · have hs : powersR l = none := by unfold powersR; rw [if_neg (by omega), if_neg (by omega), hb]; rfl
        rw [hs]
        rw [hb] at C
        have C := Lib.hid C
        clear hs hb
        go_enter Tryd.func25, Tryd.ntmps25
        go_wp2_with (go_at_call 19; refine C.out.mono ?_; rintro e w2 ⟨rfl, rfl⟩)
        go_ret
        exact ⟨rfl, rfl⟩
      · have hs : powersR l = some 1 := by unfold powersR; rw [if_neg (by omega), if_neg (by omega), hb]; rfl
        rw [hs]
        rw [hb] at C
        have C := Lib.hid C
        clear hs hb
        go_enter Tryd.func25, Tryd.ntmps25
        go_wp2_with (go_at_call 19; refine C.out.mono ?_; rintro e w2 ⟨rfl, rfl⟩)
        go_ret
        exact ⟨rfl, rfl⟩

set_option maxHeartbeats 1000000 in
theorem M_Vander_any (h : RdI w a n ca l) (hi : In 0 9972 l) (h5 : n ≤ 5) :
    Calls Tryd.prog 27 #[.slice a n ca] w fun e w' => ∃ a' c', e = .returned (.slice a' n c') ∧ OwM w' w.heap.size 22 3 a' n c' (rowsF (fun i k => powm (ix l i) k) n n) ∧ Below w.heap.size w w' := by
  have HIT := Lib.hid intTy
  have HMT := Lib.hid matTy
  have HL := Lib.hid h.len_eq
  have HI := Lib.hid hi
  clear hi
  go_enter Tryd.func27, Tryd.ntmps27
  go_wp2
  go_loopw [3, 4] (fun s v wr => ∃ (i : Nat) (ao : Option Addr) (co : Nat), i ≤ n ∧ v = .int .i64 i ∧ s = .slice ao i co ∧ OwM wr w.heap.size 22 3 ao i co (rowsF (fun i k => powm (ix l i) k) n i) ∧ Below w.heap.size w wr) (fun _ v _ => n - (intOf v).toNat)
  case atStart => exact ⟨0, none, 0, Nat.zero_le _, rfl, rfl, OwM.nil _ _ _ _, Below.refl _ _⟩
  case round =>
    obtain ⟨i, ao, co, hin, rfl, rfl, ho, hb⟩ := hrel
    by_cases hlt : i < n
    · have i1 : (i : Int) < (n : Int) := by omega
      obtain ⟨bx, ox, rfl, hbx, hc⟩ := (h.below hb).at hlt
      have y0 := hc i hlt
      have bi := HI.out i (by rw [HL.out]; exact hlt)
      have hsz := hb.size
      obtain ⟨X, hX⟩ : ∃ X, X = ix l i := ⟨_, rfl⟩
      rw [← hX] at y0 bi
      have HX := Lib.hid hX
      clear hc hX
      go_wp2
      go_loopw [5, 6] (fun s v wt => ∃ (k : Nat) (ar : Option Addr) (cr : Nat), k ≤ n ∧ v = .int .i64 k ∧ s = .slice ar k cr ∧ OwI wt wr.heap.size 3 ar k cr (rowF (fun k => powm X k) k) ∧ Below wr.heap.size wr wt) (fun _ v _ => n - (intOf v).toNat)
      case atStart => exact ⟨0, none, 0, Nat.zero_le _, rfl, rfl, OwI.nil _ _ _, Below.refl _ _⟩
      case round =>
        obtain ⟨k, ar, cr, hkn, rfl, rfl, hr, hbt⟩ := hrel
        by_cases hk : k < n
        · have k1 : (k : Int) < (n : Int) := by omega
          have y1 := hbt.keep hbx y0
          have hz := hbt.size
          go_wp2_with (first
            | (go_at_call 79; refine (R_Pow_any k k X _ (Nat.le_refl _) (by omega) bi).mono ?_; rintro e w' ⟨rfl, rfl⟩)
            | (at_builtin; refine wpList_push_int HIT.out rfl (.tmp 19) (.tmp 26) rfl rfl rfl (hr.alloc _) (z := powm X k) (by simp) (by decide) (by decide) (by omega) (by simp; omega) ?_; intro a4 c4 w4 ho4 hg4))
          have hb4 := below_grown (hbt.alloc hz (.cells #[.int .i64 (powm X k)] 3)) (hr.alloc _) (by simp; omega) hg4
          go_roundw
          case rel => exact ⟨k + 1, a4, c4, by omega, by go_num, rfl, by rw [rowF_succ]; exact ho4, hb4⟩
          case measure => simp [intOf]; omega
        · obtain rfl : k = n := by omega
          go_wp2_with (first | (at_builtin; refine wpList_push_row HMT.out rfl (.tmp 28) (.tmp 30) rfl rfl rfl ho (hbt.alloc hbt.size _) (hr.alloc _) (by simp) (by omega) hsz ?_; intro a5 c5 w5 ho5 hb5))
          go_roundw
          case rel => exact ⟨i + 1, a5, c5, by omega, by go_num, rfl, by rw [rowsF_succ, ← HX.out]; exact ho5, (hb.trans ((hbt.alloc hbt.size _).mono hsz)).trans (hb5.mono (Nat.le_refl _))⟩
          case measure => simp [intOf]; omega
    · obtain rfl : i = n := by omega
      go_wp2
      go_ret
      exact ⟨ao, co, rfl, ho, hb⟩
end

set_option maxHeartbeats 2000000 in
set_option maxRecDepth 100000 in
theorem vanderSays_walk {a : Option Addr} {n ca : Nat} {l : List Int} {w : World} (hg : ErrT w) (h : RdI w a n ca l) (_ : Fit l) :
    Calls Tryd.prog 4 #[.slice a n ca] w fun e w' => e = .returned (.bool true) ∧ Below w.heap.size w w' := by
  have C0 := M_Powers_any h
  rcases hq : powersR l with _ | c
  · obtain ⟨q1, q2, q3⟩ := powersR_none hq
    rw [h.len_eq] at q1 q2
    rw [hq] at C0
    have C0 := Lib.hid C0
    have HQ := Lib.hid hq
    have CC := Lib.hid (vander_Check_is h hq)
    have HI := Lib.hid q3
    clear hq q3
    go_enter Tryd.func4, Tryd.ntmps4
    go_wp2_with (first
      | (go_at_call 25; (with_reducible refine C0.out.mono ?_); rintro e w1 ⟨rfl, rfl⟩; simp only [numV])
      | (go_at_call 26; refine CC.out.mono ?_; rintro e w2 ⟨rfl, rfl⟩; simp only [errV])
      | (go_at_call 14; fail))
    refine (E_nil0 hg).mono ?_
    rintro e w1 ⟨rfl, k1⟩
    clear C0 CC
    have C := Lib.hid (M_Vander_any (h.below k1) HI.out q2)
    go_wp2_with (first
      | (go_at_call 27; (with_reducible refine C.out.mono ?_); rintro e w2 ⟨aV, cV, rfl, hoV, hbV⟩)
      | (go_at_call 17; fail))
    have k2 := below_tr k1 hbV
    have hV := hoV.rd
    clear C hoV hbV k1
    have hWI : Hid (IsR n n (rowsF (fun i k => powm (ix l i) k) n n) (fun i k => powm (ix l i) k)) := rowsF_is _ _ _
    have C := R_DetMod_any n hV hWI.out.1 (fun i j hi hj => by rw [hWI.out.2 i j hi hj]; exact powm_in _ _) q2
    rw [show det n (mx (rowsF (fun i k => powm (ix l i) k) n n)) % 9973 = pout l n from pout_det (l := l) fun i j hi hj => hWI.out.2 i j hi hj] at C
    have C := Lib.hid C
    (with_reducible refine C.out.mono ?_)
    clear C
    rintro e w3 ⟨rfl, hb3⟩
    have k3 := below_tr k2 hb3
    have hV := hV.below hb3
    clear hb3 k2
    have C := Lib.hid (vander_Full_ok (h.below k3) HQ.out)
    go_wp2_with (first | (go_at_call 28; (with_reducible refine C.out.mono ?_); rintro e w4 ⟨aM, cM, P, rfl, hoM, hPI, hbM⟩) | (go_at_call 14; fail))
    have k4 := below_tr k3 hbM
    have hV := hV.below hbM
    have hM := hoM.rd
    obtain rfl : P = rowsF (fun i k => powm (ix l i) k) n n := hPI.same hWI.out
    clear C hoM hbM hPI k3
    refine (E_nil0 (hg.below k4)).mono ?_
    rintro e w5 ⟨rfl, hb5⟩
    have k5 := below_tr k4 hb5
    have C := Rows_any (hM.below hb5) (hV.below hb5)
    rw [decide_eq_true rfl] at C
    have C := Lib.hid C
    clear hV hM hb5 k4
    go_wp2_with (first | (go_at_call 24; (with_reducible refine C.out.mono ?_); rintro e w6 ⟨rfl, hb6⟩) | (go_at_call 29; fail))
    have k6 := below_tr k5 hb6
    clear C hb6 k5
    have C := Lib.hid (vander_Det_ok (h.below k6) HQ.out)
    obtain ⟨D, hD⟩ : ∃ D, D = pout l n := ⟨_, rfl⟩
    rw [← hD] at C ⊢
    have z1 : (D == D) = true := beq_iff_eq.2 rfl
    clear hD
    go_wp2_with (first | (go_at_call 29; (with_reducible refine C.out.mono ?_); rintro e w7 ⟨rfl, rfl⟩) | (go_at_call 14; refine (E_nil0 (hg.below k6)).mono ?_; rintro e w8 ⟨rfl, hb8⟩))
    go_ret
    exact ⟨rfl, below_tr k6 hb8⟩
  · rw [hq] at C0
    have C0 := Lib.hid C0
    have HQ := Lib.hid hq
    have CC := Lib.hid (vander_Check_is h hq)
    have c0 := powersR_nz hq
    have z1 : (c == 0) = false := beq_eq_false_iff_ne.2 c0
    clear hq
    go_enter Tryd.func4, Tryd.ntmps4
    go_wp2_with (first
      | (go_at_call 25; (with_reducible refine C0.out.mono ?_); rintro e w1 ⟨rfl, rfl⟩; simp only [numV])
      | (go_at_call 26; refine CC.out.mono ?_; rintro e w2 ⟨rfl, rfl⟩; simp only [errV])
      | (go_at_call 14; fail))
    refine (E_same hg).mono ?_
    rintro e w1 ⟨rfl, k1⟩
    clear C0 CC
    have C := Lib.hid (vander_Full_err (h.below k1) HQ.out)
    go_wp2_with (first | (go_at_call 28; (with_reducible refine C.out.mono ?_); rintro e w4 ⟨rfl, hb4⟩) | (go_at_call 14; fail))
    have k4 := below_tr k1 hb4
    clear C hb4 k1
    refine (E_same (hg.below k4)).mono ?_
    rintro e w5 ⟨rfl, hb5⟩
    have k5 := below_tr k4 hb5
    clear hb5 k4
    have C := Rows_any (RdM.nil w5) (RdM.nil w5)
    rw [decide_eq_true rfl] at C
    have C := Lib.hid C
    go_wp2_with (first | (go_at_call 24; (with_reducible refine C.out.mono ?_); rintro e w6 ⟨rfl, hb6⟩) | (go_at_call 29; fail))
    have k6 := below_tr k5 hb6
    clear C hb6 k5
    have C := Lib.hid (vander_Det_err (h.below k6) HQ.out)
    go_wp2_with (first | (go_at_call 29; (with_reducible refine C.out.mono ?_); rintro e w7 ⟨rfl, rfl⟩) | (go_at_call 14; refine (E_same (hg.below k6)).mono ?_; rintro e w8 ⟨rfl, hb8⟩))
    go_ret
    exact ⟨rfl, below_tr k6 hb8⟩
end Go.Proofs.YtefmllkimdaimaaDoor
