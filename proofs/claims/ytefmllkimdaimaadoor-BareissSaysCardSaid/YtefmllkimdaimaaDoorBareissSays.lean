/-
  BareissSays walked: of any matrix of whole numbers what is wrong, the determinant, and those of its first rows and columns. With the reference's Corner.
-/
import Derived.Test.YtefmllkimdaimaaDoorRows
import Derived.Test.YtefmllkimdaimaaDoorLib
import Derived.Test.YtefmllkimdaimaaDoorNum
import Derived.Test.YtefmllkimdaimaaDoorRef
import Derived.Test.YtefmllkimdaimaaDoorRDet
import Derived.Test.YtefmllkimdaimaaDoorRDetI
import Derived.Test.YtefmllkimdaimaaDoorTr
import Derived.Test.YtefmllkimdaimaaDoorOpen
import Derived.Test.YtefmllkimdaimaaDoorAlias
import Derived.Test.YtefmllkimdaimaaDoorBareissOf
import Derived.Test.YtefmllkimdaimaaDoorCorner
import Derived.Test.YtefmllkimdaimaaDoorErrTold
namespace Go.Proofs.YtefmllkimdaimaaDoor
open Go.RowKit Go.Rk

set_option maxHeartbeats 2000000 in
set_option maxRecDepth 100000 in
theorem bareissSays_walk {a : Option Addr} {n ca : Nat} {M : List (List Int)} {w : World} (hg : ErrT w) (h : RdM w a n ca M) (_ : ∀ r ∈ M, Fit r) :
    Calls Tryd.prog 5 #[.slice a n ca] w fun e w' => e = .returned (.bool true) ∧ Below w.heap.size w w' := by
  have HIT := Lib.hid intTy
  have hL := Lib.hid h.len_eq
  have C0 := R_Square_any 5 (-9) 9 h
  rcases hq : squareR 5 (-9) 9 M with _ | c
  · obtain ⟨q1, q2, q3, q4⟩ := squareR_none hq
    rw [hL.out] at q1 q2 q3 q4
    have n5 : n ≤ 5 := by omega
    rw [hq] at C0
    have C0 := Lib.hid C0
    have HQ := Lib.hid hq
    have HD := Lib.hid q3
    have HE := Lib.hid q4
    clear hq q2 q3 q4
    go_enter Tryd.func5, Tryd.ntmps5
    go_wp2_with (first
      | (go_at_call 30; (with_reducible refine C0.out.mono ?_); rintro e w1 ⟨rfl, k1⟩; simp only [numV])
      | (go_at_call 31; refine (bareiss_Check_is (h.below k1) HQ.out).mono ?_; rintro e w2 ⟨rfl, rfl⟩; simp only [errV])
      | (go_at_call 14; fail))
    refine (E_nil0 (hg.below k1)).mono ?_
    rintro e w2 ⟨rfl, b2⟩
    have k2 := below_tr k1 b2
    clear C0 k1 b2
    have C := Lib.hid (R_Det_any n (h.below k2) HD.out HE.out n5)
    obtain ⟨D, hD⟩ : ∃ D, D = det n (mx M) := ⟨_, rfl⟩
    rw [← hD] at C
    have HDD := Lib.hid hD
    clear hD
    go_wp2_with (first | (go_at_call 32; (with_reducible refine C.out.mono ?_); rintro e w3 ⟨rfl, b3⟩))
    have k3 := below_tr k2 b3
    clear C b3 k2
    go_loopw [6, 7] (fun s v wr => ∃ (k q : Nat) (ao : Option Addr) (co : Nat), Hid (k = q + 1) ∧ 1 ≤ k ∧ k ≤ n + 1 ∧ q ≤ n ∧ v = .int .i64 k ∧ s = .slice ao q co ∧ OwI wr w.heap.size 3 ao q co (leadN M q) ∧ Below w.heap.size w wr) (fun _ v _ => n + 1 - (intOf v).toNat)
    case atStart => exact ⟨1, 0, none, 0, rfl, by omega, by omega, by omega, rfl, rfl, OwI.nil _ _ _, k3⟩
    case round =>
      clear k3
      obtain ⟨k, q, ao, co, hkq, hk1, hk2, hq, rfl, rfl, ho, hb⟩ := hrel
      by_cases hkn : k ≤ n
      · have i1 : (k : Int) ≤ (n : Int) := by omega
        have C := Lib.hid (M_Corner_any (h.below hb) HD.out hkn (by omega))
        go_wp2_with (first | (go_at_call 33; (with_reducible refine C.out.mono ?_); rintro e w4 ⟨aC, cC, rfl, hal⟩) | (go_at_call 32; fail))
        clear C
        have hpr := hal.rd
        have C2 := R_Det_any k hpr (cornN_dim HD.out hkn) (fun i s h1 h2 => by rw [cornN_en HD.out hkn h1 h2]; exact HE.out i s (by omega) (by omega)) (by omega)
        rw [show det k (mx (cornN M k k)) = det k (mx M) from det_congr fun i s h1 h2 => cornN_en HD.out hkn h1 h2] at C2
        have C2 := Lib.hid C2
        have ho2 := ho.below hal.bel
        have hb2 := hb.trans (hal.bel.mono hb.size)
        clear hpr hal
        go_wp2_with (first | (go_at_call 32; (with_reducible refine C2.out.mono ?_); rintro e w5 ⟨rfl, hb5⟩; have ho5 := ho2.below hb5; have hb6 := hb2.trans (hb5.mono hb2.size); have hz6 := hb6.size) | (at_builtin; refine wpList_push_int HIT.out rfl (.tmp 28) (.tmp 33) rfl rfl rfl (ho5.alloc _) (z := det k (mx M)) (by simp) (by decide) (by decide) (by omega) (by simp; omega) ?_; intro a4 cap4 w6 ho6 hg6))
        go_roundw
        case rel => exact ⟨k + 1, q + 1, a4, cap4, congrArg (· + 1) hkq.out, by omega, by omega, by have := hkq.out; omega, by go_num, rfl, by
            rw [leadN_succ, ← hkq.out]
            rw [← hkq.out] at ho6
            exact ho6, below_grown (hb6.alloc hb6.size _) (ho5.alloc _) (by have := hb6.size; simp; omega) hg6⟩
        case measure => simp [intOf]; omega
      · obtain rfl : k = n + 1 := by omega
        obtain rfl : q = n := by have := hkq.out; omega
        have i1 : ¬ ((q + 1 : Nat) : Int) ≤ (q : Int) := by omega
        have hlead := ho.rd
        have C := Lib.hid (bareiss_Of_ok (h.below hb) HQ.out)
        go_wp2_with (first | (go_at_call 34; fail))
        rw [← HDD.out] at C
        (with_reducible refine C.out.mono ?_)
        clear C
        rintro e w4 ⟨rfl, b4⟩
        have k4 := below_tr hb b4
        have hlead := hlead.below b4
        have z1 : (D == D) = true := beq_iff_eq.2 rfl
        clear b4 ho hb
        go_wp2_with (first | (go_at_call 14; refine (E_nil0 (hg.below k4)).mono ?_; rintro e w5 ⟨rfl, b5⟩) | (go_at_call 35; fail))
        have k5 := below_tr k4 b5
        have hlead := hlead.below b5
        clear b5 k4
        have C := Lib.hid (bareiss_Leading_ok (h.below k5) HQ.out)
        (with_reducible refine C.out.mono ?_)
        clear C
        rintro e w6 ⟨a6, c6, rfl, ho6, b6⟩
        have k6 := below_tr k5 b6
        have hlead := hlead.below b6
        have hl6 := ho6.rd
        clear b6 k5 ho6
        go_wp2_with (first | (go_at_call 14; refine (E_nil0 (hg.below k6)).mono ?_; rintro e w7 ⟨rfl, b7⟩; have CI := Ints_any (hl6.below b7) (hlead.below b7); rw [decide_eq_true rfl] at CI) | (go_at_call 22; refine CI.mono ?_; rintro e w8 ⟨rfl, b8⟩))
        go_ret
        exact ⟨rfl, below_tr (below_tr k6 b7) b8⟩
  · rw [hq] at C0
    have C0 := Lib.hid C0
    have HQ := Lib.hid hq
    have c0 : c ≠ 0 := squareR_nz hq
    have z1 : (c == 0) = false := beq_eq_false_iff_ne.2 c0
    clear hq
    go_enter Tryd.func5, Tryd.ntmps5
    go_wp2_with (first
      | (go_at_call 30; (with_reducible refine C0.out.mono ?_); rintro e w1 ⟨rfl, k1⟩; simp only [numV])
      | (go_at_call 31; refine (bareiss_Check_is (h.below k1) HQ.out).mono ?_; rintro e w2 ⟨rfl, rfl⟩; simp only [errV])
      | (go_at_call 14; fail))
    refine (E_same (hg.below k1)).mono ?_
    rintro e w2 ⟨rfl, b2⟩
    have k2 := below_tr k1 b2
    clear C0 k1 b2
    have C := Lib.hid (bareiss_Of_err (h.below k2) HQ.out)
    go_wp2_with (first | (go_at_call 34; (with_reducible refine C.out.mono ?_); rintro e w3 ⟨rfl, rfl⟩) | (go_at_call 14; fail))
    clear C
    refine (E_same (hg.below k2)).mono ?_
    rintro e w4 ⟨rfl, b4⟩
    have k4 := below_tr k2 b4
    clear b4 k2
    have C := Lib.hid (bareiss_Leading_err (h.below k4) HQ.out)
    go_wp2_with (first | (go_at_call 35; (with_reducible refine C.out.mono ?_); rintro e w5 ⟨rfl, rfl⟩) | (go_at_call 14; refine (E_same (hg.below k4)).mono ?_; rintro e w7 ⟨rfl, b7⟩; have CI := Ints_any (RdI.nil w7) (RdI.nil w7); rw [decide_eq_true rfl] at CI) | (go_at_call 22; refine CI.mono ?_; rintro e w8 ⟨rfl, b8⟩))
    go_ret
    exact ⟨rfl, below_tr (below_tr k4 b7) b8⟩
end Go.Proofs.YtefmllkimdaimaaDoor
