/-
  BareissMod walked: what the determinant leaves is the determinant of what the numbers leave.
-/
import Derived.Test.YtflojkifbdklnaaRows
import Derived.Test.YtflojkifbdklnaaLib
import Derived.Test.YtflojkifbdklnaaRef
import Derived.Test.YtflojkifbdklnaaTr
import Derived.Test.YtflojkifbdklnaaOpen
import Derived.Test.YtflojkifbdklnaaDetLaw
import Derived.Test.YtflojkifbdklnaaBareissP
import Derived.Test.YtflojkifbdklnaaBareissFact
import Derived.Deep.QuietTactic
import Derived.BigQuiet
import Derived.StillTailTactics
namespace Go.Proofs.Ytflojkifbdklnaa
open Go.RowKit Go.Rk

/-- So far numbers have been turned into what they leave: the rows before i, and of row i the places before j. -/
def leftP (M : List (List Int)) (i j r s : Nat) : Int := if r < i ∨ (r = i ∧ s < j) then en M r s % 9973 else en M r s

set_option maxHeartbeats 1000000 in
set_option maxRecDepth 100000 in
theorem bareissMod_walk {a : Option Addr} {n cap : Nat} {M : List (List Int)} {w : World} (h : RdM w a n cap M) (_ : ∀ r ∈ M, Fit r) :
    Calls Try.prog 14 #[.slice a n cap] w fun e w' => e = .returned (.bool true) ∧ Below w.heap.size w w' := by
  have hL := Lib.hid h.len_eq
  go_enter Try.func14, Try.ntmps14
  go_wp2_with (first | (go_at_call 25; refine (bareissFact_any _).mono ?_; rintro e w1 ⟨rfl, k1⟩) | (go_at_call 26; fail))
  rcases hq : squareR 5 (-9) 9 M with _ | x
  · obtain ⟨g1, g2, g3, g4⟩ := squareR_none hq
    rw [hL.out] at g1 g2 g3 g4
    have n5 : n ≤ 5 := by omega
    have HQ := Lib.hid hq
    have HD := Lib.hid g3
    have HE := Lib.hid g4
    have bd : -7085880 ≤ det n (mx M) ∧ det n (mx M) ≤ 7085880 := by
      have := det_le (A := mx M) (n := n) (b := 9) (by decide) g4
      have := detB9 n5
      omega
    clear hq g2 g3 g4
    have C := Lib.hid (bareiss_Of_ok (h.below k1) HQ.out)
    (with_reducible refine C.out.mono ?_)
    clear C
    rintro e w2 ⟨rfl, hb2⟩
    have k2 := below_tr k1 hb2
    clear hb2 k1
    have C := Lib.hid (R_Copy_any (h.below k2) (by omega) (fun k hk => by rw [HD.out.2 k hk]; omega))
    go_wp2_with (first | (go_at_call 32; (with_reducible refine C.out.mono ?_)))
    clear C
    rintro e w3 ⟨z, cz, rfl, ho, hb⟩
    have k3 := below_tr k2 hb
    obtain ⟨g, D, C, hzz, hd⟩ := (ho.mono k2.size).named (by omega) fun i hi => by rw [HD.out.2 i hi]; omega
    subst hzz
    clear ho hb k2
    generalize hdv : det n (mx M) = d at *
    have HDV := Lib.hid hdv
    clear hdv
    go_wp2
    go_loopw [7] (fun v wr => ∃ (i : Nat) (P : List (List Int)), i ≤ n ∧ v = .int .i64 i ∧ OwMD wr w.heap.size 22 3 g D C n cz P ∧ Hid (Is n P (leftP M i 0)) ∧ Below w.heap.size w wr) (fun v _ => n - (intOf v).toNat)
    case atStart => exact ⟨0, M, Nat.zero_le _, rfl, hd, ⟨HD.out, fun r s _ _ => by unfold leftP; rw [if_neg (by omega)]⟩, k3⟩
    case round =>
      clear hd k3
      obtain ⟨i, P, hi, rfl, hd, hI, k3⟩ := hrel
      by_cases hin : i < n
      · have i1 : (i : Int) < (n : Int) := by omega
        go_wp2
        go_loopw [8] (fun v wr => ∃ (j : Nat) (P : List (List Int)), j ≤ n ∧ v = .int .i64 j ∧ OwMD wr w.heap.size 22 3 g D C n cz P ∧ Hid (Is n P (leftP M i j)) ∧ Below w.heap.size w wr) (fun v _ => n - (intOf v).toNat)
        case atStart => exact ⟨0, P, Nat.zero_le _, rfl, hd, hI, k3⟩
        case round =>
          clear hd k3 hI
          obtain ⟨j, P, hj, rfl, hd, hI, k3⟩ := hrel
          by_cases hjn : j < n
          · have j1 : (j : Int) < (n : Int) := by omega
            have y1 := hd.cellO hin
            have y2 := hd.cellI hin (j := j) (by rw [hI.out.1.2 i hin]; exact hjn)
            have y3 := hd.frozenI hin (by rw [hI.out.1.2 i hin]; omega) j
            rw [hI.out.1.2 i hin] at y1
            rw [hI.out.2 i j hin hjn, show leftP M i j i j = en M i j by unfold leftP; rw [if_neg (by omega)]] at y2
            have be : -9 ≤ en M i j ∧ en M i j ≤ 9 := HE.out i j hin hjn
            have hset : Hid (Is n (setE P i j (en M i j % 9973)) (leftP M i (j + 1))) := by
              refine Is.congr (hI.out.set _) fun r s hr hs => ?_
              unfold leftP
              by_cases e4 : i = r ∧ j = s
              · obtain ⟨rfl, rfl⟩ := e4
                rw [if_pos ⟨rfl, rfl⟩, if_pos (by omega)]
              · rw [if_neg e4]
                by_cases e5 : r < i ∨ (r = i ∧ s < j)
                · rw [if_pos e5, if_pos (by omega)]
                · rw [if_neg e5, if_neg (by omega)]
            have hd2 := (hd.set matTy.ne (j := j) hin (en M i j % 9973)).drew
            have lo := hd.lowI hin
            have k4 := (k3.setCell (p := ⟨D i, j, none⟩) lo.1 (.int .i64 (en M i j % 9973))).drew
            generalize en M i j = x at *
            go_wp2
            go_still_tail 14, (by kernel_rfl)
            still_call (stillW (R_Mod_any _ _ (by omega) (by omega)))
            repeat still_step
            refine wpStill_nil ?_
            change wpList _ _ _ _ _ wr.drew
            go_wp2
            go_roundw
            case rel => exact ⟨j + 1, _, by omega, by go_num, hd2, hset, k4⟩
            case measure => simp [intOf]; omega
          · obtain rfl : j = n := by omega
            go_wp2
            go_roundw
            case rel => exact ⟨i + 1, P, by omega, by go_num, hd, hI.out.congr fun r s hr hs => by
              unfold leftP
              by_cases e5 : r < i ∨ (r = i ∧ s < j)
              · rw [if_pos e5, if_pos (by omega)]
              · rw [if_neg e5, if_neg (by omega)], k3⟩
            case measure => simp [intOf]; omega
      · obtain rfl : i = n := by omega
        have hF : ∀ r s, r < i → s < i → en P r s = en M r s % 9973 := fun r s hr hs => by
          rw [hI.out.2 r s hr hs]; unfold leftP; rw [if_pos (.inl hr)]
        have hde : det i (mx P) % 9973 = d % 9973 := by
          rw [← HDV.out]
          exact det_eqm fun r s hr hs => by show en P r s % 9973 = en M r s % 9973; rw [hF r s hr hs]; omega
        have C := Lib.hid (det_Of_ok hd.toM.rd (squareR_of (lo := 0) (hi := 9972) (most := 5) g1 (by omega) hI.out.1 fun r s hr hs => by rw [hF r s hr hs]; omega))
        rw [hde] at C
        have C1 := Lib.hid (L2_in_any d (-10000000) 10000000)
        rw [show inB d (-10000000) 10000000 = true by unfold inB; simp; omega] at C1
        have C2 := Lib.hid (fun w => R_Mod_any d w (by omega) (by omega))
        clear hde hd
        go_wp2_with (first | (go_at_call 39; (with_reducible refine C.out.mono ?_); rintro e w4 ⟨rfl, hb4⟩) | (go_at_call 27; (with_reducible refine (C1.out _).mono ?_); rintro e w' ⟨rfl, rfl⟩) | (go_at_call 19; (with_reducible refine (C2.out _).mono ?_); rintro e w' ⟨rfl, rfl⟩))
        go_ret
        exact ⟨rfl, below_tr k3 hb4⟩
  · have C := Lib.hid (bareiss_Of_err (h.below k1) hq)
    clear hq
    (with_reducible refine C.out.mono ?_)
    clear C
    rintro e w2 ⟨rfl, rfl⟩
    go_wp2
    go_ret
    exact ⟨rfl, k1⟩
end Go.Proofs.Ytflojkifbdklnaa
