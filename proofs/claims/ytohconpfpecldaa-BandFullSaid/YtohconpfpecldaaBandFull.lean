/-
  BandFull walked: the determinant is that of the matrix, and the row is taken where that takes it.
-/
import Derived.Test.YtohconpfpecldaaRows
import Derived.Test.YtohconpfpecldaaLib
import Derived.Test.YtohconpfpecldaaRef
import Derived.Test.YtohconpfpecldaaTr
import Derived.Test.YtohconpfpecldaaOwn1
import Derived.Test.YtohconpfpecldaaBand
import Derived.Test.YtohconpfpecldaaBandP
import Derived.Test.YtohconpfpecldaaBandMul
import Derived.Test.YtohconpfpecldaaBandFact
import Derived.Test.YtohconpfpecldaaDetOf
import Derived.Test.YtohconpfpecldaaMatLaw
import Derived.Test.YtohconpfpecldaaRowIn
import Derived.Deep.QuietTactic
import Derived.BigQuiet
namespace Go.Proofs.Ytohconpfpecldaa
open Go.RowKit Go.Rk

/-- A row, stood up. -/
def colN (x : List Int) (k : Nat) : List (List Int) := (List.range k).map fun i => [ix x i]
theorem colN_succ (x : List Int) (k : Nat) : colN x (k + 1) = colN x k ++ [[ix x k]] := by simp [colN, List.range_succ]
theorem colN_row {x : List Int} {k i : Nat} (h : i < k) : rowOf (colN x k) i = [ix x i] := by
  rw [rowOf_lt (by simp [colN]; exact h)]
  simp [colN]
theorem colN_good {x : List Int} {n : Nat} (hn : 1 ≤ n ∧ n ≤ 5) (hx : In 0 9972 x) (hl : x.length = n) : Good n 1 (colN x n) :=
  ⟨hn, by omega, ⟨by simp [colN], fun i hi => by rw [colN_row hi]; rfl⟩, fun i j hi hj => by
    unfold en
    obtain rfl : j = 0 := by omega
    rw [colN_row hi]
    exact hx i (by omega)⟩

set_option maxHeartbeats 4000000 in
set_option maxRecDepth 100000 in
theorem bandFull_walk {p q r s : Option Addr} {n1 c1 n2 c2 n3 c3 n4 c4 : Nat} {m a b x : List Int} {w : World} (hm : RdI w p n1 c1 m) (_ : Fit m) (ha : RdI w q n2 c2 a) (_ : Fit a) (hb : RdI w r n3 c3 b) (_ : Fit b) (hx : RdI w s n4 c4 x) (_ : Fit x) :
    Calls Try.prog 9 #[.slice p n1 c1, .slice q n2 c2, .slice r n3 c3, .slice s n4 c4] w fun e w' => e = .returned (.bool true) ∧ Below w.heap.size w w' := by
  have e1 := hm.len_eq
  rcases h : checkB m a b with _ | c
  · obtain ⟨g1, g2, g3, g4, g5, g6, g7⟩ := checkB_none h
    have H := Lib.hid h
    clear h
    by_cases h5 : 5 < n1
    · go_enter Try.func9, Try.ntmps9
      go_wp2_with (first | (go_at_call 31; refine (bandFact_any _).mono ?_; rintro e w1 ⟨rfl, k1⟩) | (go_at_call 32; refine (band_Full_big (hm.below k1) (ha.below k1) (hb.below k1) H.out h5).mono ?_; rintro e w2 ⟨rfl, rfl⟩))
      go_ret
      exact ⟨rfl, k1⟩
    · have l1 : 1 ≤ n1 := by omega
      have G : Good n1 n1 (fullN m a b n1 n1) := ⟨⟨l1, by omega⟩, ⟨l1, by omega⟩, fullN_dm m a b n1 n1, full_ent g5 g6 g7 e1 (by omega) (by omega)⟩
      have HG := Lib.hid G
      have HD : Hid (det n1 (mx (fullN m a b n1 n1)) % 9973 = contB m a b n1) := full_det g5 (by omega)
      have G5 := Lib.hid g5
      have E1 := Lib.hid e1
      clear g1 g2 g3 g4 g5 g6 g7 e1 G
      go_enter Try.func9, Try.ntmps9
      go_wp2_with (first | (go_at_call 31; refine (bandFact_any _).mono ?_; rintro e w1 ⟨rfl, k1⟩) | (go_at_call 32; refine (band_Full_ok (hm.below k1) (ha.below k1) (hb.below k1) H.out (by omega)).mono ?_; rintro e w2 ⟨z, cz, rfl, ho, hb2⟩) | (go_at_call 33; fail))
      have k2 := below_tr k1 hb2
      have C := Lib.hid (band_Det_ok (hm.below k2) (ha.below k2) (hb.below k2) H.out)
      (with_reducible refine C.out.mono ?_)
      clear C hb2 k1
      rintro e w3 ⟨rfl, hb3⟩
      have k3 := below_tr k2 hb3
      have hF := ho.rd.below hb3
      clear ho hb3
      have C := Lib.hid (det_Of_ok hF (squareR_of (lo := 0) (hi := 9972) (most := 5) l1 (by omega) HG.out.dm HG.out.ent))
      rw [HD.out] at C
      obtain ⟨D, hD⟩ : ∃ D, D = contB m a b n1 := ⟨_, rfl⟩
      rw [← hD] at C ⊢
      clear hD HD
      have z1 : (D != D) = false := bne_eq_false_iff_eq.2 rfl
      go_wp2_with (first | (go_at_call 27; (with_reducible refine C.out.mono ?_); rintro e w4 ⟨rfl, hb4⟩) | (go_at_call 34; fail))
      clear C
      have k4 := below_tr k3 hb4
      have hF4 := hF.below hb4
      clear hb4 hF k3
      rcases hq : bandMulR m a b x with _ | c
      · obtain ⟨_, hl, hxi⟩ := bandMulR_none hq
        have C := Lib.hid (band_Mul_ok (hm.below k4) (ha.below k4) (hb.below k4) (hx.below k4) hq)
        obtain rfl : n4 = n1 := by have := hx.len_eq; have := E1.out; omega
        have HXL := Lib.hid hx.len_eq
        have HX := Lib.hid hxi
        clear hl hxi hq
        (with_reducible refine C.out.mono ?_)
        clear C
        rintro e w5 ⟨zl, cl, rfl, hL, hb5⟩
        have k5 := below_tr k4 hb5
        have hF5 := hF4.below hb5
        have hx5 := hx.below k5
        have h5L := hb5.size
        clear hF4 hb5
        have hL5 := hL.rd
        have HM := Lib.hid matTy
        clear hL
        go_wp2
        go_loopw [17, 18] (fun v t wr => ∃ (k : Nat) (q : Option Addr) (cq : Nat), k ≤ n4 ∧ t = .int .i64 k ∧ v = .slice q k cq ∧ OwM wr w5.heap.size 22 3 q k cq (colN x k) ∧ Below w5.heap.size w5 wr) (fun _ t _ => n4 - (intOf t).toNat)
        case atStart => exact ⟨0, none, 0, Nat.zero_le _, rfl, rfl, OwM.nil _ _ _ _, Below.refl _ _⟩
        case round =>
          obtain ⟨k, q, cq, hk, rfl, rfl, ho, hbr⟩ := hrel
          by_cases hlt : k < n4
          · have i1 : (k : Int) < (n4 : Int) := by omega
            obtain ⟨bx, ox, rfl, _, cx⟩ := (hx5.below hbr).at hlt
            have cx1 := cx k hlt
            have hsz := hbr.size
            have ho1 := OwI.one wr (ix x k) 3
            have hb1 := (Below.refl wr.heap.size wr).alloc (Nat.le_refl _) (.cells #[.int .i64 (ix x k)] 3)
            clear cx
            go_wp2_with (at_builtin; refine wpList_push_row HM.out rfl (.tmp 78) (.tmp 84) rfl rfl rfl ho (hb1.alloc hb1.size _) (ho1.alloc _) (by simp) (by omega) hsz ?_; intro a5 cap5 w6 ho6 hb6)
            have hb7 := ((hbr.trans (hb1.mono hsz)).alloc (by have := hb1.size; omega) _).trans hb6
            go_roundw
            case rel => exact ⟨k + 1, a5, cap5, by omega, by go_num, rfl, by rw [colN_succ]; exact ho6, hb7⟩
            case measure => simp [intOf]; omega
          · obtain rfl : k = n4 := by omega
            have k6 := below_tr k5 hbr
            have hF6 := hF5.below hbr
            have hL6 := hL5.below hbr
            have GC := colN_good (by omega) HX.out HXL.out
            have HGC := Lib.hid GC
            have C := Lib.hid (Mul_ok hF6 ho.rd (HG.out.mulOk GC))
            rw [GC.r0] at C
            clear GC hbr ho hF5 hL5 k5
            go_wp2_with (go_at_call 35; fail)
            (with_reducible refine C.out.mono ?_)
            clear C
            rintro e w7 ⟨aP, cP, P, rfl, hP, hi, hb7⟩
            have k7 := below_tr k6 hb7
            have hL7 := hL6.below hb7
            have hP7 := hP.rd
            have hPd := Lib.hid hi.1
            have HV : Hid (∀ i, i < k → en P i 0 = ix (mulB m a b x k k) i) := fun i h => by
              rw [hi.2 i 0 h (by omega), mulB_ix k (Nat.le_refl _) i h, ← tri_sum m a b x h]
              refine congrArg (fun z => z % 9973) (sumTo_congr fun t ht => ?_)
              rw [(full_is m a b k).2 i t h ht]
              unfold en
              rw [colN_row ht]
              rfl
            clear hi hP hb7 hL6 hF6
            have z2 : ((k : Int) != (k : Int)) = false := bne_eq_false_iff_eq.2 rfl
            go_wp2
            go_loopw [20] (fun v wr => ∃ j r : Nat, j ≤ k ∧ v = .int .i64 j ∧ Hid (wr = w7.drewN r)) (fun v _ => k - (intOf v).toNat)
            case atStart => exact ⟨0, 0, Nat.zero_le _, rfl, (World.drewN_zero _).symm⟩
            case round =>
              obtain ⟨j, r, hj, rfl, HW⟩ := hrel
              have kr : Below w7.heap.size w7 wr := by rw [HW.out]; exact below_drewN (Below.refl _ _) r
              by_cases hjk : j < k
              · have i1 : (j : Int) < (k : Int) := by omega
                obtain ⟨bp, op, rfl, ar, cr, y1, hrd⟩ := (hP7.below kr).rowIn hPd.out hjk
                obtain ⟨br, or_, rfl, _, hce⟩ := hrd.at (k := 0) (by omega)
                have y2 := hce 0 (by omega)
                rw [show ix (rowOf P j) 0 = en P j 0 from rfl, HV.out j hjk, Nat.add_zero] at y2
                obtain ⟨bl, ol, rfl, _, hcl⟩ := (hL7.below kr).at hjk
                have y3 := hcl j hjk
                obtain ⟨V, hV⟩ : ∃ V, V = ix (mulB m a b x k k) j := ⟨_, rfl⟩
                rw [← hV] at y2 y3
                have z3 : (V != V) = false := bne_eq_false_iff_eq.2 rfl
                clear hV hce hcl hrd
                go_wp2
                go_quiet (fail)
                go_wp2
                go_roundw
                case rel => exact ⟨j + 1, _, by omega, by go_num, by unfold Hid; rw [HW.out, World.drewN_drewN]⟩
                case measure => simp [intOf]; omega
              · obtain rfl : j = k := by omega
                go_wp2
                go_ret
                exact ⟨rfl, below_tr k7 kr⟩
      · have C := Lib.hid (band_Mul_err (hm.below k4) (ha.below k4) (hb.below k4) (hx.below k4) hq)
        (with_reducible refine C.out.mono ?_)
        clear C
        rintro e w5 ⟨rfl, rfl⟩
        go_wp2
        go_ret
        exact ⟨rfl, k4⟩
  · have H := Lib.hid h
    clear h
    go_enter Try.func9, Try.ntmps9
    go_wp2_with (first | (go_at_call 31; refine (bandFact_any _).mono ?_; rintro e w1 ⟨rfl, k1⟩) | (go_at_call 32; refine (band_Full_err (hm.below k1) (ha.below k1) (hb.below k1) H.out).mono ?_; rintro e w2 ⟨rfl, rfl⟩))
    go_ret
    exact ⟨rfl, k1⟩
end Go.Proofs.Ytohconpfpecldaa
