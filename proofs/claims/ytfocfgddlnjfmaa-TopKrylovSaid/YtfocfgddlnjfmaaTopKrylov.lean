/-
  TopKrylov walked: what powers of a matrix tell at a place goes on by its factors; and no more factors are needed than it has rows.
-/
import Derived.Test.YtfocfgddlnjfmaaRows
import Derived.Test.YtfocfgddlnjfmaaLib
import Derived.Test.YtfocfgddlnjfmaaNum
import Derived.Test.YtfocfgddlnjfmaaRef
import Derived.Test.YtfocfgddlnjfmaaRDet
import Derived.Test.YtfocfgddlnjfmaaTr
import Derived.Test.YtfocfgddlnjfmaaOpen
import Derived.Test.YtfocfgddlnjfmaaMatOne
import Derived.Test.YtfocfgddlnjfmaaCharW
import Derived.Test.YtfocfgddlnjfmaaMasseyG
import Derived.Test.YtfocfgddlnjfmaaKrylov
import Derived.Test.YtfocfgddlnjfmaaRowIn
import Derived.Test.YtfocfgddlnjfmaaRowsF
namespace Go.Proofs.Ytfocfgddlnjfmaa
open Go.RowKit Go.Rk

theorem T_in_any (n lo hi : Int) (w : World) :
    Calls Try.prog 22 #[.int .i64 n, .int .i64 lo, .int .i64 hi] w fun e w' => e = .returned (.bool (inB n lo hi)) ∧ w = w' := by
  by_cases h : lo ≤ n
  all_goals
    go_enter Try.func22, Try.ntmps22
    go_wp2
    all_goals (go_ret; refine ⟨congrArg (fun b => Ending.returned (.bool b)) ?_, rfl⟩; unfold inB; simp; try omega)

theorem bm_five {F : List Int} {L : Nat} (h : BM (ix [0, 0, 5]) 3 (ix F) L) : L = 3 := by
  have hl := h.le
  rcases (show L = 0 ∨ L = 1 ∨ L = 2 ∨ L = 3 by omega) with rfl | rfl | rfl | rfl
  · have h2 := h.gen 2 (by omega) (by omega)
    have h3 : Rz (ix [0, 0, 5]) (ix F) 0 2 = 5 := by unfold Rz; simp only [sumTo]; decide
    rw [h3] at h2
    exact absurd (show (5 : Int) % 9973 = 0 % 9973 from h2) (by decide)
  · have h2 := h.gen 2 (by omega) (by omega)
    have h3 : Rz (ix [0, 0, 5]) (ix F) 1 2 = 5 := by
      unfold Rz; simp only [sumTo]
      rw [show ix [0, 0, 5] (2 - 1 - 0) = 0 by decide, show ix [0, 0, 5] 2 = 5 by decide]
      omega
    rw [h3] at h2
    exact absurd (show (5 : Int) % 9973 = 0 % 9973 from h2) (by decide)
  · have h2 := h.gen 2 (by omega) (by omega)
    have h3 : Rz (ix [0, 0, 5]) (ix F) 2 2 = 5 := by
      unfold Rz; simp only [sumTo]
      rw [show ix [0, 0, 5] (2 - 1 - 0) = 0 by decide, show ix [0, 0, 5] (2 - 1 - 1) = 0 by decide, show ix [0, 0, 5] 2 = 5 by decide]
      omega
    rw [h3] at h2
    exact absurd (show (5 : Int) % 9973 = 0 % 9973 from h2) (by decide)
  · rfl
theorem T_seqR_of {l : List Int} (h : l.length ≤ 16) (hi : In 0 9972 l) : seqR l = none := by
  unfold seqR
  rw [if_neg (by omega), any_of_in hi]
  rfl
/-- The closed fact of TopKrylov. -/
theorem five_any (w : World) : Calls Try.prog 34 #[.slice (some ⟨w.heap.size, 0, none⟩) 3 3] (w.alloc (.cells #[.int .i64 0, .int .i64 0, .int .i64 5] 3)) fun e w' => e = .returned (.tuple #[.int .i64 3, .nilIface]) ∧ Below w.heap.size w w' := by
  have R1 : RdI (w.alloc (.cells #[.int .i64 0, .int .i64 0, .int .i64 5] 3)) (some ⟨w.heap.size, 0, none⟩) 3 3 [0, 0, 5] := RdI.lit w [0, 0, 5] 3 (by decide)
  refine (Fewest_ok R1 (by decide)).mono ?_
  rintro e w' ⟨L, F, rfl, hB, _, _, hb⟩
  obtain rfl := bm_five hB
  have b0 := (Below.refl w.heap.size w).alloc (Nat.le_refl _) (.cells #[.int .i64 0, .int .i64 0, .int .i64 5] 3)
  exact ⟨rfl, b0.trans (hb.mono b0.size)⟩

section
variable {a : Option Addr} {n ca : Nat} {M : List (List Int)} {w : World}
set_option maxHeartbeats 4000000 in
set_option maxRecDepth 100000 in
theorem topKrylov_err {i j x : Int} (hM : RdM w a n ca M) (hq : squareR 5 0 9972 M = some x) :
    Calls Try.prog 10 #[.slice a n ca, .int .i64 i, .int .i64 j] w fun e w' => e = .returned (.bool true) ∧ Below w.heap.size w w' := by
  have C0 := Lib.hid (char_Of_err hM hq)
  clear hq
  go_enter Try.func10, Try.ntmps10
  go_wp2_with (first
    | (go_at_call 26; (with_reducible refine C0.out.mono ?_); rintro e w1 ⟨rfl, rfl⟩)
    | (go_at_call 34; refine (five_any _).mono ?_; rintro e w2 ⟨rfl, k2⟩))
  go_ret
  exact ⟨rfl, k2⟩

set_option maxHeartbeats 4000000 in
set_option maxRecDepth 100000 in
theorem topKrylov_out {i j : Int} (hM : RdM w a n ca M) (G : Good n n M) (h : ¬ ((0 ≤ i ∧ i < n) ∧ 0 ≤ j ∧ j < n)) :
    Calls Try.prog 10 #[.slice a n ca, .int .i64 i, .int .i64 j] w fun e w' => e = .returned (.bool true) ∧ Below w.heap.size w w' := by
  obtain ⟨eF, b, F⟩ := FL.ex G.n1.1 (mx M)
  have C0 := Lib.hid (char_Of_ok hM G F)
  have n1 := G.n1
  have u1 : IntKind.i64.wrap ((n : Int) - 1) = (n : Int) - 1 := Go.IntWalk.i64_in _ (by omega)
  have CI := Lib.hid (fun (w : World) => T_in_any i 0 ((n : Int) - 1) w)
  have CJ := Lib.hid (fun (w : World) => T_in_any j 0 ((n : Int) - 1) w)
  by_cases hi : 0 ≤ i ∧ i < n
  · have z1 : inB i 0 ((n : Int) - 1) = true := by unfold inB; simp; omega
    have z2 : inB j 0 ((n : Int) - 1) = false := by unfold inB; simp; omega
    rw [z1] at CI
    rw [z2] at CJ
    clear z1 z2 hi h F G
    go_enter Try.func10, Try.ntmps10
    go_wp2_with (first
      | (go_at_call 26; (with_reducible refine C0.out.mono ?_); rintro e w1 ⟨aL, cL, l, rfl, hL, hl, k1⟩)
      | (go_at_call 34; refine (five_any _).mono ?_; rintro e w2 ⟨rfl, k2⟩)
      | (go_at_call 22; first | ((with_reducible refine (CI.out _).mono ?_); rintro e w3 ⟨rfl, rfl⟩) | ((with_reducible refine (CJ.out _).mono ?_); rintro e w3 ⟨rfl, rfl⟩)))
    go_ret
    exact ⟨rfl, below_tr k1 k2⟩
  · have z1 : inB i 0 ((n : Int) - 1) = false := by unfold inB; simp; omega
    rw [z1] at CI
    clear z1 hi h F G
    go_enter Try.func10, Try.ntmps10
    go_wp2_with (first
      | (go_at_call 26; (with_reducible refine C0.out.mono ?_); rintro e w1 ⟨aL, cL, l, rfl, hL, hl, k1⟩)
      | (go_at_call 34; refine (five_any _).mono ?_; rintro e w2 ⟨rfl, k2⟩)
      | (go_at_call 22; (with_reducible refine (CI.out _).mono ?_); rintro e w3 ⟨rfl, rfl⟩))
    go_ret
    exact ⟨rfl, below_tr k1 k2⟩

set_option maxHeartbeats 4000000 in
set_option maxRecDepth 100000 in
theorem topKrylov_ok {i j : Nat} (hM : RdM w a n ca M) (hq : squareR 5 0 9972 M = none) (G : Good n n M) (hi : i < n) (hj : j < n) :
    Calls Try.prog 10 #[.slice a n ca, .int .i64 i, .int .i64 j] w fun e w' => e = .returned (.bool true) ∧ Below w.heap.size w w' := by
  obtain ⟨eF, b, F⟩ := FL.ex G.n1.1 (mx M)
  have C0 := Lib.hid (char_Of_ok hM G F)
  have n1 := G.n1
  have HIT := Lib.hid intTy
  have u1 : IntKind.i64.wrap ((n : Int) - 1) = (n : Int) - 1 := Go.IntWalk.i64_in _ (by omega)
  have CI := Lib.hid (fun (w : World) => T_in_any i 0 ((n : Int) - 1) w)
  have CJ := Lib.hid (fun (w : World) => T_in_any j 0 ((n : Int) - 1) w)
  have z1 : inB i 0 ((n : Int) - 1) = true := by unfold inB; simp; omega
  have z2 : inB j 0 ((n : Int) - 1) = true := by unfold inB; simp; omega
  rw [z1] at CI
  rw [z2] at CJ
  have HF := Lib.hid F
  have CP := Lib.hid (fun (k : Nat) (hk : k ≤ 1000) (w' : World) (kb : Below w.heap.size w w') => Pow_ok (e := k) (hM.below kb) hq hk)
  have i1 : (i : Int) < (n : Int) := by omega
  have j1 : (j : Int) < (n : Int) := by omega
  obtain ⟨N, hN⟩ : ∃ N, N = n + 1 := ⟨_, rfl⟩
  rw [← hN] at C0
  have z3 : ((N : Int) != (n : Int) + 1) = false := bne_eq_false_iff_eq.2 (by omega)
  have z4 : ((n : Int) != (n : Int)) = false := bne_eq_false_iff_eq.2 rfl
  have HN := Lib.hid hN
  clear z1 z2 F G hq hN
  go_enter Try.func10, Try.ntmps10
  go_wp2_with (first
    | (go_at_call 26; (with_reducible refine C0.out.mono ?_); rintro e w1 ⟨aL, cL, l, rfl, hL, hl, k1⟩)
    | (go_at_call 34; refine (five_any _).mono ?_; rintro e w2 ⟨rfl, b2⟩)
    | (go_at_call 22; first | ((with_reducible refine (CI.out _).mono ?_); rintro e w3 ⟨rfl, rfl⟩) | ((with_reducible refine (CJ.out _).mono ?_); rintro e w3 ⟨rfl, rfl⟩))
    | (go_at_call 14; fail))
  have k2 := below_tr k1 b2
  have hL2 := hL.rd.below b2
  have HL := Lib.hid hl
  have hin : In 0 9972 l := fun k hk => by
    have e := hL.len_eq
    rw [hl k (by have := HN.out; omega)]
    omega
  have C := R_All_any 0 9972 hL2
  rw [allB_any, any_of_in hin] at C
  have C := Lib.hid C
  have HLI := Lib.hid hin
  clear hl hin k1 b2 hL C0 CI CJ
  (with_reducible refine C.out.mono ?_)
  clear C
  rintro e w3 ⟨rfl, rfl⟩
  go_wp2
  go_loopw [12, 14] (fun v x wr => ∃ (k : Nat) (q : Option Addr) (cq : Nat), k ≤ 12 ∧ x = .int .i64 k ∧ v = .slice q k cq ∧ OwI wr w2.heap.size 3 q k cq (rowF (fun t => powM n (mx M) t i j % 9973) k) ∧ Below w2.heap.size w2 wr) (fun _ x _ => 12 - (intOf x).toNat)
  case atStart => exact ⟨0, none, 0, by omega, rfl, rfl, OwI.nil _ _ _, Below.refl _ _⟩
  case round =>
    obtain ⟨k, q, cq, hk, rfl, rfl, ho, hb⟩ := hrel
    obtain ⟨wo, rfl⟩ : ∃ x, x = wr := ⟨_, rfl⟩
    have hsz := hb.size
    by_cases hk12 : k < 12
    · have i3 : (k : Int) < (12 : Int) := by omega
      have C := Lib.hid (CP.out k (by omega) _ (below_tr k2 hb))
      go_wp2_with (first | (go_at_call 27; fail))
      (with_reducible refine C.out.mono ?_)
      clear C
      rintro e w4 ⟨aP, cP, P, rfl, hP, hPi, hb4⟩
      have hP4 := hP.rd
      have hs4 := hb4.size
      obtain ⟨bP, oP, rfl, ar, cr, y1, hrd⟩ := hP4.rowIn hPi.1 hi
      obtain ⟨br, or_, rfl, _, hce⟩ := hrd.at hj
      have y2 : w4.cell? ⟨br, or_ + j, none⟩ = some (.int .i64 (powM n (mx M) k i j % 9973)) := by
        rw [hce j hj]
        exact congrArg (fun z => some (Value.int .i64 z)) (hPi.2 i j hi hj)
      have ho4 := ho.below hb4
      obtain ⟨X, hX⟩ : ∃ X, X = powM n (mx M) k i j % 9973 := ⟨_, rfl⟩
      rw [← hX] at y2
      have HX := Lib.hid hX
      have hb5 := hb.trans (hb4.mono hsz)
      clear hP hPi hP4 hrd hce hX hb4
      go_wp2_with (first | (at_builtin; refine wpList_push_int HIT.out rfl (.tmp 100) (.tmp 108) rfl rfl rfl (ho4.alloc _) (z := X) (by simp) (by decide) (by decide) (by omega) (by simp; omega) ?_; intro a6 c6 w6 ho6 hg6))
      have hb6 := below_grown (hb5.alloc (by omega) (.cells #[.int .i64 X] 3)) (ho4.alloc _) (by simp; omega) hg6
      go_roundw
      case rel => exact ⟨k + 1, a6, c6, by omega, by go_num, rfl, by rw [rowF_succ, ← HX.out]; exact ho6, hb6⟩
      case measure => simp [intOf]; omega
    · have HK : Hid (k = 12) := by unfold Hid; omega
      have i3 : ¬ (k : Int) < (12 : Int) := by omega
      have hL3 := hL2.below hb
      have k3 := below_tr k2 hb
      have hrow := ho.rd
      have hs3 := hb.size
      clear ho hb
      go_wp2
      go_loopw [13, 17] (fun v x wr => ∃ (t z : Nat) (q2 : Option Addr) (cq2 : Nat), Hid (z = t + 1) ∧ t ≤ n ∧ 1 ≤ z ∧ z ≤ n + 1 ∧ x = .int .i64 z ∧ v = .slice q2 t cq2 ∧ OwI wr wo.heap.size 3 q2 t cq2 (rowF (fun t => -ix l (n - (t + 1)) % 9973) t) ∧ Below wo.heap.size wo wr) (fun _ x _ => n + 1 - (intOf x).toNat)
      case atStart => exact ⟨0, 1, none, 0, rfl, by omega, by omega, by omega, rfl, rfl, OwI.nil _ _ _, Below.refl _ _⟩
      case round =>
        obtain ⟨t, z, q2, cq2, hzt, htn, hz1, hz2, rfl, rfl, ho, hb⟩ := hrel
        by_cases hzn : z ≤ n
        · have i4 : (z : Int) ≤ (n : Int) := by omega
          obtain ⟨bl, ol, rfl, _, hlc⟩ := (hL3.below hb).at (k := n - z) (by have := HN.out; omega)
          have y1 := hlc (n - z) (by have := HN.out; omega)
          have bl1 := HLI.out (n - z) (by rw [hL3.len_eq]; have := HN.out; omega)
          have t1 : ((n : Int) - (z : Int)).toNat = n - z := by omega
          have i5 : (0 : Int) ≤ (n : Int) - (z : Int) := by omega
          have i6 : (n : Int) - (z : Int) < (N : Int) := by have := HN.out; omega
          have hs5 := hb.size
          clear hlc
          go_wp2_with (first | (go_at_call 28; refine (R_Mod_any _ _ (by omega) (by omega)).mono ?_; rintro e w' ⟨rfl, rfl⟩) | (at_builtin; refine wpList_push_int HIT.out rfl (.tmp 115) (.tmp 124) rfl rfl rfl (ho.alloc _) (z := -ix l (n - z) % 9973) (by simp) (by decide) (by decide) (by omega) (by simp; omega) ?_; intro a6 c6 w6 ho6 hg6))
          have hb6 := below_grown (hb.alloc (by omega) (.cells #[.int .i64 (-ix l (n - z) % 9973)] 3)) (ho.alloc _) (by simp; omega) hg6
          go_roundw
          case rel => exact ⟨t + 1, z + 1, a6, c6, congrArg (· + 1) hzt.out, by have := hzt.out; omega, by omega, by omega, by go_num, rfl, by rw [hzt.out] at ho6; rw [rowF_succ]; exact ho6, hb6⟩
          case measure => simp [intOf]; omega
        · have hz3 : z = n + 1 := by omega
          obtain rfl : n = t := by have := hzt.out; omega
          have i4 : ¬ (z : Int) ≤ (n : Int) := by omega
          have hrow4 := hrow.below hb
          have hfac4 := ho.rd
          have k4 := below_tr k3 hb
          have hR : seqR (rowF (fun t => powM n (mx M) t i j % 9973) k) = none := T_seqR_of (by rw [rowF_len]; have := HK.out; omega) fun k hk => by
            rw [rowF_len] at hk
            rw [rowF_ix hk]
            omega
          have hFc : seqR (rowF (fun t => -ix l (n - (t + 1)) % 9973) n) = none := T_seqR_of (by rw [rowF_len]; omega) fun k hk => by
            rw [rowF_len] at hk
            rw [rowF_ix hk]
            omega
          have hG : GenF (ix (rowF (fun t => powM n (mx M) t i j % 9973) k)) (ix (rowF (fun t => -ix l (n - (t + 1)) % 9973) n)) n k := krylov n1.1 HF.out hi hj (fun k hk => by rw [rowF_ix hk]; exact Eqm.mod _) (fun s hs => by
            rw [rowF_ix (by omega), show n - (s + 1) = n - 1 - s by omega, HL.out (n - 1 - s) (by omega)]
            unfold Eqm
            omega)
          have CG := Goes_ok hrow4 hfac4 hR hFc
          rw [goB_iff.2 (by rw [rowF_len, rowF_len]; exact hG)] at CG
          have CG := Lib.hid CG
          have HR := Lib.hid hR
          have HG := Lib.hid hG
          clear hR hFc hG ho hb hz3 hrow k3
          go_wp2_with (first
            | (go_at_call 35; (with_reducible refine CG.out.mono ?_); rintro e w6 ⟨rfl, b6⟩)
            | (go_at_call 34; fail))
          refine (Fewest_ok (hrow4.below b6) HR.out).mono ?_
          rintro e w7 ⟨L, Fs, rfl, hB, _, _, b7⟩
          have hLn : L ≤ n := hB.low n _ HG.out
          have i7 : (L : Int) ≤ (n : Int) := by omega
          have k7 := below_tr (below_tr k4 b6) b7
          clear hB b6 b7 CG
          go_wp2
          go_ret
          exact ⟨rfl, k7⟩

theorem topKrylov_walk {i j : Int} (hM : RdM w a n ca M) (_ : ∀ r ∈ M, Fit r) (_ : (Lit.int .i64 i).wf = true) (_ : (Lit.int .i64 j).wf = true) :
    Calls Try.prog 10 #[.slice a n ca, .int .i64 i, .int .i64 j] w fun e w' => e = .returned (.bool true) ∧ Below w.heap.size w w' := by
  rcases hq : squareR 5 0 9972 M with _ | x
  · obtain ⟨g1, g2⟩ := squareR_grounds hq
    have G := Good.of hM.len_eq g1
    rw [g2, hM.len_eq] at G
    by_cases h : (0 ≤ i ∧ i < n) ∧ 0 ≤ j ∧ j < n
    · obtain ⟨i', rfl⟩ := Int.eq_ofNat_of_zero_le h.1.1
      obtain ⟨j', rfl⟩ := Int.eq_ofNat_of_zero_le h.2.1
      exact topKrylov_ok hM hq G (by omega) (by omega)
    · exact topKrylov_out hM G h
  · exact topKrylov_err hM hq
end
end Go.Proofs.Ytfocfgddlnjfmaa
