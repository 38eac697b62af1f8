/-
  MinorsAdj walked: times its adjugate a matrix is its determinant; and the adjugate's determinant is that one's power.
-/
import Derived.Test.YtohconpfpecldaaRows
import Derived.Test.YtohconpfpecldaaLib
import Derived.Test.YtohconpfpecldaaRef
import Derived.Test.YtohconpfpecldaaRefTo
import Derived.Test.YtohconpfpecldaaDetOf
import Derived.Test.YtohconpfpecldaaDetMul
import Derived.Test.YtohconpfpecldaaMatLaw
import Derived.Test.YtohconpfpecldaaMinors
namespace Go.Rk

theorem prodTo_same (d : Int) (n : Nat) : prodTo (fun _ => d) n = d ^ n := by
  induction n with
  | zero => rw [Int.pow_zero]; rfl
  | succ n ih => rw [prodTo, ih, Int.pow_succ]
/-- The determinant of the adjugate. -/
theorem det_adj {n : Nat} (hn : 1 ≤ n) (A : Mx) : det n (adj n A) = det n A ^ (n - 1) := by
  have h1 : det n A * det n (adj n A) = det n A ^ n := by
    rw [← det_mul, det_congr fun i j hi hj => mul_adj A hi hj, det_upper (fun i j => if i = j then det n A else 0) fun i j _ _ h => if_neg (by omega)]
    rw [← prodTo_same]
    exact prodTo_congr fun i _ => if_pos rfl
  by_cases h0 : det n A = 0
  · by_cases hn1 : n = 1
    · subst hn1
      rw [Nat.sub_self, Int.pow_zero]
      simp [det, adj, sg, sumTo]
    · rw [h0, show n - 1 = (n - 2) + 1 by omega, Int.pow_succ, Int.mul_zero]
      refine Classical.byContradiction fun hd => ?_
      have hz : ∀ i j, i < n → j < n → A i j = 0 := fun i j hi hj => by
        have e : mulM n A (mulM n (adj n A) (adj n (adj n A))) i j = mulM n (mulM n A (adj n A)) (adj n (adj n A)) i j := (mulM_assoc n n A (adj n A) (adj n (adj n A)) i j).symm
        have l : mulM n A (mulM n (adj n A) (adj n (adj n A))) i j = A i j * det n (adj n A) := by
          unfold mulM
          rw [sumTo_congr (h := fun k => (if j = k then 1 else 0) * (A i k * det n (adj n A))) fun k hk => ?_]
          · exact sumTo_pick (fun k => A i k * det n (adj n A)) hj
          · show A i k * mulM n (adj n A) (adj n (adj n A)) k j = _
            rw [mul_adj (adj n A) hk hj]
            by_cases e : j = k
            · rw [if_pos e.symm, if_pos e, Int.one_mul]
            · rw [if_neg fun x => e x.symm, if_neg e, Int.zero_mul, Int.mul_zero]
        have r : mulM n (mulM n A (adj n A)) (adj n (adj n A)) i j = 0 := by
          show sumTo (fun k => mulM n A (adj n A) i k * adj n (adj n A) k j) n = 0
          rw [sumTo_congr (h := fun _ => 0) fun k hk => by
            show mulM n A (adj n A) i k * _ = _
            rw [mul_adj A hi hk]
            split <;> simp [h0]]
          exact sumTo_zero n
        rw [l, r] at e
        rcases Int.mul_eq_zero.1 e with e | e
        · exact e
        · exact absurd e hd
      have hm : ∀ i j, i < n → j < n → adj n A i j = 0 := fun i j hi hj => by
        unfold adj
        obtain ⟨m, hm⟩ : ∃ m, n - 1 = m + 1 := ⟨n - 2, by omega⟩
        rw [hm, (det_alt (m + 1)).zero_row (minor A j i) (i := 0) (by omega) fun c hc => hz _ _ (by have := skip_lt (j := j) (c := 0) (n := n - 1) (by omega); omega) (by have := skip_lt (j := i) (c := c) (n := n - 1) (by omega); omega), Int.mul_zero]
      exact hd ((det_alt n).zero_row (adj n A) (i := 0) (by omega) fun c hc => hm 0 c (by omega) hc)
  · have h2 : det n A ^ n = det n A * det n A ^ (n - 1) := by
      rw [Int.mul_comm, ← Int.pow_succ]
      congr 1
      omega
    rw [h2] at h1
    exact Int.eq_of_mul_eq_mul_left h0 h1
end Go.Rk
namespace Go.Proofs.Ytohconpfpecldaa
open Go.RowKit Go.Rk

set_option maxHeartbeats 4000000 in
set_option maxRecDepth 100000 in
theorem minorsAdj_walk {a : Option Addr} {n ca : Nat} {A : List (List Int)} {w : World} (hA : RdM w a n ca A) (_ : ∀ r ∈ A, Fit r) :
    Calls Try.prog 11 #[.slice a n ca] w fun e w' => e = .returned (.bool true) ∧ Below w.heap.size w w' := by
  go_enter Try.func11, Try.ntmps11
  go_wp2_with (first | (go_at_call 36; refine (minorsFact_any _).mono ?_; rintro e w1 ⟨rfl, k1⟩) | (go_at_call 27; fail))
  rcases hq : squareR 5 0 9972 A with _ | x
  · obtain ⟨g1, g2⟩ := squareR_grounds hq
    have GA0 := Good.of hA.len_eq g1
    rw [g2, hA.len_eq] at GA0
    have GA := Lib.hid GA0
    have n1 := GA0.n1
    have HQ := Lib.hid hq
    have HN := Lib.hid n1
    clear GA0 g1 g2 hq
    have C := Lib.hid (det_Of_ok (hA.below k1) HQ.out)
    obtain ⟨d, hd⟩ : ∃ d, det n (mx A) % 9973 = d := ⟨_, rfl⟩
    have bd : 0 ≤ d ∧ d ≤ 9972 := by omega
    rw [hd] at C
    have HD := Lib.hid hd
    clear hd HQ
    (with_reducible refine C.out.mono ?_)
    clear C
    rintro e w2 ⟨rfl, hb⟩
    have k2 := below_tr k1 hb
    clear hb k1
    have C := Lib.hid (Adj_ok (hA.below k2) GA.out)
    go_wp2_with (first | (go_at_call 40; fail))
    (with_reducible refine C.out.mono ?_)
    clear C
    rintro e w3 ⟨a3, c3, J, rfl, ho, hi, hb⟩
    have k3 := below_tr k2 hb
    have GJ := Lib.hid (show Good n n J from ⟨n1, n1, hi.1, fun i j h1 h2 => by rw [hi.2 i j h1 h2]; dsimp only; omega⟩)
    have HJ := Lib.hid (show EqM n n (mx J) (adj n (mx A)) from fun i j h1 h2 => by show Eqm (en J i j) _; rw [hi.2 i j h1 h2]; exact Eqm.mod _)
    have hJ := ho.rd
    clear ho hi hb k2
    have C := Lib.hid (Mul_ok (hA.below k3) hJ (GA.out.mulOk GJ.out))
    rw [GJ.out.r0] at C
    go_wp2_with (first | (go_at_call 35; fail))
    (with_reducible refine C.out.mono ?_)
    clear C
    rintro e w4 ⟨a4, c4, P, rfl, ho, hi, hb⟩
    have k4 := below_tr k3 hb
    have GP := Lib.hid (GA.out.prod GJ.out hi)
    have hP := ho.rd
    have hJ := hJ.below hb
    clear ho hi hb k3
    have C := Lib.hid (Mul_ok hJ (hA.below k4) (GJ.out.mulOk GA.out))
    rw [GA.out.r0] at C
    go_wp2_with (first | (go_at_call 35; fail))
    (with_reducible refine C.out.mono ?_)
    clear C
    rintro e w5 ⟨a5, c5, Q, rfl, ho, hi, hb⟩
    have k5 := below_tr k4 hb
    have GQ := Lib.hid (GJ.out.prod GA.out hi)
    have hQ := ho.rd
    have hJ := hJ.below hb
    have hP := hP.below hb
    clear ho hi hb k4
    obtain ⟨k, hk⟩ : ∃ k, det n (mx J) % 9973 = k := ⟨_, rfl⟩
    have HK := Lib.hid hk
    have C := Lib.hid (det_Of_ok hJ (squareR_of (lo := 0) (hi := 9972) (most := 5) n1.1 (by omega) GJ.out.dm GJ.out.ent))
    rw [hk] at C
    clear hk
    go_wp2_with (first | (go_at_call 27; fail))
    (with_reducible refine C.out.mono ?_)
    clear C
    rintro e w6 ⟨rfl, hb⟩
    have k6 := below_tr k5 hb
    have hP := hP.below hb
    have hQ := hQ.below hb
    clear hb k5 hJ
    have hin : inB d 0 9972 = true := by unfold inB; simp; omega
    go_wp2_with (first | (go_at_call 37; refine (L2_in_any _ _ _ _).mono ?_; rintro e w' ⟨rfl, rfl⟩; rw [hin]) | (go_at_call 41; refine (Unit_any n _ (by omega)).mono ?_; rintro e w7 ⟨a7, c7, rfl, ho, hb⟩))
    have hP0 := hP
    have hQ0 := hQ
    have HU := unitN_is n
    obtain ⟨g, D, C, hz, hd⟩ := ho.named (by omega) fun r hr => by rw [HU.1.2 r hr]; omega
    subst hz
    clear ho
    obtain ⟨W0, hW0⟩ : ∃ W0, W0 = unitN n n := ⟨_, rfl⟩
    rw [← hW0] at hd HU
    have HW0 := Lib.hid HU
    clear hW0 HU
    go_loopw [14] (fun v wr => ∃ (q : Nat) (W' : List (List Int)), q ≤ n ∧ v = .int .i64 q ∧ OwMD wr w6.heap.size 22 3 g D C n c7 W' ∧ Hid (IsR n n W' (fun i j => if i = j then (if i < q then d else 1) else 0)) ∧ Below w6.heap.size w6 wr) (fun v _ => n - (intOf v).toNat)
    case atStart => exact ⟨0, W0, Nat.zero_le _, rfl, hd, HW0.out.congr fun i j _ _ => by rw [if_neg (Nat.not_lt_zero i)], hb⟩
    case round =>
      clear hd HW0
      obtain ⟨q, W', hqn, rfl, hd, HW, hb⟩ := hrel
      by_cases hlt : q < n
      · have hlt' : (q : Int) < (n : Int) := by omega
        have a1 := hd.cellO hlt
        have a2 := hd.cellI hlt (j := q) (by rw [HW.out.1.2 q hlt]; exact hlt)
        have a3 := hd.frozenI hlt (by rw [HW.out.1.2 q hlt]; omega) q
        rw [HW.out.1.2 q hlt] at a1
        go_wp2
        go_roundw
        case rel => exact ⟨q + 1, _, by omega, by go_num, hd.set matTy.ne hlt _, ⟨HW.out.1.setE _ _ _, fun i j hi hj => by
          rw [HW.out.1.en_set _ hi hj, HW.out.2 i j hi hj]
          dsimp only
          by_cases e : q = i ∧ q = j
          · rw [if_pos e, if_pos (by omega), if_pos (by omega)]
          · rw [if_neg e]
            by_cases e2 : i = j
            · rw [if_pos e2, if_pos e2]
              by_cases e3 : i < q
              · rw [if_pos e3, if_pos (by omega)]
              · rw [if_neg e3, if_neg (by omega)]
            · rw [if_neg e2, if_neg e2]⟩, hb.setCell (p := ⟨D q, q, none⟩) (hd.lowI hlt).1 _⟩
        case measure => simp [intOf]; omega
      · obtain rfl : q = n := by omega
        have k8 := below_tr k6 hb
        have hW := hd.toM.rd
        have GW : Good q q W' := ⟨HN.out, HN.out, HW.out.1, fun i j hi hj => by rw [HW.out.2 i j hi hj]; dsimp only; (repeat' split) <;> omega⟩
        have eW : EqM q q (fun i j => if i = j then det q (mx A) else 0) (mx W') := fun i j hi hj => by
          show Eqm _ (en W' i j)
          rw [HW.out.2 i j hi hj]
          dsimp only
          by_cases e : i = j
          · rw [if_pos e, if_pos e, if_pos hi, ← HD.out]; exact (Eqm.mod _).symm
          · rw [if_neg e, if_neg e]; exact Eqm.refl _
        have HPW : Hid (P = W') := GP.out.1.same GW ((GP.out.2.trans (EqM.mul (EqM.refl _ _ _) HJ.out)).trans (EqM.trans (fun i j hi hj => Eqm.of_eq (mul_adj (mx A) hi hj)) eW))
        have HQW : Hid (Q = W') := GQ.out.1.same GW ((GQ.out.2.trans (EqM.mul HJ.out (EqM.refl _ _ _))).trans (EqM.trans (fun i j hi hj => Eqm.of_eq (adj_mul (mx A) hi hj)) eW))
        have HKP : Hid (k = powm d (q - 1)) := by
          unfold Hid powm
          rw [← HK.out, ← HD.out, pow_emod, ← det_adj HN.out.1]
          exact det_eqm fun i j hi hj => HJ.out i j hi hj
        have hP := hP0.below hb
        have hQ := hQ0.below hb
        clear GW eW
        have C := Lib.hid (Rows_any hP hW)
        go_wp2_with (first | (go_at_call 42; fail))
        (with_reducible refine C.out.mono ?_)
        clear C
        rintro e w9 ⟨rfl, hb9⟩
        have k9 := below_tr k8 hb9
        rw [decide_eq_true HPW.out]
        have hQ := hQ.below hb9
        have hW := hW.below hb9
        clear hb9 k8 hP
        have C := Lib.hid (Rows_any hQ hW)
        go_wp2_with (first | (go_at_call 42; fail))
        (with_reducible refine C.out.mono ?_)
        clear C
        rintro e w10 ⟨rfl, hb9⟩
        have k10 := below_tr k9 hb9
        rw [decide_eq_true HQW.out]
        clear hb9 k9 hQ hW
        have e9 : ((q : Int) - 1).toNat = q - 1 := by omega
        have e8 : ((q - 1 : Nat) : Int) = (q : Int) - 1 := by omega
        have C := R_Pow_any (q - 1) (q - 1) d w10 (Nat.le_refl _) (by have := HN.out; omega) bd
        rw [e8, ← HKP.out] at C
        have C := Lib.hid C
        have zk : (k == k) = true := beq_iff_eq.2 rfl
        go_wp2_with (first | (go_at_call 43; (with_reducible refine C.out.mono ?_); rintro e w11 ⟨rfl, rfl⟩))
        go_ret
        exact ⟨rfl, k10⟩
  · have C := Lib.hid (det_Of_err (hA.below k1) hq)
    clear hq
    (with_reducible refine C.out.mono ?_)
    rintro e w2 ⟨rfl, rfl⟩
    go_wp2
    go_ret
    exact ⟨rfl, k1⟩
end Go.Proofs.Ytohconpfpecldaa
