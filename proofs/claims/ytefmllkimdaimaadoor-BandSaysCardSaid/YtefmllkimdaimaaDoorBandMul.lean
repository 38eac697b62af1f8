/-
  band.Full's error and band.Mul walked.
-/
import Derived.Test.YtefmllkimdaimaaDoorRows
import Derived.Test.YtefmllkimdaimaaDoorLib
import Derived.Test.YtefmllkimdaimaaDoorNum
import Derived.Test.YtefmllkimdaimaaDoorBand
import Derived.Test.YtefmllkimdaimaaDoorBandP
import Derived.Deep.QuietTactic
import Derived.BigQuiet
namespace Go.Proofs.YtefmllkimdaimaaDoor
open Go.RowKit Go.Rk

/-- What is wrong with a band and a row. -/
def bandMulR (m a b x : List Int) : Option Int := match checkB m a b with
  | some c => some c
  | none => if x.length ≠ m.length then some 3 else if anyB 0 9972 x then some 1 else none
theorem bandMulR_none {m a b x : List Int} (h : bandMulR m a b x = none) : checkB m a b = none ∧ x.length = m.length ∧ In 0 9972 x := by
  unfold bandMulR at h
  split at h
  · cases h
  · next h0 =>
    split at h
    · cases h
    · split at h
      · cases h
      · next h1 h2 => exact ⟨h0, by omega, in_of_any (by simpa using h2)⟩
section
variable {p q r s : Option Addr} {n1 c1 n2 c2 n3 c3 n4 c4 : Nat} {m a b x : List Int} {w : World}
theorem band_Full_err {c : Int} (hm : RdI w p n1 c1 m) (ha : RdI w q n2 c2 a) (hb : RdI w r n3 c3 b) (h : checkB m a b = some c) :
    Calls Tryd.prog 23 #[.slice p n1 c1, .slice q n2 c2, .slice r n3 c3] w fun e w' => e = .returned (.tuple #[.slice none 0 0, .iface 75 (.int .i64 c)]) ∧ w = w' := by
  have A1 := Lib.hid (band_Check_is hm ha hb h)
  clear h
  go_enter Tryd.func23, Tryd.ntmps23
  go_wp2_with (go_at_call 15; refine A1.out.mono ?_; rintro e w' ⟨rfl, rfl⟩; simp only [errV])
  go_ret2
  exact ⟨rfl, rfl⟩
theorem band_Full_big (hm : RdI w p n1 c1 m) (ha : RdI w q n2 c2 a) (hb : RdI w r n3 c3 b) (h : checkB m a b = none) (h5 : 5 < n1) :
    Calls Tryd.prog 23 #[.slice p n1 c1, .slice q n2 c2, .slice r n3 c3] w fun e w' => e = .returned (.tuple #[.slice none 0 0, .iface 75 (.int .i64 4)]) ∧ w = w' := by
  have A1 := Lib.hid (band_Check_is hm ha hb h)
  clear h
  go_enter Tryd.func23, Tryd.ntmps23
  go_wp2_with (go_at_call 15; refine A1.out.mono ?_; rintro e w' ⟨rfl, rfl⟩; simp only [errV])
  go_ret2
  exact ⟨rfl, rfl⟩
theorem band_Mul_err {c : Int} (hm : RdI w p n1 c1 m) (ha : RdI w q n2 c2 a) (hb : RdI w r n3 c3 b) (hx : RdI w s n4 c4 x) (h : bandMulR m a b x = some c) :
    Calls Tryd.prog 21 #[.slice p n1 c1, .slice q n2 c2, .slice r n3 c3, .slice s n4 c4] w fun e w' => e = .returned (.tuple #[.slice none 0 0, .iface 75 (.int .i64 c)]) ∧ w = w' := by
  have e1 := hm.len_eq
  have e4 := hx.len_eq
  unfold bandMulR at h
  rcases hc : checkB m a b with _ | d
  · rw [hc] at h
    simp only at h
    have A1 := Lib.hid (band_Check_is hm ha hb hc)
    have A2 := Lib.hid (any_any s n4 c4 x 0 9972 w hx)
    clear hc
    by_cases hl : n4 = n1
    · subst hl
      rw [if_neg (by omega)] at h
      rcases hy : anyB 0 9972 x
      · rw [hy] at h; cases h
      · rw [hy] at h A2
        obtain rfl : 1 = c := by simpa using h
        clear h hy
        have z : ((n4 : Int) != (n4 : Int)) = false := bne_eq_false_iff_eq.2 rfl
        go_enter Tryd.func21, Tryd.ntmps21
        go_wp2_with (first | (go_at_call 15; refine A1.out.mono ?_; rintro e w' ⟨rfl, rfl⟩; simp only [errV]) | (go_at_call 74; (with_reducible refine A2.out.mono ?_); rintro e w' ⟨rfl, rfl⟩))
        go_ret2
        exact ⟨rfl, rfl⟩
    · rw [if_pos (by omega)] at h
      obtain rfl : 3 = c := by simpa using h
      clear h
      have z : ((n4 : Int) != (n1 : Int)) = true := bne_iff_ne.2 (by omega)
      go_enter Tryd.func21, Tryd.ntmps21
      go_wp2_with (first | (go_at_call 15; refine A1.out.mono ?_; rintro e w' ⟨rfl, rfl⟩; simp only [errV]))
      go_ret2
      exact ⟨rfl, rfl⟩
  · rw [hc] at h
    obtain rfl : d = c := by simpa using h
    have A1 := Lib.hid (band_Check_is hm ha hb hc)
    clear h hc
    go_enter Tryd.func21, Tryd.ntmps21
    go_wp2_with (go_at_call 15; refine A1.out.mono ?_; rintro e w' ⟨rfl, rfl⟩; simp only [errV])
    go_ret2
    exact ⟨rfl, rfl⟩

set_option maxHeartbeats 4000000 in
set_option maxRecDepth 100000 in
theorem band_Mul_ok (hm : RdI w p n1 c1 m) (ha : RdI w q n2 c2 a) (hb : RdI w r n3 c3 b) (hx : RdI w s n4 c4 x) (h : bandMulR m a b x = none) :
    Calls Tryd.prog 21 #[.slice p n1 c1, .slice q n2 c2, .slice r n3 c3, .slice s n4 c4] w fun e w' => ∃ z cz, e = .returned (.tuple #[.slice z n1 cz, .nilIface]) ∧ OwI w' w.heap.size 3 z n1 cz (mulB m a b x n1 n1) ∧ Below w.heap.size w w' := by
  obtain ⟨hc, hl, ix_⟩ := bandMulR_none h
  obtain ⟨g1, g2, g3, g4, g5, g6, g7⟩ := checkB_none hc
  have A1 := Lib.hid (band_Check_is hm ha hb hc)
  have A2 := any_any s n4 c4 x 0 9972 w hx
  rw [any_of_in ix_] at A2
  have A2 := Lib.hid A2
  have e1 := hm.len_eq
  have e2 := ha.len_eq
  have e3 := hb.len_eq
  have e4 := hx.len_eq
  obtain rfl : n4 = n1 := by omega
  have l1 : 1 ≤ n4 := by omega
  have l2 : n4 ≤ 10 := by omega
  have l3 := Lib.hid (show n2 = n4 - 1 from by omega)
  have l4 := Lib.hid (show n3 = n4 - 1 from by omega)
  have E1 := Lib.hid e1
  have E2 := Lib.hid e2
  have E3 := Lib.hid e3
  have E4 := Lib.hid e4
  have IX := Lib.hid ix_
  have G5 := Lib.hid g5
  have G6 := Lib.hid g6
  have G7 := Lib.hid g7
  have HM := Lib.hid intTy
  have z : ((n4 : Int) != (n4 : Int)) = false := bne_eq_false_iff_eq.2 rfl
  clear h hc hl ix_ g1 g2 g3 g4 g5 g6 g7 e1 e2 e3 e4
  go_enter Tryd.func21, Tryd.ntmps21
  go_wp2_with (first | (go_at_call 15; refine A1.out.mono ?_; rintro e w' ⟨rfl, rfl⟩; simp only [errV]) | (go_at_call 74; (with_reducible refine A2.out.mono ?_); rintro e w' ⟨rfl, rfl⟩) | (refine wpList_make_ints HM.out rfl (.tmp 33) (.tmp 33) rfl rfl rfl (by omega) ?_; intro w4 ho4 hb4; obtain ⟨g4, hz, hg41, hg42, _, _⟩ := ho4.at (by omega); cases hz))
  clear A1 A2
  go_loopw [37] (fun i wr => ∃ k : Nat, k ≤ n4 ∧ i = .int .i64 k ∧ OwI wr w.heap.size 3 (some ⟨w.heap.size, 0, none⟩) n4 n4 (mulB m a b x n4 k) ∧ Below w.heap.size w wr) (fun i _ => n4 - (intOf i).toNat)
  case atStart => exact ⟨0, Nat.zero_le _, rfl, ho4, hb4⟩
  case round =>
    clear ho4 hb4 z
    obtain ⟨k, hk, rfl, ho, hbr⟩ := hrel
    by_cases hlt : k < n4
    · have i1 : (k : Int) < (n4 : Int) := by omega
      obtain ⟨bm, om, rfl, _, cm⟩ := (hm.below hbr).at hlt
      obtain ⟨bx, ox, rfl, _, cx⟩ := (hx.below hbr).at hlt
      have cm1 := cm k hlt
      have cx1 := cx k hlt
      have m1 := G5.out k (by rw [E1.out]; exact hlt)
      have x1 := IX.out k (by rw [E4.out]; exact hlt)
      have p1 := mul_bd m1 x1
      obtain ⟨P1, hP1⟩ : ∃ P, P = ix m k * ix x k := ⟨_, rfl⟩
      rw [← hP1] at p1
      have u1 : IntKind.i64.wrap (ix m k * ix x k) = P1 := by rw [hP1]; exact Go.IntWalk.i64_in _ (by omega)
      have HP1 := Lib.hid hP1
      have CX := Lib.hid cx
      clear cm cx hP1 m1 x1
      go_wp2
      go_quiet (fail)
      clear u1 cm1 cx1
      by_cases h0 : 0 < k
      · have z1 : (0 : Int) < (k : Int) := by omega
        obtain ⟨bb, ob, rfl, _, cb⟩ := (hb.below hbr).at (k := k - 1) (by rw [l4.out]; omega)
        have cb1 := cb (k - 1) (by rw [l4.out]; omega)
        have cx0 := CX.out (k - 1) (by omega)
        have b1 := G7.out (k - 1) (by rw [E3.out, l4.out]; omega)
        have x0 := IX.out (k - 1) (by rw [E4.out]; omega)
        have p3 := mul_bd b1 x0
        obtain ⟨P3, hP3⟩ : ∃ P, P = ix b (k - 1) * ix x (k - 1) := ⟨_, rfl⟩
        rw [← hP3] at p3
        have u5 : IntKind.i64.wrap (ix b (k - 1) * ix x (k - 1)) = P3 := by rw [hP3]; exact Go.IntWalk.i64_in _ (by omega)
        have u6 : IntKind.i64.wrap (P1 + P3) = P1 + P3 := Go.IntWalk.i64_in _ (by omega)
        have u7 : IntKind.i64.wrap ((k : Int) - 1) = (k : Int) - 1 := Go.IntWalk.i64_in _ (by omega)
        have t1 : ((k : Int) - 1).toNat = k - 1 := by omega
        have q1 : (0 : Int) ≤ (k : Int) - 1 := by omega
        have q0 : (1 : Int) ≤ (k : Int) := by omega
        have q2 : (k : Int) - 1 < (n4 : Int) := by omega
        have q3 : (k : Int) - 1 < (n3 : Int) := by rw [l4.out]; omega
        have HP3 := Lib.hid hP3
        clear hP3 b1 x0 cb
        go_wp2
        go_quiet (fail)
        clear u5 u6 u7 t1 cb1 cx0
        by_cases h1 : k + 1 < n4
        · obtain ⟨ba, oa, rfl, _, ca⟩ := (ha.below hbr).at (k := k) (by rw [l3.out]; omega)
          have ca1 := ca k (by rw [l3.out]; omega)
          have cx2 := CX.out (k + 1) (by omega)
          have a1 := G6.out k (by rw [E2.out, l3.out]; omega)
          have x2 := IX.out (k + 1) (by rw [E4.out]; omega)
          have p2 := mul_bd a1 x2
          obtain ⟨P2, hP2⟩ : ∃ P, P = ix a k * ix x (k + 1) := ⟨_, rfl⟩
          rw [← hP2] at p2
          have u2 : IntKind.i64.wrap (ix a k * ix x (k + 1)) = P2 := by rw [hP2]; exact Go.IntWalk.i64_in _ (by omega)
          have u3 : IntKind.i64.wrap ((P1 + P3) + P2) = (P1 + P3) + P2 := Go.IntWalk.i64_in _ (by omega)
          have u4 : IntKind.i64.wrap ((k : Int) + 1) = (k : Int) + 1 := Go.IntWalk.i64_in _ (by omega)
          have t2 : ((k : Int) + 1).toNat = k + 1 := by omega
          have q4 : (0 : Int) ≤ (k : Int) + 1 := by omega
          have q5 : (k : Int) + 1 < (n4 : Int) := by omega
          have q6 : (k : Int) < (n2 : Int) := by rw [l3.out]; omega
          have HP2 := Lib.hid hP2
          clear hP2 a1 x2 ca
          go_wp2
          go_quiet (fail)
          clear u2 u3 u4 t2 ca1 cx2
          obtain ⟨gg, hz, _, _, hco, hfo⟩ := ho.at (by omega)
          cases hz
          have y1 := hco k hlt
          have y2 := hfo k
          clear hco hfo
          go_wp2_with (go_at_call 76; refine (Field_any _ _).mono ?_; rintro e w' ⟨rfl, rfl⟩)
          go_roundw
          case rel => exact ⟨k + 1, by omega, by go_num, by rw [mulB]; unfold mulBs; rw [← HP1.out, if_pos h0, ← HP3.out, if_pos h1, ← HP2.out]; exact (ho.drewN _).set _, (below_drewN hbr _).setCell (Nat.le_refl _) _⟩
          case measure => simp [intOf]; omega
        · have z2 : ¬ (k : Int) + 1 < (n4 : Int) := by omega
          have z3 : (n4 : Int) ≤ (k : Int) + 1 := by omega
          obtain ⟨gg, hz, _, _, hco, hfo⟩ := ho.at (by omega)
          cases hz
          have y1 := hco k hlt
          have y2 := hfo k
          clear hco hfo
          go_wp2_with (go_at_call 76; refine (Field_any _ _).mono ?_; rintro e w' ⟨rfl, rfl⟩)
          go_roundw
          case rel => exact ⟨k + 1, by omega, by go_num, by rw [mulB]; unfold mulBs; rw [← HP1.out, if_pos h0, ← HP3.out, if_neg h1, Int.add_zero]; exact (ho.drewN _).set _, (below_drewN hbr _).setCell (Nat.le_refl _) _⟩
          case measure => simp [intOf]; omega
      · have z1 : ¬ (0 : Int) < (k : Int) := by omega
        have z0 : (k : Int) ≤ 0 := by omega
        by_cases h1 : k + 1 < n4
        · obtain ⟨ba, oa, rfl, _, ca⟩ := (ha.below hbr).at (k := k) (by rw [l3.out]; omega)
          have ca1 := ca k (by rw [l3.out]; omega)
          have cx2 := CX.out (k + 1) (by omega)
          have a1 := G6.out k (by rw [E2.out, l3.out]; omega)
          have x2 := IX.out (k + 1) (by rw [E4.out]; omega)
          have p2 := mul_bd a1 x2
          obtain ⟨P2, hP2⟩ : ∃ P, P = ix a k * ix x (k + 1) := ⟨_, rfl⟩
          rw [← hP2] at p2
          have u2 : IntKind.i64.wrap (ix a k * ix x (k + 1)) = P2 := by rw [hP2]; exact Go.IntWalk.i64_in _ (by omega)
          have u3 : IntKind.i64.wrap (P1 + P2) = P1 + P2 := Go.IntWalk.i64_in _ (by omega)
          have u4 : IntKind.i64.wrap ((k : Int) + 1) = (k : Int) + 1 := Go.IntWalk.i64_in _ (by omega)
          have t2 : ((k : Int) + 1).toNat = k + 1 := by omega
          have q4 : (0 : Int) ≤ (k : Int) + 1 := by omega
          have q5 : (k : Int) + 1 < (n4 : Int) := by omega
          have q6 : (k : Int) < (n2 : Int) := by rw [l3.out]; omega
          have HP2 := Lib.hid hP2
          clear hP2 a1 x2 ca
          go_wp2
          go_quiet (fail)
          clear u2 u3 u4 t2 ca1 cx2
          obtain ⟨gg, hz, _, _, hco, hfo⟩ := ho.at (by omega)
          cases hz
          have y1 := hco k hlt
          have y2 := hfo k
          clear hco hfo
          go_wp2_with (go_at_call 76; refine (Field_any _ _).mono ?_; rintro e w' ⟨rfl, rfl⟩)
          go_roundw
          case rel => exact ⟨k + 1, by omega, by go_num, by rw [mulB]; unfold mulBs; rw [← HP1.out, if_neg h0, Int.add_zero, if_pos h1, ← HP2.out]; exact (ho.drewN _).set _, (below_drewN hbr _).setCell (Nat.le_refl _) _⟩
          case measure => simp [intOf]; omega
        · have z2 : ¬ (k : Int) + 1 < (n4 : Int) := by omega
          have z3 : (n4 : Int) ≤ (k : Int) + 1 := by omega
          obtain ⟨gg, hz, _, _, hco, hfo⟩ := ho.at (by omega)
          cases hz
          have y1 := hco k hlt
          have y2 := hfo k
          clear hco hfo
          go_wp2_with (go_at_call 76; refine (Field_any _ _).mono ?_; rintro e w' ⟨rfl, rfl⟩)
          go_roundw
          case rel => exact ⟨k + 1, by omega, by go_num, by rw [mulB]; unfold mulBs; rw [← HP1.out, if_neg h0, Int.add_zero, if_neg h1, Int.add_zero]; exact (ho.drewN _).set _, (below_drewN hbr _).setCell (Nat.le_refl _) _⟩
          case measure => simp [intOf]; omega
    · obtain rfl : k = n4 := by omega
      go_wp2
      go_ret2
      exact ⟨_, _, rfl, ho, hbr⟩
end
end Go.Proofs.YtefmllkimdaimaaDoor
