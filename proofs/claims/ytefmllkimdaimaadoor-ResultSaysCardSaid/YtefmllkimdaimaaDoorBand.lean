/-
  The walks of package band.
-/
import Derived.Test.YtefmllkimdaimaaDoorRows
import Derived.Test.YtefmllkimdaimaaDoorLib
import Derived.Test.YtefmllkimdaimaaDoorNum
import Derived.Test.YtefmllkimdaimaaDoorMat
import Derived.Test.YtefmllkimdaimaaDoorMatD
import Derived.StillTailTactics
import Derived.Deep.QuietTactic
import Derived.BigQuiet
namespace Go.Proofs.YtefmllkimdaimaaDoor
open Go.RowKit Go.Rk

def checkB (m a b : List Int) : Option Int :=
  if m.length = 0 then some 5 else if 10 < m.length then some 4 else if a.length ≠ m.length - 1 ∨ b.length ≠ m.length - 1 then some 3 else
    if anyB 0 9972 m || anyB 0 9972 a || anyB 0 9972 b then some 1 else none

section
variable {p q r : Option Addr} {n1 c1 n2 c2 n3 c3 : Nat} {m a b : List Int} {w : World}

set_option maxHeartbeats 1000000 in
theorem band_Check_any (hm : RdI w p n1 c1 m) (ha : RdI w q n2 c2 a) (hb : RdI w r n3 c3 b) :
    Calls Tryd.prog 15 #[.slice p n1 c1, .slice q n2 c2, .slice r n3 c3] w fun e w' => e = .returned (errV (checkB m a b)) ∧ w = w' := by
  have m1 := hm.len_max
  have m2 := ha.len_max
  have m3 := hb.len_max
  have A1 := Lib.hid (any_any p n1 c1 m 0 9972 w hm)
  have A2 := Lib.hid (any_any q n2 c2 a 0 9972 w ha)
  have A3 := Lib.hid (any_any r n3 c3 b 0 9972 w hb)
  have B1 := Lib.hid hm.len_eq
  have B2 := Lib.hid ha.len_eq
  have B3 := Lib.hid hb.len_eq
  go_enter Tryd.func15, Tryd.ntmps15
  go_wp2_with (go_at_call 74; first | ((with_reducible refine A1.out.mono ?_); rintro e w' ⟨rfl, rfl⟩) | ((with_reducible refine A2.out.mono ?_); rintro e w' ⟨rfl, rfl⟩) | ((with_reducible refine A3.out.mono ?_); rintro e w' ⟨rfl, rfl⟩))
  all_goals
    go_ret
    refine ⟨?_, rfl⟩
    unfold checkB
    rw [B1.out, B2.out, B3.out]
    (try simp only [beq_iff_eq, bne_iff_ne, beq_eq_false_iff_ne, bne_eq_false_iff_eq, ne_eq, Bool.or_eq_true] at *)
    (repeat' split) <;> first | rfl | (exfalso; omega) | (exfalso; simp_all; done)

/-- The determinant of the first k rows. -/
def contB (m a b : List Int) : Nat → Int
  | 0 => 1
  | 1 => ix m 0
  | k + 2 => (ix m (k + 1) * contB m a b (k + 1) - ix a k * ix b k % 9973 * contB m a b k) % 9973

theorem contB_in {m a b : List Int} (h : In 0 9972 m) (h0 : 0 < m.length) : ∀ k, 0 ≤ contB m a b k ∧ contB m a b k ≤ 9972
  | 0 => by simp [contB]
  | 1 => h 0 h0
  | k + 2 => by rw [contB]; omega

theorem checkB_none {m a b : List Int} (h : checkB m a b = none) : 1 ≤ m.length ∧ m.length ≤ 10 ∧ a.length = m.length - 1 ∧ b.length = m.length - 1 ∧ In 0 9972 m ∧ In 0 9972 a ∧ In 0 9972 b := by
  unfold checkB at h
  split at h
  · cases h
  split at h
  · cases h
  split at h
  · cases h
  split at h
  · cases h
  next h1 h2 h3 h4 =>
    simp at h4
    exact ⟨by omega, by omega, by omega, by omega, in_of_any h4.1.1, in_of_any h4.1.2, in_of_any h4.2⟩

theorem band_Check_is {o : Option Int} (hm : RdI w p n1 c1 m) (ha : RdI w q n2 c2 a) (hb : RdI w r n3 c3 b) (h : checkB m a b = o) :
    Calls Tryd.prog 15 #[.slice p n1 c1, .slice q n2 c2, .slice r n3 c3] w fun e w' => e = .returned (errV o) ∧ w = w' := by
  have := band_Check_any hm ha hb
  rw [h] at this
  exact this

theorem band_Det_err {c : Int} (hm : RdI w p n1 c1 m) (ha : RdI w q n2 c2 a) (hb : RdI w r n3 c3 b) (h : checkB m a b = some c) :
    Calls Tryd.prog 18 #[.slice p n1 c1, .slice q n2 c2, .slice r n3 c3] w fun e w' => e = .returned (.tuple #[.int .i64 0, .iface 75 (.int .i64 c)]) ∧ w = w' := by
  have A1 := Lib.hid (band_Check_is hm ha hb h)
  clear h
  go_enter Tryd.func18, Tryd.ntmps18
  go_wp2_with (go_at_call 15; refine A1.out.mono ?_; rintro e w' ⟨rfl, rfl⟩; simp only [errV])
  go_ret2
  exact ⟨rfl, rfl⟩

set_option maxHeartbeats 1000000 in
theorem band_Det_ok (hm : RdI w p n1 c1 m) (ha : RdI w q n2 c2 a) (hb : RdI w r n3 c3 b) (h : checkB m a b = none) :
    Calls Tryd.prog 18 #[.slice p n1 c1, .slice q n2 c2, .slice r n3 c3] w fun e w' => e = .returned (.tuple #[.int .i64 (contB m a b n1), .nilIface]) ∧ Below w.heap.size w w' := by
  obtain ⟨g1, g2, g3, g4, g5, g6, g7⟩ := checkB_none h
  have A1 := Lib.hid (band_Check_is hm ha hb h)
  have e1 := hm.len_eq
  have e2 := ha.len_eq
  have e3 := hb.len_eq
  have l1 : 1 ≤ n1 := by omega
  have l2 : n1 ≤ 10 := by omega
  have l3 := Lib.hid (show n2 = n1 - 1 from by omega)
  have l4 := Lib.hid (show n3 = n1 - 1 from by omega)
  have hc := contB_in (a := a) (b := b) g5 g1
  have HC := Lib.hid hc
  have E1 := Lib.hid e1
  have E2 := Lib.hid e2
  have E3 := Lib.hid e3
  obtain ⟨b1, o1, rfl, hl1, hcm⟩ := hm.at (k := 0) (by omega)
  have hc0 := hcm 0 (by omega)
  rw [Nat.add_zero] at hc0
  have hb0 : Below w.heap.size w w := Below.refl _ _
  clear h g1 g2 g3 g4 hc e1 e2 e3
  go_enter Tryd.func18, Tryd.ntmps18
  go_wp2_with (go_at_call 15; refine A1.out.mono ?_; rintro e w' ⟨rfl, rfl⟩; simp only [errV])
  go_loopw [10] (fun i wr => ∃ k : Nat, 1 ≤ k ∧ k ≤ n1 ∧ i = .int .i64 k ∧ wr.cell? ⟨w.heap.size, 0, none⟩ = some (.int .i64 (contB m a b (k - 1))) ∧ wr.cell? ⟨w.heap.size, 1, none⟩ = some (.int .i64 (contB m a b k)) ∧ (∀ j, wr.frozen? ⟨w.heap.size, j, none⟩ = false) ∧ Below w.heap.size w wr) (fun i _ => n1 - (intOf i).toNat)
  case atStart =>
    refine ⟨1, Nat.le_refl _, l1, rfl, ?_, ?_, ?_, ?_⟩
    · rw [World.cell?_alloc_at _ _ _ _ rfl]; rfl
    · rw [World.cell?_alloc_at _ _ _ _ rfl]; rfl
    · intro j; exact World.frozen?_alloc_at _ _ _ _ rfl
    · exact (Below.refl _ _).alloc (Nat.le_refl _) _
  case round =>
    obtain ⟨k, hk1, hk2, rfl, hx, hy, hfz, hbr⟩ := hrel
    have hf0 := hfz 0
    have hf1 := hfz 1
    by_cases hlt : k < n1
    · obtain ⟨b2, o2, rfl, hl2, hca⟩ := ha.at (k := k - 1) (by rw [l3.out]; omega)
      obtain ⟨b3, o3, rfl, hl3, hcb⟩ := hb.at (k := k - 1) (by rw [l4.out]; omega)
      have hcm1 := hbr.keep hl1 (hcm k hlt)
      have hca1 := hbr.keep hl2 (hca (k - 1) (by rw [l3.out]; omega))
      have hcb1 := hbr.keep hl3 (hcb (k - 1) (by rw [l4.out]; omega))
      have x1 := HC.out k
      have x0 := HC.out (k - 1)
      have x2 := g5 k (by rw [E1.out]; exact hlt)
      have x3 := g6 (k - 1) (by rw [E2.out, l3.out]; omega)
      have x4 := g7 (k - 1) (by rw [E3.out, l4.out]; omega)
      have p1 := mul_bd x2 x1
      have p2 := mul_bd x3 x4
      have p3 := mul_bd (a := ix a (k - 1) * ix b (k - 1) % 9973) (b := contB m a b (k - 1)) (by omega) x0
      clear hcm hca hcb
      have HFZ := Lib.hid hfz
      clear hfz
      go_wp2
      have t1 : ((k : Int) - 1).toNat = k - 1 := by omega
      have k0 : (0 : Int) ≤ (k : Int) - 1 := by omega
      have k1 : (k : Int) < (n1 : Int) := by omega
      have k2 : (k : Int) - 1 < (n2 : Int) := by rw [l3.out]; omega
      have k3 : (k : Int) - 1 < (n3 : Int) := by rw [l4.out]; omega
      have HK : Hid (contB m a b (k + 1) = (ix m k * contB m a b k - ix a (k - 1) * ix b (k - 1) % 9973 * contB m a b (k - 1)) % 9973) := by
        obtain ⟨j, rfl⟩ : ∃ j, k = j + 1 := ⟨k - 1, by omega⟩
        rfl
      generalize hy2 : contB m a b (k + 1) = y2 at *
      generalize hy1 : contB m a b k = y1 at *
      have HY2 := Lib.hid hy2
      have HY1 := Lib.hid hy1
      clear hy2 hy1
      generalize contB m a b (k - 1) = y0 at *
      generalize ix m k = xm at *
      generalize ix a (k - 1) = xa at *
      generalize ix b (k - 1) = xb at *
      have w1 : IntKind.i64.wrap ((k : Int) - 1) = (k : Int) - 1 := Go.IntWalk.i64_in _ (by omega)
      have w2 : IntKind.i64.wrap (xm * y1) = xm * y1 := Go.IntWalk.i64_in _ (by omega)
      have w3 : IntKind.i64.wrap (xa * xb) = xa * xb := Go.IntWalk.i64_in _ (by omega)
      have w4 : (xa * xb).tmod 9973 = xa * xb % 9973 := Int.tmod_eq_emod_of_nonneg (by omega)
      have w5 : IntKind.i64.wrap (xa * xb % 9973) = xa * xb % 9973 := Go.IntWalk.i64_in _ (by omega)
      have w6 : IntKind.i64.wrap (xa * xb % 9973 * y0) = xa * xb % 9973 * y0 := Go.IntWalk.i64_in _ (by omega)
      have w7 : IntKind.i64.wrap (xm * y1 - xa * xb % 9973 * y0) = xm * y1 - xa * xb % 9973 * y0 := Go.IntWalk.i64_in _ (by omega)
      clear p1 p2 p3 x0 x1 x2 x3 x4
      go_quiet ((go_at_call 76; exact quietW (Field_any _ _)))
      clear w1 w2 w3 w4 w5 w6 w7 t1
      go_wp2
      go_roundw
      case rel =>
        refine ⟨k + 1, by omega, by omega, by go_num, ?_, ?_, ?_, ((below_drewN hbr _).setCell (Nat.le_refl _) _).setCell (Nat.le_refl _) _⟩
        · rw [Nat.add_sub_cancel]
          rw [World.cell?_setCell_other _ _ _ _ (by simp)]
          rw [HY1.out]
          exact World.cell?_setCell_same (wr.drewN nq) _ _ hx
        · rw [HY2.out, HK.out]
          exact World.cell?_setCell_same _ _ _ (by rw [World.cell?_setCell_other _ _ _ _ (by simp)]; exact hy)
        · intro j
          simp [HFZ.out j]
      case measure => simp [intOf]; omega
    · obtain rfl : k = n1 := by omega
      go_wp2
      go_ret2
      exact ⟨rfl, hbr⟩

end
/-- The matrix of a band, its first k rows and columns laid. -/
def fullN (m a b : List Int) (n : Nat) : Nat → List (List Int)
  | 0 => List.replicate n (List.replicate n 0)
  | k + 1 => if k = 0 then setE (fullN m a b n k) k k (ix m k) else setE (setE (setE (fullN m a b n k) k k (ix m k)) (k - 1) k (ix a (k - 1))) k (k - 1) (ix b (k - 1))

theorem fullN_len (m a b : List Int) (n k : Nat) : (fullN m a b n k).length = n ∧ ∀ i, i < n → (rowOf (fullN m a b n k) i).length = n := by
  induction k with
  | zero => exact ⟨by simp [fullN], fun i hi => by simp [fullN, rowOf, List.getD, hi]⟩
  | succ k ih =>
    rw [fullN]
    split <;> exact ⟨by simp only [setE_len]; exact ih.1, fun i hi => by simp only [setE_row_len]; exact ih.2 i hi⟩

section
variable {p q r : Option Addr} {n1 c1 n2 c2 n3 c3 : Nat} {m a b : List Int} {w : World}
set_option maxHeartbeats 4000000 in
set_option maxRecDepth 100000 in
theorem band_Full_ok (hm : RdI w p n1 c1 m) (ha : RdI w q n2 c2 a) (hb : RdI w r n3 c3 b) (h : checkB m a b = none) (h5 : n1 ≤ 5) :
    Calls Tryd.prog 23 #[.slice p n1 c1, .slice q n2 c2, .slice r n3 c3] w fun e w' => ∃ z cz, e = .returned (.tuple #[.slice z n1 cz, .nilIface]) ∧ OwM w' w.heap.size 22 3 z n1 cz (fullN m a b n1 n1) ∧ Below w.heap.size w w' := by
  obtain ⟨g1, g2, g3, g4, g5, g6, g7⟩ := checkB_none h
  have A1 := Lib.hid (band_Check_is hm ha hb h)
  have e1 := hm.len_eq
  have e2 := ha.len_eq
  have e3 := hb.len_eq
  have l1 : 1 ≤ n1 := by omega
  have l3 := Lib.hid (show n2 = n1 - 1 from by omega)
  have l4 := Lib.hid (show n3 = n1 - 1 from by omega)
  have HM := Lib.hid matTy
  clear h g1 g2 g3 g4 g5 g6 g7 e1 e2 e3
  go_enter Tryd.func23, Tryd.ntmps23
  go_wp2_with (first | (go_at_call 15; refine A1.out.mono ?_; rintro e w' ⟨rfl, rfl⟩; simp only [errV]) | (go_at_call 78; refine (Grid_any _ _ _ (by omega) (by omega)).mono ?_; rintro e w1 ⟨z, cz, rfl, ho1, hb1⟩))
  obtain ⟨g, D, C, hz, hd1⟩ := ho1.named (by omega) fun i hi => by simp [rowOf, List.getD, hi]; omega
  subst hz
  go_loopw [29] (fun i wr => ∃ k : Nat, k ≤ n1 ∧ i = .int .i64 k ∧ OwMD wr w.heap.size 22 3 g D C n1 cz (fullN m a b n1 k) ∧ Below w.heap.size w wr) (fun i _ => n1 - (intOf i).toNat)
  case atStart => exact ⟨0, Nat.zero_le _, rfl, hd1, hb1⟩
  case round =>
    obtain ⟨k, hk, rfl, ho, hbr⟩ := hrel
    by_cases hlt : k < n1
    · obtain ⟨fl1, fl2⟩ := fullN_len m a b n1 k
      have FL := Lib.hid fl2
      have hcg := ho.cellO hlt
      have hcd := ho.cellI hlt (j := k) (by rw [fl2 k hlt]; exact hlt)
      have hfd := ho.frozenI hlt (by rw [fl2 k hlt]; omega) k
      have hd2 := (ho.lowI hlt).1
      rw [fl2 k hlt] at hcg
      obtain ⟨b1, o1, rfl, hl1, hcm⟩ := hm.at hlt
      have hcm1 := hbr.keep hl1 (hcm k hlt)
      have k1 : (k : Int) < (n1 : Int) := by omega
      clear fl1 fl2 hcm
      go_wp2
      go_still_tail 10, (by kernel_rfl)
      change wpList _ _ _ _ _ wr.drew
      by_cases h0 : k = 0
      · subst h0
        go_wp2
        go_roundw
        case rel => exact ⟨0 + 1, by omega, by go_num, by rw [fullN, if_pos rfl]; exact (ho.set HM.out.ne hlt _).drew, (hbr.setCell hd2 _).drew⟩
        case measure => simp [intOf]; omega
      · have k0 : (0 : Int) < (k : Int) := by omega
        have KN := Lib.hid h0
        clear h0
        go_wp2
        have hM2 := (ho.set HM.out.ne (j := k) hlt (ix m k)).drew
        have hb2 := (hbr.setCell (p := ⟨D k, k, none⟩) hd2 (.int .i64 (ix m k))).drew
        clear hcg hcd hfd hcm1
        generalize (wr.setCell ⟨D k, k, none⟩ (.int .i64 (ix m k))).drew = w2 at *
        have rl : ∀ i, i < n1 → (rowOf (setE (fullN m a b n1 k) k k (ix m k)) i).length = n1 := fun i hi => by rw [setE_row_len]; exact FL.out i hi
        have k4 : k - 1 < n1 := by omega
        have e1 := hM2.cellO k4
        have e2 := hM2.cellO hlt
        rw [rl _ k4] at e1
        rw [rl _ hlt] at e2
        have e3 := hM2.cellI k4 (j := k) (by rw [rl _ k4]; exact hlt)
        have e4 := hM2.cellI hlt (j := k - 1) (by rw [rl _ hlt]; exact k4)
        have e5 := hM2.frozenI k4 (by rw [rl _ k4]; omega) k
        have e6 := hM2.frozenI hlt (by rw [rl _ hlt]; omega) (k - 1)
        obtain ⟨b2, o2, rfl, hl2, hca⟩ := ha.at (k := k - 1) (by rw [l3.out]; omega)
        obtain ⟨b3, o3, rfl, hl3, hcb⟩ := hb.at (k := k - 1) (by rw [l4.out]; omega)
        have hca1 := hb2.keep hl2 (hca (k - 1) (by rw [l3.out]; omega))
        have hcb1 := hb2.keep hl3 (hcb (k - 1) (by rw [l4.out]; omega))
        have RL := Lib.hid rl
        have hne1 : ¬ D (k - 1) = D k := hM2.inj _ _ k4 hlt (by have := KN.out; omega)
        have hne2 : ¬ D k = D (k - 1) := fun e => hne1 e.symm
        have t1 : ((k : Int) - 1).toNat = k - 1 := by omega
        have q1 : (0 : Int) ≤ (k : Int) - 1 := by omega
        have q2 : (k : Int) - 1 < (n1 : Int) := by omega
        have q3 : (k : Int) - 1 < (n2 : Int) := by rw [l3.out]; omega
        have q4 : (k : Int) - 1 < (n3 : Int) := by rw [l4.out]; omega
        have w1 : IntKind.i64.wrap ((k : Int) - 1) = (k : Int) - 1 := Go.IntWalk.i64_in _ (by omega)
        clear hca hcb rl
        have e7 : (w2.setCell ⟨D (k - 1), k, none⟩ (.int .i64 (ix a (k - 1)))).cell? ⟨D k, k - 1, none⟩ = some (.int .i64 (en (setE (fullN m a b n1 k) k k (ix m k)) k (k - 1))) := by rw [World.cell?_setCell_other _ _ _ _ (by simp)]; exact e4
        have e8 : (w2.setCell ⟨D k, k - 1, none⟩ (.int .i64 (ix b (k - 1)))).cell? ⟨D (k - 1), k, none⟩ = some (.int .i64 (en (setE (fullN m a b n1 k) k k (ix m k)) (k - 1) k)) := by rw [World.cell?_setCell_other _ _ _ _ (by simp)]; exact e3
        go_region
        clear w1 t1 e1 e2 e3 e4 e5 e6 e7 e8 hca1 hcb1 hne1 hne2
        go_wp2
        go_roundw
        case rel => exact ⟨k + 1, by omega, by go_num, by rw [fullN, if_neg KN.out]; exact ((hM2.set HM.out.ne k4 _).set HM.out.ne hlt _).drew, ((hb2.setCell (hM2.lowI k4).1 _).setCell (hM2.lowI hlt).1 _).drew⟩
        case measure => simp [intOf]; omega
    · obtain rfl : k = n1 := by omega
      go_wp2
      go_ret2
      exact ⟨_, cz, rfl, ho.toM, hbr⟩
end
end Go.Proofs.YtefmllkimdaimaaDoor
