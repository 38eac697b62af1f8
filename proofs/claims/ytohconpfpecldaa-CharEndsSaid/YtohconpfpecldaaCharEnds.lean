/-
  CharEnds walked: its first factor is the determinant, the last but one the middle; turned, a matrix has the same.
-/
import Derived.Test.YtohconpfpecldaaRows
import Derived.Test.YtohconpfpecldaaLib
import Derived.Test.YtohconpfpecldaaRef
import Derived.Test.YtohconpfpecldaaCharFact
import Derived.Test.YtohconpfpecldaaDetMul
namespace Go.Proofs.Ytohconpfpecldaa
open Go.RowKit Go.Rk

set_option maxHeartbeats 8000000 in
set_option maxRecDepth 100000 in
theorem charEnds_walk {a : Option Addr} {n ca : Nat} {A : List (List Int)} {w : World} (hA : RdM w a n ca A) (_ : ∀ r ∈ A, Fit r) :
    Calls Try.prog 8 #[.slice a n ca] w fun e w' => e = .returned (.bool true) ∧ Below w.heap.size w w' := by
  go_enter Try.func8, Try.ntmps8
  go_wp2_with (first | (go_at_call 23; refine (charFact_any _).mono ?_; rintro e w1 ⟨rfl, k1⟩) | (go_at_call 24; fail))
  rcases hq : squareR 5 0 9972 A with _ | x
  · obtain ⟨g1, g2⟩ := squareR_grounds hq
    have GA0 := Good.of hA.len_eq g1
    rw [g2, hA.len_eq] at GA0
    have GA := Lib.hid GA0
    have n1 := GA0.n1
    have HQ := Lib.hid hq
    clear GA0 g1 g2 hq
    obtain ⟨eF, bF, F⟩ := FL.ex (n := n) n1.1 (mx A)
    have HF := Lib.hid F
    clear F
    have C := Lib.hid (char_Of_ok (hA.below k1) GA.out HF.out)
    (with_reducible refine C.out.mono ?_)
    clear C
    rintro e w2 ⟨aL, cL, l, rfl, ho, hl, hb⟩
    have k2 := below_tr k1 hb
    have hL := ho.rd
    have HL := Lib.hid hl
    have hlen := ho.len_eq
    clear hb k1 ho hl
    have z0 : ((n : Int) + 1 != (n : Int) + 1) = false := bne_eq_false_iff_eq.2 rfl
    obtain ⟨d, hd⟩ := hid_ex (det n (mx A) % 9973)
    obtain ⟨t, ht⟩ := hid_ex (midS A n % 9973)
    have bd : 0 ≤ d ∧ d ≤ 9972 := by rw [hd.out]; omega
    have bt : 0 ≤ t ∧ t ≤ 9972 := by rw [ht.out]; omega
    have C := Lib.hid (det_Of_ok (hA.below k2) HQ.out)
    rw [← hd.out] at C
    go_wp2_with (first | (go_at_call 27; fail))
    (with_reducible refine C.out.mono ?_)
    clear C
    rintro e w3 ⟨rfl, hb⟩
    have k3 := below_tr k2 hb
    have hL := hL.below hb
    clear hb k2
    have C := Lib.hid (Trace_any (hA.below k3) GA.out)
    rw [← ht.out] at C
    go_wp2_with (first | (go_at_call 28; fail))
    (with_reducible refine C.out.mono ?_)
    clear C
    rintro e w4 ⟨rfl, rfl⟩
    have C := Lib.hid (Turn_ok (hA.below k3) GA.out.gr GA.out.dm n1 n1)
    go_wp2_with (first | (go_at_call 29; fail))
    (with_reducible refine C.out.mono ?_)
    clear C
    rintro e w5 ⟨a5, c5, T, rfl, ho, hi, hb⟩
    have k5 := below_tr k3 hb
    have GT := Lib.hid (GA.out.tr hi)
    have HT := Lib.hid hi
    have hT := ho.rd
    have hL := hL.below hb
    clear hb k3 ho hi
    obtain ⟨eG, bG, F⟩ := FL.ex (n := n) n1.1 (mx T)
    have HG := Lib.hid F
    clear F
    have C := Lib.hid (char_Of_ok hT GT.out.1 HG.out)
    go_wp2_with (first | (go_at_call 24; fail))
    (with_reducible refine C.out.mono ?_)
    clear C
    rintro e w6 ⟨aK, cK, kl, rfl, ho, hk, hb⟩
    have k6 := below_tr k5 hb
    have hK := ho.rd
    have hL := hL.below hb
    have hsame : Hid (kl = l) := by
      refine ix_ext (by rw [ho.len_eq, hlen]) fun j hj => ?_
      rw [ho.len_eq] at hj
      rw [hk j (by omega), HL.out j (by omega), HF.out.turned HG.out (fun i j hi hj => HT.out.2 i j hi hj) j (by omega)]
    clear hb k5 ho hk hT
    have e1 : ix l (n - 1) = -t % 9973 := by
      rw [HL.out (n - 1) (by omega), HF.out.end1 n1.1, ht.out]
      show -midS A n % 9973 = _
      omega
    have e0 : ix l 0 = sg n * det n (mx A) % 9973 := by rw [HL.out 0 (by omega), HF.out.end0]
    obtain ⟨bl, ol, rfl, l3, c3⟩ := hL.at (k := 0) (by omega)
    have y0 := c3 0 (by omega)
    have y1 := c3 (n - 1) (by omega)
    rw [Nat.add_zero, e0] at y0
    rw [e1] at y1
    have CI : ∀ q, Calls Try.prog 30 #[.slice aK (n + 1) cK, .slice (some ⟨bl, ol, none⟩) (n + 1) cL] (w6.drewN q) fun e w' => e = .returned (.bool (decide (kl = l))) ∧ ∃ m, w' = (w6.drewN q).drewN m := fun q => Ints_q (hK.drewN q) (hL.drewN q)
    rw [decide_eq_true hsame.out] at CI
    have HCI := Lib.hid CI
    have u1 : IntKind.i64.wrap ((n : Int) - 1) = (n : Int) - 1 := Go.IntWalk.i64_in _ (by omega)
    have u2 : IntKind.i64.wrap (-t) = -t := Go.IntWalk.i64_in _ (by omega)
    have t1 : ((n : Int) - 1).toNat = n - 1 := by omega
    have b1 : (n : Int) - 1 < ((n + 1 : Nat) : Int) := by omega
    have b2 : (0 : Int) ≤ (n : Int) - 1 := by omega
    have b3 : (1 : Int) ≤ (n : Int) := by omega
    have z1 : (-t % 9973 != -t % 9973) = false := bne_eq_false_iff_eq.2 rfl
    have hm1 : Hid (∀ w : World, Calls Try.prog 18 #[.int .i64 (-t)] w fun e w' => e = .returned (.int .i64 (-t % 9973)) ∧ w = w') := fun w => R_Mod_any _ w (by omega) (by omega)
    have hz : Hid (sg n * det n (mx A) % 9973 = (if n % 2 = 1 then -d else d) % 9973) := by
      unfold Hid sg
      rw [hd.out]
      split
      · rw [if_neg (by omega)]; omega
      · rw [if_pos (by omega)]; omega
    clear hK CI e0 e1 hL c3
    go_wp2
    go_quiet ((first | (go_at_call 30; exact Calls.quiet_of (HCI.out _)) | (go_at_call 18; exact quietW (hm1.out _))))
    have k7 := below_drewN k6 nq
    have y0 := (below_drewN (Below.refl w6.heap.size w6) nq).keep (World.block_lt_of_cell? _ _ y0) y0
    generalize w6.drewN nq = w7 at *
    clear u1 u2 z1 hm1 HCI y1 t1 b1
    by_cases hp : n % 2 = 1
    · have hp' : ((n : Int) % 2 == 1) = true := beq_iff_eq.2 (by omega)
      rw [if_pos hp] at hz
      have HP := Lib.hid hp
      clear hp
      rw [hz.out] at y0
      have u3 : IntKind.i64.wrap (-d) = -d := Go.IntWalk.i64_in _ (by omega)
      have hm2 : Hid (∀ w : World, Calls Try.prog 18 #[.int .i64 (-d)] w fun e w' => e = .returned (.int .i64 (-d % 9973)) ∧ w = w') := fun w => R_Mod_any _ w (by omega) (by omega)
      have z2 : (-d % 9973 == -d % 9973) = true := beq_iff_eq.2 rfl
      have b9 : (0 : Int) < ((n + 1 : Nat) : Int) := by omega
      go_wp2
      go_quiet ((first | (go_at_call 18; exact quietW (hm2.out _))))
      go_wp2
      go_ret
      exact ⟨rfl, below_drewN k7 _⟩
    · have hp' : ((n : Int) % 2 == 1) = false := beq_eq_false_iff_ne.2 (by omega)
      rw [if_neg hp] at hz
      have HP := Lib.hid hp
      clear hp
      rw [hz.out] at y0
      have hm2 : Hid (∀ w : World, Calls Try.prog 18 #[.int .i64 d] w fun e w' => e = .returned (.int .i64 (d % 9973)) ∧ w = w') := fun w => R_Mod_any _ w (by omega) (by omega)
      have z2 : (d % 9973 == d % 9973) = true := beq_iff_eq.2 rfl
      have b9 : (0 : Int) < ((n + 1 : Nat) : Int) := by omega
      go_wp2
      go_quiet ((first | (go_at_call 18; exact quietW (hm2.out _))))
      go_wp2
      go_ret
      exact ⟨rfl, below_drewN k7 _⟩
  · have C := Lib.hid (char_Of_err (hA.below k1) hq)
    clear hq
    (with_reducible refine C.out.mono ?_)
    rintro e w2 ⟨rfl, rfl⟩
    go_wp2
    go_ret
    exact ⟨rfl, k1⟩
end Go.Proofs.Ytohconpfpecldaa
