/-
  DetSum walked: a row that is a sum makes a sum of determinants.
-/
import Derived.Test.YtdgpeliinnmflaaRows
import Derived.Test.YtdgpeliinnmflaaLib
import Derived.Test.YtdgpeliinnmflaaRef
import Derived.Test.YtdgpeliinnmflaaDetOf
import Derived.Test.YtdgpeliinnmflaaDetLaw
import Derived.Test.YtdgpeliinnmflaaDetFact
import Derived.StillTailTactics
namespace Go.Proofs.Ytdgpeliinnmflaa
open Go.RowKit Go.Rk

set_option maxHeartbeats 4000000 in
set_option maxRecDepth 100000 in
theorem detSum_walk {a0 a2 : Option Addr} {n cap len2 cap2 : Nat} {M : List (List Int)} {i : Int} {l : List Int} {w : World} (hM : RdM w a0 n cap M) (_ : ∀ r ∈ M, Fit r) (_ : (Lit.int .i64 i).wf = true) (hl : RdI w a2 len2 cap2 l) (_ : Fit l) :
    Calls Try.prog 7 #[.slice a0 n cap, .int .i64 i, .slice a2 len2 cap2] w fun e w' => e = .returned (.bool true) ∧ Below w.heap.size w w' := by
  rcases hq : squareR 5 0 9972 M with _ | c
  · obtain ⟨g1, g2, g3, g4⟩ := squareR_none hq
    have e1 := hM.len_eq
    rw [e1] at g1 g2 g3 g4
    have E1 := Lib.hid e1
    have E2 := Lib.hid hl.len_eq
    have HQ := Lib.hid hq
    have m2 := hl.len_max
    clear hq e1
    rcases hi : inB i 0 ((n : Int) - 1)
    · have HI := Lib.hid hi
      clear hi
      go_enter Try.func7, Try.ntmps7
      go_wp2_with (first | (go_at_call 23; refine (detFact_any _).mono ?_; rintro e w1 ⟨rfl, hb1⟩) | (go_at_call 24; refine (det_Of_ok (hM.below hb1) HQ.out).mono ?_; rintro e w2 ⟨rfl, hb2⟩) | (go_at_call 16; refine (L2_in_any _ _ _ _).mono ?_; rintro e w' ⟨rfl, rfl⟩; rw [HI.out]))
      go_ret
      exact ⟨rfl, hb1.trans (hb2.mono hb1.size)⟩
    · have hi2 : 0 ≤ i ∧ i ≤ (n : Int) - 1 := by unfold inB at hi; simp at hi; omega
      obtain ⟨k, rfl⟩ := Int.eq_ofNat_of_zero_le hi2.1
      have hk : k < n := by omega
      have HI := Lib.hid hi
      clear hi hi2
      by_cases hlen : len2 = n
      · have z : ((len2 : Int) != (n : Int)) = false := bne_eq_false_iff_eq.2 (by omega)
        have HL := Lib.hid hlen
        clear hlen
        rcases hall : allB 0 9972 l
        · have HA := Lib.hid hall
          clear hall
          go_enter Try.func7, Try.ntmps7
          go_wp2_with (first | (go_at_call 23; refine (detFact_any _).mono ?_; rintro e w1 ⟨rfl, hb1⟩) | (go_at_call 24; refine (det_Of_ok (hM.below hb1) HQ.out).mono ?_; rintro e w2 ⟨rfl, hb2⟩) | (go_at_call 16; refine (L2_in_any _ _ _ _).mono ?_; rintro e w' ⟨rfl, rfl⟩; rw [HI.out]) | (go_at_call 27; refine (R_All_any 0 9972 ((hl.below hb1).below hb2)).mono ?_; rintro e w' ⟨rfl, rfl⟩; rw [HA.out]))
          go_ret
          exact ⟨rfl, hb1.trans (hb2.mono hb1.size)⟩
        · have HA := Lib.hid hall
          have lin := allB_in hall
          have hS : Dim n (M.set k l) := Dim.set g3 (by rw [E2.out]; exact HL.out)
          have HQa : Hid (squareR 5 0 9972 (M.set k l) = none) := squareR_of g1 g2 hS (Ent.setL g3 g4 hk (by rw [E2.out]; exact HL.out) lin)
          clear hall
          go_enter Try.func7, Try.ntmps7
          go_wp2_with (first | (go_at_call 23; refine (detFact_any _).mono ?_; rintro e w1 ⟨rfl, hb1⟩))
          have C2 := Lib.hid (det_Of_ok (hM.below hb1) HQ.out)
          go_wp2_with (first | (go_at_call 24; (with_reducible refine C2.out.mono ?_); clear C2; rintro e w2 ⟨rfl, hb2⟩; have k2 := hb1.trans (hb2.mono hb1.size)) | (go_at_call 16; refine (L2_in_any _ _ _ _).mono ?_; rintro e w' ⟨rfl, rfl⟩; rw [HI.out]) | (go_at_call 27; refine (R_All_any 0 9972 (hl.below k2)).mono ?_; rintro e w' ⟨rfl, rfl⟩; rw [HA.out]) | (go_at_call 25; fail))
          have hlen5 : ∀ k, k < n → (rowOf M k).length ≤ 1000 := fun j hj => by rw [g3.2 j hj]; omega
          have HL5 := Lib.hid hlen5
          have G3 := Lib.hid g3
          have G4 := Lib.hid g4
          clear hlen5 g3
          refine (R_Copy_any (hM.below k2) (by omega) HL5.out).mono ?_
          rintro e w3 ⟨pa, ca, rfl, ho3, hb3⟩
          have k3 := k2.trans (hb3.mono k2.size)
          obtain ⟨g, rfl, hg1, hg2, hfz, hrow⟩ := ho3.at hk
          obtain ⟨ar, cr, hc3, _⟩ := hrow k hk
          have hf3 := hfz k
          have hA3 := ho3.rd.setRow hk (hl.below k3)
          have kk : (k : Int) < (n : Int) := by omega
          have k4 := k3.setCell (p := ⟨g, k, none⟩) (Nat.le_trans k2.size hg1) (.slice a2 len2 cap2)
          clear hrow hfz
          go_wp2_with (go_at_call 25; fail)
          clear hc3 hf3 ho3 hg1 hg2
          generalize w3.setCell ⟨g, k, none⟩ (.slice a2 len2 cap2) = w4 at *
          refine (R_Copy_any (hM.below k4) (by omega) HL5.out).mono ?_
          rintro e w5 ⟨pb, cb, rfl, ho5, hb5⟩
          have k5 := k4.trans (hb5.mono k4.size)
          have hA5 := hA3.below hb5
          obtain ⟨g', D, C, hz, hd5⟩ := ho5.named (by omega) fun j hj => by rw [G3.out.2 j hj]; omega
          subst hz
          have hs4 := k4.size
          go_wp2
          go_loopw [12] (fun v wr => ∃ (s : Nat) (B : List (List Int)), s ≤ n ∧ v = .int .i64 s ∧ OwMD wr w4.heap.size 38 3 g' D C n cb B ∧ Hid (Is n B (fun r c => if r = k ∧ c < s then (en M k c + ix l c) % 9973 else en M r c)) ∧ Below w5.heap.size w5 w5 ∧ Below w4.heap.size w4 wr) (fun v _ => n - (intOf v).toNat)
          case atStart => exact ⟨0, M, Nat.zero_le _, rfl, hd5, ⟨G3.out, fun r c _ _ => by simp⟩, Below.refl _ _, hb5⟩
          case round =>
            obtain ⟨s, B, hs, rfl, hdB, hIs, _, hbr⟩ := hrel
            have k6 := k4.trans (hbr.mono hs4)
            by_cases hlt : s < n
            · obtain ⟨bm, om, rfl, hbm, hrm⟩ := hM.at hk
              obtain ⟨arm, crm, hcm, hrdm⟩ := hrm k hk
              have y1 := k6.keep hbm hcm
              rw [G3.out.2 k hk] at y1
              obtain ⟨bq, oq, rfl, hbq, hcq⟩ := (hrdm.below k6).at (k := s) (by rw [G3.out.2 k hk]; exact hlt)
              have y2 := hcq s (by rw [G3.out.2 k hk]; exact hlt)
              obtain ⟨bl, ol, rfl, hbl, hcl⟩ := (hl.below k6).at (k := s) (by rw [HL.out]; exact hlt)
              have y3 := hcl s (by rw [HL.out]; exact hlt)
              have y4 := hdB.cellO hk
              have y5 := hdB.cellI hk (j := s) (by rw [hIs.out.1.2 k hk]; exact hlt)
              have y6 := hdB.frozenI hk (by rw [hIs.out.1.2 k hk]; omega) s
              rw [hIs.out.1.2 k hk] at y4
              have b1 := G4.out k s hk hlt
              have b2 := lin s (by rw [E2.out, HL.out]; exact hlt)
              have hset := (hdB.set matTy.ne (j := s) hk ((en M k s + ix l s) % 9973)).drew
              have hset2 : Hid (Is n (setE B k s ((en M k s + ix l s) % 9973)) (fun r c => if r = k ∧ c < s + 1 then (en M k c + ix l c) % 9973 else en M r c)) := by
                refine Is.congr (hIs.out.set _) fun r c hr hc => ?_
                by_cases e4 : k = r ∧ s = c
                · obtain ⟨rfl, rfl⟩ := e4
                  simp
                · rw [if_neg e4]
                  by_cases e5 : r = k ∧ c < s
                  · rw [if_pos e5, if_pos (by omega)]
                  · rw [if_neg e5, if_neg (by omega)]
              have hlow := (hdB.lowI hk).1
              have c1 : (s : Int) < (n : Int) := by omega
              have c2 : (s : Int) < (len2 : Int) := by rw [HL.out]; omega
              change World.cell? _ _ = some (.int .i64 (en M k s)) at y2
              have u1 : IntKind.i64.wrap (en M k s + ix l s) = en M k s + ix l s := Go.IntWalk.i64_in _ (by omega)
              clear hcm hrm hcq hcl hA5 hA3
              go_wp2
              go_still_tail 19, (by kernel_rfl)
              still_call (stillW (R_Mod_any _ _ (by omega) (by omega)))
              repeat still_step
              refine wpStill_nil ?_
              change wpList _ _ _ _ _ wr.drew
              clear u1
              go_wp2
              go_roundw
              case rel => exact ⟨s + 1, _, by omega, by go_num, hset, hset2, Below.refl _ _, (hbr.setCell hlow _).drew⟩
              case measure => simp [intOf]; omega
            · obtain rfl : s = n := by omega
              have hIs2 : Is s B (fun r c => if r = k then (en M k c + ix l c) % 9973 else en M r c) := by
                refine hIs.out.congr fun r c _ hc => ?_
                by_cases e5 : r = k
                · rw [if_pos ⟨e5, hc⟩, if_pos e5]
                · rw [if_neg fun e => e5 e.1, if_neg e5]
              have HQb : Hid (squareR 5 0 9972 B = none) := by
                refine squareR_of g1 g2 hIs2.1 fun r c hr hc => ?_
                rw [hIs2.2 r c hr hc]
                dsimp only
                split
                · omega
                · exact G4.out r c hr hc
              have ES := Lib.hid (det_row_sum G3.out hk l hIs2)
              have Ca := Lib.hid (det_Of_ok (hA3.below hbr) HQa.out)
              have hs6 := k6.size
              have hB6 := hdB.toM.rd
              clear hIs2 hA5 hA3
              go_wp2_with (go_at_call 24; (with_reducible refine Ca.out.mono ?_); clear Ca; rintro e w7 ⟨rfl, hb7⟩)
              have k7 := k6.trans (hb7.mono hs6)
              refine (det_Of_ok (hB6.below hb7) HQb.out).mono ?_
              rintro e w8 ⟨rfl, hb8⟩
              have k8 := k7.trans (hb8.mono k7.size)
              clear hb7 hb8 hB6 hdB
              have x1 : 0 ≤ det s (mx M) % 9973 ∧ det s (mx M) % 9973 ≤ 9972 := by omega
              have x2 : 0 ≤ det s (mx (M.set k l)) % 9973 ∧ det s (mx (M.set k l)) % 9973 ≤ 9972 := by omega
              have ESo := ES.out
              generalize det s (mx M) % 9973 = X at *
              generalize det s (mx (M.set k l)) % 9973 = Y at *
              generalize det s (mx B) % 9973 = Z at *
              have I1 : Hid (inB X 0 9972 = true) := by unfold Hid inB; simp; exact x1
              have I2 : Hid (inB Y 0 9972 = true) := by unfold Hid inB; simp; exact x2
              have EZ : Hid ((Z == (X + Y) % 9973) = true) := beq_iff_eq.2 ESo
              clear ESo ES
              go_wp2_with (first | (go_at_call 16; refine (L2_in_any _ _ _ _).mono ?_; rintro e w' ⟨rfl, rfl⟩; first | rw [I1.out] | rw [I2.out]) | (go_at_call 26; refine (R_Mod_any _ _ (by omega) (by omega)).mono ?_; rintro e w' ⟨rfl, rfl⟩))
              go_ret
              exact ⟨congrArg (fun b => Ending.returned (.bool b)) EZ.out, k8⟩
      · have z : ((len2 : Int) != (n : Int)) = true := bne_iff_ne.2 (by omega)
        clear hlen
        go_enter Try.func7, Try.ntmps7
        go_wp2_with (first | (go_at_call 23; refine (detFact_any _).mono ?_; rintro e w1 ⟨rfl, hb1⟩) | (go_at_call 24; refine (det_Of_ok (hM.below hb1) HQ.out).mono ?_; rintro e w2 ⟨rfl, hb2⟩) | (go_at_call 16; refine (L2_in_any _ _ _ _).mono ?_; rintro e w' ⟨rfl, rfl⟩; rw [HI.out]))
        go_ret
        exact ⟨rfl, hb1.trans (hb2.mono hb1.size)⟩
  · have HQ := Lib.hid hq
    clear hq
    go_enter Try.func7, Try.ntmps7
    go_wp2_with (first | (go_at_call 23; refine (detFact_any _).mono ?_; rintro e w1 ⟨rfl, hb1⟩) | (go_at_call 24; refine (det_Of_err (hM.below hb1) HQ.out).mono ?_; rintro e w2 ⟨rfl, rfl⟩))
    go_ret
    exact ⟨rfl, hb1⟩
end Go.Proofs.Ytdgpeliinnmflaa
