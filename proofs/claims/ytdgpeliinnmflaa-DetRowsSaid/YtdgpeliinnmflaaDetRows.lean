/-
  DetRows walked: two rows that change places turn the sign; so many times one row added to another one changes nothing; one row so many times is it so many times.
-/
import Derived.Test.YtdgpeliinnmflaaRows
import Derived.Test.YtdgpeliinnmflaaLib
import Derived.Test.YtdgpeliinnmflaaRef
import Derived.Test.YtdgpeliinnmflaaDetOf
import Derived.Test.YtdgpeliinnmflaaDetLaw
import Derived.Test.YtdgpeliinnmflaaDetFact
import Derived.StillTailTactics
namespace Go.Proofs.Ytdgpeliinnmflaa
open Go.RowKit Go.Rk

set_option maxHeartbeats 2000000 in
set_option maxRecDepth 100000 in
/-- Where an index, or the factor, is none that may be. -/
theorem detRows_out {a0 : Option Addr} {n cap : Nat} {M : List (List Int)} {i j k : Int} {w : World} (hM : RdM w a0 n cap M) (hq : squareR 5 0 9972 M = none)
    (h : inB i 0 ((n : Int) - 1) = false ∨ inB j 0 ((n : Int) - 1) = false ∨ i = j ∨ inB k 0 9972 = false) (_ : (Lit.int .i64 i).wf = true) (wj : (Lit.int .i64 j).wf = true) :
    Calls Try.prog 6 #[.slice a0 n cap, .int .i64 i, .int .i64 j, .int .i64 k] w fun e w' => e = .returned (.bool true) ∧ Below w.heap.size w w' := by
  have hmx := hM.len_max
  have IX : Hid (inB (det n (mx M) % 9973) 0 9972 = true) := by unfold Hid inB; simp; omega
  rcases h1 : inB i 0 ((n : Int) - 1)
  · have H1 := Lib.hid h1
    clear h1 h
    go_enter Try.func6, Try.ntmps6
    go_wp2_with (first | (go_at_call 23; refine (detFact_any _).mono ?_; rintro e w1 ⟨rfl, hb1⟩) | (go_at_call 24; refine (det_Of_ok (hM.below hb1) hq).mono ?_; rintro e w2 ⟨rfl, hb2⟩) | (go_at_call 16; refine (L2_in_any _ _ _ _).mono ?_; rintro e w' ⟨rfl, rfl⟩; first | rw [H1.out] | rw [IX.out]))
    go_ret
    exact ⟨rfl, hb1.trans (hb2.mono hb1.size)⟩
  rcases h2 : inB j 0 ((n : Int) - 1)
  · have H1 := Lib.hid h1
    have H2 := Lib.hid h2
    clear h1 h2 h
    go_enter Try.func6, Try.ntmps6
    go_wp2_with (first | (go_at_call 23; refine (detFact_any _).mono ?_; rintro e w1 ⟨rfl, hb1⟩) | (go_at_call 24; refine (det_Of_ok (hM.below hb1) hq).mono ?_; rintro e w2 ⟨rfl, hb2⟩) | (go_at_call 16; refine (L2_in_any _ _ _ _).mono ?_; rintro e w' ⟨rfl, rfl⟩; first | rw [H1.out] | rw [H2.out] | rw [IX.out]))
    go_ret
    exact ⟨rfl, hb1.trans (hb2.mono hb1.size)⟩
  by_cases h3 : i = j
  · subst h3
    have H1 := Lib.hid h1
    clear h1 h2 h
    go_enter Try.func6, Try.ntmps6
    go_wp2_with (first | (go_at_call 23; refine (detFact_any _).mono ?_; rintro e w1 ⟨rfl, hb1⟩) | (go_at_call 24; refine (det_Of_ok (hM.below hb1) hq).mono ?_; rintro e w2 ⟨rfl, hb2⟩) | (go_at_call 16; refine (L2_in_any _ _ _ _).mono ?_; rintro e w' ⟨rfl, rfl⟩; first | rw [H1.out] | rw [IX.out]))
    go_ret
    exact ⟨rfl, hb1.trans (hb2.mono hb1.size)⟩
  have h4 : inB k 0 9972 = false := by
    rcases h with h | h | h | h
    · rw [h1] at h; cases h
    · rw [h2] at h; cases h
    · exact absurd h h3
    · exact h
  have z : (i == j) = false := beq_eq_false_iff_ne.2 h3
  have H1 := Lib.hid h1
  have H2 := Lib.hid h2
  have H4 := Lib.hid h4
  clear h1 h2 h3 h4 h
  go_enter Try.func6, Try.ntmps6
  go_wp2_with (first | (go_at_call 23; refine (detFact_any _).mono ?_; rintro e w1 ⟨rfl, hb1⟩) | (go_at_call 24; refine (det_Of_ok (hM.below hb1) hq).mono ?_; rintro e w2 ⟨rfl, hb2⟩) | (go_at_call 16; refine (L2_in_any _ _ _ _).mono ?_; rintro e w' ⟨rfl, rfl⟩; first | rw [H1.out] | rw [H2.out] | rw [H4.out] | rw [IX.out]))
  go_ret
  exact ⟨rfl, hb1.trans (hb2.mono hb1.size)⟩

set_option maxHeartbeats 4000000 in
set_option maxRecDepth 100000 in
theorem detRows_in {a0 : Option Addr} {n cap : Nat} {M : List (List Int)} {i j k : Nat} {w : World} (hM : RdM w a0 n cap M) (hq : squareR 5 0 9972 M = none) (hi : i < n) (hj : j < n) (hij : i ≠ j) (hk : k ≤ 9972) :
    Calls Try.prog 6 #[.slice a0 n cap, .int .i64 i, .int .i64 j, .int .i64 k] w fun e w' => e = .returned (.bool true) ∧ Below w.heap.size w w' := by
  have IX : Hid (inB (det n (mx M) % 9973) 0 9972 = true) := by unfold Hid inB; simp; omega
  have I1 : Hid (inB (i : Int) 0 ((n : Int) - 1) = true) := by unfold Hid inB; simp; omega
  have I2 : Hid (inB (j : Int) 0 ((n : Int) - 1) = true) := by unfold Hid inB; simp; omega
  have I3 : Hid (inB (k : Int) 0 9972 = true) := by unfold Hid inB; simp; omega
  have z : ((i : Int) == (j : Int)) = false := beq_eq_false_iff_ne.2 (by omega)
  obtain ⟨g1, g2, g3, g4⟩ := squareR_none hq
  have e1 := hM.len_eq
  rw [e1] at g1 g2 g3 g4
  have HQ := Lib.hid hq
  have HIJ := Lib.hid hij
  have hlen5 : ∀ r, r < n → (rowOf M r).length ≤ 1000 := fun r hr => by rw [g3.2 r hr]; omega
  have HL5 := Lib.hid hlen5
  have G3 := Lib.hid g3
  have G4 := Lib.hid g4
  have i1 : (i : Int) < (n : Int) := by omega
  have j1 : (j : Int) < (n : Int) := by omega
  have kb : (0 : Int) ≤ (k : Int) ∧ (k : Int) ≤ 9972 := by omega
  clear hq hij hlen5 g3 e1
  go_enter Try.func6, Try.ntmps6
  go_wp2_with (first | (go_at_call 23; refine (detFact_any _).mono ?_; rintro e w1 ⟨rfl, hb1⟩))
  have C2 := Lib.hid (det_Of_ok (hM.below hb1) HQ.out)
  go_wp2_with (first | (go_at_call 24; (with_reducible refine C2.out.mono ?_); clear C2; rintro e w2 ⟨rfl, hb2⟩; have k2 := hb1.trans (hb2.mono hb1.size)) | (go_at_call 16; refine (L2_in_any _ _ _ _).mono ?_; rintro e w' ⟨rfl, rfl⟩; first | rw [I1.out] | rw [I2.out] | rw [I3.out] | rw [IX.out]) | (go_at_call 25; fail))
  refine (R_Copy_any (hM.below k2) (by omega) HL5.out).mono ?_
  rintro e w3 ⟨pa, ca, rfl, ho3, hb3⟩
  have k3 := k2.trans (hb3.mono k2.size)
  obtain ⟨g, rfl, hg1, hg2, hfz, hrow⟩ := ho3.at hi
  obtain ⟨ai, ci, hci, _⟩ := hrow i hi
  obtain ⟨aj, cj, hcj, _⟩ := hrow j hj
  have hfi := hfz i
  have hfj := hfz j
  obtain ⟨bm, om, rfl, hbm, hrm⟩ := hM.at hi
  obtain ⟨pi, cpi, hmi, hrdi⟩ := hrm i hi
  obtain ⟨pj, cpj, hmj, hrdj⟩ := hrm j hj
  have y1 := k3.keep hbm hmi
  have y2 := k3.keep hbm hmj
  have hA3 := ho3.rd.setRow hi (hrdj.below k3)
  have k4 := k3.setCell (p := ⟨g, i, none⟩) (Nat.le_trans k2.size hg1) (.slice pj (rowOf M j).length cpj)
  have y3 : (w3.setCell ⟨g, i, none⟩ (.slice pj (rowOf M j).length cpj)).cell? ⟨bm, om + i, none⟩ = some (.slice pi (rowOf M i).length cpi) := k4.keep hbm hmi
  have y4 : (w3.setCell ⟨g, i, none⟩ (.slice pj (rowOf M j).length cpj)).cell? ⟨g, j, none⟩ = some (.slice aj (rowOf M j).length cj) := by rw [World.cell?_setCell_other _ _ _ _ (by simp; exact fun e => HIJ.out e)]; exact hcj
  have hA4 := hA3.setRow hj (hrdi.below k4)
  have k5 := k4.setCell (p := ⟨g, j, none⟩) (Nat.le_trans k2.size hg1) (.slice pi (rowOf M i).length cpi)
  clear hrow hfz hrm
  go_wp2_with (go_at_call 25; fail)
  clear y1 y2 y3 y4 hcj hfi hfj hmi hmj hrdi hrdj hA3 ho3 k4 hci
  generalize (w3.setCell ⟨g, i, none⟩ (.slice pj (rowOf M j).length cpj)).setCell ⟨g, j, none⟩ (.slice pi (rowOf M i).length cpi) = w4 at *
  have C4 := Lib.hid (R_Copy_any (hM.below k5) (by omega) HL5.out)
  (with_reducible refine C4.out.mono ?_)
  clear C4
  rintro e w5 ⟨pb, cb, rfl, ho5, hb5⟩
  have k6 := k5.trans (hb5.mono k5.size)
  go_wp2_with (go_at_call 25; fail)
  refine (R_Copy_any (hM.below k6) (by omega) HL5.out).mono ?_
  rintro e w6 ⟨pc, cc, rfl, ho6, hb6⟩
  obtain ⟨gb, D, C, hz, hd5⟩ := ho5.named (by omega) fun r hr => by rw [G3.out.2 r hr]; omega
  subst hz
  obtain ⟨gc, D', C', hz, hd6⟩ := ho6.named (by omega) fun r hr => by rw [G3.out.2 r hr]; omega
  subst hz
  have hBlt : Hid (gb < w5.heap.size ∧ ∀ r, r < n → D r < w5.heap.size) := ⟨hd5.lowO.2, fun r hr => (hd5.lowI hr).2⟩
  have hd5' := hd5.below hb6
  have hs4 := k5.size
  have hs5 := k6.size
  have k7 := hb5.trans (hb6.mono hb5.size)
  go_wp2
  go_loopw [16] (fun v wr => ∃ (s : Nat) (B E : List (List Int)), s ≤ n ∧ v = .int .i64 s ∧ OwMD wr w4.heap.size 38 3 gb D C n cb B ∧ OwMD wr w5.heap.size 38 3 gc D' C' n cc E ∧ Hid (Is n B (fun r c => if r = i ∧ c < s then (en M i c + k * en M j c) % 9973 else en M r c)) ∧ Hid (Is n E (fun r c => if r = i ∧ c < s then (k * en M i c) % 9973 else en M r c)) ∧ Below w4.heap.size w4 wr) (fun v _ => n - (intOf v).toNat)
  case atStart => exact ⟨0, M, M, Nat.zero_le _, rfl, hd5', hd6, ⟨G3.out, fun r c _ _ => by simp⟩, ⟨G3.out, fun r c _ _ => by simp⟩, k7⟩
  case round =>
    obtain ⟨s, B, E, hs, rfl, hdB, hdE, hIB, hIE, hbr⟩ := hrel
    have k8 := k5.trans (hbr.mono hs4)
    by_cases hlt : s < n
    · obtain ⟨bm, om, hz, hbm2, hrm⟩ := hM.at hi
      injection hz with hz; injection hz with hz1 hz2; subst hz1; subst hz2
      obtain ⟨ari, cri, hci2, hri⟩ := hrm i hi
      obtain ⟨arj, crj, hcj2, hrj⟩ := hrm j hj
      have y1 := k8.keep hbm hci2
      have y1j := k8.keep hbm hcj2
      rw [G3.out.2 i hi] at y1
      rw [G3.out.2 j hj] at y1j
      obtain ⟨bq, oq, rfl, hbq, hcq⟩ := (hri.below k8).at (k := s) (by rw [G3.out.2 i hi]; exact hlt)
      have y2 := hcq s (by rw [G3.out.2 i hi]; exact hlt)
      obtain ⟨bl, ol, rfl, hbl, hcl⟩ := (hrj.below k8).at (k := s) (by rw [G3.out.2 j hj]; exact hlt)
      have y3 := hcl s (by rw [G3.out.2 j hj]; exact hlt)
      change World.cell? _ _ = some (.int .i64 (en M i s)) at y2
      change World.cell? _ _ = some (.int .i64 (en M j s)) at y3
      have q4 := hdB.cellO hi
      have q5 := hdB.cellI hi (j := s) (by rw [hIB.out.1.2 i hi]; exact hlt)
      have q6 := hdB.frozenI hi (by rw [hIB.out.1.2 i hi]; omega) s
      rw [hIB.out.1.2 i hi] at q4
      have eB : en B i s = en M i s := by rw [hIB.out.2 i s hi hlt]; simp
      rw [eB] at q5
      have b1 := G4.out i s hi hlt
      have b2 := G4.out j s hj hlt
      have b3 : 0 ≤ (k : Int) * en M j s ∧ (k : Int) * en M j s ≤ 9972 * 9972 := ⟨Int.mul_nonneg kb.1 b2.1, Int.mul_le_mul kb.2 b2.2 b2.1 (by omega)⟩
      have b4 : 0 ≤ (k : Int) * en M i s ∧ (k : Int) * en M i s ≤ 9972 * 9972 := ⟨Int.mul_nonneg kb.1 b1.1, Int.mul_le_mul kb.2 b1.2 b1.1 (by omega)⟩
      have lowB := hdB.lowI hi
      have lowE := hdE.lowI hi
      have neB : D i ≠ gc := by have := hBlt.out.2 i hi; have := hdE.lowO.1; omega
      have neB2 : ∀ r, r < n → D i ≠ D' r := fun r hr => by have := hBlt.out.2 i hi; have := (hdE.lowI hr).1; omega
      have neE : D' i ≠ gb := by have := hBlt.out.1; have := lowE.1; omega
      have neE2 : ∀ r, r < n → D' i ≠ D r := fun r hr => by have := hBlt.out.2 r hr; have := lowE.1; omega
      have hB1 := (hdB.set matTy.ne (j := s) hi ((en M i s + k * en M j s) % 9973)).drew
      have hE1 := (hdE.setElse (p := ⟨D i, s, none⟩) neB neB2 (.int .i64 ((en M i s + k * en M j s) % 9973))).drew
      have hbr1 := (hbr.setCell (p := ⟨D i, s, none⟩) lowB.1 (.int .i64 ((en M i s + k * en M j s) % 9973))).drew
      have hIB2 : Hid (Is n (setE B i s ((en M i s + k * en M j s) % 9973)) (fun r c => if r = i ∧ c < s + 1 then (en M i c + k * en M j c) % 9973 else en M r c)) := by
        refine Is.congr (hIB.out.set _) fun r c hr hc => ?_
        by_cases e4 : i = r ∧ s = c
        · obtain ⟨rfl, rfl⟩ := e4
          simp
        · rw [if_neg e4]
          by_cases e5 : r = i ∧ c < s
          · rw [if_pos e5, if_pos (by omega)]
          · rw [if_neg e5, if_neg (by omega)]
      have hIE2 : Hid (Is n (setE E i s ((k * en M i s) % 9973)) (fun r c => if r = i ∧ c < s + 1 then (k * en M i c) % 9973 else en M r c)) := by
        refine Is.congr (hIE.out.set _) fun r c hr hc => ?_
        by_cases e4 : i = r ∧ s = c
        · obtain ⟨rfl, rfl⟩ := e4
          simp
        · rw [if_neg e4]
          by_cases e5 : r = i ∧ c < s
          · rw [if_pos e5, if_pos (by omega)]
          · rw [if_neg e5, if_neg (by omega)]
      obtain ⟨T, hT⟩ : ∃ T : Int, T = (k : Int) * en M j s := ⟨_, rfl⟩
      obtain ⟨T2, hT2⟩ : ∃ T : Int, T = (k : Int) * en M i s := ⟨_, rfl⟩
      rw [← hT] at b3 hB1 hE1 hbr1 hIB2
      rw [← hT2] at b4 hIE2
      have u1 : IntKind.i64.wrap ((k : Int) * en M j s) = T := by rw [hT]; exact Go.IntWalk.i64_in _ (by omega)
      have u2 : IntKind.i64.wrap (en M i s + T) = en M i s + T := Go.IntWalk.i64_in _ (by omega)
      have u3 : IntKind.i64.wrap ((k : Int) * en M i s) = T2 := by rw [hT2]; exact Go.IntWalk.i64_in _ (by omega)
      have U3 := Lib.hid u3
      have HT := Lib.hid hT
      have HT2 := Lib.hid hT2
      have c1 : (s : Int) < (n : Int) := by omega
      clear hT hT2 u3 hci2 hcj2 hcq hcl hrm eB
      go_wp2
      go_still_tail 24, (by kernel_rfl)
      still_call (stillW (R_Mod_any _ _ (by omega) (by omega)))
      repeat still_step
      refine wpStill_nil ?_
      change wpList _ _ _ _ _ wr.drew
      clear u1 u2
      go_wp2
      clear hdB hbr hIB y1 y1j y2 y3 q4 q5 q6
      generalize (wr.setCell ⟨D i, s, none⟩ (.int .i64 ((en M i s + T) % 9973))).drew = w8 at *
      have k9 := k5.trans (hbr1.mono hs4)
      obtain ⟨bm, om, hz, hbm2, hrm⟩ := hM.at hi
      injection hz with hz; injection hz with hz1 hz2; subst hz1; subst hz2
      obtain ⟨ari, cri, hci2, hri⟩ := hrm i hi
      have y1 := k9.keep hbm hci2
      rw [G3.out.2 i hi] at y1
      obtain ⟨bq, oq, rfl, hbq, hcq⟩ := (hri.below k9).at (k := s) (by rw [G3.out.2 i hi]; exact hlt)
      have y2 := hcq s (by rw [G3.out.2 i hi]; exact hlt)
      change World.cell? _ _ = some (.int .i64 (en M i s)) at y2
      have q4 := hE1.cellO hi
      have q5 := hE1.cellI hi (j := s) (by rw [hIE.out.1.2 i hi]; exact hlt)
      have q6 := hE1.frozenI hi (by rw [hIE.out.1.2 i hi]; omega) s
      rw [hIE.out.1.2 i hi] at q4
      have hE2 := (hE1.set matTy.ne (j := s) hi (T2 % 9973)).drew
      have hB2 := (hB1.setElse (p := ⟨D' i, s, none⟩) neE neE2 (.int .i64 (T2 % 9973))).drew
      have hbr2 := (hbr1.setCell (p := ⟨D' i, s, none⟩) (Nat.le_trans hb5.size lowE.1) (.int .i64 (T2 % 9973))).drew
      have u3 := U3.out
      clear hci2 hcq hrm hB1 hE1 hdE
      go_still_tail 16, (by kernel_rfl)
      still_call (stillW (R_Mod_any _ _ (by omega) (by omega)))
      repeat still_step
      refine wpStill_nil ?_
      change wpList _ _ _ _ _ w8.drew
      clear u3
      go_wp2
      go_roundw
      case rel => exact ⟨s + 1, _, _, by omega, by go_num, hB2, hE2, hIB2, hIE2, hbr2⟩
      case measure => simp [intOf]; omega
    · obtain rfl : s = n := by omega
      have hIB2 : Is s B (fun r c => if r = i then (en M i c + k * en M j c) % 9973 else en M r c) := by
        refine hIB.out.congr fun r c _ hc => ?_
        by_cases e5 : r = i
        · rw [if_pos ⟨e5, hc⟩, if_pos e5]
        · rw [if_neg fun e => e5 e.1, if_neg e5]
      have hIE2 : Is s E (fun r c => if r = i then (k * en M i c) % 9973 else en M r c) := by
        refine hIE.out.congr fun r c _ hc => ?_
        by_cases e5 : r = i
        · rw [if_pos ⟨e5, hc⟩, if_pos e5]
        · rw [if_neg fun e => e5 e.1, if_neg e5]
      have HQb : Hid (squareR 5 0 9972 B = none) := by
        refine squareR_of g1 g2 hIB2.1 fun r c hr hc => ?_
        rw [hIB2.2 r c hr hc]
        dsimp only
        split
        · omega
        · exact G4.out r c hr hc
      have HQc : Hid (squareR 5 0 9972 E = none) := by
        refine squareR_of g1 g2 hIE2.1 fun r c hr hc => ?_
        rw [hIE2.2 r c hr hc]
        dsimp only
        split
        · omega
        · exact G4.out r c hr hc
      have hSj : Dim s (M.set i (rowOf M j)) := Dim.set G3.out (G3.out.2 j hj)
      have hEj := Ent.setL G3.out G4.out hi (G3.out.2 j hj) fun c hc => G4.out j c hj (by rw [← G3.out.2 j hj]; exact hc)
      have HQa : Hid (squareR 5 0 9972 ((M.set i (rowOf M j)).set j (rowOf M i)) = none) := squareR_of g1 g2 (Dim.set hSj (G3.out.2 i hi)) (Ent.setL hSj hEj hj (G3.out.2 i hi) fun c hc => G4.out i c hi (by rw [← G3.out.2 i hi]; exact hc))
      have EA := Lib.hid (det_exch G3.out HIJ.out hi hj)
      have EB := Lib.hid (det_added HIJ.out hi hj k hIB2)
      have EC := Lib.hid (det_scaled hi k hIE2)
      have Ca := Lib.hid (det_Of_ok (hA4.below hbr) HQa.out)
      have hs6 := k8.size
      have hB6 := hdB.toM.rd
      have hE6 := hdE.toM.rd
      clear hIB2 hIE2 hdB hdE hIB hIE hA4
      go_wp2_with (go_at_call 24; (with_reducible refine Ca.out.mono ?_); clear Ca; rintro e w7 ⟨rfl, hb7⟩)
      have k9 := k8.trans (hb7.mono hs6)
      have Cb := Lib.hid (det_Of_ok (hB6.below hb7) HQb.out)
      (with_reducible refine Cb.out.mono ?_)
      clear Cb
      rintro e w8 ⟨rfl, hb8⟩
      have k10 := k9.trans (hb8.mono k9.size)
      have hE8 := (hE6.below hb7).below hb8
      go_wp2_with (go_at_call 24; fail)
      refine (det_Of_ok hE8 HQc.out).mono ?_
      rintro e w9 ⟨rfl, hb9⟩
      have k11 := k10.trans (hb9.mono k10.size)
      have EAo := EA.out
      have EBo := EB.out
      have ECo := EC.out
      clear EA EB EC hb7 hb8 hb9 hB6 hE6 hE8
      have x1 : 0 ≤ det s (mx M) % 9973 ∧ det s (mx M) % 9973 ≤ 9972 := by omega
      generalize det s (mx M) % 9973 = X at *
      generalize det s (mx ((M.set i (rowOf M j)).set j (rowOf M i))) % 9973 = Y at *
      generalize det s (mx B) % 9973 = Z at *
      generalize det s (mx E) % 9973 = W at *
      subst EBo
      have b3 : 0 ≤ (k : Int) * Z ∧ (k : Int) * Z ≤ 9972 * 9972 := ⟨Int.mul_nonneg kb.1 x1.1, Int.mul_le_mul kb.2 x1.2 x1.1 (by omega)⟩
      obtain ⟨T, hT⟩ : ∃ T : Int, T = (k : Int) * Z := ⟨_, rfl⟩
      rw [← hT] at b3 ECo
      have u1 : IntKind.i64.wrap ((k : Int) * Z) = T := by rw [hT]; exact Go.IntWalk.i64_in _ (by omega)
      have EA := Lib.hid EAo.symm
      have EC := Lib.hid ECo.symm
      clear hT EAo ECo
      go_wp2_with (first | (go_at_call 26; refine (R_Mod_any _ _ (by omega) (by omega)).mono ?_; rintro e w' ⟨rfl, rfl⟩; first | rw [EA.out] | rw [EC.out]))
      go_ret
      exact ⟨rfl, k11⟩

theorem inB_true {a lo hi : Int} (h : inB a lo hi = true) : lo ≤ a ∧ a ≤ hi := by
  unfold inB at h
  simp only [Bool.and_eq_true, decide_eq_true_eq] at h
  exact h

set_option maxRecDepth 100000 in
theorem detRows_walk {a0 : Option Addr} {n cap : Nat} {M : List (List Int)} {i j k : Int} {w : World} (hM : RdM w a0 n cap M) (_ : ∀ r ∈ M, Fit r) (wi : (Lit.int .i64 i).wf = true) (wj : (Lit.int .i64 j).wf = true) (_ : (Lit.int .i64 k).wf = true) :
    Calls Try.prog 6 #[.slice a0 n cap, .int .i64 i, .int .i64 j, .int .i64 k] w fun e w' => e = .returned (.bool true) ∧ Below w.heap.size w w' := by
  rcases hq : squareR 5 0 9972 M with _ | c
  · by_cases h : inB i 0 ((n : Int) - 1) = false ∨ inB j 0 ((n : Int) - 1) = false ∨ i = j ∨ inB k 0 9972 = false
    · exact detRows_out hM hq h wi wj
    · simp only [not_or, Bool.not_eq_false] at h
      obtain ⟨h1, h2, h3, h4⟩ := h
      replace h1 := inB_true h1
      replace h2 := inB_true h2
      replace h4 := inB_true h4
      obtain ⟨i', rfl⟩ := Int.eq_ofNat_of_zero_le h1.1
      obtain ⟨j', rfl⟩ := Int.eq_ofNat_of_zero_le h2.1
      obtain ⟨k', rfl⟩ := Int.eq_ofNat_of_zero_le h4.1
      exact detRows_in hM hq (by omega) (by omega) (by omega) (by omega)
  · have HQ := Lib.hid hq
    clear hq
    go_enter Try.func6, Try.ntmps6
    go_wp2_with (first | (go_at_call 23; refine (detFact_any _).mono ?_; rintro e w1 ⟨rfl, hb1⟩) | (go_at_call 24; refine (det_Of_err (hM.below hb1) HQ.out).mono ?_; rintro e w2 ⟨rfl, rfl⟩))
    go_ret
    exact ⟨rfl, hb1⟩
end Go.Proofs.Ytdgpeliinnmflaa
