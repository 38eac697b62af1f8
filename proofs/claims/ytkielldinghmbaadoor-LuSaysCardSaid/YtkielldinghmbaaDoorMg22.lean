/-
  lu.Split walked once more: by the rule.
  A matrix and a row of the call's own that grow side by side. No program in sight.
-/
import Derived.Test.YtkielldinghmbaaDoorRows
import Derived.Deep.QuietTactic
import Derived.BigQuiet
import Derived.StillTailTactics
import Derived.Test.YtkielldinghmbaaDoorMg0
import Derived.Test.YtkielldinghmbaaDoorMg1
import Derived.Test.YtkielldinghmbaaDoorMg2
import Derived.Test.YtkielldinghmbaaDoorMg3
import Derived.Test.YtkielldinghmbaaDoorMg4
import Derived.Test.YtkielldinghmbaaDoorMg6
import Derived.Test.YtkielldinghmbaaDoorMg12
import Derived.Test.YtkielldinghmbaaDoorMg20
import Derived.Test.YtkielldinghmbaaDoorMg21
namespace Go.Proofs.YtkielldinghmbaaDoor
open Go.RowKit Go.Rk

set_option maxHeartbeats 8000000 in
set_option maxRecDepth 100000 in
theorem Split_ok2 {a : Option Addr} {n ca : Nat} {M : List (List Int)} {w : World} (hM : RdM w a n ca M) (G : Good n n M) :
    Calls Tryd.prog 36 #[.slice a n ca] w fun e w' => ∃ ao co al cl au cu U L o, e = .returned (.tuple #[.slice ao n co, .slice al n cl, .slice au n cu, .nilIface]) ∧ OwI w' w.heap.size 3 ao n co o ∧ OwM w' w.heap.size 32 3 al n cl L ∧ OwM w' w.heap.size 32 3 au n cu U ∧ LFin2 n M U L o ∧ Below w.heap.size w w' := by
  have n1 := G.n1
  have HM := Lib.hid matTy
  have HG := Lib.hid G
  have hsq : squareR 5 0 9972 M = none := squareR_of n1.1 (by omega) G.dm G.ent
  have C0 := Lib.hid (det_Check_is hM hsq)
  have C1 := Lib.hid (Copy_any hM (by omega) fun r hr => by rw [G.dm.2 r hr]; omega)
  clear hsq G
  go_enter Tryd.func36, Tryd.ntmps36
  go_wp2_with (first | (go_at_call 37; (with_reducible refine C0.out.mono ?_); rintro e w' ⟨rfl, rfl⟩; simp only [errV]) | (go_at_call 67; (with_reducible refine C1.out.mono ?_); rintro e w3 ⟨a3, cu, rfl, ho3, hb3⟩) | (go_at_call 64; refine (Grid_any n n _ (by omega) (by omega)).mono ?_; rintro e w4 ⟨a4, cl, rfl, ho4, hb4⟩))
  obtain ⟨gU, DU, CU, hz, hd3⟩ := ho3.named (by omega) fun r hr => by rw [HG.out.dm.2 r hr]; omega
  subst hz
  obtain ⟨gL, DL, CL, hz, hd4⟩ := ho4.named (by omega) fun r hr => by rw [(Dm.replicate n n 0).2 r hr]; omega
  subst hz
  have hBU : Hid (gU < w3.heap.size ∧ ∀ i, i < n → DU i < w3.heap.size) := ⟨hd3.lowO.2, fun i hi => (hd3.lowI hi).2⟩
  have hBL : Hid (gL < w4.heap.size ∧ ∀ i, i < n → DL i < w4.heap.size) := ⟨hd4.lowO.2, fun i hi => (hd4.lowI hi).2⟩
  have hU4 := hd3.below hb4
  have k4 := below_tr hb3 hb4
  clear ho3 ho4 hd3
  have hs34 : w3.heap.size ≤ w4.heap.size := hb4.size
  have hs3 : w.heap.size ≤ w3.heap.size := hb3.size
  clear hb4 hb3 C0 C1
  go_loopw [2, 29] (fun v i wr => ∃ (k : Nat) (q : Option Addr) (cq : Nat), k ≤ n ∧ i = .int .i64 k ∧ v = .slice q k cq ∧ OwI wr w4.heap.size 3 q k cq (uptoI k) ∧ Below w4.heap.size w4 wr) (fun _ i _ => n - (intOf i).toNat)
  case atStart => exact ⟨0, none, 0, Nat.zero_le _, rfl, rfl, OwI.nil _ _ _, Below.refl _ _⟩
  case round =>
    obtain ⟨k, q, cq, hk, rfl, rfl, hq, hb⟩ := hrel
    by_cases hlt : k < n
    · have hsz := hb.size
      go_wp2_with (at_builtin; refine wpList_push_int HM.out.int rfl (.tmp 32) (.tmp 34) rfl rfl rfl (hq.alloc _) (z := (k : Int)) (by simp) (by decide) (by decide) (by omega) (by simp; omega) ?_; intro a6 cap6 w6 ho6 hg6)
      have hb6 := (hb.alloc hb.size (.cells #[.int .i64 (k : Int)] 3)).grown hg6 (by simp; omega) (fun r e => (hq.own.lt r e).1)
      go_roundw
      case rel => exact ⟨k + 1, a6, cap6, by omega, by go_num, rfl, by rw [uptoI_succ]; exact ho6, hb6⟩
      case measure => simp [intOf]; omega
    · obtain rfl : k = n := by omega
      obtain ⟨go, hz, hgo1, _, _, _⟩ := hq.at (by omega)
      subst hz
      have hU := hU4.below hb
      have hL := hd4.below hb
      have k5 := below_tr k4 hb
      have S0 : Hid (LI2 k M 0 M (List.replicate k (List.replicate k 0)) (uptoI k)) := LI2.start HG.out.dm HG.out.ent (uptoI_len k) fun i hi => uptoI_ix hi
      clear hU4 hd4 hb k4
      go_wp2
      go_loopw [38] (fun v wr => ∃ (c : Nat) (DU CU DL CL : Nat → Nat) (U L : List (List Int)) (o : List Int), c ≤ k ∧ v = .int .i64 c ∧ OwMD wr w.heap.size 32 3 gU DU CU k cu U ∧ OwMD wr w3.heap.size 32 3 gL DL CL k cl L ∧ OwI wr w4.heap.size 3 (some ⟨go, 0, none⟩) k cq o ∧
        Hid (gU < w3.heap.size ∧ ∀ i, i < k → DU i < w3.heap.size) ∧ Hid (gL < w4.heap.size ∧ ∀ i, i < k → DL i < w4.heap.size) ∧ Hid (LI2 k M c U L o) ∧ Below w.heap.size w wr) (fun v _ => k - (intOf v).toNat)
      case atStart => exact ⟨0, DU, CU, DL, CL, M, _, _, Nat.zero_le _, rfl, hU, hL, hq, hBU, hBL, S0, k5⟩
      case round =>
        clear hU hL hq hBU hBL S0 k5
        obtain ⟨c, DU, CU, DL, CL, U, L, o, hc, rfl, hU, hL, hO, hBU, hBL, hi, hb⟩ := hrel
        by_cases hck : c < k
        · go_wp2
          go_loop [10] (fun v => ∃ i : Nat, c ≤ i ∧ i ≤ k ∧ v = .int .i64 i ∧ Hid (∀ r, c ≤ r → r < i → en U r c = 0)) (fun v => k - (intOf v).toNat)
          case atStart => exact ⟨c, Nat.le_refl _, hc, rfl, fun r h1 h2 => absurd h2 (by omega)⟩
          case round =>
            obtain ⟨i, hi1, hi2, rfl, hz⟩ := hrel
            by_cases hik : i < k
            · have x1 := hU.cellO hik
              rw [hi.out.dU.2 i hik] at x1
              have x2 := hU.cellI hik (j := c) (by rw [hi.out.dU.2 i hik]; exact hck)
              have b3 : (i : Int) < (k : Int) := by omega
              have b4 : (c : Int) < (k : Int) := by omega
              by_cases hp0 : en U i c = 0
              · have z1 : (en U i c == 0) = true := beq_iff_eq.2 hp0
                have HP := Lib.hid hp0
                clear hp0
                go_wp2
                go_round
                case rel => exact ⟨i + 1, by omega, by omega, by go_num, fun r h1 h2 => by
                  rcases Nat.lt_or_ge r i with h3 | h3
                  · exact hz.out r h1 h3
                  · obtain rfl : r = i := by omega
                    exact HP.out⟩
                case measure => simp [intOf]; omega
              · have z1 : (en U i c == 0) = false := beq_eq_false_iff_ne.2 hp0
                have z2 : ((i : Int) == (k : Int)) = false := beq_eq_false_iff_ne.2 (by omega)
                have HP := Lib.hid hp0
                clear hp0
                have y1 := hU.cellO hck
                rw [hi.out.dU.2 c hck] at y1
                have f1 := hU.frozenO c
                have f2 := hU.frozenO i
                have hsw := (hU.swap HM.out.ne hck hik).drew
                rw [hi.out.dU.2 c hck, hi.out.dU.2 i hik] at hsw
                have y3 : (wr.setCell ⟨gU, c, none⟩ (.slice (some ⟨DU i, 0, none⟩) k (CU i))).cell? ⟨gU, i, none⟩ = some (.slice (some ⟨DU i, 0, none⟩) k (CU i)) := by
                  by_cases e : i = c
                  · subst e; exact World.cell?_setCell_same _ _ _ y1
                  · rw [World.cell?_setCell_other _ _ _ _ (by first | (simp; done) | (simp; exact fun h => e h.symm))]; exact x1
                have hlb := hL.lowO.1
                have hgo := hO.own.lt go rfl
                have hlD := fun r (hr : r < k) => (hL.lowI hr).1
                have hL2 := ((hL.setElse (p := ⟨gU, c, none⟩) (by have := hBU.out.1; simp; omega) (fun r hr => by have := hBU.out.1; have := hlD r hr; simp; omega) (.slice (some ⟨DU i, 0, none⟩) k (CU i))).setElse (p := ⟨gU, i, none⟩) (by have := hBU.out.1; simp; omega) (fun r hr => by have := hBU.out.1; have := hlD r hr; simp; omega) (.slice (some ⟨DU c, 0, none⟩) k (CU c))).drew
                have hO2 := ((hO.setElse (p := ⟨gU, c, none⟩) (by have := hBU.out.1; simp; omega) (.slice (some ⟨DU i, 0, none⟩) k (CU i))).setElse (p := ⟨gU, i, none⟩) (by have := hBU.out.1; simp; omega) (.slice (some ⟨DU c, 0, none⟩) k (CU c))).drew
                have hb2 := ((hb.setCell (p := ⟨gU, c, none⟩) hU.lowO.1 (.slice (some ⟨DU i, 0, none⟩) k (CU i))).setCell (p := ⟨gU, i, none⟩) hU.lowO.1 (.slice (some ⟨DU c, 0, none⟩) k (CU c))).drew
                have hBU2 : Hid (gU < w3.heap.size ∧ ∀ r, r < k → swapF DU c i r < w3.heap.size) := ⟨hBU.out.1, fun r hr => by
                  unfold swapF
                  (repeat' split) <;> exact hBU.out.2 _ (by assumption)⟩
                go_wp2
                go_region
                clear x1 x2 y1 y3 f1 f2 hU hL hO hb hgo hlb hlD
                generalize ((wr.setCell ⟨gU, c, none⟩ (.slice (some ⟨DU i, 0, none⟩) k (CU i))).setCell ⟨gU, i, none⟩ (.slice (some ⟨DU c, 0, none⟩) k (CU c))).drew = w5 at *
                have x1 := hL2.cellO hik
                have y1 := hL2.cellO hck
                rw [hi.out.dL.2 i hik] at x1
                rw [hi.out.dL.2 c hck] at y1
                have f1 := hL2.frozenO c
                have f2 := hL2.frozenO i
                have hsL := (hL2.swap HM.out.ne hck hik).drew
                rw [hi.out.dL.2 c hck, hi.out.dL.2 i hik] at hsL
                have y3 : (w5.setCell ⟨gL, c, none⟩ (.slice (some ⟨DL i, 0, none⟩) k (CL i))).cell? ⟨gL, i, none⟩ = some (.slice (some ⟨DL i, 0, none⟩) k (CL i)) := by
                  by_cases e : i = c
                  · subst e; exact World.cell?_setCell_same _ _ _ y1
                  · rw [World.cell?_setCell_other _ _ _ _ (by first | (simp; done) | (simp; exact fun h => e h.symm))]; exact x1
                have hlb := hL2.lowO.1
                have hgo := hO2.own.lt go rfl
                have hU3 := ((hsw.setElse (p := ⟨gL, c, none⟩) (by have := hBU2.out.1; simp; omega) (fun r hr => by have := hBU2.out.2 r hr; simp; omega) (.slice (some ⟨DL i, 0, none⟩) k (CL i))).setElse (p := ⟨gL, i, none⟩) (by have := hBU2.out.1; simp; omega) (fun r hr => by have := hBU2.out.2 r hr; simp; omega) (.slice (some ⟨DL c, 0, none⟩) k (CL c))).drew
                have hO3 := ((hO2.setElse (p := ⟨gL, c, none⟩) (by have := hBL.out.1; simp; omega) (.slice (some ⟨DL i, 0, none⟩) k (CL i))).setElse (p := ⟨gL, i, none⟩) (by have := hBL.out.1; simp; omega) (.slice (some ⟨DL c, 0, none⟩) k (CL c))).drew
                have hb3 := ((hb2.setCell (p := ⟨gL, c, none⟩) (Nat.le_trans hs3 hlb) (.slice (some ⟨DL i, 0, none⟩) k (CL i))).setCell (p := ⟨gL, i, none⟩) (Nat.le_trans hs3 hlb) (.slice (some ⟨DL c, 0, none⟩) k (CL c))).drew
                have hBL2 : Hid (gL < w4.heap.size ∧ ∀ r, r < k → swapF DL c i r < w4.heap.size) := ⟨hBL.out.1, fun r hr => by
                  unfold swapF
                  (repeat' split) <;> exact hBL.out.2 _ (by assumption)⟩
                go_wp2
                go_region
                clear x1 y1 y3 f1 f2 hsw hL2 hO2 hb2 hlb hgo
                generalize ((w5.setCell ⟨gL, c, none⟩ (.slice (some ⟨DL i, 0, none⟩) k (CL i))).setCell ⟨gL, i, none⟩ (.slice (some ⟨DL c, 0, none⟩) k (CL c))).drew = w6 at *
                obtain ⟨go2, hz2, hgo1, hgo2, hco, hfo⟩ := hO3.at (by omega)
                cases hz2
                have x1 := hco i hik
                have y1 := hco c hck
                have f1 := hfo c
                have f2 := hfo i
                have y3 : (w6.setCell ⟨go, c, none⟩ (.int .i64 (ix o i))).cell? ⟨go, i, none⟩ = some (.int .i64 (ix o i)) := by
                  by_cases e : i = c
                  · subst e; exact World.cell?_setCell_same _ _ _ y1
                  · rw [World.cell?_setCell_other _ _ _ _ (by first | (simp; done) | (simp; exact fun h => e h.symm))]; exact x1
                have hO4 := ((hO3.set (k := c) (ix o i)).set (k := i) (ix o c)).drew
                have hU4 := ((hU3.setElse (p := ⟨go, c, none⟩) (by have := hBU2.out.1; simp; omega) (fun r hr => by have := hBU2.out.2 r hr; simp; omega) (.int .i64 (ix o i))).setElse (p := ⟨go, i, none⟩) (by have := hBU2.out.1; simp; omega) (fun r hr => by have := hBU2.out.2 r hr; simp; omega) (.int .i64 (ix o c))).drew
                have hL4 := ((hsL.setElse (p := ⟨go, c, none⟩) (by have := hBL2.out.1; simp; omega) (fun r hr => by have := hBL2.out.2 r hr; simp; omega) (.int .i64 (ix o i))).setElse (p := ⟨go, i, none⟩) (by have := hBL2.out.1; simp; omega) (fun r hr => by have := hBL2.out.2 r hr; simp; omega) (.int .i64 (ix o c))).drew
                have hb4 := ((hb3.setCell (p := ⟨go, c, none⟩) (by show w.heap.size ≤ go; omega) (.int .i64 (ix o i))).setCell (p := ⟨go, i, none⟩) (by show w.heap.size ≤ go; omega) (.int .i64 (ix o c))).drew
                have hisw := hi.out.swap2 hck hi1 hik hz.out HP.out
                have hpne : en (swapL U c i) c c ≠ 0 := by
                  rw [en_swap hi.out.dU hck hik]
                  by_cases e : c = i
                  · rw [if_pos e]; rw [e] at HP ⊢; exact HP.out
                  · rw [if_neg e, if_pos rfl]; exact HP.out
                have HI := Lib.hid hisw
                have HPN := Lib.hid hpne
                clear hisw hpne hco hfo
                go_wp2
                go_region
                clear x1 y1 y3 f1 f2 hU3 hsL hO3 hb3 hi hz HP hBU hBL
                generalize ((w6.setCell ⟨go, c, none⟩ (.int .i64 (ix o i))).setCell ⟨go, i, none⟩ (.int .i64 (ix o c))).drew = w7 at *
                generalize (o.set c (ix o i)).set i (ix o c) = o4 at *
                generalize swapF DU c i = DU4 at *
                generalize swapF CU c i = CU4 at *
                generalize swapF DL c i = DL4 at *
                generalize swapF CL c i = CL4 at *
                generalize swapL U c i = U4 at *
                generalize swapL L c i = L4 at *
                have y1 := hU4.cellO hck
                rw [HI.out.dU.2 c hck] at y1
                have y2 := hU4.cellI hck (j := c) (by rw [HI.out.dU.2 c hck]; exact hck)
                have m0 := HI.out.eU c c hck hck
                go_wp2_with (go_at_call 74; refine (Over_any _ _ m0.1 m0.2).mono ?_; rintro e w' ⟨rfl, rfl⟩)
                have hov := powm_in (en U4 c c) 9971
                obtain ⟨ov, hO⟩ : ∃ ov, ov = powm (en U4 c c) 9971 := ⟨_, rfl⟩
                rw [← hO] at hov ⊢
                have HOV := Lib.hid hO
                clear hO y1 y2 m0
                have hb4' := hb4
                go_loopw [12] (fun v wr => ∃ (q : Nat) (U5 L5 : List (List Int)), c + 1 ≤ q ∧ q ≤ k ∧ v = .int .i64 q ∧ OwMD wr w.heap.size 32 3 gU DU4 CU4 k cu U5 ∧ OwMD wr w3.heap.size 32 3 gL DL4 CL4 k cl L5 ∧ OwI wr w4.heap.size 3 (some ⟨go, 0, none⟩) k cq o4 ∧
                  Hid (IsR k k U5 (upP U4 c q 0)) ∧ Hid (IsR k k L5 (lowP U4 L4 c q)) ∧ Below w.heap.size w wr) (fun v _ => k - (intOf v).toNat)
                case atStart => exact ⟨c + 1, U4, L4, Nat.le_refl _, by omega, by go_num, hU4, hL4, hO4, ⟨HI.out.dU, fun r j _ _ => by unfold upP; rw [if_neg (by omega)]⟩, ⟨HI.out.dL, fun r t _ _ => by unfold lowP; rw [if_neg (by omega)]⟩, hb4'⟩
                case round =>
                  clear hU4 hL4 hO4 hb4 hb4'
                  obtain ⟨q, U5, L5, hq1, hq2, rfl, hU, hL, hO, hiU, hiL, hb⟩ := hrel
                  by_cases hqk : q < k
                  · have x1 := hU.cellO hqk
                    rw [hiU.out.1.2 q hqk] at x1
                    have x2 := hU.cellI hqk (j := c) (by rw [hiU.out.1.2 q hqk]; exact hck)
                    have e1 : en U5 q c = en U4 q c := by rw [hiU.out.2 q c hqk hck]; unfold upP; rw [if_neg (by omega)]
                    rw [e1] at x2
                    have x3 := hL.cellO hqk
                    rw [hiL.out.1.2 q hqk] at x3
                    have x4 := hL.cellI hqk (j := c) (by rw [hiL.out.1.2 q hqk]; exact hck)
                    have x5 := hL.frozenI hqk (by rw [hiL.out.1.2 q hqk]; omega) c
                    have m1 := HI.out.eU q c hqk hck
                    have p1 := mul_bd m1 hov
                    obtain ⟨T, hT⟩ : ∃ T, T = en U4 q c * ov := ⟨_, rfl⟩
                    rw [← hT] at p1
                    have u1 : IntKind.i64.wrap (en U4 q c * ov) = T := by rw [hT]; exact Go.IntWalk.i64_in _ (by omega)
                    have u2 : T.tmod 9973 = T % 9973 := Int.tmod_eq_emod_of_nonneg (by omega)
                    have u3 : IntKind.i64.wrap (T % 9973) = T % 9973 := Go.IntWalk.i64_in _ (by omega)
                    have b5 : (q : Int) < (k : Int) := by omega
                    have hby : T % 9973 = byE U4 c q := by unfold byE; rw [hT, HOV.out]
                    have HBY := Lib.hid hby
                    have hyb : 0 ≤ T % 9973 ∧ T % 9973 ≤ 9972 := by omega
                    have hlD := (hL.lowI hqk)
                    have hLn := hL.set HM.out.ne (j := c) hqk (T % 9973)
                    have hlO := hL.lowO
                    have hUn := hU.setElse (p := ⟨DL4 q, c, none⟩) (by have := hBU2.out.1; simp; omega) (fun r hr => by have := hBU2.out.2 r hr; simp; omega) (.int .i64 (T % 9973))
                    have hgo := hO.own.lt go rfl
                    have hOn := hO.setElse (p := ⟨DL4 q, c, none⟩) (by have := hBL2.out.2 q hqk; simp; omega) (.int .i64 (T % 9973))
                    have hbn := hb.setCell (p := ⟨DL4 q, c, none⟩) (Nat.le_trans hs3 hlD.1) (.int .i64 (T % 9973))
                    have hiLn : Hid (IsR k k (setE L5 q c (T % 9973)) (lowP U4 L4 c (q + 1))) := ⟨hiL.out.1.setE _ _ _, fun r t h1 h2 => by
                      rw [hiL.out.1.en_set _ h1 h2]
                      by_cases e : q = r ∧ c = t
                      · rw [if_pos e, HBY.out]
                        unfold lowP
                        rw [if_pos (by omega), e.1]
                      · rw [if_neg e, hiL.out.2 r t h1 h2]
                        unfold lowP
                        by_cases e2 : c < r ∧ r < q ∧ t = c
                        · rw [if_pos e2, if_pos (by omega)]
                        · rw [if_neg e2, if_neg (by omega)]⟩
                    clear e1 hT hby hlO
                    go_wp2
                    clear x1 x2 x3 x4 x5 u1 u2 u3 hU hL hO hb hiL hlD hgo m1 p1
                    generalize wr.setCell ⟨DL4 q, c, none⟩ (.int .i64 (T % 9973)) = w8 at *
                    generalize setE L5 q c (T % 9973) = L6 at *
                    obtain ⟨by_, hB⟩ : ∃ by_, by_ = T % 9973 := ⟨_, rfl⟩
                    rw [← hB] at hyb ⊢
                    have HB2 : Hid (by_ = byE U4 c q) := by unfold Hid; rw [hB, HBY.out]
                    clear hB HBY
                    go_loopw [135] (fun v wt => ∃ (s : Nat) (U6 : List (List Int)), s ≤ k ∧ v = .int .i64 s ∧ OwMD wt w.heap.size 32 3 gU DU4 CU4 k cu U6 ∧ OwMD wt w3.heap.size 32 3 gL DL4 CL4 k cl L6 ∧ OwI wt w4.heap.size 3 (some ⟨go, 0, none⟩) k cq o4 ∧ Hid (IsR k k U6 (upP U4 c q s)) ∧ Below w.heap.size w wt) (fun v _ => k - (intOf v).toNat)
                    case atStart => exact ⟨0, U5, Nat.zero_le _, rfl, hUn, hLn, hOn, hiU, hbn⟩
                    case round =>
                      clear hUn hLn hOn hiU hbn
                      obtain ⟨s, U6, hs, rfl, hU, hL, hO, hiU, hb⟩ := hrel
                      by_cases hsk : s < k
                      · have x1 := hU.cellO hqk
                        have x4 := hU.cellO hck
                        rw [hiU.out.1.2 q hqk] at x1
                        rw [hiU.out.1.2 c hck] at x4
                        have x2 := hU.cellI hqk (j := s) (by rw [hiU.out.1.2 q hqk]; exact hsk)
                        have x5 := hU.cellI hck (j := s) (by rw [hiU.out.1.2 c hck]; exact hsk)
                        have x3 := hU.frozenI hqk (by rw [hiU.out.1.2 q hqk]; omega) s
                        have e1 : en U6 q s = en U4 q s := by rw [hiU.out.2 q s hqk hsk]; unfold upP; rw [if_neg (by omega)]
                        have e2 : en U6 c s = en U4 c s := by rw [hiU.out.2 c s hck hsk]; unfold upP; rw [if_neg (by omega)]
                        rw [e1] at x2
                        rw [e2] at x5
                        have m2 := HI.out.eU q s hqk hsk
                        have m3 := HI.out.eU c s hck hsk
                        have p1 := mul_bd hyb m3
                        obtain ⟨Z, hZ⟩ : ∃ Z, Z = by_ * en U4 c s := ⟨_, rfl⟩
                        rw [← hZ] at p1
                        have u1 : IntKind.i64.wrap (by_ * en U4 c s) = Z := by rw [hZ]; exact Go.IntWalk.i64_in _ (by omega)
                        have u2 : IntKind.i64.wrap (en U4 q s - Z) = en U4 q s - Z := Go.IntWalk.i64_in _ (by omega)
                        have b6 : (s : Int) < (k : Int) := by omega
                        have hlO := hL.lowO.1
                        have hlD := fun r (hr : r < k) => (hL.lowI hr).1
                        have hgo := hO.own.lt go rfl
                        have hDq := hBU2.out.2 q hqk
                        have hLn := (hL.setElse (p := ⟨DU4 q, s, none⟩) (by simp; omega) (fun r hr => by have := hlD r hr; simp; omega) (.int .i64 ((en U4 q s - Z) % 9973))).drew
                        have hOn := (hO.setElse (p := ⟨DU4 q, s, none⟩) (by simp; omega) (.int .i64 ((en U4 q s - Z) % 9973))).drew
                        have HZ := Lib.hid hZ
                        clear hZ e1 e2 hlO hlD hgo
                        go_wp2
                        go_still_tail 24, (by kernel_rfl)
                        still_call (stillW (Field_any _ _))
                        repeat still_step
                        refine wpStill_nil ?_
                        change wpList _ _ _ _ _ wr.drew
                        clear u1 u2
                        go_wp2
                        go_roundw
                        case rel => exact ⟨s + 1, _, by omega, by go_num, (hU.set HM.out.ne hqk _).drew, hLn, hOn, ⟨hiU.out.1.setE _ _ _, fun r j h1 h2 => by
                          rw [hiU.out.1.en_set _ h1 h2]
                          by_cases e : q = r ∧ s = j
                          · rw [if_pos e]
                            unfold upP
                            rw [if_pos (by omega), ← e.1, ← e.2, HZ.out, HB2.out]
                          · rw [if_neg e, hiU.out.2 r j h1 h2]
                            unfold upP
                            by_cases e2 : c < r ∧ (r < q ∨ (r = q ∧ j < s))
                            · rw [if_pos e2, if_pos (by omega)]
                            · rw [if_neg e2, if_neg (by omega)]⟩, (hb.setCell (p := ⟨DU4 q, s, none⟩) (hU.lowI hqk).1 _).drew⟩
                        case measure => simp [intOf]; omega
                      · obtain rfl : s = k := by omega
                        go_wp2
                        go_roundw
                        case rel => exact ⟨q + 1, U6, L6, by omega, by omega, by go_num, hU, hL, hO, hiU.out.congr fun r j h1 h2 => by
                          unfold upP
                          by_cases e : c < r ∧ (r < q ∨ (r = q ∧ j < s))
                          · rw [if_pos e, if_pos (by omega)]
                          · rw [if_neg e, if_neg (by omega)], hiLn, hb⟩
                        case measure => simp [intOf]; omega
                  · obtain rfl : q = k := by omega
                    have HE : Hid (LI2 q M (c + 1) U5 L5 o4) := HI.out.elim2 hck HPN.out (hiL.out.congr fun r t h1 _ => by
                      unfold lowP
                      by_cases e : c < r ∧ t = c
                      · rw [if_pos (by omega), if_pos e]
                      · rw [if_neg (by omega), if_neg e]) (hiU.out.congr fun r j h1 _ => by
                      unfold upP
                      by_cases e : c < r
                      · rw [if_pos (by omega), if_pos e]
                      · rw [if_neg (by omega), if_neg e])
                    go_wp2
                    go_roundw
                    case rel => exact ⟨c + 1, DU4, CU4, DL4, CL4, U5, L5, o4, by omega, by go_num, hU, hL, hO, hBU2, hBL2, HE.out, hb⟩
                    case measure => simp [intOf]; omega
            · obtain rfl : i = k := by omega
              have z2 : ((i : Int) == (i : Int)) = true := beq_iff_eq.2 rfl
              go_wp2
              go_roundw
              case rel => exact ⟨c + 1, DU, CU, DL, CL, U, L, o, by omega, by go_num, hU, hL, hO, hBU, hBL, hi.out.pass2 hz.out, hb⟩
              case measure => simp [intOf]; omega
        · obtain rfl : c = k := by omega
          go_wp2
          go_loopw [165] (fun v wr => ∃ (q : Nat) (L5 : List (List Int)), q ≤ c ∧ v = .int .i64 q ∧ OwMD wr w.heap.size 32 3 gU DU CU c cu U ∧ OwMD wr w3.heap.size 32 3 gL DL CL c cl L5 ∧ OwI wr w4.heap.size 3 (some ⟨go, 0, none⟩) c cq o ∧ Hid (IsR c c L5 (fun r t => if r = t ∧ r < q then 1 else en L r t)) ∧ Below w.heap.size w wr) (fun v _ => c - (intOf v).toNat)
          case atStart => exact ⟨0, L, Nat.zero_le _, rfl, hU, hL, hO, ⟨hi.out.dL, fun r t _ _ => by dsimp only; rw [if_neg (by omega)]⟩, hb⟩
          case round =>
            clear hU hL hO hb
            obtain ⟨q, L5, hq, rfl, hU, hL, hO, hiL, hb⟩ := hrel
            by_cases hqk : q < c
            · have x3 := hL.cellO hqk
              rw [hiL.out.1.2 q hqk] at x3
              have x4 := hL.cellI hqk (j := q) (by rw [hiL.out.1.2 q hqk]; exact hqk)
              have x5 := hL.frozenI hqk (by rw [hiL.out.1.2 q hqk]; omega) q
              have b5 : (q : Int) < (c : Int) := by omega
              have hlD := hL.lowI hqk
              have hLn := hL.set HM.out.ne (j := q) hqk 1
              have hUn := hU.setElse (p := ⟨DL q, q, none⟩) (by have := hBU.out.1; simp; omega) (fun r hr => by have := hBU.out.2 r hr; simp; omega) (.int .i64 1)
              have hgo := hO.own.lt go rfl
              have hOn := hO.setElse (p := ⟨DL q, q, none⟩) (by have := hBL.out.2 q hqk; simp; omega) (.int .i64 1)
              have hbn := hb.setCell (p := ⟨DL q, q, none⟩) (Nat.le_trans hs3 hlD.1) (.int .i64 1)
              go_wp2
              go_roundw
              case rel => exact ⟨q + 1, _, by omega, by go_num, hUn, hLn, hOn, ⟨hiL.out.1.setE _ _ _, fun r t h1 h2 => by
                rw [hiL.out.1.en_set _ h1 h2]
                by_cases e : q = r ∧ q = t
                · rw [if_pos e]; dsimp only; rw [if_pos (by omega)]
                · rw [if_neg e, hiL.out.2 r t h1 h2]; dsimp only
                  by_cases e2 : r = t ∧ r < q
                  · rw [if_pos e2, if_pos (by omega)]
                  · rw [if_neg e2, if_neg (by omega)]⟩, hbn⟩
              case measure => simp [intOf]; omega
            · obtain rfl : q = c := by omega
              have HF := hi.out.fin2 (hiL.out.congr fun r t h1 _ => by
                by_cases e : r = t
                · rw [if_pos ⟨e, h1⟩, if_pos e]
                · rw [if_neg fun x => e x.1, if_neg e])
              go_wp2
              (try simp only [Exit.inBlock, Exit.then])
              refine bodyPost_ret (four_results rfl _ _ _) rfl ?_
              exact ⟨_, cq, _, cl, _, cu, U, L5, o, rfl, hO.mono (Nat.le_trans hs3 hs34), hL.toM.mono hs3, hU.toM, HF, hb⟩
end Go.Proofs.YtkielldinghmbaaDoor
namespace Go.Rk
open Go.RowKit

section
variable {w w' : World} {B T E : Nat} {a b : Option Addr} {n cap m cb : Nat} {M : List (List Int)} {t : List Int}

theorem owns_det {size : Nat} {vs us : List Value} (h : w.ownsRow B T size (.slice a n cap) n vs) (k : w.ownsRow B T size (.slice a n cap) n us) (hs : size = 1) : vs = us := by
  subst hs
  have l1 : vs.length = n := by have := h.1; omega
  have l2 : us.length = n := by have := k.1; omega
  apply List.ext_getElem?
  intro i
  rcases Nat.lt_or_ge i n with hi | hi
  · obtain ⟨g, c, hv, _, _⟩ := h.form (by omega)
    injection hv with ha _ hc
    subst ha; subst hc
    rw [← h.cellAt i (by omega), ← k.cellAt i (by omega)]
  · rw [List.getElem?_eq_none (by omega), List.getElem?_eq_none (by omega)]

/-- The matrix, the row, and that no row of the matrix lies where the row does. -/
structure OwP (w : World) (B T E : Nat) (a : Option Addr) (n cap : Nat) (M : List (List Int)) (b : Option Addr) (m cb : Nat) (t : List Int) : Prop where
  mat : OwM w B T E a n cap M
  row : OwI w B E b m cb t
  sep : ∀ vs, w.ownsRow B T 1 (.slice a n cap) n vs → ∀ i k, i < n → blk vs i = some k → (Value.slice b m cb).ownBlock ≠ some k

theorem OwP.nil (w : World) (B T E : Nat) : OwP w B T E none 0 0 [] none 0 0 [] := ⟨OwM.nil _ _ _ _, OwI.nil _ _ _, fun _ _ _ _ hi => absurd hi (Nat.not_lt_zero _)⟩

theorem OwP.below (h : OwP w B T E a n cap M b m cb t) (hb : Below w.heap.size w w') : OwP w' B T E a n cap M b m cb t := by
  refine ⟨h.mat.below hb, h.row.below hb, fun vs hv i k hi e => ?_⟩
  obtain ⟨us, ho, _, _⟩ := h.mat.own
  have ho' := ho.kept (w' := w') (row := none) ⟨hb.os, hb.tape, hb.output, hb.size, fun k hk _ => hb.block k hk⟩ (by cases (Value.slice a n cap).ownBlock <;> simp)
  obtain rfl := owns_det ho' hv rfl
  exact h.sep us ho i k hi e
theorem OwP.alloc (h : OwP w B T E a n cap M b m cb t) (o : Obj) : OwP (w.alloc o) B T E a n cap M b m cb t := h.below ((Below.refl _ _).alloc (Nat.le_refl _) o)

/-- What grows where none of it lies leaves a matrix as it is. -/
theorem OwM.grownElse {row : Option Nat} (h : OwM w B T E a n cap M) (hg : w.grownBy w' row) (h1 : (Value.slice a n cap).ownBlock = none ∨ (Value.slice a n cap).ownBlock ≠ row) (h2 : ∀ vs, w.ownsRow B T 1 (.slice a n cap) n vs → ∀ i k, i < n → blk vs i = some k → row ≠ some k) : OwM w' B T E a n cap M := by
  obtain ⟨vs, ho, hr, hd⟩ := h.own
  refine ⟨h.len_eq, vs, ho.kept hg h1, fun k hk => ?_, hd⟩
  obtain ⟨ar, cr, e, o⟩ := hr k hk
  refine ⟨ar, cr, e, o.grown hg ?_⟩
  rcases eo : (Value.slice ar (rowOf M k).length cr).ownBlock with _ | q
  · exact .inl rfl
  · exact .inr fun e2 => h2 vs ho k q hk (by simp [blk, e, eo]) e2.symm

variable {P : Program} {TT : TypeId}
theorem wpList_push_rowP (hT : MatTy P TT T E) {ops : Array Oper} {rest : List Oper} {o : Oper} {ac : Act} {Q : Exit → Act → World → Prop} (hgd : o.guard = none) (s x : Operand)
    (ho : o.op = .call { callee := .builtin .append, args := #[s, x], argTypes := #[TT, TT] })
    {w0 w : World} {a ar : Option Addr} {n cap blk_ c2 nr cr : Nat} {M : List (List Int)} {l : List Int} (hs : ac.eval s = .slice a n cap) (hx : ac.eval x = .slice (some ⟨blk_, 0, none⟩) 1 c2) (h : OwP w0 B T E a n cap M b m cb t) (hb : Below w0.heap.size w0 w)
    (ho2 : OwI w w0.heap.size E ar nr cr l) (hc : w.cell? ⟨blk_, 0, none⟩ = some (.slice ar nr cr)) (hn : (n + 1) * 24 ≤ 140737488355328) (hB : B ≤ w0.heap.size)
    (hK : ∀ a' cap' w', OwP w' B T E a' (n + 1) cap' (M ++ [l]) b m cb t → Below B w w' → wpList P ops Q rest (ac.put o.dst (.slice a' (n + 1) cap')) w') : wpList P ops Q (o :: rest) ac w := by
  obtain ⟨i, hi, hz, hs1, hby⟩ := hT.hi
  have hw := h.below hb
  obtain ⟨vs', ho', hr', hd'⟩ := hw.mat.own
  refine wpList_append_own w hgd s x TT ho B T i (.slice none 0 0) 1 24 hT.ht hi hz hs1 hby rfl (by decide) (.slice a n cap) n vs' hs ho' ⟨blk_, 0, none⟩ 1 c2 [.slice ar nr cr] hx rfl (fun j u hu => ?_) (fun u hu => ?_) (by unfold maxLen; omega) hn (Nat.le_trans hB hb.size) fun v' w' h1 h2 _ => ?_
  · rcases j with _ | j
    · simp at hu
      subst hu
      have : (⟨blk_, 0, none⟩ : Addr).add 0 = ⟨blk_, 0, none⟩ := by simp [Addr.add]
      rw [this]; exact hc
    · simp at hu
  · simp at hu; subst hu; rfl
  · obtain ⟨a', cap', rfl⟩ : ∃ a' cap', v' = .slice a' (n + 1) cap' := by
      rcases h1.2 with ⟨e, h0⟩ | ⟨g, c, cur, e, _⟩
      · exact absurd h0 (by omega)
      · exact ⟨_, _, e⟩
    have hvl : vs'.length = n := by have := ho'.1; omega
    refine hK a' cap' w' ⟨h.mat.pushed hb ho2 hB hT.ne ho' h1 h2 hr' hd', hw.row.grown h2 ?_, fun us hu i k hi e => ?_⟩ ((Below.refl B w).grown h2 (Nat.le_trans hB hb.size) fun k hk => (ho'.lt k hk).1)
    · rcases eo : (Value.slice b m cb).ownBlock with _ | q
      · exact .inl rfl
      · refine .inr fun e2 => ?_
        exact own_ne hT.ne ho' hw.row.own (b := q) e2.symm eo
    · obtain rfl := owns_det h1 hu rfl
      rcases Nat.lt_or_ge i n with h3 | h3
      · refine hw.sep vs' ho' i k h3 ?_
        simp only [blk, List.getElem?_append_left (show i < vs'.length by omega)] at e
        exact e
      · obtain rfl : i = n := by omega
        simp [blk, hvl] at e
        intro e3
        have h4 := (ho2.own.lt k e).1
        have h5 := (h.row.own.lt k e3).2
        omega

theorem wpList_push_intP (hT : MatTy P TT T E) {ops : Array Oper} {rest : List Oper} {o : Oper} {ac : Act} {Q : Exit → Act → World → Prop} (hgd : o.guard = none) (s x : Operand)
    (ho : o.op = .call { callee := .builtin .append, args := #[s, x], argTypes := #[T, T] })
    {a b : Option Addr} {n cap m cb blk_ c2 : Nat} {M : List (List Int)} {t : List Int} {z : Int} (hs : ac.eval s = .slice b m cb) (hx : ac.eval x = .slice (some ⟨blk_, 0, none⟩) 1 c2) (h : OwP w B T E a n cap M b m cb t)
    (hc : w.cell? ⟨blk_, 0, none⟩ = some (.int .i64 z)) (hc2 : 1 ≤ c2) (hm2 : c2 ≤ maxLen) (hn : (m + 1) * 8 ≤ 140737488355328) (hB : B ≤ w.heap.size)
    (hK : ∀ b' cb' w', OwP w' B T E a n cap M b' (m + 1) cb' (t ++ [z]) → Below B w w' → wpList P ops Q rest (ac.put o.dst (.slice b' (m + 1) cb')) w') : wpList P ops Q (o :: rest) ac w := by
  refine wpList_push_int2 hT.int hgd s x ho hs hx h.row hc hc2 hm2 hn hB fun b' cb' w' h1 h2 h3 => ?_
  have hlt : ∀ vs, w.ownsRow B T 1 (.slice a n cap) n vs → ∀ i k, i < n → blk vs i = some k → k < w.heap.size := fun vs hv i k hi e => by
    obtain ⟨us, ho', hr, _⟩ := h.mat.own
    obtain rfl := owns_det ho' hv rfl
    obtain ⟨ar, cr, e1, o1⟩ := hr i hi
    simp [blk, e1] at e
    exact (o1.own.lt k e).2
  have hout : (Value.slice a n cap).ownBlock = none ∨ (Value.slice a n cap).ownBlock ≠ (Value.slice b m cb).ownBlock := by
    obtain ⟨us, ho', _, _⟩ := h.mat.own
    rcases eo : (Value.slice a n cap).ownBlock with _ | q
    · exact .inl rfl
    · exact .inr fun e2 => own_ne hT.ne ho' h.row.own (b := q) eo e2.symm
  have hm' := h.mat.grownElse h2 hout fun vs hv i k hi e => h.sep vs hv i k hi e
  refine hK b' cb' w' ⟨hm', h1, fun us hu i k hi e => ?_⟩ ((Below.refl B w).grown h2 hB fun k hk => (h.row.own.lt k hk).1)
  obtain ⟨vs, ho', _, _⟩ := h.mat.own
  obtain rfl := owns_det (ho'.kept h2 hout) hu rfl
  intro e3
  rcases h3 k e3 with h4 | h4
  · exact h.sep vs ho' i k hi e h4.symm
  · have := hlt vs ho' i k hi e
    omega
end
end Go.Rk
