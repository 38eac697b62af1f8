/-
  The reference's Split walked: by the same rule.
  LuSays walked: of any matrix the order of its rows, what is low, and what is up.
-/
import Derived.Test.YtkielldinghmbaaDoorRows
import Derived.Deep.QuietTactic
import Derived.BigQuiet
import Derived.StillTailTactics
import Derived.Deep.DeepCutAuto
import Derived.Test.YtkielldinghmbaaDoorMg0
import Derived.Test.YtkielldinghmbaaDoorMg1
import Derived.Test.YtkielldinghmbaaDoorMg2
import Derived.Test.YtkielldinghmbaaDoorMg3
import Derived.Test.YtkielldinghmbaaDoorMg4
import Derived.Test.YtkielldinghmbaaDoorMg6
import Derived.Test.YtkielldinghmbaaDoorMg8
import Derived.Test.YtkielldinghmbaaDoorMg12
import Derived.Test.YtkielldinghmbaaDoorMg20
import Derived.Test.YtkielldinghmbaaDoorMg21
import Derived.Test.YtkielldinghmbaaDoorMg22
namespace Go.Proofs.YtkielldinghmbaaDoor
open Go.RowKit Go.Rk

theorem three_results {fn : Func} {t u v : Tmp} (h : fn.results = #[.tmp t, .tmp u, .tmp v]) (tmps : Array Value) (P : Program) (w : World) :
    (results fn tmps).run P w = .ok (.tuple #[tmps.getD t undef, tmps.getD u undef, tmps.getD v undef]) w := by
  simp [results, h]

set_option maxHeartbeats 8000000 in
set_option maxRecDepth 100000 in
theorem M_Split_any {a : Option Addr} {n ca : Nat} {M : List (List Int)} {w : World} (hM : RdM w a n ca M) (G : Good n n M) :
    Calls Tryd.prog 35 #[.slice a n ca] w fun e w' => ∃ ao co al cl au cu U L o, e = .returned (.tuple #[.slice ao n co, .slice al n cl, .slice au n cu]) ∧ OwI w' w.heap.size 3 ao n co o ∧ OwM w' w.heap.size 32 3 al n cl L ∧ OwM w' w.heap.size 32 3 au n cu U ∧ LFin2 n M U L o ∧ Below w.heap.size w w' := by
  have n1 := G.n1
  have lm := hM.len_max
  have HM := Lib.hid matTy
  have HG := Lib.hid G
  clear G
  go_enter Tryd.func35, Tryd.ntmps35
  go_wp2_with (go_at_call 60; fail)
  refine (R_Copy_any hM (by omega) (fun r hr => by rw [HG.out.dm.2 r hr]; omega)).mono ?_
  rintro e w3 ⟨a3, cu, rfl, ho3, hb3⟩
  obtain ⟨gU, DU, CU, hz, hd3⟩ := ho3.named (by omega) fun r hr => by rw [HG.out.dm.2 r hr]; omega
  subst hz
  have hBU : Hid (gU < w3.heap.size ∧ ∀ i, i < n → DU i < w3.heap.size) := ⟨hd3.lowO.2, fun i hi => (hd3.lowI hi).2⟩
  have hs3 : w.heap.size ≤ w3.heap.size := hb3.size
  clear ho3
  go_wp2_with fail
  go_loopw [7, 8, 9] (fun vl vo x wr => ∃ (k : Nat) (al : Option Addr) (cl : Nat) (ao : Option Addr) (cq : Nat), k ≤ n ∧ x = .int .i64 k ∧ vl = .slice al k cl ∧ vo = .slice ao k cq ∧ OwP wr w3.heap.size 32 3 al k cl (List.replicate k (List.replicate n 0)) ao k cq (uptoI k) ∧ Below w3.heap.size w3 wr) (fun _ _ x _ => n - (intOf x).toNat)
  case atStart => exact ⟨0, none, 0, none, 0, Nat.zero_le _, rfl, rfl, rfl, OwP.nil _ _ _ _, Below.refl _ _⟩
  case round =>
    obtain ⟨k, al, cl, ao, cq, hk, rfl, rfl, rfl, ho, hb⟩ := hrel
    obtain ⟨wo, rfl⟩ : ∃ x, x = wr := ⟨_, rfl⟩
    have hsz := hb.size
    by_cases hlt : k < n
    · go_wp2_with (first
        | (refine wpList_make_ints HM.out.int rfl (.tmp 28) (.tmp 28) rfl rfl rfl (by omega) ?_; intro w4 ho4 hb4; have hs4 := hb4.size)
        | (at_builtin; refine wpList_push_rowP HM.out rfl (.tmp 27) (.tmp 30) rfl rfl rfl ho (hb4.alloc hs4 _) (ho4.alloc _) (by simp) (by omega) hsz ?_; intro a5 c5 w5 ho5 hb5; have k5 := (hb.trans ((hb4.alloc hs4 (.cells #[.slice (some ⟨wo.heap.size, 0, none⟩) n n] 32)).mono hsz)).trans hb5; have hs5 := k5.size)
        | (at_builtin; refine wpList_push_intP HM.out rfl (.tmp 32) (.tmp 34) rfl rfl rfl (ho5.alloc _) (z := (k : Int)) (by simp) (by decide) (by decide) (by omega) (by simp; omega) ?_; intro a6 c6 w6 ho6 hb6))
      have k6 := (k5.alloc hs5 (.cells #[.int .i64 (k : Int)] 3)).trans hb6
      go_roundw
      case rel => exact ⟨k + 1, a5, c5, a6, c6, by omega, by go_num, rfl, rfl, by rw [List.replicate_succ', uptoI_succ]; exact ho6, k6⟩
      case measure => simp [intOf]; omega
    · obtain rfl : k = n := by omega
      obtain ⟨go, hz, hgo1, _, _, _⟩ := ho.row.at (by omega)
      subst hz
      obtain ⟨gL, DL, CL, hz, hL⟩ := ho.mat.named (by omega) fun r hr => by rw [(Dm.replicate k k 0).2 r hr]; omega
      subst hz
      have hBL : Hid (gL ≠ go ∧ ∀ i, i < k → DL i ≠ go) := ⟨fun e => own_ne HM.out.ne hL.outer ho.row.own (b := gL) rfl (by rw [e]; rfl), fun i hi e => ho.sep _ hL.outer i (DL i) hi (by simp [blk, hi, Value.ownBlock]) (by rw [e]; rfl)⟩
      have hU := hd3.below hb
      have hq := ho.row
      have k5 := below_tr hb3 hb
      have S0 : Hid (LI2 k M 0 M (List.replicate k (List.replicate k 0)) (uptoI k)) := LI2.start HG.out.dm HG.out.ent (uptoI_len k) fun i hi => uptoI_ix hi
      clear hd3 hb ho hb3
      go_wp2
      go_loopw [10] (fun v wr => ∃ (c : Nat) (DU CU DL CL : Nat → Nat) (U L : List (List Int)) (o : List Int), c ≤ k ∧ v = .int .i64 c ∧ OwMD wr w.heap.size 32 3 gU DU CU k cu U ∧ OwMD wr w3.heap.size 32 3 gL DL CL k cl L ∧ OwI wr w3.heap.size 3 (some ⟨go, 0, none⟩) k cq o ∧
        Hid (gU < w3.heap.size ∧ ∀ i, i < k → DU i < w3.heap.size) ∧ Hid (gL ≠ go ∧ ∀ i, i < k → DL i ≠ go) ∧ Hid (LI2 k M c U L o) ∧ Below w.heap.size w wr) (fun v _ => k - (intOf v).toNat)
      case atStart => exact ⟨0, DU, CU, DL, CL, M, _, _, Nat.zero_le _, rfl, hU, hL, hq, hBU, hBL, S0, k5⟩
      case round =>
        clear hU hL hq hBU hBL S0 k5
        obtain ⟨c, DU, CU, DL, CL, U, L, o, hc, rfl, hU, hL, hO, hBU, hBL, hi, hb⟩ := hrel
        by_cases hck : c < k
        · go_wp2
          go_loop [11] (fun v => ∃ i : Nat, c ≤ i ∧ i ≤ k ∧ v = .int .i64 i ∧ Hid (∀ r, c ≤ r → r < i → en U r c = 0)) (fun v => k - (intOf v).toNat)
          case atStart => exact ⟨c, Nat.le_refl _, hc, rfl, fun r h1 h2 => absurd h2 (by omega)⟩
          case round =>
            obtain ⟨i, hi1, hi2, rfl, hz⟩ := hrel
            by_cases hik : i < k
            · have x1 := hU.cellO hik
              rw [hi.out.dU.2 i hik] at x1
              have x2 := hU.cellI hik (j := c) (by rw [hi.out.dU.2 i hik]; exact hck)
              have b3 : (i : Int) < (k : Int) := by omega
              have b4 : (c : Int) < (k : Int) := by omega
              by_cases hp0 : en U i c = 0
              · have z1 : (en U i c == 0) = true := beq_iff_eq.2 hp0
                have HP := Lib.hid hp0
                clear hp0
                go_wp2
                go_round
                case rel => exact ⟨i + 1, by omega, by omega, by go_num, fun r h1 h2 => by
                  rcases Nat.lt_or_ge r i with h3 | h3
                  · exact hz.out r h1 h3
                  · obtain rfl : r = i := by omega
                    exact HP.out⟩
                case measure => simp [intOf]; omega
              · have z1 : (en U i c == 0) = false := beq_eq_false_iff_ne.2 hp0
                have z2 : ((i : Int) == (k : Int)) = false := beq_eq_false_iff_ne.2 (by omega)
                have HP := Lib.hid hp0
                clear hp0
                have y1 := hU.cellO hck
                rw [hi.out.dU.2 c hck] at y1
                have f1 := hU.frozenO c
                have f2 := hU.frozenO i
                have hsw := hU.swap HM.out.ne hck hik
                rw [hi.out.dU.2 c hck, hi.out.dU.2 i hik] at hsw
                have y3 : (wr.setCell ⟨gU, c, none⟩ (.slice (some ⟨DU i, 0, none⟩) k (CU i))).cell? ⟨gU, i, none⟩ = some (.slice (some ⟨DU i, 0, none⟩) k (CU i)) := by
                  by_cases e : i = c
                  · subst e; exact World.cell?_setCell_same _ _ _ y1
                  · rw [World.cell?_setCell_other _ _ _ _ (by first | (simp; done) | (simp; exact fun h => e h.symm))]; exact x1
                have hlD := fun r (hr : r < k) => (hL.lowI hr).1
                have hlb := hL.lowO.1
                have hgo := hO.own.lt go rfl
                have hL2 := (hL.setElse (p := ⟨gU, c, none⟩) (by have := hBU.out.1; simp; omega) (fun r hr => by have := hBU.out.1; have := hlD r hr; simp; omega) (.slice (some ⟨DU i, 0, none⟩) k (CU i))).setElse (p := ⟨gU, i, none⟩) (by have := hBU.out.1; simp; omega) (fun r hr => by have := hBU.out.1; have := hlD r hr; simp; omega) (.slice (some ⟨DU c, 0, none⟩) k (CU c))
                have hO2 := (hO.setElse (p := ⟨gU, c, none⟩) (by have := hBU.out.1; simp; omega) (.slice (some ⟨DU i, 0, none⟩) k (CU i))).setElse (p := ⟨gU, i, none⟩) (by have := hBU.out.1; simp; omega) (.slice (some ⟨DU c, 0, none⟩) k (CU c))
                have hb2 := (hb.setCell (p := ⟨gU, c, none⟩) hU.lowO.1 (.slice (some ⟨DU i, 0, none⟩) k (CU i))).setCell (p := ⟨gU, i, none⟩) hU.lowO.1 (.slice (some ⟨DU c, 0, none⟩) k (CU c))
                have hBU2 : Hid (gU < w3.heap.size ∧ ∀ r, r < k → swapF DU c i r < w3.heap.size) := ⟨hBU.out.1, fun r hr => by
                  unfold swapF
                  (repeat' split) <;> exact hBU.out.2 _ (by assumption)⟩
                go_upto_region 20 with (fail)
                clear x1 x2 y1 y3 f1 f2 hU hL hO hb hgo hlb hlD
                generalize (wr.setCell ⟨gU, c, none⟩ (.slice (some ⟨DU i, 0, none⟩) k (CU i))).setCell ⟨gU, i, none⟩ (.slice (some ⟨DU c, 0, none⟩) k (CU c)) = w5 at *
                have x1 := hL2.cellO hik
                have y1 := hL2.cellO hck
                rw [hi.out.dL.2 i hik] at x1
                rw [hi.out.dL.2 c hck] at y1
                have f1 := hL2.frozenO c
                have f2 := hL2.frozenO i
                have hsL := hL2.swap HM.out.ne hck hik
                rw [hi.out.dL.2 c hck, hi.out.dL.2 i hik] at hsL
                have y3 : (w5.setCell ⟨gL, c, none⟩ (.slice (some ⟨DL i, 0, none⟩) k (CL i))).cell? ⟨gL, i, none⟩ = some (.slice (some ⟨DL i, 0, none⟩) k (CL i)) := by
                  by_cases e : i = c
                  · subst e; exact World.cell?_setCell_same _ _ _ y1
                  · rw [World.cell?_setCell_other _ _ _ _ (by first | (simp; done) | (simp; exact fun h => e h.symm))]; exact x1
                have hlb := hL2.lowO.1
                have hgo := hO2.own.lt go rfl
                have hU3 := (hsw.setElse (p := ⟨gL, c, none⟩) (by have := hBU2.out.1; simp; omega) (fun r hr => by have := hBU2.out.2 r hr; simp; omega) (.slice (some ⟨DL i, 0, none⟩) k (CL i))).setElse (p := ⟨gL, i, none⟩) (by have := hBU2.out.1; simp; omega) (fun r hr => by have := hBU2.out.2 r hr; simp; omega) (.slice (some ⟨DL c, 0, none⟩) k (CL c))
                have hO3 := (hO2.setElse (p := ⟨gL, c, none⟩) (by simp; exact hBL.out.1) (.slice (some ⟨DL i, 0, none⟩) k (CL i))).setElse (p := ⟨gL, i, none⟩) (by simp; exact hBL.out.1) (.slice (some ⟨DL c, 0, none⟩) k (CL c))
                have hb3 := (hb2.setCell (p := ⟨gL, c, none⟩) (Nat.le_trans hs3 hlb) (.slice (some ⟨DL i, 0, none⟩) k (CL i))).setCell (p := ⟨gL, i, none⟩) (Nat.le_trans hs3 hlb) (.slice (some ⟨DL c, 0, none⟩) k (CL c))
                have hBL2 : Hid (gL ≠ go ∧ ∀ r, r < k → swapF DL c i r ≠ go) := ⟨hBL.out.1, fun r hr => by
                  unfold swapF
                  (repeat' split) <;> exact hBL.out.2 _ (by assumption)⟩
                go_upto_region 23 with (fail)
                clear x1 y1 y3 f1 f2 hsw hL2 hO2 hb2 hlb hgo
                generalize (w5.setCell ⟨gL, c, none⟩ (.slice (some ⟨DL i, 0, none⟩) k (CL i))).setCell ⟨gL, i, none⟩ (.slice (some ⟨DL c, 0, none⟩) k (CL c)) = w6 at *
                obtain ⟨go2, hz2, hgo1, hgo2, hco, hfo⟩ := hO3.at (by omega)
                cases hz2
                have x1 := hco i hik
                have y1 := hco c hck
                have f1 := hfo c
                have f2 := hfo i
                have y3 : (w6.setCell ⟨go, c, none⟩ (.int .i64 (ix o i))).cell? ⟨go, i, none⟩ = some (.int .i64 (ix o i)) := by
                  by_cases e : i = c
                  · subst e; exact World.cell?_setCell_same _ _ _ y1
                  · rw [World.cell?_setCell_other _ _ _ _ (by first | (simp; done) | (simp; exact fun h => e h.symm))]; exact x1
                have hO4 := (hO3.set (k := c) (ix o i)).set (k := i) (ix o c)
                have hU4 := (hU3.setElse (p := ⟨go, c, none⟩) (by have := hBU2.out.1; simp; omega) (fun r hr => by have := hBU2.out.2 r hr; simp; omega) (.int .i64 (ix o i))).setElse (p := ⟨go, i, none⟩) (by have := hBU2.out.1; simp; omega) (fun r hr => by have := hBU2.out.2 r hr; simp; omega) (.int .i64 (ix o c))
                have hL4 := (hsL.setElse (p := ⟨go, c, none⟩) (by simp; exact fun e => hBL2.out.1 e.symm) (fun r hr => by simp; exact fun e => hBL2.out.2 r hr e.symm) (.int .i64 (ix o i))).setElse (p := ⟨go, i, none⟩) (by simp; exact fun e => hBL2.out.1 e.symm) (fun r hr => by simp; exact fun e => hBL2.out.2 r hr e.symm) (.int .i64 (ix o c))
                have hb4 := (hb3.setCell (p := ⟨go, c, none⟩) (by show w.heap.size ≤ go; omega) (.int .i64 (ix o i))).setCell (p := ⟨go, i, none⟩) (by show w.heap.size ≤ go; omega) (.int .i64 (ix o c))
                have hisw := hi.out.swap2 hck hi1 hik hz.out HP.out
                have hpne : en (swapL U c i) c c ≠ 0 := by
                  rw [en_swap hi.out.dU hck hik]
                  by_cases e : c = i
                  · rw [if_pos e]; rw [e] at HP ⊢; exact HP.out
                  · rw [if_neg e, if_pos rfl]; exact HP.out
                have HI := Lib.hid hisw
                have HPN := Lib.hid hpne
                clear hisw hpne hco hfo
                go_upto_region 26 with (fail)
                clear x1 y1 y3 f1 f2 hU3 hsL hO3 hb3 hi hz HP hBU hBL
                generalize (w6.setCell ⟨go, c, none⟩ (.int .i64 (ix o i))).setCell ⟨go, i, none⟩ (.int .i64 (ix o c)) = w7 at *
                generalize (o.set c (ix o i)).set i (ix o c) = o4 at *
                generalize swapF DU c i = DU4 at *
                generalize swapF CU c i = CU4 at *
                generalize swapF DL c i = DL4 at *
                generalize swapF CL c i = CL4 at *
                generalize swapL U c i = U4 at *
                generalize swapL L c i = L4 at *
                go_wp2_with fail
                have m0 := HI.out.eU c c hck hck
                have hov := powm_in (en U4 c c) 9971
                obtain ⟨ov, hO⟩ : ∃ ov, ov = powm (en U4 c c) 9971 := ⟨_, rfl⟩
                obtain ⟨V0, hV0⟩ : ∃ V0, V0 = en U4 c c := ⟨_, rfl⟩
                have CP : Hid (∀ w, Calls Tryd.prog 72 #[.int .i64 V0, .int .i64 9971] w fun e w' => e = .returned (.int .i64 ov) ∧ w = w') := fun w => by rw [hO, hV0]; exact R_Pow_any 9971 9971 _ w (Nat.le_refl _) (by omega) m0
                rw [← hO] at hov
                have HOV := Lib.hid hO
                have HV0 := Lib.hid hV0
                clear hO m0 hV0
                have hb4' := hb4
                go_loopw [14] (fun v wr => ∃ (q : Nat) (U5 L5 : List (List Int)), c + 1 ≤ q ∧ q ≤ k ∧ v = .int .i64 q ∧ OwMD wr w.heap.size 32 3 gU DU4 CU4 k cu U5 ∧ OwMD wr w3.heap.size 32 3 gL DL4 CL4 k cl L5 ∧ OwI wr w3.heap.size 3 (some ⟨go, 0, none⟩) k cq o4 ∧
                  Hid (IsR k k U5 (upP U4 c q 0)) ∧ Hid (IsR k k L5 (lowP U4 L4 c q)) ∧ Below w.heap.size w wr) (fun v _ => k - (intOf v).toNat)
                case atStart => exact ⟨c + 1, U4, L4, Nat.le_refl _, by omega, by go_num, hU4, hL4, hO4, ⟨HI.out.dU, fun r j _ _ => by unfold upP; rw [if_neg (by omega)]⟩, ⟨HI.out.dL, fun r t _ _ => by unfold lowP; rw [if_neg (by omega)]⟩, hb4'⟩
                case round =>
                  clear hU4 hL4 hO4 hb4 hb4'
                  obtain ⟨q, U5, L5, hq1, hq2, rfl, hU, hL, hO, hiU, hiL, hb⟩ := hrel
                  by_cases hqk : q < k
                  · have x1 := hU.cellO hqk
                    rw [hiU.out.1.2 q hqk] at x1
                    have x2 := hU.cellI hqk (j := c) (by rw [hiU.out.1.2 q hqk]; exact hck)
                    have e1 : en U5 q c = en U4 q c := by rw [hiU.out.2 q c hqk hck]; unfold upP; rw [if_neg (by omega)]
                    rw [e1] at x2
                    have y1 := hU.cellO hck
                    rw [hiU.out.1.2 c hck] at y1
                    have y2 := hU.cellI hck (j := c) (by rw [hiU.out.1.2 c hck]; exact hck)
                    have e2 : en U5 c c = V0 := by rw [hiU.out.2 c c hck hck]; unfold upP; rw [if_neg (by omega), HV0.out]
                    rw [e2] at y2
                    have m1 := HI.out.eU q c hqk hck
                    have p1 := mul_bd m1 hov
                    obtain ⟨T, hT⟩ : ∃ T, T = en U4 q c * ov := ⟨_, rfl⟩
                    rw [← hT] at p1
                    have u1 : IntKind.i64.wrap (en U4 q c * ov) = T := by rw [hT]; exact Go.IntWalk.i64_in _ (by omega)
                    have b5 : (q : Int) < (k : Int) := by omega
                    have hby : T % 9973 = byE U4 c q := by unfold byE; rw [hT, HOV.out]
                    have HBY := Lib.hid hby
                    have hyb : 0 ≤ T % 9973 ∧ T % 9973 ≤ 9972 := by omega
                    clear e1 e2 hT hby
                    go_wp2
                    go_quiet ((first | (go_at_call 72; exact quietW (CP.out _)) | (go_at_call 47; exact quietW (R_Mod_any _ _ (by omega) (by omega)))))
                    clear x1 x2 y1 y2 u1
                    replace hU := hU.drewN nq
                    replace hL := hL.drewN nq
                    replace hO := hO.drewN nq
                    replace hb := below_drewN hb nq
                    generalize wr.drewN nq = wq at *
                    have x3 := hL.cellO hqk
                    rw [hiL.out.1.2 q hqk] at x3
                    have x4 := hL.cellI hqk (j := c) (by rw [hiL.out.1.2 q hqk]; exact hck)
                    have x5 := hL.frozenI hqk (by rw [hiL.out.1.2 q hqk]; omega) c
                    have hlD := (hL.lowI hqk)
                    have hLn := hL.set HM.out.ne (j := c) hqk (T % 9973)
                    have hlO := hL.lowO
                    have hUn := hU.setElse (p := ⟨DL4 q, c, none⟩) (by have := hBU2.out.1; simp; omega) (fun r hr => by have := hBU2.out.2 r hr; simp; omega) (.int .i64 (T % 9973))
                    have hOn := hO.setElse (p := ⟨DL4 q, c, none⟩) (by have := hBL2.out.2 q hqk; simp; exact this) (.int .i64 (T % 9973))
                    have hbn := hb.setCell (p := ⟨DL4 q, c, none⟩) (Nat.le_trans hs3 hlD.1) (.int .i64 (T % 9973))
                    have hiLn : Hid (IsR k k (setE L5 q c (T % 9973)) (lowP U4 L4 c (q + 1))) := ⟨hiL.out.1.setE _ _ _, fun r t h1 h2 => by
                      rw [hiL.out.1.en_set _ h1 h2]
                      by_cases e : q = r ∧ c = t
                      · rw [if_pos e, HBY.out]
                        unfold lowP
                        rw [if_pos (by omega), e.1]
                      · rw [if_neg e, hiL.out.2 r t h1 h2]
                        unfold lowP
                        by_cases e2 : c < r ∧ r < q ∧ t = c
                        · rw [if_pos e2, if_pos (by omega)]
                        · rw [if_neg e2, if_neg (by omega)]⟩
                    go_wp2
                    clear x3 x4 x5 hU hL hO hb hiL hlD hlO m1 p1
                    generalize wq.setCell ⟨DL4 q, c, none⟩ (.int .i64 (T % 9973)) = w8 at *
                    generalize setE L5 q c (T % 9973) = L6 at *
                    obtain ⟨by_, hB⟩ : ∃ by_, by_ = T % 9973 := ⟨_, rfl⟩
                    rw [← hB] at hyb ⊢
                    have HB2 : Hid (by_ = byE U4 c q) := by unfold Hid; rw [hB, HBY.out]
                    clear hB HBY
                    go_loopw [16] (fun v wt => ∃ (s : Nat) (U6 : List (List Int)), s ≤ k ∧ v = .int .i64 s ∧ OwMD wt w.heap.size 32 3 gU DU4 CU4 k cu U6 ∧ OwMD wt w3.heap.size 32 3 gL DL4 CL4 k cl L6 ∧ OwI wt w3.heap.size 3 (some ⟨go, 0, none⟩) k cq o4 ∧ Hid (IsR k k U6 (upP U4 c q s)) ∧ Below w.heap.size w wt) (fun v _ => k - (intOf v).toNat)
                    case atStart => exact ⟨0, U5, Nat.zero_le _, rfl, hUn, hLn, hOn, hiU, hbn⟩
                    case round =>
                      clear hUn hLn hOn hiU hbn
                      obtain ⟨s, U6, hs, rfl, hU, hL, hO, hiU, hb⟩ := hrel
                      by_cases hsk : s < k
                      · have x1 := hU.cellO hqk
                        have x4 := hU.cellO hck
                        rw [hiU.out.1.2 q hqk] at x1
                        rw [hiU.out.1.2 c hck] at x4
                        have x2 := hU.cellI hqk (j := s) (by rw [hiU.out.1.2 q hqk]; exact hsk)
                        have x5 := hU.cellI hck (j := s) (by rw [hiU.out.1.2 c hck]; exact hsk)
                        have x3 := hU.frozenI hqk (by rw [hiU.out.1.2 q hqk]; omega) s
                        have e1 : en U6 q s = en U4 q s := by rw [hiU.out.2 q s hqk hsk]; unfold upP; rw [if_neg (by omega)]
                        have e2 : en U6 c s = en U4 c s := by rw [hiU.out.2 c s hck hsk]; unfold upP; rw [if_neg (by omega)]
                        rw [e1] at x2
                        rw [e2] at x5
                        have m2 := HI.out.eU q s hqk hsk
                        have m3 := HI.out.eU c s hck hsk
                        have p1 := mul_bd hyb m3
                        obtain ⟨Z, hZ⟩ : ∃ Z, Z = by_ * en U4 c s := ⟨_, rfl⟩
                        rw [← hZ] at p1
                        have u1 : IntKind.i64.wrap (by_ * en U4 c s) = Z := by rw [hZ]; exact Go.IntWalk.i64_in _ (by omega)
                        have u2 : IntKind.i64.wrap (en U4 q s - Z) = en U4 q s - Z := Go.IntWalk.i64_in _ (by omega)
                        have b6 : (s : Int) < (k : Int) := by omega
                        have hlO := hL.lowO.1
                        have hlD := fun r (hr : r < k) => (hL.lowI hr).1
                        have hgo := hO.own.lt go rfl
                        have hDq := hBU2.out.2 q hqk
                        have hLn := (hL.setElse (p := ⟨DU4 q, s, none⟩) (by simp; omega) (fun r hr => by have := hlD r hr; simp; omega) (.int .i64 ((en U4 q s - Z) % 9973))).drew
                        have hOn := (hO.setElse (p := ⟨DU4 q, s, none⟩) (by simp; omega) (.int .i64 ((en U4 q s - Z) % 9973))).drew
                        have HZ := Lib.hid hZ
                        clear hZ e1 e2 hlO hlD hgo
                        go_wp2
                        go_still_tail 24, (by kernel_rfl)
                        still_call (stillW (R_Mod_any _ _ (by omega) (by omega)))
                        repeat still_step
                        refine wpStill_nil ?_
                        change wpList _ _ _ _ _ wr.drew
                        clear u1 u2
                        go_wp2
                        go_roundw
                        case rel => exact ⟨s + 1, _, by omega, by go_num, (hU.set HM.out.ne hqk _).drew, hLn, hOn, ⟨hiU.out.1.setE _ _ _, fun r j h1 h2 => by
                          rw [hiU.out.1.en_set _ h1 h2]
                          by_cases e : q = r ∧ s = j
                          · rw [if_pos e]
                            unfold upP
                            rw [if_pos (by omega), ← e.1, ← e.2, HZ.out, HB2.out]
                          · rw [if_neg e, hiU.out.2 r j h1 h2]
                            unfold upP
                            by_cases e2 : c < r ∧ (r < q ∨ (r = q ∧ j < s))
                            · rw [if_pos e2, if_pos (by omega)]
                            · rw [if_neg e2, if_neg (by omega)]⟩, (hb.setCell (p := ⟨DU4 q, s, none⟩) (hU.lowI hqk).1 _).drew⟩
                        case measure => simp [intOf]; omega
                      · obtain rfl : s = k := by omega
                        go_wp2
                        go_roundw
                        case rel => exact ⟨q + 1, U6, L6, by omega, by omega, by go_num, hU, hL, hO, hiU.out.congr fun r j h1 h2 => by
                          unfold upP
                          by_cases e : c < r ∧ (r < q ∨ (r = q ∧ j < s))
                          · rw [if_pos e, if_pos (by omega)]
                          · rw [if_neg e, if_neg (by omega)], hiLn, hb⟩
                        case measure => simp [intOf]; omega
                  · obtain rfl : q = k := by omega
                    have HE : Hid (LI2 q M (c + 1) U5 L5 o4) := HI.out.elim2 hck HPN.out (hiL.out.congr fun r t h1 _ => by
                      unfold lowP
                      by_cases e : c < r ∧ t = c
                      · rw [if_pos (by omega), if_pos e]
                      · rw [if_neg (by omega), if_neg e]) (hiU.out.congr fun r j h1 _ => by
                      unfold upP
                      by_cases e : c < r
                      · rw [if_pos (by omega), if_pos e]
                      · rw [if_neg (by omega), if_neg e])
                    go_wp2
                    go_roundw
                    case rel => exact ⟨c + 1, DU4, CU4, DL4, CL4, U5, L5, o4, by omega, by go_num, hU, hL, hO, hBU2, hBL2, HE.out, hb⟩
                    case measure => simp [intOf]; omega
            · obtain rfl : i = k := by omega
              have z2 : ((i : Int) == (i : Int)) = true := beq_iff_eq.2 rfl
              go_wp2
              go_roundw
              case rel => exact ⟨c + 1, DU, CU, DL, CL, U, L, o, by omega, by go_num, hU, hL, hO, hBU, hBL, hi.out.pass2 hz.out, hb⟩
              case measure => simp [intOf]; omega
        · obtain rfl : c = k := by omega
          go_wp2
          go_loopw [17] (fun v wr => ∃ (q : Nat) (L5 : List (List Int)), q ≤ c ∧ v = .int .i64 q ∧ OwMD wr w.heap.size 32 3 gU DU CU c cu U ∧ OwMD wr w3.heap.size 32 3 gL DL CL c cl L5 ∧ OwI wr w3.heap.size 3 (some ⟨go, 0, none⟩) c cq o ∧ Hid (IsR c c L5 (fun r t => if r = t ∧ r < q then 1 else en L r t)) ∧ Below w.heap.size w wr) (fun v _ => c - (intOf v).toNat)
          case atStart => exact ⟨0, L, Nat.zero_le _, rfl, hU, hL, hO, ⟨hi.out.dL, fun r t _ _ => by dsimp only; rw [if_neg (by omega)]⟩, hb⟩
          case round =>
            clear hU hL hO hb
            obtain ⟨q, L5, hq, rfl, hU, hL, hO, hiL, hb⟩ := hrel
            by_cases hqk : q < c
            · have x3 := hL.cellO hqk
              rw [hiL.out.1.2 q hqk] at x3
              have x4 := hL.cellI hqk (j := q) (by rw [hiL.out.1.2 q hqk]; exact hqk)
              have x5 := hL.frozenI hqk (by rw [hiL.out.1.2 q hqk]; omega) q
              have b5 : (q : Int) < (c : Int) := by omega
              have hlD := hL.lowI hqk
              have hLn := hL.set HM.out.ne (j := q) hqk 1
              have hUn := hU.setElse (p := ⟨DL q, q, none⟩) (by have := hBU.out.1; simp; omega) (fun r hr => by have := hBU.out.2 r hr; simp; omega) (.int .i64 1)
              have hgo := hO.own.lt go rfl
              have hOn := hO.setElse (p := ⟨DL q, q, none⟩) (by have := hBL.out.2 q hqk; simp; exact this) (.int .i64 1)
              have hbn := hb.setCell (p := ⟨DL q, q, none⟩) (Nat.le_trans hs3 hlD.1) (.int .i64 1)
              go_wp2
              go_roundw
              case rel => exact ⟨q + 1, _, by omega, by go_num, hUn, hLn, hOn, ⟨hiL.out.1.setE _ _ _, fun r t h1 h2 => by
                rw [hiL.out.1.en_set _ h1 h2]
                by_cases e : q = r ∧ q = t
                · rw [if_pos e]; dsimp only; rw [if_pos (by omega)]
                · rw [if_neg e, hiL.out.2 r t h1 h2]; dsimp only
                  by_cases e2 : r = t ∧ r < q
                  · rw [if_pos e2, if_pos (by omega)]
                  · rw [if_neg e2, if_neg (by omega)]⟩, hbn⟩
              case measure => simp [intOf]; omega
            · obtain rfl : q = c := by omega
              have HF := hi.out.fin2 (hiL.out.congr fun r t h1 _ => by
                by_cases e : r = t
                · rw [if_pos ⟨e, h1⟩, if_pos e]
                · rw [if_neg fun x => e x.1, if_neg e])
              go_wp2
              (try simp only [Exit.inBlock, Exit.then])
              refine bodyPost_ret (three_results rfl _ _ _) rfl ?_
              exact ⟨_, cq, _, cl, _, cu, U, L5, o, rfl, hO.mono hs3, hL.toM.mono hs3, hU.toM, HF, hb⟩
end Go.Proofs.YtkielldinghmbaaDoor
namespace Go.Proofs.YtkielldinghmbaaDoor
open Go.RowKit Go.Rk

set_option maxHeartbeats 4000000 in
set_option maxRecDepth 100000 in
theorem luSays_walk {a : Option Addr} {n ca : Nat} {M : List (List Int)} {w : World} (hg : ErrT w) (hM : RdM w a n ca M) (_ : ∀ r ∈ M, Fit r) :
    Calls Tryd.prog 5 #[.slice a n ca] w fun e w' => e = .returned (.bool true) ∧ Below w.heap.size w w' := by
  have lm := hM.len_max
  rcases hq : squareR 5 0 9972 M with _ | x
  · obtain ⟨g1, g2⟩ := squareR_grounds hq
    have GM := Good.of hM.len_eq g1
    rw [g2, hM.len_eq] at GM
    have C0 : Hid (Calls Tryd.prog 34 #[.slice a n ca, .int .i64 5, .int .i64 0, .int .i64 9972] w fun e w' => e = .returned (.int .i64 0) ∧ Below w.heap.size w w') := by
      have := R_Square_any 5 0 9972 hM
      rw [hq] at this
      exact this
    have HG := Lib.hid GM
    clear hq g1 g2 GM
    go_enter Tryd.func5, Tryd.ntmps5
    go_wp2_with (first | (go_at_call 34; (with_reducible refine C0.out.mono ?_); rintro e w1 ⟨rfl, kk⟩) | (go_at_call 35; fail))
    refine (M_Split_any (hM.below kk) HG.out).mono ?_
    rintro e w2 ⟨ao, co, al, cl, au, cu, U, L, o, rfl, ho, hL, hU, hF, b2⟩
    replace kk := below_tr kk b2
    have HF := Lib.hid hF
    have ho1 := ho.rd
    have hL1 := hL.rd
    have hU1 := hU.rd
    clear b2 ho hL hU hF C0
    go_wp2_with (go_at_call 36; fail)
    refine (Split_ok2 (hM.below kk) HG.out).mono ?_
    rintro e w3 ⟨ao2, co2, al2, cl2, au2, cu2, U2, L2, o2, rfl, ho, hL, hU, hF, b3⟩
    replace kk := below_tr kk b3
    have ho2 := ho.rd
    have hL2 := hL.rd
    have hU2 := hU.rd
    have HE := Lib.hid (hF.same2 HF.out)
    replace ho1 := ho1.below b3
    replace hL1 := hL1.below b3
    replace hU1 := hU1.below b3
    clear b3 ho hL hU hF HF
    go_wp2_with (go_at_call 17; fail)
    refine (E_nil0 (hg.below kk)).mono ?_
    rintro e w4 ⟨rfl, b4⟩
    replace kk := below_tr kk b4
    replace hL1 := hL1.below b4
    replace hU1 := hU1.below b4
    replace hL2 := hL2.below b4
    replace hU2 := hU2.below b4
    replace ho1 := ho1.below b4
    replace ho2 := ho2.below b4
    clear b4
    go_wp2_with (go_at_call 32; fail)
    refine (Ints_eq ho2 ho1 HE.out.2.2).mono ?_
    rintro e w5 ⟨rfl, b5⟩
    replace kk := below_tr kk b5
    replace hL1 := hL1.below b5
    replace hU1 := hU1.below b5
    replace hL2 := hL2.below b5
    replace hU2 := hU2.below b5
    clear b5 ho1 ho2
    go_wp2_with (go_at_call 21; fail)
    refine (Rows_eq hL2 hL1 HE.out.2.1).mono ?_
    rintro e w6 ⟨rfl, b6⟩
    replace kk := below_tr kk b6
    replace hU1 := hU1.below b6
    replace hU2 := hU2.below b6
    clear b6 hL1 hL2
    go_wp2_with (go_at_call 21; fail)
    refine (Rows_eq hU2 hU1 HE.out.1).mono ?_
    rintro e w7 ⟨rfl, b7⟩
    replace kk := below_tr kk b7
    clear b7
    go_wp2
    go_ret
    exact ⟨rfl, kk⟩
  · have C0 : Hid (Calls Tryd.prog 34 #[.slice a n ca, .int .i64 5, .int .i64 0, .int .i64 9972] w fun e w' => e = .returned (.int .i64 x) ∧ Below w.heap.size w w') := by
      have := R_Square_any 5 0 9972 hM
      rw [hq] at this
      exact this
    have z0 : (x == 0) = false := beq_eq_false_iff_ne.2 (squareR_nz hq)
    have HQ := Lib.hid hq
    clear hq
    go_enter Tryd.func5, Tryd.ntmps5
    go_wp2_with (first | (go_at_call 34; (with_reducible refine C0.out.mono ?_); rintro e w1 ⟨rfl, kk⟩) | (go_at_call 36; fail))
    refine (Split_err (hM.below kk) HQ.out).mono ?_
    rintro e w2 ⟨rfl, rfl⟩
    go_wp2_with (go_at_call 17; fail)
    refine (E_same (hg.below kk)).mono ?_
    rintro e w4 ⟨rfl, b4⟩
    replace kk := below_tr kk b4
    clear b4
    go_wp2_with (go_at_call 32; fail)
    refine (Ints_none _).mono ?_
    rintro e w5 ⟨rfl, b5⟩
    replace kk := below_tr kk b5
    clear b5
    go_wp2_with (go_at_call 21; fail)
    refine (Rows_none _).mono ?_
    rintro e w6 ⟨rfl, b6⟩
    replace kk := below_tr kk b6
    clear b6
    go_wp2_with (go_at_call 21; fail)
    refine (Rows_none _).mono ?_
    rintro e w7 ⟨rfl, b7⟩
    replace kk := below_tr kk b7
    clear b7
    go_wp2
    go_ret
    exact ⟨rfl, kk⟩
end Go.Proofs.YtkielldinghmbaaDoor
