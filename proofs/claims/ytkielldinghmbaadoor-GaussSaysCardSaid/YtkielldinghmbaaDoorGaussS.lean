/-
  gauss.steps, gauss.Steps and gauss.Rank walked.
-/
import Derived.Test.YtkielldinghmbaaDoorRows
import Derived.Test.YtkielldinghmbaaDoorLib
import Derived.Test.YtkielldinghmbaaDoorNum
import Derived.Test.YtkielldinghmbaaDoorGauss
import Derived.Test.YtkielldinghmbaaDoorGaussW
import Derived.Test.YtkielldinghmbaaDoorMatLaw
namespace Go.Proofs.YtkielldinghmbaaDoor
open Go.RowKit Go.Rk

set_option maxHeartbeats 4000000 in
set_option maxRecDepth 100000 in
theorem steps_any {a : Option Addr} {n c ca : Nat} {M : List (List Int)} {w : World} (hM : RdM w a n ca M) (G : Good n c M) :
    Calls Tryd.prog 73 #[.slice a n ca] w fun e w' => ∃ ao co ap cp P ps, e = .returned (.tuple #[.slice ao n co, .slice ap ps.length cp]) ∧ OwM w' w.heap.size 32 3 ao n co P ∧ OwI w' w.heap.size 3 ap ps.length cp ps ∧ GInv n c (mx M) c P ps ∧ Below w.heap.size w w' := by
  have n1 := G.n1
  have c1 := G.c1
  have S0 := Lib.hid (GInv.start G.dm G.ent)
  have HM := Lib.hid matTy
  have C1 := Lib.hid (Copy_any hM (by omega) fun r hr => by rw [G.dm.2 r hr]; omega)
  obtain ⟨ba, oa, hz, hba, hra⟩ := hM.at (k := 0) (by omega)
  subst hz
  obtain ⟨ai, ci, hc0, _⟩ := hra 0 (by omega)
  rw [Nat.add_zero, G.r0] at hc0
  have HG := Lib.hid G
  clear hra G
  go_enter Tryd.func73, Tryd.ntmps73
  go_wp2_with (go_at_call 67; fail)
  (with_reducible refine C1.out.mono ?_)
  clear C1
  rintro e w3 ⟨a3, cap3, rfl, ho3, hb3⟩
  obtain ⟨g, D, C, hz, hd3⟩ := ho3.named (by omega) fun r hr => by rw [HG.out.dm.2 r hr]; omega
  subst hz
  have hc0 := hb3.keep hba hc0
  have hlt : Hid (g < w3.heap.size ∧ ∀ i, i < n → D i < w3.heap.size) := ⟨hd3.lowO.2, fun i hi => (hd3.lowI hi).2⟩
  have b1 : (0 : Int) < (n : Int) := by omega
  have b2 : (1 : Int) ≤ (n : Int) := by omega
  clear ho3
  go_wp2
  clear hc0
  go_loopw [5, 15] (fun vp v wr => ∃ (q : Nat) (D C : Nat → Nat) (P : List (List Int)) (ps : List Int) (ap : Option Addr) (cp : Nat), q ≤ c ∧ v = .int .i64 q ∧ vp = .slice ap ps.length cp ∧ OwMD wr w.heap.size 32 3 g D C n cap3 P ∧ OwI wr w3.heap.size 3 ap ps.length cp ps ∧ Hid (g < w3.heap.size ∧ ∀ i, i < n → D i < w3.heap.size) ∧ Hid (GInv n c (mx M) q P ps) ∧ w3.heap.size ≤ wr.heap.size ∧ Below w.heap.size w wr) (fun _ v _ => c - (intOf v).toNat)
  case atStart => exact ⟨0, D, C, M, [], none, 0, Nat.zero_le _, rfl, rfl, hd3, OwI.nil _ _ _, hlt, S0, Nat.le_refl _, hb3⟩
  case round =>
    clear hd3 hlt S0
    obtain ⟨q, D, C, P, ps, ap, cp, hq, rfl, rfl, hd, hp, hl, hi, hs, hb⟩ := hrel
    have hle := hi.out.st.le
    by_cases hqc : q < c
    · go_wp2
      go_loop [5, 8] (fun vp v => ∃ k : Nat, ps.length ≤ k ∧ k ≤ n ∧ v = .int .i64 k ∧ vp = .slice ap ps.length cp ∧ Hid (∀ i, ps.length ≤ i → i < k → en P i q = 0)) (fun _ v => n - (intOf v).toNat)
      case atStart => exact ⟨ps.length, Nat.le_refl _, hle, rfl, rfl, fun i h1 h2 => absurd h2 (by omega)⟩
      case round =>
        obtain ⟨k, hk1, hk2, rfl, rfl, hz⟩ := hrel
        by_cases hkn : k < n
        · have x1 := hd.cellO hkn
          rw [hi.out.dm.2 k hkn] at x1
          have x2 := hd.cellI hkn (j := q) (by rw [hi.out.dm.2 k hkn]; exact hqc)
          have b3 : (k : Int) < (n : Int) := by omega
          have b4 : (q : Int) < (c : Int) := by omega
          by_cases hp0 : en P k q = 0
          · have z1 : (en P k q != 0) = false := bne_eq_false_iff_eq.2 hp0
            have HP := Lib.hid hp0
            clear hp0
            go_wp2
            go_round
            case rel => exact ⟨k + 1, by omega, by omega, by go_num, rfl, fun i h1 h2 => by
              rcases Nat.lt_or_ge i k with h3 | h3
              · exact hz.out i h1 h3
              · obtain rfl : i = k := by omega
                exact HP.out⟩
            case measure => simp [intOf]; omega
          · have z1 : (en P k q != 0) = true := bne_iff_ne.2 hp0
            have HP := Lib.hid hp0
            clear hp0
            have hrn : ps.length < n := by omega
            have b5 : (ps.length : Int) < (n : Int) := by omega
            have y1 := hd.cellO hrn
            rw [hi.out.dm.2 _ hrn] at y1
            have f1 := hd.frozenO k
            have f2 := hd.frozenO ps.length
            have hsw := hd.swap HM.out.ne hrn hkn
            rw [hi.out.dm.2 k hkn, hi.out.dm.2 _ hrn] at hsw
            have y3 : (wr.setCell ⟨g, ps.length, none⟩ (.slice (some ⟨D k, 0, none⟩) c (C k))).cell? ⟨g, k, none⟩ = some (.slice (some ⟨D k, 0, none⟩) c (C k)) := by
              by_cases e : k = ps.length
              · subst e; exact World.cell?_setCell_same _ _ _ y1
              · rw [World.cell?_setCell_other _ _ _ _ (by first | (simp; done) | (simp; exact fun h => e h.symm))]; exact x1
            have hisw := hi.out.swap hk1 hkn
            have hpne : en (swapL P ps.length k) ps.length q ≠ 0 := by
              rw [en_swap hi.out.dm hrn hkn]
              by_cases e : ps.length = k
              · rw [if_pos e, e]; exact HP.out
              · rw [if_neg e, if_pos rfl]; exact HP.out
            have HI := Lib.hid hisw
            have HPN := Lib.hid hpne
            have hbs := ((hb.setCell (p := ⟨g, ps.length, none⟩) hd.lowO.1 (.slice (some ⟨D k, 0, none⟩) c (C k))).setCell (p := ⟨g, k, none⟩) hd.lowO.1 (.slice (some ⟨D ps.length, 0, none⟩) c (C ps.length))).drew
            have hps : OwI ((wr.setCell ⟨g, ps.length, none⟩ (.slice (some ⟨D k, 0, none⟩) c (C k))).setCell ⟨g, k, none⟩ (.slice (some ⟨D ps.length, 0, none⟩) c (C ps.length))).drew w3.heap.size 3 ap ps.length cp ps := by
              refine ⟨hp.len_eq, ownsRow_same hp.own fun b hbk => ?_⟩
              have hbl := hp.own.lt b hbk
              have hg' := hl.out.1
              show (((wr.setCell _ _).setCell _ _).heap)[b]? = _
              rw [Below.heap_setCell _ _ _ _ (by show b ≠ g; omega), Below.heap_setCell _ _ _ _ (by show b ≠ g; omega)]
            have hl2 : Hid (g < w3.heap.size ∧ ∀ i, i < n → swapF D ps.length k i < w3.heap.size) := ⟨hl.out.1, fun i hi => by
              unfold swapF
              (repeat' split) <;> exact hl.out.2 _ (by assumption)⟩
            have hss : w3.heap.size ≤ (((wr.setCell ⟨g, ps.length, none⟩ (.slice (some ⟨D k, 0, none⟩) c (C k))).setCell ⟨g, k, none⟩ (.slice (some ⟨D ps.length, 0, none⟩) c (C ps.length))).drew).heap.size := by simpa using hs
            have hsw2 := hsw.drew
            clear hisw hpne
            go_wp2
            go_region
            clear x1 x2 y1 y3 f1 f2 hsw hd hp hl hi hb hz HP
            generalize ((wr.setCell ⟨g, ps.length, none⟩ (.slice (some ⟨D k, 0, none⟩) c (C k))).setCell ⟨g, k, none⟩ (.slice (some ⟨D ps.length, 0, none⟩) c (C ps.length))).drew = w4 at *
            generalize swapF D ps.length k = D4 at *
            generalize swapF C ps.length k = C4 at *
            generalize swapL P ps.length k = P4 at *
            have C5 := Lib.hid (clear_any hsw2 HI.out.dm HI.out.ent hrn hqc (by omega) (by omega))
            go_wp2_with (go_at_call 87; fail)
            (with_reducible refine C5.out.mono ?_)
            clear C5
            rintro e w5 ⟨rfl, P5, hd5, hi5, hk5, hb5⟩
            have HI5 := Lib.hid (HI.out.clear hrn hqc HPN.out hi5)
            have hp5 := hps.keptBut hk5 hl2.out.2
            have hs5 : w3.heap.size ≤ w5.heap.size := Nat.le_trans hss hk5.1
            have hbb5 := hbs.trans hb5
            clear hps hsw2 hi5 hk5 hb5 hbs hss HI HPN
            have hl5 := hp5.len_eq
            go_wp2_with (at_builtin; refine wpList_push_int HM.out.int rfl (.tmp 53) (.tmp 55) rfl rfl rfl (hp5.alloc _) (z := (q : Int)) (by simp) (by decide) (by decide) (by omega) (by simp; omega) ?_; intro a6 cap6 w6 ho6 hg6)
            have hle6 : (ps ++ [(q : Int)]).length = ps.length + 1 := by simp
            have hd6 := (hd5.alloc (.cells #[.int .i64 (q : Int)] 3)).grownPast hg6 (fun r e => (hp5.own.lt r e).1) hl2.out.1 hl2.out.2
            have hb6 := (hbb5.alloc hbb5.size (.cells #[.int .i64 (q : Int)] 3)).grown hg6 (by have := hbb5.size; simp; omega) (fun r e => Nat.le_trans hb3.size (hp5.own.lt r e).1)
            have hs6 : w3.heap.size ≤ w6.heap.size := by have := hg6.size; simp at this; omega
            rw [← hle6] at ho6
            go_roundw
            case rel => exact ⟨q + 1, D4, C4, P5, ps ++ [(q : Int)], a6, cap6, by omega, by go_num, by rw [hle6], hd6, ho6, hl2, HI5.out, hs6, hb6⟩
            case measure => simp [intOf]; omega
        · obtain rfl : k = n := by omega
          go_wp2
          go_roundw
          case rel => exact ⟨q + 1, D, C, P, ps, ap, cp, by omega, by go_num, rfl, hd, hp, hl, hi.out.pass hz.out, hs, hb⟩
          case measure => simp [intOf]; omega
    · obtain rfl : q = c := by omega
      go_wp2
      go_ret2
      exact ⟨_, cap3, ap, cp, P, ps, rfl, hd.toM, hp.mono hb3.size, hi.out, hb⟩

section
variable {a : Option Addr} {n c ca : Nat} {M : List (List Int)} {w : World}
theorem Steps_err {x : Int} (hM : RdM w a n ca M) (hq : groundsR 5 0 9972 M = some x) :
    Calls Tryd.prog 31 #[.slice a n ca] w fun e w' => e = .returned (.tuple #[.slice none 0 0, .slice none 0 0, .iface 70 (.int .i64 x)]) ∧ w = w' := by
  have C := Lib.hid (mat_Check_is hM hq)
  clear hq
  go_enter Tryd.func31, Tryd.ntmps31
  go_wp2_with (go_at_call 18; (with_reducible refine C.out.mono ?_); rintro e w' ⟨rfl, rfl⟩; simp only [errV])
  go_ret3
  exact ⟨rfl, rfl⟩
theorem Steps_ok (hM : RdM w a n ca M) (G : Good n c M) :
    Calls Tryd.prog 31 #[.slice a n ca] w fun e w' => ∃ ao co ap cp P ps, e = .returned (.tuple #[.slice ao n co, .slice ap ps.length cp, .nilIface]) ∧ OwM w' w.heap.size 32 3 ao n co P ∧ OwI w' w.heap.size 3 ap ps.length cp ps ∧ GInv n c (mx M) c P ps ∧ Below w.heap.size w w' := by
  have C := Lib.hid (mat_Check_is hM G.gr)
  have C2 := Lib.hid (steps_any hM G)
  go_enter Tryd.func31, Tryd.ntmps31
  go_wp2_with (first | (go_at_call 18; (with_reducible refine C.out.mono ?_); rintro e w' ⟨rfl, rfl⟩; simp only [errV]) | (go_at_call 73; (with_reducible refine C2.out.mono ?_); rintro e w2 ⟨ao, co, ap, cp, P, ps, rfl, h1, h2, h3, h4⟩))
  go_ret3
  exact ⟨ao, co, ap, cp, P, ps, rfl, h1, h2, h3, h4⟩
theorem Rank_err {x : Int} (hM : RdM w a n ca M) (hq : groundsR 5 0 9972 M = some x) :
    Calls Tryd.prog 33 #[.slice a n ca] w fun e w' => e = .returned (.tuple #[.int .i64 0, .iface 70 (.int .i64 x)]) ∧ w = w' := by
  have C := Lib.hid (mat_Check_is hM hq)
  clear hq
  go_enter Tryd.func33, Tryd.ntmps33
  go_wp2_with (go_at_call 18; (with_reducible refine C.out.mono ?_); rintro e w' ⟨rfl, rfl⟩; simp only [errV])
  go_ret2
  exact ⟨rfl, rfl⟩
theorem Rank_ok (hM : RdM w a n ca M) (G : Good n c M) :
    Calls Tryd.prog 33 #[.slice a n ca] w fun e w' => ∃ P ps, e = .returned (.tuple #[.int .i64 (List.length ps), .nilIface]) ∧ GInv n c (mx M) c P ps ∧ Below w.heap.size w w' := by
  have C := Lib.hid (mat_Check_is hM G.gr)
  have C2 := Lib.hid (steps_any hM G)
  go_enter Tryd.func33, Tryd.ntmps33
  go_wp2_with (first | (go_at_call 18; (with_reducible refine C.out.mono ?_); rintro e w' ⟨rfl, rfl⟩; simp only [errV]) | (go_at_call 73; (with_reducible refine C2.out.mono ?_); rintro e w2 ⟨ao, co, ap, cp, P, ps, rfl, h1, h2, h3, h4⟩))
  go_ret2
  exact ⟨P, ps, rfl, h3, h4⟩
end
end Go.Proofs.YtkielldinghmbaaDoor
