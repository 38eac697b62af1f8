/-
  gauss.steps, gauss.Steps and gauss.Rank walked.
  The closed fact of the statements on determinants.
  mat.Turn walked: the transpose.
  DetMul walked: the determinant of a product is the product; turned a matrix has the same.
  mat.one, mat.One and mat.Pow walked.
  mat.Pow where something is wrong; the closed fact of the statements on matrices.
  The closed fact of the statements on steps; and that steps are one form.
  The references' To (a matrix taken to a row), Unit, Pow walked.
-/
import Derived.Test.YtkielldinghmbaaDoorRows
import Derived.StillTailTactics
import Derived.Deep.QuietTactic
import Derived.BigQuiet
import Derived.Test.YtkielldinghmbaaDoorMgSolveSaysF0
import Derived.Test.YtkielldinghmbaaDoorMgSolveSaysF1
import Derived.Test.YtkielldinghmbaaDoorMgSolveSaysF2
import Derived.Test.YtkielldinghmbaaDoorMgSolveSaysF4
import Derived.Test.YtkielldinghmbaaDoorMgSolveSaysF5
import Derived.Test.YtkielldinghmbaaDoorMgSolveSaysF6
import Derived.Test.YtkielldinghmbaaDoorMgSolveSaysF7
namespace Go.Proofs.YtkielldinghmbaaDoor
open Go.RowKit Go.Rk

set_option maxHeartbeats 4000000 in
set_option maxRecDepth 100000 in
theorem steps_any {a : Option Addr} {n c ca : Nat} {M : List (List Int)} {w : World} (hM : RdM w a n ca M) (G : Good n c M) :
    Calls Tryd.prog 73 #[.slice a n ca] w fun e w' => ∃ ao co ap cp P ps, e = .returned (.tuple #[.slice ao n co, .slice ap ps.length cp]) ∧ OwM w' w.heap.size 32 3 ao n co P ∧ OwI w' w.heap.size 3 ap ps.length cp ps ∧ GInv n c (mx M) c P ps ∧ Below w.heap.size w w' := by
  have n1 := G.n1
  have c1 := G.c1
  have S0 := Lib.hid (GInv.start G.dm G.ent)
  have HM := Lib.hid matTy
  have C1 := Lib.hid (Copy_any hM (by omega) fun r hr => by rw [G.dm.2 r hr]; omega)
  obtain ⟨ba, oa, hz, hba, hra⟩ := hM.at (k := 0) (by omega)
  subst hz
  obtain ⟨ai, ci, hc0, _⟩ := hra 0 (by omega)
  rw [Nat.add_zero, G.r0] at hc0
  have HG := Lib.hid G
  clear hra G
  go_enter Tryd.func73, Tryd.ntmps73
  go_wp2_with (go_at_call 67; fail)
  (with_reducible refine C1.out.mono ?_)
  clear C1
  rintro e w3 ⟨a3, cap3, rfl, ho3, hb3⟩
  obtain ⟨g, D, C, hz, hd3⟩ := ho3.named (by omega) fun r hr => by rw [HG.out.dm.2 r hr]; omega
  subst hz
  have hc0 := hb3.keep hba hc0
  have hlt : Hid (g < w3.heap.size ∧ ∀ i, i < n → D i < w3.heap.size) := ⟨hd3.lowO.2, fun i hi => (hd3.lowI hi).2⟩
  have b1 : (0 : Int) < (n : Int) := by omega
  have b2 : (1 : Int) ≤ (n : Int) := by omega
  clear ho3
  go_wp2
  clear hc0
  go_loopw [5, 15] (fun vp v wr => ∃ (q : Nat) (D C : Nat → Nat) (P : List (List Int)) (ps : List Int) (ap : Option Addr) (cp : Nat), q ≤ c ∧ v = .int .i64 q ∧ vp = .slice ap ps.length cp ∧ OwMD wr w.heap.size 32 3 g D C n cap3 P ∧ OwI wr w3.heap.size 3 ap ps.length cp ps ∧ Hid (g < w3.heap.size ∧ ∀ i, i < n → D i < w3.heap.size) ∧ Hid (GInv n c (mx M) q P ps) ∧ w3.heap.size ≤ wr.heap.size ∧ Below w.heap.size w wr) (fun _ v _ => c - (intOf v).toNat)
  case atStart => exact ⟨0, D, C, M, [], none, 0, Nat.zero_le _, rfl, rfl, hd3, OwI.nil _ _ _, hlt, S0, Nat.le_refl _, hb3⟩
  case round =>
    clear hd3 hlt S0
    obtain ⟨q, D, C, P, ps, ap, cp, hq, rfl, rfl, hd, hp, hl, hi, hs, hb⟩ := hrel
    have hle := hi.out.st.le
    by_cases hqc : q < c
    · go_wp2
      go_loop [5, 8] (fun vp v => ∃ k : Nat, ps.length ≤ k ∧ k ≤ n ∧ v = .int .i64 k ∧ vp = .slice ap ps.length cp ∧ Hid (∀ i, ps.length ≤ i → i < k → en P i q = 0)) (fun _ v => n - (intOf v).toNat)
      case atStart => exact ⟨ps.length, Nat.le_refl _, hle, rfl, rfl, fun i h1 h2 => absurd h2 (by omega)⟩
      case round =>
        obtain ⟨k, hk1, hk2, rfl, rfl, hz⟩ := hrel
        by_cases hkn : k < n
        · have x1 := hd.cellO hkn
          rw [hi.out.dm.2 k hkn] at x1
          have x2 := hd.cellI hkn (j := q) (by rw [hi.out.dm.2 k hkn]; exact hqc)
          have b3 : (k : Int) < (n : Int) := by omega
          have b4 : (q : Int) < (c : Int) := by omega
          by_cases hp0 : en P k q = 0
          · have z1 : (en P k q != 0) = false := bne_eq_false_iff_eq.2 hp0
            have HP := Lib.hid hp0
            clear hp0
            go_wp2
            go_round
            case rel => exact ⟨k + 1, by omega, by omega, by go_num, rfl, fun i h1 h2 => by
              rcases Nat.lt_or_ge i k with h3 | h3
              · exact hz.out i h1 h3
              · obtain rfl : i = k := by omega
                exact HP.out⟩
            case measure => simp [intOf]; omega
          · have z1 : (en P k q != 0) = true := bne_iff_ne.2 hp0
            have HP := Lib.hid hp0
            clear hp0
            have hrn : ps.length < n := by omega
            have b5 : (ps.length : Int) < (n : Int) := by omega
            have y1 := hd.cellO hrn
            rw [hi.out.dm.2 _ hrn] at y1
            have f1 := hd.frozenO k
            have f2 := hd.frozenO ps.length
            have hsw := hd.swap HM.out.ne hrn hkn
            rw [hi.out.dm.2 k hkn, hi.out.dm.2 _ hrn] at hsw
            have y3 : (wr.setCell ⟨g, ps.length, none⟩ (.slice (some ⟨D k, 0, none⟩) c (C k))).cell? ⟨g, k, none⟩ = some (.slice (some ⟨D k, 0, none⟩) c (C k)) := by
              by_cases e : k = ps.length
              · subst e; exact World.cell?_setCell_same _ _ _ y1
              · rw [World.cell?_setCell_other _ _ _ _ (by first | (simp; done) | (simp; exact fun h => e h.symm))]; exact x1
            have hisw := hi.out.swap hk1 hkn
            have hpne : en (swapL P ps.length k) ps.length q ≠ 0 := by
              rw [en_swap hi.out.dm hrn hkn]
              by_cases e : ps.length = k
              · rw [if_pos e, e]; exact HP.out
              · rw [if_neg e, if_pos rfl]; exact HP.out
            have HI := Lib.hid hisw
            have HPN := Lib.hid hpne
            have hbs := ((hb.setCell (p := ⟨g, ps.length, none⟩) hd.lowO.1 (.slice (some ⟨D k, 0, none⟩) c (C k))).setCell (p := ⟨g, k, none⟩) hd.lowO.1 (.slice (some ⟨D ps.length, 0, none⟩) c (C ps.length))).drew
            have hps : OwI ((wr.setCell ⟨g, ps.length, none⟩ (.slice (some ⟨D k, 0, none⟩) c (C k))).setCell ⟨g, k, none⟩ (.slice (some ⟨D ps.length, 0, none⟩) c (C ps.length))).drew w3.heap.size 3 ap ps.length cp ps := by
              refine ⟨hp.len_eq, ownsRow_same hp.own fun b hbk => ?_⟩
              have hbl := hp.own.lt b hbk
              have hg' := hl.out.1
              show (((wr.setCell _ _).setCell _ _).heap)[b]? = _
              rw [Below.heap_setCell _ _ _ _ (by show b ≠ g; omega), Below.heap_setCell _ _ _ _ (by show b ≠ g; omega)]
            have hl2 : Hid (g < w3.heap.size ∧ ∀ i, i < n → swapF D ps.length k i < w3.heap.size) := ⟨hl.out.1, fun i hi => by
              unfold swapF
              (repeat' split) <;> exact hl.out.2 _ (by assumption)⟩
            have hss : w3.heap.size ≤ (((wr.setCell ⟨g, ps.length, none⟩ (.slice (some ⟨D k, 0, none⟩) c (C k))).setCell ⟨g, k, none⟩ (.slice (some ⟨D ps.length, 0, none⟩) c (C ps.length))).drew).heap.size := by simpa using hs
            have hsw2 := hsw.drew
            clear hisw hpne
            go_wp2
            go_region
            clear x1 x2 y1 y3 f1 f2 hsw hd hp hl hi hb hz HP
            generalize ((wr.setCell ⟨g, ps.length, none⟩ (.slice (some ⟨D k, 0, none⟩) c (C k))).setCell ⟨g, k, none⟩ (.slice (some ⟨D ps.length, 0, none⟩) c (C ps.length))).drew = w4 at *
            generalize swapF D ps.length k = D4 at *
            generalize swapF C ps.length k = C4 at *
            generalize swapL P ps.length k = P4 at *
            have C5 := Lib.hid (clear_any hsw2 HI.out.dm HI.out.ent hrn hqc (by omega) (by omega))
            go_wp2_with (go_at_call 87; fail)
            (with_reducible refine C5.out.mono ?_)
            clear C5
            rintro e w5 ⟨rfl, P5, hd5, hi5, hk5, hb5⟩
            have HI5 := Lib.hid (HI.out.clear hrn hqc HPN.out hi5)
            have hp5 := hps.keptBut hk5 hl2.out.2
            have hs5 : w3.heap.size ≤ w5.heap.size := Nat.le_trans hss hk5.1
            have hbb5 := hbs.trans hb5
            clear hps hsw2 hi5 hk5 hb5 hbs hss HI HPN
            have hl5 := hp5.len_eq
            go_wp2_with (at_builtin; refine wpList_push_int HM.out.int rfl (.tmp 53) (.tmp 55) rfl rfl rfl (hp5.alloc _) (z := (q : Int)) (by simp) (by decide) (by decide) (by omega) (by simp; omega) ?_; intro a6 cap6 w6 ho6 hg6)
            have hle6 : (ps ++ [(q : Int)]).length = ps.length + 1 := by simp
            have hd6 := (hd5.alloc (.cells #[.int .i64 (q : Int)] 3)).grownPast hg6 (fun r e => (hp5.own.lt r e).1) hl2.out.1 hl2.out.2
            have hb6 := (hbb5.alloc hbb5.size (.cells #[.int .i64 (q : Int)] 3)).grown hg6 (by have := hbb5.size; simp; omega) (fun r e => Nat.le_trans hb3.size (hp5.own.lt r e).1)
            have hs6 : w3.heap.size ≤ w6.heap.size := by have := hg6.size; simp at this; omega
            rw [← hle6] at ho6
            go_roundw
            case rel => exact ⟨q + 1, D4, C4, P5, ps ++ [(q : Int)], a6, cap6, by omega, by go_num, by rw [hle6], hd6, ho6, hl2, HI5.out, hs6, hb6⟩
            case measure => simp [intOf]; omega
        · obtain rfl : k = n := by omega
          go_wp2
          go_roundw
          case rel => exact ⟨q + 1, D, C, P, ps, ap, cp, by omega, by go_num, rfl, hd, hp, hl, hi.out.pass hz.out, hs, hb⟩
          case measure => simp [intOf]; omega
    · obtain rfl : q = c := by omega
      go_wp2
      go_ret2
      exact ⟨_, cap3, ap, cp, P, ps, rfl, hd.toM, hp.mono hb3.size, hi.out, hb⟩

section
variable {a : Option Addr} {n c ca : Nat} {M : List (List Int)} {w : World}
theorem Steps_err {x : Int} (hM : RdM w a n ca M) (hq : groundsR 5 0 9972 M = some x) :
    Calls Tryd.prog 31 #[.slice a n ca] w fun e w' => e = .returned (.tuple #[.slice none 0 0, .slice none 0 0, .iface 70 (.int .i64 x)]) ∧ w = w' := by
  have C := Lib.hid (mat_Check_is hM hq)
  clear hq
  go_enter Tryd.func31, Tryd.ntmps31
  go_wp2_with (go_at_call 18; (with_reducible refine C.out.mono ?_); rintro e w' ⟨rfl, rfl⟩; simp only [errV])
  go_ret3
  exact ⟨rfl, rfl⟩
theorem Steps_ok (hM : RdM w a n ca M) (G : Good n c M) :
    Calls Tryd.prog 31 #[.slice a n ca] w fun e w' => ∃ ao co ap cp P ps, e = .returned (.tuple #[.slice ao n co, .slice ap ps.length cp, .nilIface]) ∧ OwM w' w.heap.size 32 3 ao n co P ∧ OwI w' w.heap.size 3 ap ps.length cp ps ∧ GInv n c (mx M) c P ps ∧ Below w.heap.size w w' := by
  have C := Lib.hid (mat_Check_is hM G.gr)
  have C2 := Lib.hid (steps_any hM G)
  go_enter Tryd.func31, Tryd.ntmps31
  go_wp2_with (first | (go_at_call 18; (with_reducible refine C.out.mono ?_); rintro e w' ⟨rfl, rfl⟩; simp only [errV]) | (go_at_call 73; (with_reducible refine C2.out.mono ?_); rintro e w2 ⟨ao, co, ap, cp, P, ps, rfl, h1, h2, h3, h4⟩))
  go_ret3
  exact ⟨ao, co, ap, cp, P, ps, rfl, h1, h2, h3, h4⟩
theorem Rank_err {x : Int} (hM : RdM w a n ca M) (hq : groundsR 5 0 9972 M = some x) :
    Calls Tryd.prog 33 #[.slice a n ca] w fun e w' => e = .returned (.tuple #[.int .i64 0, .iface 70 (.int .i64 x)]) ∧ w = w' := by
  have C := Lib.hid (mat_Check_is hM hq)
  clear hq
  go_enter Tryd.func33, Tryd.ntmps33
  go_wp2_with (go_at_call 18; (with_reducible refine C.out.mono ?_); rintro e w' ⟨rfl, rfl⟩; simp only [errV])
  go_ret2
  exact ⟨rfl, rfl⟩
theorem Rank_ok (hM : RdM w a n ca M) (G : Good n c M) :
    Calls Tryd.prog 33 #[.slice a n ca] w fun e w' => ∃ P ps, e = .returned (.tuple #[.int .i64 (List.length ps), .nilIface]) ∧ GInv n c (mx M) c P ps ∧ Below w.heap.size w w' := by
  have C := Lib.hid (mat_Check_is hM G.gr)
  have C2 := Lib.hid (steps_any hM G)
  go_enter Tryd.func33, Tryd.ntmps33
  go_wp2_with (first | (go_at_call 18; (with_reducible refine C.out.mono ?_); rintro e w' ⟨rfl, rfl⟩; simp only [errV]) | (go_at_call 73; (with_reducible refine C2.out.mono ?_); rintro e w2 ⟨ao, co, ap, cp, P, ps, rfl, h1, h2, h3, h4⟩))
  go_ret2
  exact ⟨P, ps, rfl, h3, h4⟩
end
end Go.Proofs.YtkielldinghmbaaDoor
namespace Go.Proofs.YtkielldinghmbaaDoor
open Go.RowKit Go.Rk

end Go.Proofs.YtkielldinghmbaaDoor
namespace Go.Proofs.YtkielldinghmbaaDoor
open Go.RowKit Go.Shelf Go.Rk
attribute [local go_sem] Oper.semAt_some

theorem Turn_err {a : Option Addr} {n ca : Nat} {A : List (List Int)} {w : World} {x : Int} (hA : RdM w a n ca A) (hq : groundsR 5 0 9972 A = some x) :
    Calls Tryd.prog 20 #[.slice a n ca] w fun e w' => e = .returned (.tuple #[.slice none 0 0, .iface 70 (.int .i64 x)]) ∧ w = w' := by
  have C := Lib.hid (mat_Check_is hA hq)
  clear hq
  go_enter Tryd.func20, Tryd.ntmps20
  go_wp2_with (go_at_call 18; refine C.out.mono ?_; rintro e w' ⟨rfl, rfl⟩; simp only [errV])
  go_ret2
  exact ⟨rfl, rfl⟩

set_option maxRecDepth 100000 in
set_option maxHeartbeats 4000000 in
theorem Turn_ok {a : Option Addr} {n ca c : Nat} {A : List (List Int)} {w : World} (hA : RdM w a n ca A) (hq : groundsR 5 0 9972 A = none) (dA : Dm n c A) (hn : 1 ≤ n ∧ n ≤ 5) (hc : 1 ≤ c ∧ c ≤ 5) :
    Calls Tryd.prog 20 #[.slice a n ca] w fun e w' => ∃ a' cap' P, e = .returned (.tuple #[.slice a' c cap', .nilIface]) ∧ OwM w' w.heap.size 32 3 a' c cap' P ∧ IsR c n P (fun i j => en A j i) ∧ Below w.heap.size w w' := by
  have HM := Lib.hid matTy
  have HDA := Lib.hid dA
  have C := Lib.hid (mat_Check_is hA hq)
  clear hq
  refine (callsIn_wide (n := 6)).1 ?_
  refine callsIn_of_wp_marks Tryd.func20 rfl trivial ?_ rfl
  simp only [Tryd.ntmps20, List.size_toArray, List.length_cons, List.length_nil, Nat.reduceAdd, Nat.reduceSub, Array.replicate_succ, Array.replicate_zero, List.push_toArray, List.append_toArray, List.nil_append, List.cons_append]
  refine wpIn_wide.2 ?_
  obtain ⟨bb, ob, D0, O0, C0, rfl, hbb, hD0, hGA⟩ := hA.grid dA (by omega) (by omega)
  have hc0 := hGA.hdr 0 (by omega)
  rw [Nat.add_zero] at hc0
  have b1 : (0 : Int) < (n : Int) := by omega
  have b2 : (1 : Int) ≤ (n : Int) := by omega
  go_wp2_with (first | (go_at_call 18; refine C.out.mono ?_; rintro e w' ⟨rfl, rfl⟩; simp only [errV]) | (go_at_call 64; refine (Grid_any c n _ (by omega) (by omega)).mono ?_; rintro e w3 ⟨a3, cap3, rfl, ho3, hb3⟩) | (go_at_call 65; fail))
  have k3 := hb3.alloc hb3.size (.cells #[.slice a3 c cap3] 22)
  obtain ⟨g, D, C, hz, hd3⟩ := ho3.named (by omega) fun r hr => by rw [(Dm.replicate c n 0).2 r hr]; omega
  cases hz
  have hd4 := hd3.alloc (.cells #[.slice (some ⟨g, 0, none⟩) c cap3] 22)
  have px : (w3.alloc (.cells #[.slice (some ⟨g, 0, none⟩) c cap3] 22)).cell? ⟨w3.heap.size, 0, none⟩ = some (.slice (some ⟨g, 0, none⟩) c cap3) := by simp
  clear hd3 ho3 hb3 hc0
  generalize (w3.alloc (.cells #[.slice (some ⟨g, 0, none⟩) c cap3] 22)) = W4 at *
  generalize w3.heap.size = PO at *
  refine (callsIn_wide.1 (each_in 0 (some ⟨bb, ob, none⟩) n ca W4)).mono ?_
  rintro e w' ⟨rfl, rfl⟩
  go_wp2_with fail
  refine (wpIn_wide (n := 6)).1 ?_
  have hd5 := hd4.alloc (.cells #[.slice (some ⟨bb, ob, none⟩) n ca] 22)
  have hBm : (W4.alloc (.cells #[.slice (some ⟨bb, ob, none⟩) n ca] 22)).cell? ⟨W4.heap.size, 0, none⟩ = some (.slice (some ⟨bb, ob, none⟩) n ca) := by simp
  have hBl : W4.heap.size < (W4.alloc (.cells #[.slice (some ⟨bb, ob, none⟩) n ca] 22)).heap.size := by simp
  have k5 := k3.alloc k3.size (.cells #[.slice (some ⟨bb, ob, none⟩) n ca] 22)
  have q5 := alloc_keep (o := .cells #[.slice (some ⟨bb, ob, none⟩) n ca] 22) px
  have h5w := k5.size
  have hG5 := hGA.below k5 hbb hD0
  clear px k3
  refine wpIn_rangeFunc_ownH rfl (by decide) (gf := 85) (lb := #[.pointer (some ⟨W4.heap.size, 0, none⟩)]) rfl trivial (enters_of Tryd.func85 (by kernel_rfl) rfl)
    (each_stops 5 (cap := ca) (by omega) (by omega) _ hBm hBl hG5 (Nat.lt_of_lt_of_le hbb h5w) (fun r hr => Nat.lt_of_lt_of_le (hD0 r hr) h5w)) (fun h h' g => h' (h g)) (fun W l o o' _ h1 h2 _ g => g.passes (grownBy_putObj' W l o') (fun r e => by cases e; exact ⟨o, h1, h2⟩)) (Below.refl _ _) (fun _ => rfl)
    (fun pre W => (∃ P, OwMD W w.heap.size 32 3 g D C c cap3 P ∧ Dm c n P ∧ ∀ p ∈ plcs pre, en P p.2 p.1 = en A p.1 p.2) ∧ W.cell? ⟨PO, 0, none⟩ = some (.slice (some ⟨g, 0, none⟩) c cap3) ∧ Below w.heap.size w W)
    (fun _ _ _ => False)
    (fun s X Y row hs hgr hr => ⟨let ⟨P, e1, e2, e3⟩ := hs.1; ⟨P, e1.passes hgr (fun r e => (hr r e).2), e2, e3⟩, cell_kept hs.2.1 hgr (fun r e => (hr r e).2), hs.2.2.grown hgr hs.2.2.size (fun r e => Nat.le_trans h5w (hr r e).1)⟩)
    (fun _ _ _ _ _ hs _ _ => hs)
    ⟨⟨_, hd5, Dm.replicate c n 0, fun p hp => by cases hp⟩, q5, k5⟩
    (fun x a' W => ∃ Bx, W.cell? ⟨Bx, 0, none⟩ = some (.int .i64 (x.1.1 : Int)) ∧ W.cell? ⟨Bx, 1, none⟩ = some (.int .i64 (x.1.2.1 : Int)) ∧ a' = { tmps := #[Value.slice (some { block := bb, off := ob }) n ca, undef, Value.slice none 0 0, Value.nilIface, Value.nilIface, Value.pointer (some { block := PO, off := 0 }), Value.pointer (some { block := Bx, off := 0 }), .int .i64 x.1.2.2, Value.slice (some { block := bb, off := ob }) n ca, Value.nilIface, Value.nilIface, Value.bool false, undef, Value.slice (some { block := bb, off := ob }) n ca, Value.pointer (some { block := bb, off := ob }), Value.slice (some { block := D0 0, off := O0 0 }) c (C0 0), Value.int IntKind.i64 ↑c, Value.slice (some { block := bb, off := ob }) n ca, Value.int IntKind.i64 ↑n, Value.slice (some { block := g, off := 0 }) c cap3, Value.slice (some { block := bb, off := ob }) n ca, Value.func (.func 85) #[] #[Value.pointer (some { block := W4.heap.size, off := 0 })], .agg #[.int .i64 (x.1.1 : Int), .int .i64 (x.1.2.1 : Int)], .int .i64 x.1.2.2, undef, undef, undef, undef, undef, undef, undef, undef, undef, undef], defers := [] })
    (fun x a' _ X Y row hs hgr hr => let ⟨Bx, e1, e2, e3⟩ := hs; ⟨Bx, cell_kept e1 hgr (fun r e => (hr r e).2), cell_kept e2 hgr (fun r e => (hr r e).2), e3⟩)
    ?assign ?body ?done ?stop
  case assign =>
    rintro l pre x W K ⟨⟨P, e1, e2, e3⟩, c3, hbW⟩ hK
    dsimp only [encP]
    gi_wp2
    exact hK _ _ ((KeepsOthers.alloc _ _).from _) (fun g => g.fresh ((Below.refl _ _).alloc (Nat.le_refl _) _)) ⟨⟨P, e1.alloc _, e2, e3⟩, alloc_keep c3, hbW.alloc hbW.size _⟩ ⟨W.heap.size, by simp, by simp, rfl⟩
  case body =>
    rintro l pre ⟨⟨i, j, v⟩, hi, hj, hv⟩ a' W hl ⟨r, hr⟩ ⟨⟨P, e1, e2, e3⟩, c3, hbW⟩ ⟨Bx, y1, y2, rfl⟩ hlt
    clear hBm hBl q5 hd4 hd5
    dsimp only at y1 y2 hi hj hv ⊢
    have a1 := e1.cellO hj
    have a2 := e1.cellI hj (j := i) (by rw [e2.2 j hj]; exact hi)
    have a3 := e1.frozenI hj (by rw [e2.2 j hj]; omega) i
    rw [e2.2 j hj] at a1
    have i1 : (i : Int) < (n : Int) := by omega
    have i2 : (j : Int) < (c : Int) := by omega
    gi_wp2
    refine region_round_tail 9 (by kernel_rfl) (by kernel_rfl) (fun ⟨_, _, h⟩ => h) (by kernel_rfl) ?_
    simp only [List.take_succ_cons, List.take_zero, List.drop_succ_cons, List.drop_zero]
    repeat still_step
    refine wpStill_nil ?_
    change wpList _ _ _ _ _ W.drew
    go_wp2
    refine ⟨((KeepsOthers.setCell _ _ _).trans (KeepsOthers.drew _)).from _, fun g => g.below (((Below.refl w.heap.size W).setCell (p := ⟨D j, i, none⟩) (e1.lowI hj).1 _).drew) hbb hD0, ⟨_, (e1.set matTy.ne hj _).drew, e2.setE _ _ _, fun p hp => ?_⟩, set_keepS c3 a2, (hbW.setCell (p := ⟨D j, i, none⟩) (e1.lowI hj).1 _).drew⟩
    rw [plcs_snoc] at hp
    have hpl : p.1 < n ∧ p.2 < c := by
      rcases List.mem_append.1 hp with h | h
      · exact plcs_in h
      · cases List.mem_singleton.1 h
        exact ⟨hi, hj⟩
    rw [e2.en_set _ hpl.2 hpl.1]
    split
    · next h => rw [← h.1, ← h.2]
    · next h =>
      rcases List.mem_append.1 hp with h2 | h2
      · exact e3 p h2
      · cases List.mem_singleton.1 h2
        exact absurd ⟨rfl, rfl⟩ h
  case done =>
    rintro Dd ys W hDd hS ⟨⟨P, e1, e2, e3⟩, c3, hbW⟩ hK
    go_wp2
    refine ⟨by simp, .inl ⟨_, _, rfl, run_takeDeferred hK, ?_⟩⟩
    have hgr := grownBy_putObj' W Dd (.deferred none)
    have hno : ∀ r, some Dd = some r → ∃ o : Obj, W.heap[r]? = some o ∧ o.isCells = false := fun r e => by cases e; exact ⟨_, hK, rfl⟩
    exact ⟨_, results_tmp2 rfl _ _ _, _, _, P, rfl, (e1.passes hgr hno).toM, ⟨e2, fun i j hi hj => e3 (j, i) (by rw [hS]; exact locs_mem hj hi)⟩, hbW.grown hgr hbW.size (fun r e => by cases e; exact Nat.le_trans h5w hDd)⟩
  case stop =>
    rintro D c pre W _ _ h _
    exact h.elim
end Go.Proofs.YtkielldinghmbaaDoor
namespace Go.Proofs.YtkielldinghmbaaDoor
open Go.RowKit Go.Rk

theorem squareR_grounds {most lo hi : Int} {M : List (List Int)} (h : squareR most lo hi M = none) : groundsR most lo hi M = none ∧ (rowOf M 0).length = M.length := by
  unfold squareR at h
  split at h
  · next h1 =>
    split at h
    · next h2 => exact ⟨h1, h2.symm⟩
    · cases h
  · next h1 => exact absurd h h1

/-- The determinant of the product, by the prime. -/
theorem det_prod {n : Nat} {A B P : List (List Int)} (h : IsR n n P (fun i j => mulE A B n i j % 9973)) : det n (mx P) % 9973 = (det n (mx A) % 9973) * (det n (mx B) % 9973) % 9973 := by
  have e : Eqm (det n (mx P)) (det n (mulM n (mx A) (mx B))) := det_eqm fun i j hi hj => by
    show Eqm (en P i j) _
    rw [h.2 i j hi hj]
    exact Int.emod_emod_of_dvd _ (Int.dvd_refl _)
  rw [det_mul] at e
  rw [e, Int.mul_emod]

theorem det_turned {n : Nat} {A P : List (List Int)} (h : IsR n n P (fun i j => en A j i)) : det n (mx P) = det n (mx A) := by
  rw [← det_tr (mx A)]
  exact det_congr fun i j hi hj => h.2 i j hi hj

end Go.Proofs.YtkielldinghmbaaDoor
namespace Go.Proofs.YtkielldinghmbaaDoor
open Go.RowKit Go.Rk

set_option maxHeartbeats 1000000 in
theorem one_any (n : Nat) (w : World) (h1 : 1 ≤ n) (h2 : n ≤ 1000) :
    Calls Tryd.prog 71 #[.int .i64 n] w fun e w' => ∃ a' cap' P, e = .returned (.slice a' n cap') ∧ OwM w' w.heap.size 32 3 a' n cap' P ∧ IsR n n P oneM ∧ Below w.heap.size w w' := by
  go_enter Tryd.func71, Tryd.ntmps71
  go_wp2_with (go_at_call 64; refine (Grid_any n n _ (by omega) (by omega)).mono ?_; rintro e w3 ⟨a3, cap3, rfl, ho3, hb3⟩)
  obtain ⟨g, D, C, hz, hd3⟩ := ho3.named (by omega) fun r hr => by rw [(Dm.replicate n n 0).2 r hr]; omega
  cases hz
  have h0 : ∀ i j, i < n → j < n → en (List.replicate n (List.replicate n (0 : Int))) i j = 0 := fun i j hi hj => by
    unfold en
    rw [rowOf_lt (by simp; exact hi), ix_lt (by simp; exact hj)]
    simp
  clear ho3
  go_loopw [10] (fun v wr => ∃ (k : Nat) (P : List (List Int)), k ≤ n ∧ v = .int .i64 k ∧ OwMD wr w.heap.size 32 3 g D C n cap3 P ∧ Hid (IsR n n P (fun i j => if i = j ∧ i < k then 1 else 0)) ∧ Below w.heap.size w wr) (fun v _ => n - (intOf v).toNat)
  case atStart => exact ⟨0, _, Nat.zero_le _, rfl, hd3, ⟨Dm.replicate n n 0, fun i j hi hj => by rw [h0 i j hi hj]; simp⟩, hb3⟩
  case round =>
    obtain ⟨k, P, hk, rfl, hd, hi, hb⟩ := hrel
    by_cases hlt : k < n
    · have a1 := hd.cellO hlt
      have a2 := hd.cellI hlt (j := k) (by rw [hi.out.1.2 k hlt]; exact hlt)
      have a3 := hd.frozenI hlt (by rw [hi.out.1.2 k hlt]; omega) k
      rw [hi.out.1.2 k hlt] at a1
      have b1 : (k : Int) < (n : Int) := by omega
      go_wp2
      go_roundw
      case rel => exact ⟨k + 1, _, by omega, by go_num, hd.set matTy.ne hlt 1, ⟨hi.out.1.setE _ _ _, fun i j h3 h4 => by
        rw [hi.out.1.en_set _ h3 h4]
        by_cases e : k = i ∧ k = j
        · rw [if_pos e]; dsimp only; rw [if_pos ⟨by omega, by omega⟩]
        · rw [if_neg e, hi.out.2 i j h3 h4]; dsimp only
          by_cases e2 : i = j ∧ i < k
          · rw [if_pos e2, if_pos ⟨e2.1, by omega⟩]
          · rw [if_neg e2, if_neg fun e3 => by omega]⟩, hb.setCell (p := ⟨D k, k, none⟩) (hd.lowI hlt).1 _⟩
      case measure => simp [intOf]; omega
    · obtain rfl : k = n := by omega
      go_wp2
      go_ret
      exact ⟨_, cap3, P, rfl, hd.toM, hi.out.congr fun i j h3 h4 => by
        unfold oneM
        by_cases e : i = j
        · simp only [e, if_true]; rw [if_pos ⟨trivial, by omega⟩]
        · simp [e], hb⟩

theorem One_any (n : Nat) (w : World) (h1 : 1 ≤ n) (h2 : n ≤ 5) :
    Calls Tryd.prog 29 #[.int .i64 n] w fun e w' => ∃ a' cap' P, e = .returned (.tuple #[.slice a' n cap', .nilIface]) ∧ OwM w' w.heap.size 32 3 a' n cap' P ∧ IsR n n P oneM ∧ Below w.heap.size w w' := by
  have HO : Hid (outB (n : Int) 1 5 = false) := by unfold Hid outB; simp; omega
  go_enter Tryd.func29, Tryd.ntmps29
  go_wp2_with (first | (go_at_call 70; refine (out_any _ _ _ _).mono ?_; rintro e w' ⟨rfl, rfl⟩; rw [HO.out]) | (go_at_call 71; refine (one_any n _ h1 (by omega)).mono ?_; rintro e w3 ⟨a3, cap3, P, rfl, ho3, hi3, hb3⟩))
  go_ret2
  exact ⟨a3, cap3, P, rfl, ho3, hi3, hb3⟩

theorem mulE_sq {n : Nat} {X Y P : List (List Int)} (h : IsR n n P (fun i j => mulE X Y n i j % 9973)) : (Dm n n P ∧ EntR 0 9972 n n P) ∧ EqM n n (mx P) (mulM n (mx X) (mx Y)) :=
  ⟨⟨h.1, fun i j hi hj => by rw [h.2 i j hi hj]; dsimp only; omega⟩, fun i j hi hj => by
    show Eqm (en P i j) _
    rw [h.2 i j hi hj]
    exact Eqm.mod _⟩

/-- What is wrong with a power. -/
def powErr (A : List (List Int)) (e : Int) : Option Int :=
  match squareR 5 0 9972 A with
  | some x => some x
  | none => if outB e 0 1000 then some 1 else none

set_option maxRecDepth 100000 in
set_option maxHeartbeats 2000000 in
theorem Pow_ok {a : Option Addr} {n ca e : Nat} {A : List (List Int)} {w : World} (hA : RdM w a n ca A) (hq : squareR 5 0 9972 A = none) (he : e ≤ 1000) :
    Calls Tryd.prog 28 #[.slice a n ca, .int .i64 e] w fun x w' => ∃ a' cap' P, x = .returned (.tuple #[.slice a' n cap', .nilIface]) ∧ OwM w' w.heap.size 32 3 a' n cap' P ∧ IsR n n P (fun i j => powM n (mx A) e i j % 9973) ∧ Below w.heap.size w w' := by
  obtain ⟨g1, g2⟩ := squareR_grounds hq
  have C1 := Lib.hid (mat_Check_is hA g1)
  have e1 := hA.len_eq
  obtain ⟨n1, _, dA, eA⟩ := grounds_dm e1 g1
  rw [e1] at g2
  rw [g2] at dA eA
  have HO : Hid (outB (e : Int) 0 1000 = false) := by unfold Hid outB; simp; omega
  have z1 : ((n : Int) != (n : Int)) = false := bne_eq_false_iff_eq.2 rfl
  obtain ⟨ba, oa, hz, _, hra⟩ := hA.at (k := 0) (by omega)
  subst hz
  obtain ⟨ai, ci, hc0, _⟩ := hra 0 (by omega)
  rw [Nat.add_zero, g2] at hc0
  have b1 : (0 : Int) < (n : Int) := by omega
  have b2 : (1 : Int) ≤ (n : Int) := by omega
  have HD := Lib.hid dA
  have HE := Lib.hid eA
  clear hq g1 g2 hra dA eA
  go_enter Tryd.func28, Tryd.ntmps28
  go_wp2_with (first | (go_at_call 18; (with_reducible refine C1.out.mono ?_); rintro e w' ⟨rfl, rfl⟩; simp only [errV]) | (go_at_call 70; refine (out_any _ _ _ _).mono ?_; rintro e w' ⟨rfl, rfl⟩; rw [HO.out]) | (go_at_call 71; refine (one_any n _ n1.1 (by omega)).mono ?_; rintro e w3 ⟨a3, cap3, P3, rfl, ho3, hi3, hb3⟩) | (go_at_call 67; fail))
  have C4 := Lib.hid (Copy_any (hA.below hb3) (by omega) fun r hr => by rw [HD.out.2 r hr]; omega)
  (with_reducible refine C4.out.mono ?_)
  clear C4
  rintro x w4 ⟨a4, cap4, rfl, ho4, hb4⟩
  have k4 := hb3.trans (hb4.mono hb3.size)
  have ho3 := ho3.below hb4
  have ho4 := ho4.mono hb3.size
  clear hb4
  go_wp2
  go_loopw [1, 7, 8] (fun ve vo vb wr => ∃ (e' : Nat) (ao ab : Option Addr) (co cb : Nat) (X Y : List (List Int)), e' ≤ e ∧ ve = .int .i64 e' ∧ vo = .slice ao n co ∧ vb = .slice ab n cb ∧ OwM wr w.heap.size 32 3 ao n co X ∧ OwM wr w.heap.size 32 3 ab n cb Y ∧
    Hid (Dm n n X ∧ EntR 0 9972 n n X) ∧ Hid (Dm n n Y ∧ EntR 0 9972 n n Y) ∧ Hid (EqM n n (mulM n (mx X) (powM n (mx Y) e')) (powM n (mx A) e)) ∧ Below w.heap.size w wr) (fun ve _ _ _ => (intOf ve).toNat)
  case atStart =>
    refine ⟨e, a3, a4, cap3, cap4, P3, A, Nat.le_refl _, rfl, rfl, rfl, ho3, ho4, ⟨hi3.1, fun i j hi hj => ?_⟩, ⟨HD.out, HE.out⟩, ?_, k4⟩
    · rw [hi3.2 i j hi hj]
      unfold oneM
      split <;> omega
    · intro i j hi hj
      refine (EqM.mul (n := n) (A' := oneM) (fun i j hi hj => Eqm.of_eq (hi3.2 i j hi hj)) (EqM.refl n n _) i j hi hj).trans (Eqm.of_eq (one_mulM _ hi j))
  case round =>
    obtain ⟨e', ao, ab, co, cb, X, Y, he', rfl, rfl, rfl, hX, hY, HX, HY, HI, hb⟩ := hrel
    by_cases h0 : 0 < e'
    · rcases Nat.mod_two_eq_zero_or_one e' with hp | hp
      · have hp' : ((e' : Int) % 2 == 1) = false := by simp; omega
        have Hp := Lib.hid hp
        have C5 := Lib.hid (mul_any hY.rd hY.rd HY.out.1 HY.out.1 HY.out.2 HY.out.2 ⟨n1.1, by omega⟩ ⟨n1.1, by omega⟩ ⟨n1.1, by omega⟩)
        clear hp
        go_wp2_with (go_at_call 69; fail)
        (with_reducible refine C5.out.mono ?_)
        clear C5
        rintro x w5 ⟨a5, cap5, P, rfl, ho5, hi5, hb5⟩
        have HP := Lib.hid (mulE_sq hi5)
        have hX5 := hX.below hb5
        have k5 := hb.trans (hb5.mono hb.size)
        go_wp2
        go_roundw
        case rel => exact ⟨e' / 2, ao, a5, co, cap5, X, P, by omega, by go_num, rfl, rfl, hX5, ho5.mono hb.size, HX, HP.out.1, by
          refine EqM.trans ?_ HI.out
          refine (EqM.mul (EqM.refl _ _ _) (powM_congr HP.out.2 _)).trans ((pow_even _ _ _).trans ?_)
          rw [show 2 * (e' / 2) = e' by have := Hp.out; omega]
          exact EqM.refl _ _ _, k5⟩
        case measure => simp [intOf]; omega
      · have hp' : ((e' : Int) % 2 == 1) = true := by simp; omega
        have Hp := Lib.hid hp
        have C5 := Lib.hid (mul_any hX.rd hY.rd HX.out.1 HY.out.1 HX.out.2 HY.out.2 ⟨n1.1, by omega⟩ ⟨n1.1, by omega⟩ ⟨n1.1, by omega⟩)
        clear hp
        go_wp2_with (go_at_call 69; fail)
        (with_reducible refine C5.out.mono ?_)
        clear C5
        rintro x w5 ⟨a5, cap5, P, rfl, ho5, hi5, hb5⟩
        have HP := Lib.hid (mulE_sq hi5)
        have hY5 := hY.below hb5
        have k5 := hb.trans (hb5.mono hb.size)
        have C6 := Lib.hid (mul_any hY5.rd hY5.rd HY.out.1 HY.out.1 HY.out.2 HY.out.2 ⟨n1.1, by omega⟩ ⟨n1.1, by omega⟩ ⟨n1.1, by omega⟩)
        go_wp2_with (go_at_call 69; fail)
        (with_reducible refine C6.out.mono ?_)
        clear C6
        rintro x w6 ⟨a6, cap6, R, rfl, ho6, hi6, hb6⟩
        have HR := Lib.hid (mulE_sq hi6)
        have hP6 := ho5.below hb6
        have k6 := k5.trans (hb6.mono k5.size)
        go_wp2
        go_roundw
        case rel => exact ⟨e' / 2, a5, a6, cap5, cap6, P, R, by omega, by go_num, rfl, rfl, hP6.mono hb.size, ho6.mono k5.size, HP.out.1, HR.out.1, by
          refine EqM.trans ?_ HI.out
          refine (EqM.mul HP.out.2 (powM_congr HR.out.2 _)).trans ((pow_odd _ _ _).trans ?_)
          rw [show 2 * (e' / 2) + 1 = e' by have := Hp.out; omega]
          exact EqM.refl _ _ _, k6⟩
        case measure => simp [intOf]; omega
    · obtain rfl : e' = 0 := by omega
      go_wp2
      go_ret2
      exact ⟨ao, co, X, rfl, hX, ⟨HX.out.1, fun i j hi hj => by
        have h1 := HX.out.2 i j hi hj
        have h2 := HI.out i j hi hj
        have h3 : mulM n (mx X) (powM n (mx Y) 0) i j = en X i j := mulM_one (mx X) i hj
        rw [h3] at h2
        unfold Eqm at h2
        dsimp only
        omega⟩, hb⟩
end Go.Proofs.YtkielldinghmbaaDoor
namespace Go.Proofs.YtkielldinghmbaaDoor
open Go.RowKit Go.Rk

set_option maxHeartbeats 1000000 in
theorem Pow_err {a : Option Addr} {n ca : Nat} {e : Int} {A : List (List Int)} {w : World} {x : Int} (hA : RdM w a n ca A) (hq : powErr A e = some x) :
    Calls Tryd.prog 28 #[.slice a n ca, .int .i64 e] w fun r w' => r = .returned (.tuple #[.slice none 0 0, .iface 70 (.int .i64 x)]) ∧ Below w.heap.size w w' := by
  rcases hg : groundsR 5 0 9972 A with _ | y
  · have C1 := Lib.hid (mat_Check_is hA hg)
    have e1 := hA.len_eq
    obtain ⟨n1, n2, dA, _⟩ := grounds_dm e1 hg
    obtain ⟨ba, oa, hz, _, hra⟩ := hA.at (k := 0) (by omega)
    subst hz
    obtain ⟨ai, ci, hc0, _⟩ := hra 0 (by omega)
    rw [Nat.add_zero] at hc0
    have b1 : (0 : Int) < (n : Int) := by omega
    have b2 : (1 : Int) ≤ (n : Int) := by omega
    by_cases hs : n = (rowOf A 0).length
    · have hq2 : squareR 5 0 9972 A = none := by unfold squareR; rw [if_pos hg, if_pos (by rw [e1]; exact hs)]
      unfold powErr at hq
      rw [hq2] at hq
      dsimp only at hq
      split at hq
      · next ho =>
        injection hq with hq
        subst hq
        rw [← hs] at hc0
        have z1 : ((n : Int) != (n : Int)) = false := bne_eq_false_iff_eq.2 rfl
        have HO := Lib.hid ho
        clear ho hg hq2 hra dA hs
        go_enter Tryd.func28, Tryd.ntmps28
        go_wp2_with (first | (go_at_call 18; (with_reducible refine C1.out.mono ?_); rintro e w' ⟨rfl, rfl⟩; simp only [errV]) | (go_at_call 70; refine (out_any _ _ _ _).mono ?_; rintro e w' ⟨rfl, rfl⟩; rw [HO.out]))
        go_ret2
        exact ⟨rfl, Below.refl _ _⟩
      · cases hq
    · have hq2 : squareR 5 0 9972 A = some 3 := by unfold squareR; rw [if_pos hg, if_neg (by rw [e1]; exact hs)]
      unfold powErr at hq
      rw [hq2] at hq
      dsimp only at hq
      injection hq with hq
      subst hq
      have z1 : ((n : Int) != ((rowOf A 0).length : Int)) = true := bne_iff_ne.2 (by omega)
      clear hg hq2 hra dA hs
      go_enter Tryd.func28, Tryd.ntmps28
      go_wp2_with (first | (go_at_call 18; (with_reducible refine C1.out.mono ?_); rintro e w' ⟨rfl, rfl⟩; simp only [errV]))
      go_ret2
      exact ⟨rfl, Below.refl _ _⟩
  · have hq2 : squareR 5 0 9972 A = some y := by unfold squareR; rw [hg]; rfl
    unfold powErr at hq
    rw [hq2] at hq
    dsimp only at hq
    injection hq with hq
    subst hq
    have C1 := Lib.hid (mat_Check_is hA hg)
    clear hg hq2
    go_enter Tryd.func28, Tryd.ntmps28
    go_wp2_with (first | (go_at_call 18; (with_reducible refine C1.out.mono ?_); rintro e w' ⟨rfl, rfl⟩; simp only [errV]))
    go_ret2
    exact ⟨rfl, Below.refl _ _⟩


end Go.Proofs.YtkielldinghmbaaDoor
namespace Go.Proofs.YtkielldinghmbaaDoor
open Go.RowKit Go.Rk

theorem _root_.Go.Rk.GInv.good {n c q : Nat} {A : Mx} {M : List (List Int)} {ps : List Int} (h : GInv n c A q M ps) (hn : 1 ≤ n ∧ n ≤ 5) (hc : 1 ≤ c ∧ c ≤ 5) : Good n c M := ⟨hn, hc, h.dm, h.ent⟩
theorem _root_.Go.Rk.GInv.fac {n c : Nat} {A : Mx} {M : List (List Int)} {ps : List Int} (h : GInv n c A c M ps) : Fac n c ps.length A := h.st.fac h.back
theorem _root_.Go.Rk.GInv.least {n c s : Nat} {A : Mx} {M : List (List Int)} {ps : List Int} (h : GInv n c A c M ps) (f : Fac n c s A) : ps.length ≤ s := h.st.no_less h.made f
theorem _root_.Go.Rk.GInv.same {n c : Nat} {A A' : Mx} {M M' : List (List Int)} {ps ps' : List Int} (h : GInv n c A c M ps) (g : GInv n c A' c M' ps') (m : Made n c A A') (m' : Made n c A' A) : M = M' ∧ ps = ps' := by
  obtain ⟨e1, e2, e3⟩ := h.st.unique g.st (h.back.trans (m.trans g.made)) (g.back.trans (m'.trans h.made))
  refine ⟨h.dm.ext g.dm fun i j hi hj => ?_, ix_ext e1 fun i hi => ?_⟩
  · have h1 := h.ent i j hi hj
    have h2 := g.ent i j hi hj
    have h3 : en M i j % 9973 = en M' i j % 9973 := e3 i j hi hj
    omega
  · have h1 := h.pos i hi
    have h2 := g.pos i (by omega)
    have h3 := e2 i hi
    omega

theorem gaussLit : Go.Rk.GInv 2 2 (mx [[0, 2], [0, 4]]) 2 [[0, 1], [0, 0]] [1] := by
  have two : ∀ {P : Nat → Nat → Prop}, P 0 0 → P 0 1 → P 1 0 → P 1 1 → ∀ i j, i < 2 → j < 2 → P i j := by
    intro P h0 h1 h2 h3 i j hi hj
    rcases (show i = 0 ∨ i = 1 by omega) with rfl | rfl <;> rcases (show j = 0 ∨ j = 1 by omega) with rfl | rfl <;> assumption
  refine ⟨⟨rfl, fun i hi => ?_⟩, two (by decide) (by decide) (by decide) (by decide), ⟨mx [[4987, 0], [-2, 1]], two (by unfold Eqm; decide) (by unfold Eqm; decide) (by unfold Eqm; decide) (by unfold Eqm; decide)⟩, ⟨mx [[2, 0], [4, 0]], two (by unfold Eqm; decide) (by unfold Eqm; decide) (by unfold Eqm; decide) (by unfold Eqm; decide)⟩,
    ⟨by decide, fun i hi => ?_, fun i j h1 h2 => ?_, fun i j h1 h2 => ?_, fun i s h1 h2 h3 => ?_, fun i s h1 h2 => ?_⟩, fun i hi => ?_⟩
  · rcases (show i = 0 ∨ i = 1 by omega) with rfl | rfl <;> rfl
  · obtain rfl : i = 0 := by simp at hi; omega
    decide
  · simp at h2; omega
  · obtain rfl : j = 0 := by simp at h2; omega
    rcases (show i = 0 ∨ i = 1 by omega) with rfl | rfl <;> (unfold Eqm; decide)
  · obtain rfl : i = 1 := by simp at h1; omega
    rcases (show s = 0 ∨ s = 1 by omega) with rfl | rfl <;> (unfold Eqm; decide)
  · obtain rfl : i = 0 := by simp at h1; omega
    have : (ix [1] 0).toNat = 1 := by decide
    rw [this] at h2
    obtain rfl : s = 0 := by omega
    unfold Eqm; decide
  · obtain rfl : i = 0 := by simp at hi; omega
    decide

end Go.Proofs.YtkielldinghmbaaDoor
namespace Go.Proofs.YtkielldinghmbaaDoor
open Go.RowKit Go.Rk

/-- What a matrix takes a row to, by the prime. -/
def toV (M : List (List Int)) (l : List Int) (c i : Nat) : Int := sumTo (fun j => en M i j * ix l j) c % 9973
def toN (M : List (List Int)) (l : List Int) (c n : Nat) : List Int := (List.range n).map fun i => toV M l c i
theorem toN_len (M : List (List Int)) (l : List Int) (c n : Nat) : (toN M l c n).length = n := by simp [toN]
theorem toN_ix {M : List (List Int)} {l : List Int} {c n i : Nat} (h : i < n) : ix (toN M l c n) i = toV M l c i := by rw [ix_lt (by rw [toN_len]; exact h)]; simp [toN]
theorem toN_succ (M : List (List Int)) (l : List Int) (c n : Nat) : toN M l c (n + 1) = toN M l c n ++ [toV M l c n] := by simp [toN, List.range_succ]
theorem toV_in (M : List (List Int)) (l : List Int) (c i : Nat) : 0 ≤ toV M l c i ∧ toV M l c i ≤ 9972 := by unfold toV; omega
theorem toV_step (M : List (List Int)) (l : List Int) (c i : Nat) : (toV M l c i + en M i c * ix l c) % 9973 = toV M l (c + 1) i := by
  unfold toV
  rw [sumTo, Int.emod_add_emod]
set_option maxHeartbeats 2000000 in
theorem To_any {a b : Option Addr} {n c ca cb : Nat} {M : List (List Int)} {l : List Int} {w : World} (hM : RdM w a n ca M) (d : Dm n c M) (he : EntR 0 9972 n c M) (hl : RdI w b c cb l) (hi : In 0 9972 l) (hn : n ≤ 1000) :
    Calls Tryd.prog 54 #[.slice a n ca, .slice b c cb] w fun e w' => ∃ a' cap', e = .returned (.slice a' n cap') ∧ OwI w' w.heap.size 3 a' n cap' (toN M l c n) ∧ Below w.heap.size w w' := by
  have HIT := Lib.hid intTy
  have HD := Lib.hid d
  have HE := Lib.hid he
  have HI := Lib.hid hi
  have hm := hl.len_max
  have hle := hl.len_eq
  clear d he hi
  go_enter Tryd.func54, Tryd.ntmps54
  go_wp2
  go_loopw [5, 6] (fun v x wr => ∃ (k : Nat) (q : Option Addr) (cq : Nat), k ≤ n ∧ x = .int .i64 k ∧ v = .slice q k cq ∧ OwI wr w.heap.size 3 q k cq (toN M l c k) ∧ Below w.heap.size w wr) (fun _ x _ => n - (intOf x).toNat)
  case atStart => exact ⟨0, none, 0, Nat.zero_le _, rfl, rfl, OwI.nil _ _ _, Below.refl _ _⟩
  case round =>
    obtain ⟨k, q, cq, hk, rfl, rfl, ho, hb⟩ := hrel
    obtain ⟨wo, hwo⟩ : ∃ wo, wo = wr := ⟨_, rfl⟩
    subst hwo
    by_cases hlt : k < n
    · have hlt' : (k : Int) < (n : Int) := by omega
      go_wp2
      go_loopw [7, 8] (fun s x wr => ∃ (t r : Nat) (S : Int), t ≤ c ∧ x = .int .i64 t ∧ s = .int .i64 S ∧ Hid (S = toV M l t k) ∧ Hid (wr = wo.drewN r)) (fun _ x _ => c - (intOf x).toNat)
      case atStart => exact ⟨0, 0, 0, Nat.zero_le _, rfl, rfl, rfl, (World.drewN_zero _).symm⟩
      case round =>
        obtain ⟨t, r, S, ht, rfl, rfl, HS, HW⟩ := hrel
        have bS : 0 ≤ S ∧ S ≤ 9972 := by rw [HS.out]; exact toV_in _ _ _ _
        have kr : Below wo.heap.size wo wr := by rw [HW.out]; exact below_drewN (Below.refl _ _) r
        have hb' := hb.trans (kr.mono hb.size)
        by_cases htc : t < c
        · obtain ⟨bm, om, rfl, _, hr⟩ := (hM.below hb').at hlt
          obtain ⟨ar, cr, hcr, hrd⟩ := hr k hlt
          rw [HD.out.2 k hlt] at hcr hrd
          obtain ⟨p, o, rfl, _, hx⟩ := hrd.at htc
          replace hx := hx t htc
          obtain ⟨p2, o2, rfl, _, hy⟩ := (hl.below hb').at htc
          replace hy := hy t htc
          have m1 := HE.out k t hlt htc
          have m2 := HI.out t (by rw [hle]; exact htc)
          rw [show ix (rowOf M k) t = en M k t from rfl] at hx
          have HT := Lib.hid (toV_step M l t k)
          generalize hX : en M k t = X at hx m1 HT
          generalize hY : ix l t = Y at hy m2 HT
          have m3 : 0 ≤ X * Y ∧ X * Y ≤ 9972 * 9972 := ⟨Int.mul_nonneg m1.1 m2.1, Int.mul_le_mul m1.2 m2.2 m2.1 (by omega)⟩
          have u1 : IntKind.i64.wrap (X * Y) = X * Y := Go.IntWalk.i64_in _ (by omega)
          have u2 : IntKind.i64.wrap (S + X * Y) = S + X * Y := Go.IntWalk.i64_in _ (by omega)
          have i3 : (t : Int) < (c : Int) := by omega
          clear hr hrd hX hY
          go_wp2
          go_quiet ((go_at_call 47; exact quietW (R_Mod_any _ _ (by omega) (by omega))))
          clear u1 u2
          go_wp2
          go_roundw
          case rel => exact ⟨t + 1, r + nq, _, by omega, by go_num, rfl, by unfold Hid; rw [← HT.out, HS.out], by unfold Hid; rw [HW.out, World.drewN_drewN]⟩
          case measure => simp [intOf]; omega
        · obtain rfl : t = c := by omega
          have hsz := hb'.size
          have ho' := ho.below kr
          go_wp2_with (at_builtin; refine wpList_push_int HIT.out rfl (.tmp 36) (.tmp 38) rfl rfl rfl (ho'.alloc _) (z := S) (by simp) (by decide) (by decide) (by omega) (by simp; omega) ?_; intro a4 cap4 w4 ho4 hg4)
          have hb4 := below_grown (hb'.alloc hsz (.cells #[.int .i64 S] 3)) (ho'.alloc (.cells #[.int .i64 S] 3)) (by simp; omega) hg4
          go_roundw
          case rel => exact ⟨k + 1, a4, cap4, by omega, by go_num, rfl, by rw [toN_succ, ← HS.out]; exact ho4, hb4⟩
          case measure => simp [intOf]; omega
    · obtain rfl : k = n := by omega
      go_wp2
      go_ret
      exact ⟨q, cq, rfl, ho, hb⟩
/-- The first k rows of the matrix that changes nothing. -/
def unitN (n k : Nat) : List (List Int) := (List.range k).map fun i => (List.replicate n 0).set i 1
theorem unitN_succ (n k : Nat) : unitN n (k + 1) = unitN n k ++ [(List.replicate n 0).set k 1] := by simp [unitN, List.range_succ]
theorem unitN_len (n k : Nat) : (unitN n k).length = k := by simp [unitN]
theorem unitN_is (n : Nat) : IsR n n (unitN n n) (fun i j => if i = j then 1 else 0) := by
  have hr : ∀ i, i < n → rowOf (unitN n n) i = (List.replicate n 0).set i 1 := fun i hi => by rw [rowOf_lt (by rw [unitN_len]; exact hi)]; simp [unitN]
  refine ⟨⟨unitN_len n n, fun i hi => by rw [hr i hi]; simp⟩, fun i j hi hj => ?_⟩
  unfold en
  rw [hr i hi, ix_set]
  by_cases e : i = j
  · rw [if_pos ⟨e, by simp; exact hj⟩]
    exact (if_pos e).symm
  · rw [if_neg fun h => e h.1, ix_lt (by simp; exact hj)]
    show _ = if i = j then _ else _
    rw [if_neg e]
    simp
set_option maxHeartbeats 2000000 in
theorem Unit_any (n : Nat) (w : World) (hn : n ≤ 1000) :
    Calls Tryd.prog 27 #[.int .i64 n] w fun e w' => ∃ a' cap', e = .returned (.slice a' n cap') ∧ OwM w' w.heap.size 32 3 a' n cap' (unitN n n) ∧ Below w.heap.size w w' := by
  have HM := Lib.hid matTy
  go_enter Tryd.func27, Tryd.ntmps27
  go_wp2
  go_loopw [3, 4] (fun v x wr => ∃ (k : Nat) (q : Option Addr) (cq : Nat), k ≤ n ∧ x = .int .i64 k ∧ v = .slice q k cq ∧ OwM wr w.heap.size 32 3 q k cq (unitN n k) ∧ Below w.heap.size w wr) (fun _ x _ => n - (intOf x).toNat)
  case atStart => exact ⟨0, none, 0, Nat.zero_le _, rfl, rfl, OwM.nil _ _ _ _, Below.refl _ _⟩
  case round =>
    obtain ⟨k, q, cq, hk, rfl, rfl, ho, hb⟩ := hrel
    by_cases hlt : k < n
    · have hlt' : (k : Int) < (n : Int) := by omega
      have hsz := hb.size
      go_wp2_with (first
        | (at_builtin; refine wpList_push_row HM.out rfl (.tmp 16) (.tmp 18) rfl rfl rfl ho (hb5.alloc hb5.size _) ((ho4.set (k := k) 1).below ((Below.refl _ _).alloc (Nat.le_refl _) _)) (by rw [World.cell?_alloc_at _ _ _ _ (by simp)]; rfl) (by omega) hsz ?_; intro a5 cap5 w5 ho5 hb6)
        | (refine wpList_make_ints HM.out.int rfl (.tmp 11) (.tmp 11) rfl rfl rfl (by omega) ?_; intro w4 ho4 hb4; obtain ⟨g4, hz, hg41, hg42, hc4, hf4⟩ := ho4.at (by omega); cases hz; have y3 := hc4 k hlt; have y4 := hf4 k; have hb5 := hb4.setCell (p := ⟨wr.heap.size, k, none⟩) (Nat.le_refl _) (.int .i64 1); clear hc4 hf4))
      have hb7 := ((hb.trans (hb5.mono hsz)).alloc (by have := hb5.size; omega) _).trans hb6
      go_roundw
      case rel => exact ⟨k + 1, a5, cap5, by omega, by go_num, rfl, by rw [unitN_succ]; exact ho5, hb7⟩
      case measure => simp [intOf]; omega
    · obtain rfl : k = n := by omega
      go_wp2
      go_ret
      exact ⟨q, cq, rfl, ho, hb⟩
theorem powm_half (a : Int) (n : Nat) (h : Int) (hh : h = powm (a * a % 9973) (n / 2)) : (n % 2 = 1 → h * a % 9973 = powm a n) ∧ (n % 2 = 0 → h = powm a n) := by
  have e : h = a ^ (2 * (n / 2)) % 9973 := by
    rw [hh]
    unfold powm
    rw [pow_emod, sq_pow]
  refine ⟨fun h1 => ?_, fun h1 => ?_⟩
  · rw [e, Int.mul_emod, Int.emod_emod_of_dvd _ (Int.dvd_refl _), ← Int.mul_emod, ← Int.pow_succ, show (2 * (n / 2)).succ = n by omega]
    rfl
  · rw [e, show 2 * (n / 2) = n by omega]
    rfl
theorem R_Pow_any : ∀ (m n : Nat) (a : Int) (w : World) (_ : n ≤ m) (_ : n ≤ 1000000) (_ : 0 ≤ a ∧ a ≤ 9972),
    Calls Tryd.prog 72 #[.int .i64 a, .int .i64 n] w fun e w' => e = .returned (.int .i64 (powm a n)) ∧ w = w' := by
  intro m
  induction m with
  | zero =>
    intro n a w hn _ ha
    obtain rfl : n = 0 := by omega
    go_enter Tryd.func72, Tryd.ntmps72
    go_wp2
    go_ret
    exact ⟨by show _ = Ending.returned (.int .i64 (a ^ 0 % 9973)); rw [Int.pow_zero]; rfl, rfl⟩
  | succ m ih =>
    intro n a w hn hn2 ha
    by_cases h0 : n = 0
    · subst h0
      go_enter Tryd.func72, Tryd.ntmps72
      go_wp2
      go_ret
      exact ⟨by show _ = Ending.returned (.int .i64 (a ^ 0 % 9973)); rw [Int.pow_zero]; rfl, rfl⟩
    · have C := Lib.hid (ih (n / 2) (a * a % 9973) w (by omega) (by omega) (by omega))
      have H := powm_half a n _ rfl
      obtain ⟨h, hh⟩ : ∃ h, powm (a * a % 9973) (n / 2) = h := ⟨_, rfl⟩
      have bh : 0 ≤ h ∧ h ≤ 9972 := by rw [← hh]; unfold powm; omega
      rw [hh] at C H
      clear hh ih
      have b1 : 0 ≤ a * a ∧ a * a ≤ 9972 * 9972 := ⟨Int.mul_nonneg ha.1 ha.1, Int.mul_le_mul ha.2 ha.2 ha.1 (by omega)⟩
      have b2 : 0 ≤ h * a ∧ h * a ≤ 9972 * 9972 := ⟨Int.mul_nonneg bh.1 ha.1, Int.mul_le_mul bh.2 ha.2 ha.1 (by omega)⟩
      have u1 : IntKind.i64.wrap (a * a) = a * a := Go.IntWalk.i64_in _ (by omega)
      have u2 : IntKind.i64.wrap (h * a) = h * a := Go.IntWalk.i64_in _ (by omega)
      have u3 : (a * a).tmod 9973 = a * a % 9973 := Int.tmod_eq_emod_of_nonneg b1.1
      have u4 : (h * a).tmod 9973 = h * a % 9973 := Int.tmod_eq_emod_of_nonneg b2.1
      have u5 : (n : Int).tdiv 2 = ((n / 2 : Nat) : Int) := by rw [Int.tdiv_eq_ediv_of_nonneg (by omega)]; omega
      have z0 : ((n : Int) == 0) = false := beq_eq_false_iff_ne.2 (by omega)
      by_cases hp : n % 2 = 1
      · have u6 : (n : Int).tmod 2 = 1 := by rw [Int.tmod_eq_emod_of_nonneg (by omega)]; omega
        have HR := Lib.hid (H.1 hp)
        clear H hp
        go_enter Tryd.func72, Tryd.ntmps72
        go_wp2_with (go_at_call 72; refine C.out.mono ?_; rintro e w' ⟨rfl, rfl⟩)
        go_ret
        exact ⟨by rw [← HR.out]; rfl, rfl⟩
      · have u6 : (n : Int).tmod 2 = 0 := by rw [Int.tmod_eq_emod_of_nonneg (by omega)]; omega
        have HR := Lib.hid (H.2 (by omega))
        clear H hp
        go_enter Tryd.func72, Tryd.ntmps72
        go_wp2_with (go_at_call 72; refine C.out.mono ?_; rintro e w' ⟨rfl, rfl⟩)
        go_ret
        exact ⟨by rw [← HR.out]; rfl, rfl⟩
end Go.Proofs.YtkielldinghmbaaDoor
