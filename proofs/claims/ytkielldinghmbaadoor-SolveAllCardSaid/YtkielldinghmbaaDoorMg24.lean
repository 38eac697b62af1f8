/-
  A row of a matrix of the call's own grows by an append, and its new slice is put in its place. No program in sight.
  gauss.steps, gauss.Steps and gauss.Rank walked.
  The closed fact of the statements on steps; and that steps are one form.
  What a matrix takes to noughts: a row for each column that no step has. No program in sight.
  slices.Index and slices.Contains at []int walked.
  solve.Null walked.
-/
import Derived.Test.YtkielldinghmbaaDoorRows
import Derived.Test.YtkielldinghmbaaDoorMg0
import Derived.Test.YtkielldinghmbaaDoorMg1
import Derived.Test.YtkielldinghmbaaDoorMg2
import Derived.Test.YtkielldinghmbaaDoorMg6
import Derived.Test.YtkielldinghmbaaDoorMg12
import Derived.Test.YtkielldinghmbaaDoorMg13
import Derived.Test.YtkielldinghmbaaDoorMg20
namespace Go.Rk
open Go.RowKit

section
variable {w w' : World} {B T E g : Nat} {D C : Nat → Nat} {n cap : Nat} {M : List (List Int)}
theorem OwMD.regrow (h : OwMD w B T E g D C n cap M) (hne : T ≠ E) {i : Nat} (hi : i < n) {a' : Option Addr} {m cap' : Nat} {l : List Int} (hg : w.grownBy w' (some (D i))) (ho : OwI w' B E a' m cap' l) (hm : 0 < m)
    (hf : ∀ b, (Value.slice a' m cap').ownBlock = some b → some b = some (D i) ∨ w.heap.size ≤ b) :
    OwM (w'.setCell ⟨g, i, none⟩ (.slice a' m cap')) B T E (some ⟨g, 0, none⟩) n cap (M.set i l) ∧ w'.cell? ⟨g, i, none⟩ = some (.slice (some ⟨D i, 0, none⟩) (rowOf M i).length (C i)) ∧ w'.frozen? ⟨g, i, none⟩ = false := by
  obtain ⟨b, hz, hB', hlt', _, _⟩ := ho.at hm
  subst hz
  have hb' : b = D i ∨ w.heap.size ≤ b := by
    rcases hf b rfl with e | e
    · exact .inl (by injection e)
    · exact .inr e
  have hgl := h.lowO.2
  have hgD := h.neO hne hi
  have hbg : b ≠ g := by rcases hb' with e | e <;> omega
  have o1 := h.outer.kept hg (.inr (by simp [Value.ownBlock]; exact fun e => hgD e.symm))
  have o2 := (o1.stored i (.slice (some ⟨b, 0, none⟩) m cap')).1
  refine ⟨?_, ?_, o1.frozenAt i⟩
  · refine OwMD.toM (D := fun j => if j = i then b else D j) (C := fun j => if j = i then cap' else C j) ⟨by rw [List.length_set]; exact h.len_eq, ?_, fun j hj => ?_, fun x y hx hy hxy => ?_⟩
    · have : ((List.range n).map fun j => Value.slice (some ⟨if j = i then b else D j, 0, none⟩) (rowOf (M.set i l) j).length (if j = i then cap' else C j)) =
          ((List.range n).map fun j => Value.slice (some ⟨D j, 0, none⟩) (rowOf M j).length (C j)).set i (.slice (some ⟨b, 0, none⟩) m cap') := by
        apply List.ext_getElem?
        intro j
        rcases Nat.lt_or_ge j n with h1 | h1
        · rw [List.getElem?_set]
          simp only [List.length_map, List.length_range, List.getElem?_map]
          rw [List.getElem?_range h1]
          simp only [Option.map_some, rowOf_set]
          by_cases h2 : j = i
          · subst h2; simp [h1, h.len_eq, ho.len_eq]
          · simp [h2, Ne.symm h2]
        · rw [List.getElem?_eq_none (by simp; omega), List.getElem?_eq_none (by simp; omega)]
      rw [this]
      exact o2
    · rw [rowOf_set]
      by_cases h2 : j = i
      · subst h2
        rw [if_pos rfl, if_pos rfl, if_pos ⟨rfl, by rw [h.len_eq]; exact hj⟩, ho.len_eq]
        exact ho.setElse (fun e => hbg e.symm) _
      · rw [if_neg h2, if_neg h2, if_neg fun e => h2 e.1.symm]
        exact ((h.rows j hj).grown hg (.inr (by simp [Value.ownBlock]; exact h.inj j i hj hi h2))).setElse (fun e => h.neO hne hj e.symm) _
    · show (if x = i then b else D x) ≠ (if y = i then b else D y)
      by_cases e1 : x = i
      · subst e1
        rw [if_pos rfl, if_neg (Ne.symm hxy)]
        have := (h.lowI hy).2
        have := h.inj x y hx hy hxy
        rcases hb' with e | e <;> omega
      · rw [if_neg e1]
        by_cases e2 : y = i
        · subst e2
          rw [if_pos rfl]
          have := (h.lowI hx).2
          have := h.inj x y hx hy hxy
          rcases hb' with e | e <;> omega
        · rw [if_neg e2]; exact h.inj x y hx hy hxy
  · rw [o1.cellAt i (by omega)]; simp [hi]
end
end Go.Rk
namespace Go.Proofs.YtkielldinghmbaaDoor
open Go.RowKit Go.Rk

set_option maxHeartbeats 4000000 in
set_option maxRecDepth 100000 in
theorem steps_any {a : Option Addr} {n c ca : Nat} {M : List (List Int)} {w : World} (hM : RdM w a n ca M) (G : Good n c M) :
    Calls Tryd.prog 73 #[.slice a n ca] w fun e w' => ∃ ao co ap cp P ps, e = .returned (.tuple #[.slice ao n co, .slice ap ps.length cp]) ∧ OwM w' w.heap.size 32 3 ao n co P ∧ OwI w' w.heap.size 3 ap ps.length cp ps ∧ GInv n c (mx M) c P ps ∧ Below w.heap.size w w' := by
  have n1 := G.n1
  have c1 := G.c1
  have S0 := Lib.hid (GInv.start G.dm G.ent)
  have HM := Lib.hid matTy
  have C1 := Lib.hid (Copy_any hM (by omega) fun r hr => by rw [G.dm.2 r hr]; omega)
  obtain ⟨ba, oa, hz, hba, hra⟩ := hM.at (k := 0) (by omega)
  subst hz
  obtain ⟨ai, ci, hc0, _⟩ := hra 0 (by omega)
  rw [Nat.add_zero, G.r0] at hc0
  have HG := Lib.hid G
  clear hra G
  go_enter Tryd.func73, Tryd.ntmps73
  go_wp2_with (go_at_call 67; fail)
  (with_reducible refine C1.out.mono ?_)
  clear C1
  rintro e w3 ⟨a3, cap3, rfl, ho3, hb3⟩
  obtain ⟨g, D, C, hz, hd3⟩ := ho3.named (by omega) fun r hr => by rw [HG.out.dm.2 r hr]; omega
  subst hz
  have hc0 := hb3.keep hba hc0
  have hlt : Hid (g < w3.heap.size ∧ ∀ i, i < n → D i < w3.heap.size) := ⟨hd3.lowO.2, fun i hi => (hd3.lowI hi).2⟩
  have b1 : (0 : Int) < (n : Int) := by omega
  have b2 : (1 : Int) ≤ (n : Int) := by omega
  clear ho3
  go_wp2
  clear hc0
  go_loopw [5, 15] (fun vp v wr => ∃ (q : Nat) (D C : Nat → Nat) (P : List (List Int)) (ps : List Int) (ap : Option Addr) (cp : Nat), q ≤ c ∧ v = .int .i64 q ∧ vp = .slice ap ps.length cp ∧ OwMD wr w.heap.size 32 3 g D C n cap3 P ∧ OwI wr w3.heap.size 3 ap ps.length cp ps ∧ Hid (g < w3.heap.size ∧ ∀ i, i < n → D i < w3.heap.size) ∧ Hid (GInv n c (mx M) q P ps) ∧ w3.heap.size ≤ wr.heap.size ∧ Below w.heap.size w wr) (fun _ v _ => c - (intOf v).toNat)
  case atStart => exact ⟨0, D, C, M, [], none, 0, Nat.zero_le _, rfl, rfl, hd3, OwI.nil _ _ _, hlt, S0, Nat.le_refl _, hb3⟩
  case round =>
    clear hd3 hlt S0
    obtain ⟨q, D, C, P, ps, ap, cp, hq, rfl, rfl, hd, hp, hl, hi, hs, hb⟩ := hrel
    have hle := hi.out.st.le
    by_cases hqc : q < c
    · go_wp2
      go_loop [5, 8] (fun vp v => ∃ k : Nat, ps.length ≤ k ∧ k ≤ n ∧ v = .int .i64 k ∧ vp = .slice ap ps.length cp ∧ Hid (∀ i, ps.length ≤ i → i < k → en P i q = 0)) (fun _ v => n - (intOf v).toNat)
      case atStart => exact ⟨ps.length, Nat.le_refl _, hle, rfl, rfl, fun i h1 h2 => absurd h2 (by omega)⟩
      case round =>
        obtain ⟨k, hk1, hk2, rfl, rfl, hz⟩ := hrel
        by_cases hkn : k < n
        · have x1 := hd.cellO hkn
          rw [hi.out.dm.2 k hkn] at x1
          have x2 := hd.cellI hkn (j := q) (by rw [hi.out.dm.2 k hkn]; exact hqc)
          have b3 : (k : Int) < (n : Int) := by omega
          have b4 : (q : Int) < (c : Int) := by omega
          by_cases hp0 : en P k q = 0
          · have z1 : (en P k q != 0) = false := bne_eq_false_iff_eq.2 hp0
            have HP := Lib.hid hp0
            clear hp0
            go_wp2
            go_round
            case rel => exact ⟨k + 1, by omega, by omega, by go_num, rfl, fun i h1 h2 => by
              rcases Nat.lt_or_ge i k with h3 | h3
              · exact hz.out i h1 h3
              · obtain rfl : i = k := by omega
                exact HP.out⟩
            case measure => simp [intOf]; omega
          · have z1 : (en P k q != 0) = true := bne_iff_ne.2 hp0
            have HP := Lib.hid hp0
            clear hp0
            have hrn : ps.length < n := by omega
            have b5 : (ps.length : Int) < (n : Int) := by omega
            have y1 := hd.cellO hrn
            rw [hi.out.dm.2 _ hrn] at y1
            have f1 := hd.frozenO k
            have f2 := hd.frozenO ps.length
            have hsw := hd.swap HM.out.ne hrn hkn
            rw [hi.out.dm.2 k hkn, hi.out.dm.2 _ hrn] at hsw
            have y3 : (wr.setCell ⟨g, ps.length, none⟩ (.slice (some ⟨D k, 0, none⟩) c (C k))).cell? ⟨g, k, none⟩ = some (.slice (some ⟨D k, 0, none⟩) c (C k)) := by
              by_cases e : k = ps.length
              · subst e; exact World.cell?_setCell_same _ _ _ y1
              · rw [World.cell?_setCell_other _ _ _ _ (by first | (simp; done) | (simp; exact fun h => e h.symm))]; exact x1
            have hisw := hi.out.swap hk1 hkn
            have hpne : en (swapL P ps.length k) ps.length q ≠ 0 := by
              rw [en_swap hi.out.dm hrn hkn]
              by_cases e : ps.length = k
              · rw [if_pos e, e]; exact HP.out
              · rw [if_neg e, if_pos rfl]; exact HP.out
            have HI := Lib.hid hisw
            have HPN := Lib.hid hpne
            have hbs := ((hb.setCell (p := ⟨g, ps.length, none⟩) hd.lowO.1 (.slice (some ⟨D k, 0, none⟩) c (C k))).setCell (p := ⟨g, k, none⟩) hd.lowO.1 (.slice (some ⟨D ps.length, 0, none⟩) c (C ps.length))).drew
            have hps : OwI ((wr.setCell ⟨g, ps.length, none⟩ (.slice (some ⟨D k, 0, none⟩) c (C k))).setCell ⟨g, k, none⟩ (.slice (some ⟨D ps.length, 0, none⟩) c (C ps.length))).drew w3.heap.size 3 ap ps.length cp ps := by
              refine ⟨hp.len_eq, ownsRow_same hp.own fun b hbk => ?_⟩
              have hbl := hp.own.lt b hbk
              have hg' := hl.out.1
              show (((wr.setCell _ _).setCell _ _).heap)[b]? = _
              rw [Below.heap_setCell _ _ _ _ (by show b ≠ g; omega), Below.heap_setCell _ _ _ _ (by show b ≠ g; omega)]
            have hl2 : Hid (g < w3.heap.size ∧ ∀ i, i < n → swapF D ps.length k i < w3.heap.size) := ⟨hl.out.1, fun i hi => by
              unfold swapF
              (repeat' split) <;> exact hl.out.2 _ (by assumption)⟩
            have hss : w3.heap.size ≤ (((wr.setCell ⟨g, ps.length, none⟩ (.slice (some ⟨D k, 0, none⟩) c (C k))).setCell ⟨g, k, none⟩ (.slice (some ⟨D ps.length, 0, none⟩) c (C ps.length))).drew).heap.size := by simpa using hs
            have hsw2 := hsw.drew
            clear hisw hpne
            go_wp2
            go_region
            clear x1 x2 y1 y3 f1 f2 hsw hd hp hl hi hb hz HP
            generalize ((wr.setCell ⟨g, ps.length, none⟩ (.slice (some ⟨D k, 0, none⟩) c (C k))).setCell ⟨g, k, none⟩ (.slice (some ⟨D ps.length, 0, none⟩) c (C ps.length))).drew = w4 at *
            generalize swapF D ps.length k = D4 at *
            generalize swapF C ps.length k = C4 at *
            generalize swapL P ps.length k = P4 at *
            have C5 := Lib.hid (clear_any hsw2 HI.out.dm HI.out.ent hrn hqc (by omega) (by omega))
            go_wp2_with (go_at_call 87; fail)
            (with_reducible refine C5.out.mono ?_)
            clear C5
            rintro e w5 ⟨rfl, P5, hd5, hi5, hk5, hb5⟩
            have HI5 := Lib.hid (HI.out.clear hrn hqc HPN.out hi5)
            have hp5 := hps.keptBut hk5 hl2.out.2
            have hs5 : w3.heap.size ≤ w5.heap.size := Nat.le_trans hss hk5.1
            have hbb5 := hbs.trans hb5
            clear hps hsw2 hi5 hk5 hb5 hbs hss HI HPN
            have hl5 := hp5.len_eq
            go_wp2_with (at_builtin; refine wpList_push_int HM.out.int rfl (.tmp 53) (.tmp 55) rfl rfl rfl (hp5.alloc _) (z := (q : Int)) (by simp) (by decide) (by decide) (by omega) (by simp; omega) ?_; intro a6 cap6 w6 ho6 hg6)
            have hle6 : (ps ++ [(q : Int)]).length = ps.length + 1 := by simp
            have hd6 := (hd5.alloc (.cells #[.int .i64 (q : Int)] 3)).grownPast hg6 (fun r e => (hp5.own.lt r e).1) hl2.out.1 hl2.out.2
            have hb6 := (hbb5.alloc hbb5.size (.cells #[.int .i64 (q : Int)] 3)).grown hg6 (by have := hbb5.size; simp; omega) (fun r e => Nat.le_trans hb3.size (hp5.own.lt r e).1)
            have hs6 : w3.heap.size ≤ w6.heap.size := by have := hg6.size; simp at this; omega
            rw [← hle6] at ho6
            go_roundw
            case rel => exact ⟨q + 1, D4, C4, P5, ps ++ [(q : Int)], a6, cap6, by omega, by go_num, by rw [hle6], hd6, ho6, hl2, HI5.out, hs6, hb6⟩
            case measure => simp [intOf]; omega
        · obtain rfl : k = n := by omega
          go_wp2
          go_roundw
          case rel => exact ⟨q + 1, D, C, P, ps, ap, cp, by omega, by go_num, rfl, hd, hp, hl, hi.out.pass hz.out, hs, hb⟩
          case measure => simp [intOf]; omega
    · obtain rfl : q = c := by omega
      go_wp2
      go_ret2
      exact ⟨_, cap3, ap, cp, P, ps, rfl, hd.toM, hp.mono hb3.size, hi.out, hb⟩

section
variable {a : Option Addr} {n c ca : Nat} {M : List (List Int)} {w : World}
theorem Steps_err {x : Int} (hM : RdM w a n ca M) (hq : groundsR 5 0 9972 M = some x) :
    Calls Tryd.prog 31 #[.slice a n ca] w fun e w' => e = .returned (.tuple #[.slice none 0 0, .slice none 0 0, .iface 70 (.int .i64 x)]) ∧ w = w' := by
  have C := Lib.hid (mat_Check_is hM hq)
  clear hq
  go_enter Tryd.func31, Tryd.ntmps31
  go_wp2_with (go_at_call 18; (with_reducible refine C.out.mono ?_); rintro e w' ⟨rfl, rfl⟩; simp only [errV])
  go_ret3
  exact ⟨rfl, rfl⟩
theorem Steps_ok (hM : RdM w a n ca M) (G : Good n c M) :
    Calls Tryd.prog 31 #[.slice a n ca] w fun e w' => ∃ ao co ap cp P ps, e = .returned (.tuple #[.slice ao n co, .slice ap ps.length cp, .nilIface]) ∧ OwM w' w.heap.size 32 3 ao n co P ∧ OwI w' w.heap.size 3 ap ps.length cp ps ∧ GInv n c (mx M) c P ps ∧ Below w.heap.size w w' := by
  have C := Lib.hid (mat_Check_is hM G.gr)
  have C2 := Lib.hid (steps_any hM G)
  go_enter Tryd.func31, Tryd.ntmps31
  go_wp2_with (first | (go_at_call 18; (with_reducible refine C.out.mono ?_); rintro e w' ⟨rfl, rfl⟩; simp only [errV]) | (go_at_call 73; (with_reducible refine C2.out.mono ?_); rintro e w2 ⟨ao, co, ap, cp, P, ps, rfl, h1, h2, h3, h4⟩))
  go_ret3
  exact ⟨ao, co, ap, cp, P, ps, rfl, h1, h2, h3, h4⟩
theorem Rank_err {x : Int} (hM : RdM w a n ca M) (hq : groundsR 5 0 9972 M = some x) :
    Calls Tryd.prog 33 #[.slice a n ca] w fun e w' => e = .returned (.tuple #[.int .i64 0, .iface 70 (.int .i64 x)]) ∧ w = w' := by
  have C := Lib.hid (mat_Check_is hM hq)
  clear hq
  go_enter Tryd.func33, Tryd.ntmps33
  go_wp2_with (go_at_call 18; (with_reducible refine C.out.mono ?_); rintro e w' ⟨rfl, rfl⟩; simp only [errV])
  go_ret2
  exact ⟨rfl, rfl⟩
theorem Rank_ok (hM : RdM w a n ca M) (G : Good n c M) :
    Calls Tryd.prog 33 #[.slice a n ca] w fun e w' => ∃ P ps, e = .returned (.tuple #[.int .i64 (List.length ps), .nilIface]) ∧ GInv n c (mx M) c P ps ∧ Below w.heap.size w w' := by
  have C := Lib.hid (mat_Check_is hM G.gr)
  have C2 := Lib.hid (steps_any hM G)
  go_enter Tryd.func33, Tryd.ntmps33
  go_wp2_with (first | (go_at_call 18; (with_reducible refine C.out.mono ?_); rintro e w' ⟨rfl, rfl⟩; simp only [errV]) | (go_at_call 73; (with_reducible refine C2.out.mono ?_); rintro e w2 ⟨ao, co, ap, cp, P, ps, rfl, h1, h2, h3, h4⟩))
  go_ret2
  exact ⟨P, ps, rfl, h3, h4⟩
end
end Go.Proofs.YtkielldinghmbaaDoor
namespace Go.Proofs.YtkielldinghmbaaDoor
open Go.RowKit Go.Rk

theorem _root_.Go.Rk.GInv.good {n c q : Nat} {A : Mx} {M : List (List Int)} {ps : List Int} (h : GInv n c A q M ps) (hn : 1 ≤ n ∧ n ≤ 5) (hc : 1 ≤ c ∧ c ≤ 5) : Good n c M := ⟨hn, hc, h.dm, h.ent⟩
theorem _root_.Go.Rk.GInv.fac {n c : Nat} {A : Mx} {M : List (List Int)} {ps : List Int} (h : GInv n c A c M ps) : Fac n c ps.length A := h.st.fac h.back
theorem _root_.Go.Rk.GInv.least {n c s : Nat} {A : Mx} {M : List (List Int)} {ps : List Int} (h : GInv n c A c M ps) (f : Fac n c s A) : ps.length ≤ s := h.st.no_less h.made f
theorem _root_.Go.Rk.GInv.same {n c : Nat} {A A' : Mx} {M M' : List (List Int)} {ps ps' : List Int} (h : GInv n c A c M ps) (g : GInv n c A' c M' ps') (m : Made n c A A') (m' : Made n c A' A) : M = M' ∧ ps = ps' := by
  obtain ⟨e1, e2, e3⟩ := h.st.unique g.st (h.back.trans (m.trans g.made)) (g.back.trans (m'.trans h.made))
  refine ⟨h.dm.ext g.dm fun i j hi hj => ?_, ix_ext e1 fun i hi => ?_⟩
  · have h1 := h.ent i j hi hj
    have h2 := g.ent i j hi hj
    have h3 : en M i j % 9973 = en M' i j % 9973 := e3 i j hi hj
    omega
  · have h1 := h.pos i hi
    have h2 := g.pos i (by omega)
    have h3 := e2 i hi
    omega

theorem gaussLit : Go.Rk.GInv 2 2 (mx [[0, 2], [0, 4]]) 2 [[0, 1], [0, 0]] [1] := by
  have two : ∀ {P : Nat → Nat → Prop}, P 0 0 → P 0 1 → P 1 0 → P 1 1 → ∀ i j, i < 2 → j < 2 → P i j := by
    intro P h0 h1 h2 h3 i j hi hj
    rcases (show i = 0 ∨ i = 1 by omega) with rfl | rfl <;> rcases (show j = 0 ∨ j = 1 by omega) with rfl | rfl <;> assumption
  refine ⟨⟨rfl, fun i hi => ?_⟩, two (by decide) (by decide) (by decide) (by decide), ⟨mx [[4987, 0], [-2, 1]], two (by unfold Eqm; decide) (by unfold Eqm; decide) (by unfold Eqm; decide) (by unfold Eqm; decide)⟩, ⟨mx [[2, 0], [4, 0]], two (by unfold Eqm; decide) (by unfold Eqm; decide) (by unfold Eqm; decide) (by unfold Eqm; decide)⟩,
    ⟨by decide, fun i hi => ?_, fun i j h1 h2 => ?_, fun i j h1 h2 => ?_, fun i s h1 h2 h3 => ?_, fun i s h1 h2 => ?_⟩, fun i hi => ?_⟩
  · rcases (show i = 0 ∨ i = 1 by omega) with rfl | rfl <;> rfl
  · obtain rfl : i = 0 := by simp at hi; omega
    decide
  · simp at h2; omega
  · obtain rfl : j = 0 := by simp at h2; omega
    rcases (show i = 0 ∨ i = 1 by omega) with rfl | rfl <;> (unfold Eqm; decide)
  · obtain rfl : i = 1 := by simp at h1; omega
    rcases (show s = 0 ∨ s = 1 by omega) with rfl | rfl <;> (unfold Eqm; decide)
  · obtain rfl : i = 0 := by simp at h1; omega
    have : (ix [1] 0).toNat = 1 := by decide
    rw [this] at h2
    obtain rfl : s = 0 := by omega
    unfold Eqm; decide
  · obtain rfl : i = 0 := by simp at hi; omega
    decide

end Go.Proofs.YtkielldinghmbaaDoor
namespace Go.Proofs.YtkielldinghmbaaDoor
open Go.RowKit Go.Rk

theorem getD_lt {l : List Nat} {t : Nat} (h : t < l.length) : l.getD t 0 = l[t] := by simp [List.getD, h]
/-- The columns below q that no step has. -/
def freeN (ps : List Int) (q : Nat) : List Nat := (List.range q).filter fun (j : Nat) => !hasB (j : Int) ps
theorem freeN_succ (ps : List Int) (q : Nat) : freeN ps (q + 1) = if hasB (q : Int) ps = true then freeN ps q else freeN ps q ++ [q] := by
  unfold freeN
  rw [List.range_succ, List.filter_append]
  split
  · next h => simp [h]
  · next h => simp [h]
/-- Free column t. -/
def freeAt (ps : List Int) (q t : Nat) : Nat := (freeN ps q).getD t 0
theorem freeAt_mem {ps : List Int} {q t : Nat} (h : t < (freeN ps q).length) : freeAt ps q t < q ∧ hasB (freeAt ps q t : Int) ps = false := by
  have : freeAt ps q t ∈ freeN ps q := by
    unfold freeAt
    rw [getD_lt h]
    exact List.getElem_mem h
  unfold freeN at this
  rw [List.mem_filter] at this
  exact ⟨List.mem_range.1 this.1, by simpa using this.2⟩
theorem freeAt_inj {ps : List Int} {q t s : Nat} (h : t < (freeN ps q).length) (k : s < (freeN ps q).length) (e : freeAt ps q t = freeAt ps q s) : t = s := by
  unfold freeAt at e
  rw [getD_lt h, getD_lt k] at e
  have hn : (freeN ps q).Nodup := List.Pairwise.filter _ List.nodup_range
  have hp := List.pairwise_iff_getElem.1 hn
  rcases Nat.lt_trichotomy t s with h1 | h1 | h1
  · exact absurd e (hp t s h k h1)
  · exact h1
  · exact absurd e.symm (hp s t k h h1)
theorem freeAt_onto {ps : List Int} {q j : Nat} (hj : j < q) (h : hasB (j : Int) ps = false) : ∃ t, t < (freeN ps q).length ∧ freeAt ps q t = j := by
  have : j ∈ freeN ps q := by
    unfold freeN
    rw [List.mem_filter]
    exact ⟨List.mem_range.2 hj, by simp [h]⟩
  obtain ⟨t, ht, e⟩ := List.getElem_of_mem this
  exact ⟨t, ht, by unfold freeAt; rw [getD_lt ht]; exact e⟩

/-- A row of the free column f. -/
structure NRow (c : Nat) (P : List (List Int)) (ps : List Int) (f : Nat) (x : List Int) : Prop where
  len : x.length = c
  one : ix x f = 1
  piv : ∀ i, i < ps.length → ix x (natsOf ps i) = -en P i f % 9973
  zer : ∀ j, j < c → j ≠ f → hasB (j : Int) ps = false → ix x j = 0

/-- A row for each free column below q. -/
structure Nul (c q : Nat) (P : List (List Int)) (ps : List Int) (L : List (List Int)) : Prop where
  len : L.length = (freeN ps q).length
  row : ∀ t, t < L.length → NRow c P ps (freeAt ps q t) (rowOf L t)

section
variable {n c q f : Nat} {A : Mx} {P L : List (List Int)} {ps x : List Int}
theorem hasB_pos (hp : ∀ i, i < ps.length → 0 ≤ ix ps i) {j : Nat} : hasB (j : Int) ps = true ↔ ∃ i, i < ps.length ∧ natsOf ps i = j := by
  rw [hasB_iff]
  constructor
  · rintro ⟨i, hi, e⟩
    exact ⟨i, hi, by unfold natsOf; omega⟩
  · rintro ⟨i, hi, e⟩
    have := hp i hi
    exact ⟨i, hi, by unfold natsOf at e; omega⟩

theorem Nul.start (c : Nat) (P : List (List Int)) (ps : List Int) : Nul c 0 P ps [] := ⟨rfl, fun _ h => absurd h (Nat.not_lt_zero _)⟩
theorem Nul.pass (h : Nul c q P ps L) (hq : hasB (q : Int) ps = true) : Nul c (q + 1) P ps L := by
  have e : freeN ps (q + 1) = freeN ps q := by rw [freeN_succ, if_pos hq]
  exact ⟨by rw [e]; exact h.len, fun t ht => by unfold freeAt; rw [e]; exact h.row t ht⟩
theorem Nul.push (h : Nul c q P ps L) (hq : hasB (q : Int) ps = false) (hx : NRow c P ps q x) : Nul c (q + 1) P ps (L ++ [x]) := by
  have e : freeN ps (q + 1) = freeN ps q ++ [q] := by rw [freeN_succ, if_neg (by rw [hq]; simp)]
  refine ⟨by rw [e, List.length_append, List.length_append, h.len]; rfl, fun t ht => ?_⟩
  unfold freeAt
  rw [e]
  rw [List.length_append] at ht
  simp at ht
  rcases Nat.lt_or_ge t L.length with h1 | h1
  · rw [rowOf_append_left h1]
    have h2 : t < (freeN ps q).length := by rw [← h.len]; exact h1
    have := h.row t h1
    unfold freeAt at this
    rw [getD_lt h2] at this
    rw [getD_lt (by rw [List.length_append]; omega), List.getElem_append_left h2]
    exact this
  · obtain rfl : t = L.length := by omega
    rw [rowOf_append_right (Nat.le_refl _), Nat.sub_self]
    have h2 : L.length = (freeN ps q).length := h.len
    rw [getD_lt (by rw [List.length_append]; simp [h2]), List.getElem_append_right (by omega)]
    simp only [h2, Nat.sub_self, List.getElem_cons_zero]
    exact hx

/-- As many as columns: steps and free columns. -/
theorem free_count {R : Mx} (h : Stairs n c ps.length R (natsOf ps)) (hp : ∀ i, i < ps.length → 0 ≤ ix ps i) : (freeN ps c).length + ps.length = c := by
  have key : ∀ q, q ≤ c → ∃ m, m ≤ ps.length ∧ (∀ i, i < m → natsOf ps i < q) ∧ (∀ i, m ≤ i → i < ps.length → q ≤ natsOf ps i) ∧ (freeN ps q).length + m = q := by
    intro q
    induction q with
    | zero => intro _; exact ⟨0, Nat.zero_le _, fun i hi => absurd hi (Nat.not_lt_zero _), fun i _ _ => Nat.zero_le _, rfl⟩
    | succ q ih =>
      intro hq
      obtain ⟨m, h1, h2, h3, h4⟩ := ih (by omega)
      rw [freeN_succ]
      by_cases hb : hasB (q : Int) ps = true
      · obtain ⟨i, hi, e⟩ := (hasB_pos hp).1 hb
        have him : i = m := by
          rcases Nat.lt_trichotomy i m with hlt | rfl | hgt
          · have := h2 i hlt; omega
          · rfl
          · have := h.inc m i hgt hi
            have := h3 m (Nat.le_refl _) (by omega)
            omega
        subst him
        rw [if_pos hb]
        refine ⟨i + 1, hi, fun k hk => ?_, fun k hk hk2 => ?_, by omega⟩
        · rcases Nat.lt_or_ge k i with h5 | h5
          · have := h2 k h5; omega
          · obtain rfl : k = i := by omega
            omega
        · have := h.inc i k (by omega) hk2
          omega
      · rw [if_neg hb]
        refine ⟨m, h1, fun k hk => by have := h2 k hk; omega, fun k hk hk2 => ?_, by simp; omega⟩
        have h5 := h3 k hk hk2
        rcases Nat.lt_or_ge q (natsOf ps k) with h6 | h6
        · omega
        · exact absurd ((hasB_pos hp).2 ⟨k, hk2, by omega⟩) hb
  obtain ⟨m, h1, h2, h3, h4⟩ := key c (Nat.le_refl _)
  have : m = ps.length := by
    rcases Nat.lt_or_ge m ps.length with h5 | h5
    · have := h3 m (Nat.le_refl _) h5
      have := h.lt m h5
      omega
    · omega
  omega

theorem NRow.range (h : NRow c P ps f x) (hp : ∀ i, i < ps.length → 0 ≤ ix ps i) : In 0 9972 x := by
  intro j hj
  rw [h.len] at hj
  by_cases e : j = f
  · rw [e, h.one]; omega
  · cases hb : hasB (j : Int) ps
    · rw [h.zer j hj e hb]; omega
    · obtain ⟨i, hi, e2⟩ := (hasB_pos hp).1 hb
      rw [← e2, h.piv i hi]
      omega

/-- Such a row, as a sum. -/
theorem NRow.sum {R : Mx} (h : NRow c P ps f x) (st : Stairs n c ps.length R (natsOf ps)) (hp : ∀ i, i < ps.length → 0 ≤ ix ps i) (hf : hasB (f : Int) ps = false) {j : Nat} (hj : j < c) :
    Eqm (ix x j) ((if f = j then 1 else 0) - sumTo (fun k => (if natsOf ps k = j then 1 else 0) * en P k f) ps.length) := by
  cases hb : hasB (j : Int) ps
  · have e0 : sumTo (fun k => (if natsOf ps k = j then 1 else 0) * en P k f) ps.length = 0 := by
      rw [sumTo_congr (h := fun _ => 0) fun k hk => by rw [if_neg (fun e => by rw [(hasB_pos hp).2 ⟨k, hk, e⟩] at hb; cases hb), Int.zero_mul]]
      exact sumTo_zero _
    rw [e0, Int.sub_zero]
    by_cases e : f = j
    · rw [if_pos e, ← e, h.one]; exact Eqm.refl _
    · rw [if_neg e, h.zer j hj (fun x => e x.symm) hb]; exact Eqm.refl _
  · obtain ⟨i, hi, e⟩ := (hasB_pos hp).1 hb
    have hfj : f ≠ j := fun e2 => by rw [e2, hb] at hf; cases hf
    rw [if_neg hfj, ← e, h.piv i hi]
    have e1 : sumTo (fun k => (if natsOf ps k = natsOf ps i then 1 else 0) * en P k f) ps.length = en P i f := by
      rw [sumTo_congr (h := fun k => (if i = k then 1 else 0) * en P k f) fun k hk => ?_]
      · exact sumTo_pick (fun k => en P k f) hi
      · by_cases e3 : i = k
        · rw [if_pos (by rw [e3]), if_pos e3]
        · rw [if_neg fun e4 => ?_, if_neg e3]
          rcases Nat.lt_trichotomy i k with h1 | h1 | h1
          · have := st.inc i k h1 hk; omega
          · exact e3 h1
          · have := st.inc k i h1 hi; omega
    rw [e1, Int.zero_sub]
    exact Eqm.mod _

/-- It is taken to noughts by the steps. -/
theorem NRow.nought {R : Mx} (h : NRow c P ps f x) (st : Stairs n c ps.length R (natsOf ps)) (hR : R = mx P) (hp : ∀ i, i < ps.length → 0 ≤ ix ps i) (hf : hasB (f : Int) ps = false) (hfc : f < c) {i : Nat} (hi : i < n) : Eqm (sumTo (fun j => mx P i j * ix x j) c) 0 := by
  subst hR
  have e1 : Eqm (sumTo (fun j => mx P i j * ix x j) c) (sumTo (fun j => (if f = j then 1 else 0) * mx P i j + sumTo (fun k => -((if natsOf ps k = j then 1 else 0) * (mx P i j * en P k f))) ps.length) c) := sumTo_eqm fun j hj => by
    refine (Eqm.mul (Eqm.refl _) (h.sum st hp hf hj)).trans (Eqm.of_eq ?_)
    rw [Int.mul_sub, ← sumTo_mul, show sumTo (fun k => -((if natsOf ps k = j then 1 else 0) * (mx P i j * en P k f))) ps.length = sumTo (fun k => (-1) * (mx P i j * ((if natsOf ps k = j then 1 else 0) * en P k f))) ps.length from sumTo_congr fun k _ => by grind, sumTo_mul (-1)]
    grind
  refine e1.trans ?_
  rw [sumTo_add, sumTo_pick (fun j => mx P i j) hfc, sumTo_swap]
  have e2 : ∀ k, k < ps.length → sumTo (fun j => -((if natsOf ps k = j then 1 else 0) * (mx P i j * en P k f))) c = -(mx P i (natsOf ps k) * en P k f) := fun k hk => by
    rw [show (fun j => -((if natsOf ps k = j then 1 else 0) * (mx P i j * en P k f))) = fun j => (-1) * ((if natsOf ps k = j then 1 else 0) * (mx P i j * en P k f)) from funext fun j => by grind, sumTo_mul, sumTo_pick (fun j => mx P i j * en P k f) (st.lt k hk)]
    omega
  rw [sumTo_congr e2]
  have e3 : Eqm (sumTo (fun k => -(mx P i (natsOf ps k) * en P k f)) ps.length) (sumTo (fun k => (if i = k then 1 else 0) * -en P k f) ps.length) := sumTo_eqm fun k hk => by
    refine (Eqm.neg (Eqm.mul (st.one i k hi hk) (Eqm.refl (en P k f)))).trans (Eqm.of_eq ?_)
    grind
  refine (Eqm.add (Eqm.refl _) e3).trans ?_
  rcases Nat.lt_or_ge i ps.length with h1 | h1
  · rw [sumTo_pick (fun k => -en P k f) h1]
    exact Eqm.of_eq (by show en P i f + _ = 0; omega)
  · rw [sumTo_congr (h := fun _ => 0) fun k hk => by rw [if_neg (by omega), Int.zero_mul], sumTo_zero, Int.add_zero]
    exact st.low i f h1 hi hfc
end
end Go.Proofs.YtkielldinghmbaaDoor
namespace Go.Proofs.YtkielldinghmbaaDoor
open Go.RowKit Go.Rk

/-- Index: below 0 if nothing is as v. -/
theorem Index_any {a : Option Addr} {len cap : Nat} {l : List Int} (n : Int) {w : World} (h : RdI w a len cap l) :
    Calls Tryd.prog 91 #[.slice a len cap, .int .i64 n] w fun e w' => (∃ z : Int, e = .returned (.int .i64 z) ∧ decide (0 ≤ z) = hasB n l) ∧ w = w' := by
  have hm := h.len_max
  have HL := Lib.hid h.len_eq
  go_enter Tryd.func91, Tryd.ntmps91
  go_wp2
  go_loop [8] (fun v => ∃ k : Nat, k ≤ len ∧ v = .int .i64 k ∧ Hid (∀ p, p < k → ix l p ≠ n)) (fun v => len - (intOf v).toNat)
  case atStart => exact ⟨0, Nat.zero_le _, rfl, fun p hp => absurd hp (Nat.not_lt_zero _)⟩
  case round =>
    obtain ⟨k, hk, rfl, hno⟩ := hrel
    by_cases hlt : k < len
    · obtain ⟨b, off, rfl, _, hc⟩ := h.at hlt
      have hc := hc k hlt
      have hlt' : (k : Int) < (len : Int) := by omega
      by_cases he : ix l k = n
      · subst he
        have z : (ix l k == ix l k) = true := beq_iff_eq.2 rfl
        go_wp2
        go_ret
        refine ⟨⟨_, rfl, ?_⟩, rfl⟩
        rw [decide_eq_true (by omega)]
        exact (hasB_iff.2 ⟨k, by rw [HL.out]; exact hlt, rfl⟩).symm
      · have z : (n == ix l k) = false := beq_eq_false_iff_ne.2 fun e => he e.symm
        have HE := Lib.hid he
        clear he
        go_wp2
        go_round
        case rel => exact ⟨k + 1, by omega, by go_num, fun p hp => by
          rcases Nat.lt_or_ge p k with h1 | h1
          · exact hno.out p h1
          · obtain rfl : p = k := by omega
            exact HE.out⟩
        case measure => simp [intOf]; omega
    · obtain rfl : k = len := by omega
      go_wp2
      go_ret
      refine ⟨⟨_, rfl, ?_⟩, rfl⟩
      cases e : hasB n l
      · decide
      · exfalso
        obtain ⟨p, hp, e⟩ := hasB_iff.1 e
        exact hno.out p (by rw [HL.out] at hp; exact hp) e
theorem Contains_any {a : Option Addr} {len cap : Nat} {l : List Int} (n : Int) {w : World} (h : RdI w a len cap l) :
    Calls Tryd.prog 79 #[.slice a len cap, .int .i64 n] w fun e w' => e = .returned (.bool (hasB n l)) ∧ w = w' := by
  have C := Lib.hid (Index_any n h)
  generalize hasB n l = B at C ⊢
  go_enter Tryd.func79, Tryd.ntmps79
  go_wp2_with (go_at_call 91; fail)
  (with_reducible refine C.out.mono ?_)
  rintro e w' ⟨⟨z, rfl, hz⟩, rfl⟩
  clear C
  by_cases h0 : 0 ≤ z
  · rw [decide_eq_true h0] at hz
    subst hz
    go_wp2
    go_ret
    exact ⟨rfl, rfl⟩
  · rw [decide_eq_false h0] at hz
    subst hz
    go_wp2
    go_ret
    exact ⟨congrArg (fun b => Ending.returned (.bool b)) (decide_eq_false (by omega)), rfl⟩
end Go.Proofs.YtkielldinghmbaaDoor
namespace Go.Proofs.YtkielldinghmbaaDoor
open Go.RowKit Go.Rk

theorem Null_err {a : Option Addr} {n ca : Nat} {M : List (List Int)} {w : World} {x : Int} (hM : RdM w a n ca M) (hq : groundsR 5 0 9972 M = some x) :
    Calls Tryd.prog 49 #[.slice a n ca] w fun e w' => e = .returned (.tuple #[.slice none 0 0, .iface 70 (.int .i64 x)]) ∧ w = w' := by
  have C := Lib.hid (Steps_err hM hq)
  clear hq
  go_enter Tryd.func49, Tryd.ntmps49
  go_wp2_with (go_at_call 31; (with_reducible refine C.out.mono ?_); rintro e w' ⟨rfl, rfl⟩)
  go_ret2
  exact ⟨rfl, rfl⟩

/-- A row of a free column, of its first i steps. -/
structure NPart (c : Nat) (P : List (List Int)) (ps : List Int) (f i : Nat) (x : List Int) : Prop where
  len : x.length = c
  one : ix x f = 1
  piv : ∀ k, k < i → ix x (natsOf ps k) = -en P k f % 9973
  zer : ∀ j, j < c → j ≠ f → hasB (j : Int) ps = false → ix x j = 0

theorem NPart.start {c f : Nat} (P : List (List Int)) (ps : List Int) (hf : f < c) : NPart c P ps f 0 ((List.replicate c 0).set f 1) := by
  refine ⟨by simp, by rw [ix_set, if_pos ⟨rfl, by simp; exact hf⟩], fun _ h => absurd h (Nat.not_lt_zero _), fun j hj hne _ => ?_⟩
  rw [ix_set, if_neg fun e => hne e.1.symm, ix_lt (by simp; exact hj)]
  simp
theorem NPart.step {n c f i : Nat} {P : List (List Int)} {ps x : List Int} {R : Mx} (h : NPart c P ps f i x) (st : Stairs n c ps.length R (natsOf ps)) (hp : ∀ i, i < ps.length → 0 ≤ ix ps i) (hf : hasB (f : Int) ps = false) (hi : i < ps.length) : NPart c P ps f (i + 1) (x.set (natsOf ps i) (-en P i f % 9973)) := by
  have hl := st.lt i hi
  have hb : hasB (natsOf ps i : Int) ps = true := (hasB_pos hp).2 ⟨i, hi, rfl⟩
  refine ⟨by rw [List.length_set]; exact h.len, ?_, fun k hk => ?_, fun j hj hne hz => ?_⟩
  · rw [ix_set, if_neg fun e => by rw [e.1, hf] at hb; cases hb]
    exact h.one
  · rw [ix_set]
    rcases Nat.lt_or_ge k i with h1 | h1
    · rw [if_neg fun e => by have := st.inc k i h1 hi; omega]
      exact h.piv k h1
    · obtain rfl : k = i := by omega
      rw [if_pos ⟨rfl, by rw [h.len]; exact hl⟩]
  · rw [ix_set, if_neg fun e => by rw [e.1, hz] at hb; cases hb]
    exact h.zer j hj hne hz

set_option maxHeartbeats 4000000 in
set_option maxRecDepth 100000 in
theorem Null_ok {a : Option Addr} {n c ca : Nat} {M : List (List Int)} {w : World} (hM : RdM w a n ca M) (G : Good n c M) :
    Calls Tryd.prog 49 #[.slice a n ca] w fun e w' => ∃ al cl L P ps, e = .returned (.tuple #[.slice al L.length cl, .nilIface]) ∧ OwM w' w.heap.size 32 3 al L.length cl L ∧ GInv n c (mx M) c P ps ∧ Nul c c P ps L ∧ Below w.heap.size w w' := by
  have HM := Lib.hid matTy
  have n1 := G.n1
  have c1 := G.c1
  have HG := Lib.hid G
  have C := Lib.hid (Steps_ok hM G)
  clear G
  go_enter Tryd.func49, Tryd.ntmps49
  go_wp2_with (go_at_call 31; fail)
  (with_reducible refine C.out.mono ?_)
  clear C
  rintro e w2 ⟨ao, co, ap, cp, P, ps, rfl, ho, hp, hi, hb2⟩
  have HI := Lib.hid hi
  have hP := ho.rd
  have hps := hp.rd
  clear ho hp hi
  have hMw := hM.below hb2
  obtain ⟨bm, om, rfl, am, cm, hm0, _⟩ := hMw.rowIn HG.out.dm (k := 0) (by omega)
  rw [Nat.add_zero] at hm0
  have b1 : (0 : Int) < (n : Int) := by omega
  have b2 : (1 : Int) ≤ (n : Int) := by omega
  have hpl : ps.length ≤ 5 := by have := HI.out.st.le; omega
  have hMh := Lib.hid hm0
  go_wp2
  clear hm0
  go_loopw [7, 25] (fun v x wr => ∃ (q : Nat) (al : Option Addr) (cl : Nat) (L : List (List Int)), q ≤ c ∧ x = .int .i64 q ∧ v = .slice al L.length cl ∧ OwM wr w2.heap.size 32 3 al L.length cl L ∧ Hid (Nul c q P ps L) ∧ Below w2.heap.size w2 wr) (fun _ x _ => c - (intOf x).toNat)
  case atStart => exact ⟨0, none, 0, [], Nat.zero_le _, rfl, rfl, OwM.nil _ _ _ _, Nul.start _ _ _, Below.refl _ _⟩
  case round =>
    obtain ⟨q, al, cl, L, hq, rfl, rfl, ho, hN, hb⟩ := hrel
    obtain ⟨wo, hwo⟩ : ∃ wo, wo = wr := ⟨_, rfl⟩
    subst hwo
    by_cases hqc : q < c
    · have hps := hps.below hb
      have hm0 := hb.keep (World.block_lt_of_cell? _ _ hMh.out) hMh.out
      have hLl : L.length ≤ q := by
        rw [hN.out.len]
        have := List.length_filter_le (fun (j : Nat) => !hasB (j : Int) ps) (List.range q)
        simp at this
        exact this
      have C := Lib.hid (Contains_any (q : Int) hps)
      have hsz := hb.size
      cases hbq : hasB (q : Int) ps
      · rw [hbq] at C
        have HB := Lib.hid hbq
        clear hbq
        go_wp2_with (first
          | (go_at_call 79; (with_reducible refine C.out.mono ?_); rintro e w' ⟨rfl, rfl⟩)
          | (refine wpList_make_ints HM.out.int rfl (.tmp 34) (.tmp 34) rfl rfl rfl (by omega) ?_; intro w4 ho4 hb4; obtain ⟨g4, hz, hg41, hg42, hc4, hf4⟩ := ho4.at (by omega); cases hz; have y3 := hc4 q hqc; have y4 := hf4 q; have hb5 := hb4.setCell (p := ⟨wo.heap.size, q, none⟩) (Nat.le_refl _) (.int .i64 1); clear hc4 hf4))
        clear C
        have ho5 := ho4.set (k := q) 1
        clear y3 y4 ho4 hb4
        generalize w4.setCell ⟨wo.heap.size, q, none⟩ (.int .i64 1) = w5 at *
        go_loopw [41] (fun v wt => ∃ (i : Nat) (xs : List Int), i ≤ ps.length ∧ v = .int .i64 i ∧ OwI wt wo.heap.size 3 (some ⟨wo.heap.size, 0, none⟩) c c xs ∧ Hid (NPart c P ps q i xs) ∧ Below wo.heap.size wo wt) (fun v _ => ps.length - (intOf v).toNat)
        case atStart => exact ⟨0, _, Nat.zero_le _, rfl, ho5, NPart.start P ps hqc, hb5⟩
        case round =>
          clear ho5 hb5 hm0
          obtain ⟨i, xs, hi, rfl, hx, hX, hbt⟩ := hrel
          by_cases hir : i < ps.length
          · have hir' : (i : Int) < (ps.length : Int) := by omega
            have hin : i < n := by have := HI.out.st.le; omega
            have hin' : (i : Int) < (n : Int) := by omega
            have hqc' : (q : Int) < (c : Int) := by omega
            have kt := hb.trans (hbt.mono hsz)
            obtain ⟨bp, op, rfl, _, hcp⟩ := (hps.below hbt).at hir
            replace hcp := hcp i hir
            have hpi : ix ps i = (natsOf ps i : Int) := by unfold natsOf; have := HI.out.pos i hir; omega
            have hpc : natsOf ps i < c := HI.out.st.lt i hir
            rw [hpi] at hcp
            have HS := Lib.hid (hX.out.step HI.out.st HI.out.pos HB.out hir)
            clear hpi
            generalize natsOf ps i = p at hcp hpc HS
            have hpc' : (p : Int) < (c : Int) := by omega
            obtain ⟨bP, oP, rfl, ar, cr, hcr, hrd⟩ := (hP.below kt).rowIn HI.out.dm hin
            obtain ⟨br, or_, rfl, _, hce⟩ := hrd.at hqc
            replace hce := hce q hqc
            rw [show ix (rowOf P i) q = en P i q from rfl] at hce
            have be := HI.out.ent i q hin hqc
            generalize en P i q = E at hce be HS
            obtain ⟨g5, hz, _, _, hcx, hfx⟩ := hx.at (by omega)
            cases hz
            replace hcx := hcx p hpc
            replace hfx := hfx p
            have u1 : IntKind.i64.wrap (-E) = -E := Go.IntWalk.i64_in _ (by omega)
            clear hrd
            go_wp2_with (go_at_call 68; refine (Field_any _ _).mono ?_; rintro e w' ⟨rfl, rfl⟩)
            go_roundw
            case rel => exact ⟨i + 1, _, by omega, by go_num, hx.set _, HS, hbt.setCell (p := ⟨wo.heap.size, p, none⟩) (Nat.le_refl _) _⟩
            case measure => simp [intOf]; omega
          · obtain rfl : i = ps.length := by omega
            go_wp2_with (at_builtin; refine wpList_push_row HM.out rfl (.tmp 59) (.tmp 61) rfl rfl rfl ho (hbt.alloc hbt.size _) (hx.below ((Below.refl _ _).alloc (Nat.le_refl _) _)) (by rw [World.cell?_alloc_at _ _ _ _ (by simp)]; rfl) (by omega) hsz ?_; intro a5 cap5 w5 ho5 hb6)
            have hb7 := ((hb.trans (hbt.mono hsz)).alloc (by have := hbt.size; omega) _).trans hb6
            have e1 : (L ++ [xs]).length = L.length + 1 := by simp
            go_roundw
            case rel => exact ⟨q + 1, a5, cap5, L ++ [xs], by omega, by go_num, by rw [e1], by rw [e1]; exact ho5, hN.out.push HB.out ⟨hX.out.len, hX.out.one, hX.out.piv, hX.out.zer⟩, hb7⟩
            case measure => simp [intOf]; omega
      · rw [hbq] at C
        have HB := Lib.hid hbq
        clear hbq
        go_wp2_with (first
          | (go_at_call 79; (with_reducible refine C.out.mono ?_); rintro e w' ⟨rfl, rfl⟩))
        clear C
        go_roundw
        case rel => exact ⟨q + 1, al, cl, L, by omega, by go_num, rfl, ho, hN.out.pass HB.out, hb⟩
        case measure => simp [intOf]; omega
    · obtain rfl : q = c := by omega
      go_wp2
      go_ret2
      exact ⟨al, cl, L, P, ps, rfl, ho.mono hb2.size, HI.out, hN.out, below_tr hb2 hb⟩
end Go.Proofs.YtkielldinghmbaaDoor
