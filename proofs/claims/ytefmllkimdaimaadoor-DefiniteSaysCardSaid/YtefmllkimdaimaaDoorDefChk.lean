/-
  definite.Check walked: a square of whole numbers that is the same when turned.
-/
import Derived.Test.YtefmllkimdaimaaDoorRows
import Derived.Test.YtefmllkimdaimaaDoorLib
import Derived.Test.YtefmllkimdaimaaDoorNum
import Derived.Test.YtefmllkimdaimaaDoorDetOf
import Derived.Test.YtefmllkimdaimaaDoorDetLaw
import Derived.Test.YtefmllkimdaimaaDoorEach
import Derived.Test.YtefmllkimdaimaaDoorRect
import Derived.Test.YtefmllkimdaimaaDoorRound
import Derived.Test.YtefmllkimdaimaaDoorTr
import Derived.StillTailTactics
import Derived.Deep.QuietTactic
import Derived.BigQuiet
namespace Go.Proofs.YtefmllkimdaimaaDoor
open Go.RowKit Go.Shelf Go.Rk
attribute [local go_sem] Oper.semAt_some

theorem _root_.Go.Boxed.below {W W' : World} {n₀ B : Nat} {t : TypeId} {v : Value} (h : Boxed W B t v) (hb : Below n₀ W W') (hn : B < n₀) : Boxed W' B t v := (hb.block B hn).trans h
theorem results_cell1 {fn : Func} {p : Tmp} {ty : TypeId} (h : fn.results = #[.cell p ty]) (tmps : Array Value) (P : Program) (w : World) :
    (results fn tmps).run P w = ((asAddr (tmps.getD p undef)).run P w).andThen fun a w₁ => (loadVar ty a).run P w₁ := by
  simp only [results, h]
  simp [Sem.run_bind, Result.andThen]

/-- The same when turned. -/
def SymL (M : List (List Int)) : Prop := ∀ i, i < M.length → ∀ j, j < M.length → en M j i = en M i j
instance (M : List (List Int)) : Decidable (SymL M) := by unfold SymL; infer_instance
def formR (M : List (List Int)) : Option Int := match squareR 4 (-9) 9 M with
  | some c => some c
  | none => if SymL M then none else some 6

theorem res_err {W : World} {B : Nat} {v : Value} {tmps : Array Value} (hb : Boxed W B 26 v) (h : tmps.getD 2 undef = .pointer (some ⟨B, 0, none⟩)) : (results Tryd.f37 tmps).run Tryd.prog W = .ok v W := by
  have hc := hb.cell
  rw [results_cell1 rfl, h]
  go_simp

section
variable {a : Option Addr} {n ca : Nat} {A : List (List Int)} {w : World}
set_option maxRecDepth 100000 in
set_option maxHeartbeats 4000000 in
theorem definite_Check_any (hA : RdM w a n ca A) :
    Calls Tryd.prog 37 #[.slice a n ca] w fun e w' => e = .returned (errV (formR A)) ∧ Below w.heap.size w w' := by
  have hL := Lib.hid hA.len_eq
  have C := Lib.hid (Square_any 4 (-9) 9 (hA.below (((Below.refl w.heap.size w).alloc (Nat.le_refl _) (.cells #[.slice a n ca] 28)).alloc (by simp) (.cells #[.nilIface] 26))))
  have hb0 := ((Below.refl w.heap.size w).alloc (Nat.le_refl _) (.cells #[.slice a n ca] 28)).alloc (by simp) (.cells #[.nilIface] 26)
  rcases hq : squareR 4 (-9) 9 A with _ | c
  · have hf : formR A = if SymL A then none else some 6 := by unfold formR; rw [hq]
    rw [hq] at C
    rw [hf]
    obtain ⟨o, ho⟩ : ∃ o : Option Int, o = if SymL A then none else some 6 := ⟨_, rfl⟩
    rw [← ho]
    have HO := Lib.hid ho
    clear ho
    obtain ⟨g1, g2, g3, g4⟩ := squareR_none hq
    rw [hL.out] at g1 g2 g3 g4
    have n4 : n ≤ 4 := by omega
    have HD := Lib.hid g3
    clear hq hf g2 g3 g4
    refine (callsIn_wide (n := 6)).1 ?_
    refine callsIn_of_wp_marks Tryd.func37 rfl trivial ?_ rfl
    simp only [Tryd.ntmps37, List.size_toArray, List.length_cons, List.length_nil, Nat.reduceAdd, Nat.reduceSub, Array.replicate_succ, Array.replicate_zero, List.push_toArray, List.append_toArray, List.nil_append, List.cons_append]
    refine wpIn_wide.2 ?_
    obtain ⟨bb, ob, D0, O0, C0, rfl, hbb, hD0, hGA⟩ := hA.grid HD.out (by omega) (by omega)
    go_wp2_with (first | (go_at_call 83; refine C.out.mono ?_; rintro e w' ⟨rfl, rfl⟩; simp only [errV]) | (go_at_call 80; fail))
    have k3 := hb0
    have bx : ((w.alloc (.cells #[.slice (some ⟨bb, ob, none⟩) n ca] 28)).alloc (.cells #[.nilIface] 26)).cell? ⟨w.heap.size, 0, none⟩ = some (.slice (some ⟨bb, ob, none⟩) n ca) := alloc_keep (by simp)
    have br : Boxed ((w.alloc (.cells #[.slice (some ⟨bb, ob, none⟩) n ca] 28)).alloc (.cells #[.nilIface] 26)) (w.heap.size + 1) 26 .nilIface := by
      have := Boxed.new (w.alloc (.cells #[.slice (some ⟨bb, ob, none⟩) n ca] 28)) 26 .nilIface
      simpa using this
    generalize ((w.alloc (.cells #[.slice (some ⟨bb, ob, none⟩) n ca] 28)).alloc (.cells #[.nilIface] 26)) = W4 at *
    refine (callsIn_wide.1 (each_in 0 (some ⟨bb, ob, none⟩) n ca W4)).mono ?_
    rintro e w' ⟨rfl, rfl⟩
    go_wp2_with fail
    refine (wpIn_wide (n := 6)).1 ?_
    have hBm : (W4.alloc (.cells #[.slice (some ⟨bb, ob, none⟩) n ca] 28)).cell? ⟨W4.heap.size, 0, none⟩ = some (.slice (some ⟨bb, ob, none⟩) n ca) := by simp
    have hBl : W4.heap.size < (W4.alloc (.cells #[.slice (some ⟨bb, ob, none⟩) n ca] 28)).heap.size := by simp
    have k5 := k3.alloc k3.size (.cells #[.slice (some ⟨bb, ob, none⟩) n ca] 28)
    have r5 := alloc_keep (o := .cells #[.slice (some ⟨bb, ob, none⟩) n ca] 28) bx
    have s5 := br.alloc (.cells #[.slice (some ⟨bb, ob, none⟩) n ca] 28)
    have h5w := k5.size
    have hG5 := hGA.below k5 hbb hD0
    clear bx k3 br
    refine wpIn_rangeFunc_ownH rfl (by decide) (gf := 115) (lb := #[.pointer (some ⟨W4.heap.size, 0, none⟩)]) rfl trivial (enters_of Tryd.func115 (by kernel_rfl) rfl)
      (each_stops 5 (cap := ca) (by omega) (by omega) _ hBm hBl hG5 (Nat.lt_of_lt_of_le hbb h5w) (fun r hr => Nat.lt_of_lt_of_le (hD0 r hr) h5w)) (fun h h' g => h' (h g)) (fun W l o o' _ h1 h2 _ g => g.passes (grownBy_putObj' W l o') (fun r e => by cases e; exact ⟨o, h1, h2⟩)) (Below.refl _ _) (fun _ => rfl)
      (fun pre W => (∀ r s, (r, s) ∈ plcs pre → en A s r = en A r s) ∧ Boxed W (w.heap.size + 1) 26 .nilIface ∧ W.cell? ⟨w.heap.size, 0, none⟩ = some (.slice (some ⟨bb, ob, none⟩) n ca) ∧ Below w.heap.size w W)
      (fun c _ W => c = .ret ∧ (∃ r s, r < n ∧ s < n ∧ en A s r ≠ en A r s) ∧ Boxed W (w.heap.size + 1) 26 (.iface 75 (.int .i64 6)) ∧ Below w.heap.size w W)
      (fun s X Y row hs hgr hr => ⟨hs.1, hs.2.1.kept hgr (fun e => by obtain ⟨_, o, ho, hc⟩ := hr _ e.symm; rw [show X.heap[w.heap.size + 1]? = _ from hs.2.1] at ho; cases ho; cases hc), cell_kept hs.2.2.1 hgr (fun r e => (hr r e).2), hs.2.2.2.grown hgr hs.2.2.2.size (fun r e => Nat.le_trans h5w (hr r e).1)⟩)
      (fun c s X Y row hs hgr hr => ⟨hs.1, hs.2.1, hs.2.2.1.kept hgr (fun e => by obtain ⟨_, o, ho, hc⟩ := hr _ e.symm; rw [show X.heap[w.heap.size + 1]? = _ from hs.2.2.1] at ho; cases ho; cases hc), hs.2.2.2.grown hgr hs.2.2.2.size (fun r e => Nat.le_trans h5w (hr r e).1)⟩)
      ⟨(fun r s hp => by cases hp), s5, r5, k5⟩
      (fun x a' W => ∃ Bx, W.cell? ⟨Bx, 0, none⟩ = some (.int .i64 (x.1.1 : Int)) ∧ W.cell? ⟨Bx, 1, none⟩ = some (.int .i64 (x.1.2.1 : Int)) ∧ a' = { tmps := #[Value.slice (some { block := bb, off := ob }) n ca, Value.pointer (some { block := w.heap.size, off := 0 }), Value.pointer (some { block := w.heap.size + 1, off := 0 }), Value.nilIface, Value.pointer (some { block := Bx, off := 0 }), .int .i64 x.1.2.2, Value.slice (some { block := bb, off := ob }) n ca, Value.nilIface, Value.nilIface, Value.bool false, undef, Value.slice (some { block := bb, off := ob }) n ca, Value.func (.func 115) #[] #[Value.pointer (some { block := W4.heap.size, off := 0 })], .agg #[.int .i64 (x.1.1 : Int), .int .i64 (x.1.2.1 : Int)], .int .i64 x.1.2.2, undef, undef, undef, undef, undef, undef, undef, undef, undef, undef, undef, undef], defers := [] })
      (fun x a' _ X Y row hs hgr hr => let ⟨Bx, e1, e2, e3⟩ := hs; ⟨Bx, cell_kept e1 hgr (fun r e => (hr r e).2), cell_kept e2 hgr (fun r e => (hr r e).2), e3⟩)
      ?assign ?body ?done ?stop
    case assign =>
      rintro l pre x W K ⟨e1, c3, c4, hbW⟩ hK
      dsimp only [encP]
      gi_wp2
      exact hK _ _ ((KeepsOthers.alloc _ _).from _) (fun g => g.fresh ((Below.refl _ _).alloc (Nat.le_refl _) _)) ⟨e1, c3.alloc _, alloc_keep c4, hbW.alloc hbW.size _⟩ ⟨W.heap.size, by simp, by simp, rfl⟩
    case body =>
      rintro l pre ⟨⟨i, j, v⟩, hi, hj, hv⟩ a' W hl ⟨r, hr⟩ ⟨e1, c3, c4, hbW⟩ ⟨Bx, y1, y2, rfl⟩ hlt
      clear hBm hBl r5 s5 hG5
      dsimp only at y1 y2 hi hj hv ⊢
      subst hv
      have hGW := hGA.below hbW hbb hD0
      have x1 := hGW.hdr j hj
      obtain ⟨_, x2, rfl⟩ := hGW.el j i hj hi
      have f3 := c3.frozen
      have f4 := c3.cell
      have i1 : (i : Int) < (n : Int) := by omega
      have i2 : (j : Int) < (n : Int) := by omega
      have H1 := Lib.hid e1
      clear hGW e1
      gi_wp2
      refine region_round_quiet (by kernel_rfl) (by kernel_rfl) (fun ⟨_, _, h⟩ => h) (by kernel_rfl) ?_
      repeat (go_big_quiet_step (fail))
      refine wpQuiet_nil ?_
      rintro _ ⟨nq, rfl⟩
      have kq := below_drewN (Below.refl W.heap.size W) nq
      have kw := below_drewN hbW nq
      have c3 := c3.below kq c3.lt
      have c4 := kq.keep (World.block_lt_of_cell? W _ c4) c4
      have hKO : KeepsOthers W (W.drewN nq) := keepsOthers_drewN W nq
      clear y1 y2 x1 x2 f3 f4
      by_cases he : en A j i = en A i j
      · have z : (en A j i != en A i j) = false := bne_eq_false_iff_eq.2 he
        have HE := Lib.hid he
        clear he
        gi_wp2
        refine ⟨hKO.from _, fun g => g.below (below_drewN (Below.refl W.heap.size W) nq) (Nat.lt_of_lt_of_le hbb hbW.size) (fun r hr => Nat.lt_of_lt_of_le (hD0 r hr) hbW.size), fun r s hp => ?_, c3, c4, kw⟩
        rw [plcs_snoc] at hp
        rcases List.mem_append.1 hp with h2 | h2
        · exact H1.out r s h2
        · cases List.mem_singleton.1 h2
          exact HE.out
      · have z : (en A j i != en A i j) = true := bne_iff_ne.2 he
        have HE := Lib.hid he
        have f3 := c3.frozen
        have f4 := c3.cell
        clear he
        generalize W.drewN nq = Wd at *
        gi_wp2
        exact ⟨(hKO.trans (KeepsOthers.setCell _ _ _)).from _, rfl, ⟨i, hi, j, hj, HE.out⟩, c3.set _, kw.setCell (p := ⟨w.heap.size + 1, 0, none⟩) (by simp) _⟩
    case done =>
      rintro Dd ys W hDd hS ⟨e1, c3, c4, hbW⟩ hK
      have f3 := c3.frozen
      have f4 := c3.cell
      have ho : o = none := by
        rw [HO.out, if_pos]
        intro i hi j hj
        rw [hL.out] at hi hj
        exact e1 i j (by rw [hS]; exact locs_mem hi hj)
      subst ho
      have hs5 := s5.lt
      have c5 := c3.set .nilIface
      have hK5 : (W.setCell ⟨w.heap.size + 1, 0, none⟩ .nilIface).heap[Dd]? = some (.deferred (some [])) := ((grownBy_setCell W ⟨w.heap.size + 1, 0, none⟩ .nilIface).block Dd (Array.getElem?_eq_some_iff.1 hK).1 (by simp; omega)).trans hK
      have k6 := hbW.setCell (p := ⟨w.heap.size + 1, 0, none⟩) (by simp) .nilIface
      go_wp2
      generalize W.setCell ⟨w.heap.size + 1, 0, none⟩ .nilIface = W5 at *
      refine ⟨by simp, .inl ⟨_, _, rfl, run_takeDeferred hK5, ?_⟩⟩
      have hgr := grownBy_putObj' W5 Dd (.deferred none)
      exact ⟨_, res_err (c5.kept hgr (by simp; omega)) rfl, rfl, k6.grown hgr k6.size (fun r e => by cases e; exact Nat.le_trans h5w hDd)⟩
    case stop =>
      rintro D c pre W hDd _ ⟨rfl, ⟨r, s, hr, hs, hne⟩, c3, hbW⟩ hK
      have ho : o = some 6 := by
        rw [HO.out, if_neg]
        intro h
        exact hne (h r (by rw [hL.out]; exact hr) s (by rw [hL.out]; exact hs))
      subst ho
      have hs5 := s5.lt
      gi_wp2
      refine ⟨by simp, .inl ⟨_, _, rfl, run_takeDeferred hK, ?_⟩⟩
      have hgr := grownBy_putObj' W D (.deferred none)
      exact ⟨_, res_err (c3.kept hgr (by simp; omega)) rfl, rfl, hbW.grown hgr hbW.size (fun r e => by cases e; exact Nat.le_trans h5w hDd)⟩
  · have hf : formR A = some c := by unfold formR; rw [hq]
    rw [hq] at C
    rw [hf]
    clear hq hf
    go_enter Tryd.func37, Tryd.ntmps37
    go_wp2_with (go_at_call 83; refine C.out.mono ?_; rintro e w' ⟨rfl, rfl⟩; simp only [errV])
    have c3 := (Boxed.new (w.alloc (.cells #[.slice a n ca] 28)) 26 (.iface 75 (.int .i64 c)))
    simp only [World.size_alloc] at c3
    refine bodyPost_ret (res_err c3 rfl) rfl ⟨rfl, ((Below.refl w.heap.size w).alloc (Nat.le_refl _) (.cells #[.slice a n ca] 28)).alloc (by simp) _⟩
end
end Go.Proofs.YtefmllkimdaimaaDoor
