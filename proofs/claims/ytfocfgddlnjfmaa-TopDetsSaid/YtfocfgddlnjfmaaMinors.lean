/-
  minors.of, minors.Of, minors.Adj walked.
-/
import Derived.Test.YtfocfgddlnjfmaaRows
import Derived.Test.YtfocfgddlnjfmaaLib
import Derived.Test.YtfocfgddlnjfmaaNum
import Derived.Test.YtfocfgddlnjfmaaDetW
import Derived.Test.YtfocfgddlnjfmaaDetOf
import Derived.Test.YtfocfgddlnjfmaaDetLaw
import Derived.Test.YtfocfgddlnjfmaaEach
import Derived.Test.YtfocfgddlnjfmaaRect
import Derived.Test.YtfocfgddlnjfmaaRound
import Derived.Test.YtfocfgddlnjfmaaCut
import Derived.Test.YtfocfgddlnjfmaaMatLaw
import Derived.Test.YtfocfgddlnjfmaaMatFact
import Derived.Test.YtfocfgddlnjfmaaRef
import Derived.StillTailTactics
import Derived.Deep.QuietTactic
import Derived.BigQuiet
namespace Go.Proofs.Ytfocfgddlnjfmaa
open Go.RowKit Go.Shelf Go.Rk
attribute [local go_sem] Oper.semAt_some

/-- What is left without a row and a column, by the prime. -/
def minorV (n : Nat) (M : List (List Int)) (i j : Nat) : Int := det (n - 1) (minor (mx M) i j) % 9973
theorem minorV_in (n : Nat) (M : List (List Int)) (i j : Nat) : 0 ≤ minorV n M i j ∧ minorV n M i j ≤ 9972 := by unfold minorV; omega

theorem minors_of_any {a : Option Addr} {n cap i j : Nat} {M : List (List Int)} {w : World} (h : RdM w a n cap M) (G : Good n n M) (hi : i < n) (hj : j < n) :
    Calls Try.prog 81 #[.slice a n cap, .int .i64 i, .int .i64 j] w fun e w' => e = .returned (.int .i64 (minorV n M i j)) ∧ Below w.heap.size w w' := by
  have n1 := G.n1
  by_cases h1 : n = 1
  · subst h1
    go_enter Try.func81, Try.ntmps81
    go_wp2
    go_ret
    exact ⟨rfl, Below.refl _ _⟩
  · obtain ⟨m, rfl⟩ : ∃ m, n = m + 1 := ⟨n - 1, by omega⟩
    have hw := woN_is (M := M) G.dm hi hj
    have hl : (woN M i j (m + 1)).length = m := hw.1.1
    have C1 := Lib.hid (Cut_any (i := i) h G.dm (by omega) (by omega) hj)
    rw [hl] at C1
    have he : Ent 0 9972 m (woN M i j (m + 1)) := fun r s hr hs => by
      rw [hw.2 r s hr hs]
      exact G.ent _ _ (skip_lt hr) (skip_lt hs)
    have hq : squareR 5 0 9972 (woN M i j (m + 1)) = none := squareR_of (by omega) (by omega) hw.1 he
    have hd : det m (mx (woN M i j (m + 1))) = det m (minor (mx M) i j) := det_congr fun r s hr hs => hw.2 r s hr hs
    have HQ := Lib.hid hq
    have HD := Lib.hid hd
    have z1 : (((m + 1 : Nat) : Int) == 1) = false := beq_eq_false_iff_ne.2 (by omega)
    clear hw hl he hq hd
    obtain ⟨N, hN⟩ : ∃ N, m + 1 = N := ⟨_, rfl⟩
    have HN := Lib.hid hN
    rw [hN] at h G C1 z1 HQ HD hi hj h1 n1 ⊢
    clear hN
    go_enter Try.func81, Try.ntmps81
    go_wp2_with (first | (go_at_call 94; (with_reducible refine C1.out.mono ?_); rintro e w1 ⟨a1, c1, rfl, ho, hb⟩) | (go_at_call 36; refine (det_Of_ok ho.rd HQ.out).mono ?_; rintro e w2 ⟨rfl, hb2⟩))
    go_ret
    refine ⟨?_, hb.trans (hb2.mono hb.size)⟩
    rw [HD.out]
    unfold minorV
    rw [← HN.out]
    rfl

theorem Adj_err {a : Option Addr} {n ca : Nat} {A : List (List Int)} {w : World} {x : Int} (hA : RdM w a n ca A) (hq : squareR 5 0 9972 A = some x) :
    Calls Try.prog 38 #[.slice a n ca] w fun e w' => e = .returned (.tuple #[.slice none 0 0, .iface 64 (.int .i64 x)]) ∧ Below w.heap.size w w' := by
  have C := Lib.hid (det_Check_is (hA.below ((Below.refl w.heap.size w).alloc (Nat.le_refl _) (.cells #[.slice a n ca] 37))) hq)
  clear hq
  go_enter Try.func38, Try.ntmps38
  go_wp2_with (go_at_call 56; refine C.out.mono ?_; rintro e w' ⟨rfl, rfl⟩; simp only [errV])
  go_ret2
  exact ⟨rfl, (Below.refl w.heap.size w).alloc (Nat.le_refl _) _⟩
set_option maxRecDepth 100000 in
set_option maxHeartbeats 4000000 in
theorem Adj_ok {a : Option Addr} {n ca : Nat} {A : List (List Int)} {w : World} (hA : RdM w a n ca A) (G : Good n n A) :
    Calls Try.prog 38 #[.slice a n ca] w fun e w' => ∃ a' cap' P, e = .returned (.tuple #[.slice a' n cap', .nilIface]) ∧ OwM w' w.heap.size 22 3 a' n cap' P ∧ IsR n n P (fun i j => adj n (mx A) i j % 9973) ∧ Below w.heap.size w w' := by
  have HM := Lib.hid matTy
  have HG := Lib.hid G
  have hn := G.n1
  have dA := G.dm
  have ha0 := (Below.refl w.heap.size w).alloc (Nat.le_refl _) (.cells #[.slice a n ca] 37)
  have C := Lib.hid (det_Check_is (hA.below ha0) (squareR_of (lo := 0) (hi := 9972) (most := 5) hn.1 (by omega) G.dm G.ent))
  clear G
  refine (callsIn_wide (n := 6)).1 ?_
  refine callsIn_of_wp_marks Try.func38 rfl trivial ?_ rfl
  simp only [Try.ntmps38, List.size_toArray, List.length_cons, List.length_nil, Nat.reduceAdd, Nat.reduceSub, Array.replicate_succ, Array.replicate_zero, List.push_toArray, List.append_toArray, List.nil_append, List.cons_append]
  refine wpIn_wide.2 ?_
  obtain ⟨bb, ob, D0, O0, C0, rfl, hbb, hD0, hGA⟩ := hA.grid dA (by omega) (by omega)
  go_wp2_with (first | (go_at_call 56; refine C.out.mono ?_; rintro e w' ⟨rfl, rfl⟩; simp only [errV]) | (go_at_call 69; refine (Grid_any n n _ (by omega) (by omega)).mono ?_; rintro e w3 ⟨a3, cap3, rfl, ho3, hb3⟩; have bx := alloc_keep (o := .cells #[.slice a3 n cap3] 37) ((hb3.cell (p := ⟨w.heap.size, 0, none⟩) (by simp)).trans (c := some (.slice (some ⟨bb, ob, none⟩) n ca)) (by simp))) | (go_at_call 70; fail))
  have k2 := ha0.trans (hb3.mono ha0.size)
  have k3 := k2.alloc k2.size (.cells #[.slice a3 n cap3] 37)
  obtain ⟨g, D, C, hz, hd3⟩ := ho3.named (by omega) fun r hr => by rw [(Dm.replicate n n 0).2 r hr]; omega
  cases hz
  have hd4 := (hd3.mono ha0.size).alloc (.cells #[.slice (some ⟨g, 0, none⟩) n cap3] 37)
  have px : (w3.alloc (.cells #[.slice (some ⟨g, 0, none⟩) n cap3] 37)).cell? ⟨w3.heap.size, 0, none⟩ = some (.slice (some ⟨g, 0, none⟩) n cap3) := by simp
  clear hd3 ho3 hb3 k2
  generalize (w3.alloc (.cells #[.slice (some ⟨g, 0, none⟩) n cap3] 37)) = W4 at *
  generalize w3.heap.size = PO at *
  refine (callsIn_wide.1 (each_in 0 (some ⟨bb, ob, none⟩) n ca W4)).mono ?_
  rintro e w' ⟨rfl, rfl⟩
  go_wp2_with fail
  refine (wpIn_wide (n := 6)).1 ?_
  have hd5 := hd4.alloc (.cells #[.slice (some ⟨bb, ob, none⟩) n ca] 37)
  have hBm : (W4.alloc (.cells #[.slice (some ⟨bb, ob, none⟩) n ca] 37)).cell? ⟨W4.heap.size, 0, none⟩ = some (.slice (some ⟨bb, ob, none⟩) n ca) := by simp
  have hBl : W4.heap.size < (W4.alloc (.cells #[.slice (some ⟨bb, ob, none⟩) n ca] 37)).heap.size := by simp
  have k5 := k3.alloc k3.size (.cells #[.slice (some ⟨bb, ob, none⟩) n ca] 37)
  have q5 := alloc_keep (o := .cells #[.slice (some ⟨bb, ob, none⟩) n ca] 37) px
  have r5 := alloc_keep (o := .cells #[.slice (some ⟨bb, ob, none⟩) n ca] 37) bx
  have h5w := k5.size
  have hG5 := hGA.below k5 hbb hD0
  clear px bx k3
  refine wpIn_rangeFunc_ownH rfl (by decide) (gf := 88) (lb := #[.pointer (some ⟨W4.heap.size, 0, none⟩)]) rfl trivial (enters_of Try.func88 (by kernel_rfl) rfl)
    (each_stops 5 (cap := ca) (by omega) (by omega) _ hBm hBl hG5 (Nat.lt_of_lt_of_le hbb h5w) (fun r hr => Nat.lt_of_lt_of_le (hD0 r hr) h5w)) (fun h h' g => h' (h g)) (fun W l o o' _ h1 h2 _ g => g.passes (grownBy_putObj' W l o') (fun r e => by cases e; exact ⟨o, h1, h2⟩)) (Below.refl _ _) (fun _ => rfl)
    (fun pre W => (∃ P, OwMD W w.heap.size 22 3 g D C n cap3 P ∧ Dm n n P ∧ ∀ r s, (r, s) ∈ plcs pre → en P r s = adj n (mx A) r s % 9973) ∧ W.cell? ⟨PO, 0, none⟩ = some (.slice (some ⟨g, 0, none⟩) n cap3) ∧ W.cell? ⟨w.heap.size, 0, none⟩ = some (.slice (some ⟨bb, ob, none⟩) n ca) ∧ Below w.heap.size w W)
    (fun _ _ _ => False)
    (fun s X Y row hs hgr hr => ⟨let ⟨P, e1, e2, e3⟩ := hs.1; ⟨P, e1.passes hgr (fun r e => (hr r e).2), e2, e3⟩, cell_kept hs.2.1 hgr (fun r e => (hr r e).2), cell_kept hs.2.2.1 hgr (fun r e => (hr r e).2), hs.2.2.2.grown hgr hs.2.2.2.size (fun r e => Nat.le_trans h5w (hr r e).1)⟩)
    (fun _ _ _ _ _ hs _ _ => hs)
    ⟨⟨_, hd5, Dm.replicate n n 0, fun r s hp => by cases hp⟩, q5, r5, k5⟩
    (fun x a' W => ∃ Bx, W.cell? ⟨Bx, 0, none⟩ = some (.int .i64 (x.1.1 : Int)) ∧ W.cell? ⟨Bx, 1, none⟩ = some (.int .i64 (x.1.2.1 : Int)) ∧ a' = { tmps := #[Value.slice (some { block := bb, off := ob }) n ca, Value.pointer (some { block := w.heap.size, off := 0 }), Value.slice none 0 0, Value.nilIface, Value.nilIface, Value.pointer (some { block := PO, off := 0 }), Value.pointer (some { block := Bx, off := 0 }), undef, undef, undef, Value.slice (some { block := bb, off := ob }) n ca, Value.nilIface, Value.nilIface, Value.bool false, undef, Value.slice (some { block := bb, off := ob }) n ca, Value.int IntKind.i64 (n : Int), Value.slice (some { block := bb, off := ob }) n ca, Value.int IntKind.i64 (n : Int), Value.slice (some { block := g, off := 0 }) n cap3, Value.slice (some { block := bb, off := ob }) n ca, Value.func (.func 88) #[] #[Value.pointer (some { block := W4.heap.size, off := 0 })], .agg #[.int .i64 (x.1.1 : Int), .int .i64 (x.1.2.1 : Int)], .int .i64 x.1.2.2, undef, undef, undef, undef, undef, undef, undef, undef, undef, undef, undef, undef, undef, undef, undef, undef, undef, undef, undef, undef, undef, undef, undef, undef], defers := [] })
    (fun x a' _ X Y row hs hgr hr => let ⟨Bx, e1, e2, e3⟩ := hs; ⟨Bx, cell_kept e1 hgr (fun r e => (hr r e).2), cell_kept e2 hgr (fun r e => (hr r e).2), e3⟩)
    ?assign ?body ?done ?stop
  case assign =>
    rintro l pre x W K ⟨⟨P, e1, e2, e3⟩, c3, c4, hbW⟩ hK
    dsimp only [encP]
    gi_wp2
    exact hK _ _ ((KeepsOthers.alloc _ _).from _) (fun g => g.fresh ((Below.refl _ _).alloc (Nat.le_refl _) _)) ⟨⟨P, e1.alloc _, e2, e3⟩, alloc_keep c3, alloc_keep c4, hbW.alloc hbW.size _⟩ ⟨W.heap.size, by simp, by simp, rfl⟩
  case body =>
    rintro l pre ⟨⟨i, j, v⟩, hi, hj, hv⟩ a' W hl ⟨r, hr⟩ ⟨⟨P, e1, e2, e3⟩, c3, c4, hbW⟩ ⟨Bx, y1, y2, rfl⟩ hlt
    clear hBm hBl q5 hd4 hd5 r5
    dsimp only at y1 y2 hi hj hv ⊢
    subst hv
    gi_wp2
    refine region_round_quiet (by kernel_rfl) (by kernel_rfl) (fun ⟨_, _, h⟩ => h) (by kernel_rfl) ?_
    repeat (go_big_quiet_step (fail))
    refine wpQuiet_nil ?_
    rintro _ ⟨nq, rfl⟩
    have kq := below_drewN (Below.refl W.heap.size W) nq
    have kw := below_drewN hbW nq
    have c4q := kq.keep (World.block_lt_of_cell? W _ c4) c4
    have C := Lib.hid (minors_of_any (hA.below kw) HG.out hj hi)
    clear y1 y2
    generalize W.drewN nq = Wd at *
    gi_wp2_with (first | (gi_at_call 81; fail))
    refine ⟨trivial, ?_⟩
    refine CallsIn.mono (show CallsIn (Fence.wide.inRound l) 3 _ _ _ _ _ from callsIn_wide.2 C.out) ?_
    clear C c4q
    rintro e w9 ⟨rfl, hb9⟩
    have kk := kq.trans (hb9.mono kq.size)
    have k9 := hbW.trans (kk.mono hbW.size)
    have e1 := e1.below kk
    have c3 := kk.keep (World.block_lt_of_cell? W _ c3) c3
    have c4 := kk.keep (World.block_lt_of_cell? W _ c4) c4
    have a1 := e1.cellO hi
    have a2 := e1.cellI hi (j := j) (by rw [e2.2 i hi]; exact hj)
    have a3 := e1.frozenI hi (by rw [e2.2 i hi]; omega) j
    rw [e2.2 i hi] at a1
    have i1 : (i : Int) < (n : Int) := by omega
    have i2 : (j : Int) < (n : Int) := by omega
    have bV := minorV_in n A j i
    have hKO : KeepsOthers W w9 := ⟨kk.size, fun k o hk _ => (kk.block k (Array.getElem?_eq_some_iff.1 hk).1).trans hk⟩
    clear kq kw hb9
    obtain ⟨V, hV⟩ : ∃ V, minorV n A j i = V := ⟨_, rfl⟩
    rw [hV] at bV ⊢
    have HV := Lib.hid hV
    clear hV kk hbW
    dsimp only
    have fin : ∀ X : Int, X = adj n (mx A) i j % 9973 → ∀ (b : Nat) (W9 : World), W9 = w9.setCell ⟨D i, j, none⟩ (.int .i64 X) → KeepsFrom b W W9 ∧ (Grid n n bb ob D0 O0 C0 (fun i j v => v = en A i j) W → Grid n n bb ob D0 O0 C0 (fun i j v => v = en A i j) W9) ∧ ((∃ P, OwMD W9 w.heap.size 22 3 g D C n cap3 P ∧ Dm n n P ∧ ∀ r s, (r, s) ∈ plcs (pre ++ [(⟨(i, j, en A i j), hi, hj, rfl⟩ : Plc n n (fun i j v => v = en A i j))]) → en P r s = adj n (mx A) r s % 9973) ∧ W9.cell? ⟨PO, 0, none⟩ = some (.slice (some ⟨g, 0, none⟩) n cap3) ∧ W9.cell? ⟨w.heap.size, 0, none⟩ = some (.slice (some ⟨bb, ob, none⟩) n ca) ∧ Below w.heap.size w W9) := by
      rintro X hX b W9 rfl
      refine ⟨(hKO.trans (KeepsOthers.setCell _ _ _)).from _, fun _ => hGA.below (k9.setCell (p := ⟨D i, j, none⟩) (e1.lowI hi).1 _) hbb hD0, ⟨_, e1.set matTy.ne hi _, e2.setE _ _ _, fun r s hp => ?_⟩, set_keepS c3 a2, set_keepS c4 a2, k9.setCell (p := ⟨D i, j, none⟩) (e1.lowI hi).1 _⟩
      rw [plcs_snoc] at hp
      have hpl : r < n ∧ s < n := by
        rcases List.mem_append.1 hp with h | h
        · exact plcs_in h
        · cases List.mem_singleton.1 h
          exact ⟨hi, hj⟩
      rw [e2.en_set _ hpl.1 hpl.2]
      split
      · next h => rw [← h.1, ← h.2]; exact hX
      · next h =>
        rcases List.mem_append.1 hp with h2 | h2
        · exact e3 r s h2
        · cases List.mem_singleton.1 h2
          exact absurd ⟨rfl, rfl⟩ h
    by_cases hp : (i + j) % 2 = 1
    · have zt : ((i : Int) + (j : Int)).tmod 2 = 1 := by rw [Int.tmod_eq_emod_of_nonneg (by omega)]; omega
      have hX : Hid (-V % 9973 = adj n (mx A) i j % 9973) := by
        unfold Hid
        rw [← HV.out]
        unfold minorV adj sg
        rw [if_neg (by omega)]
        omega
      gi_wp2_with fail
      refine ⟨trivial, CallsIn.mono (show CallsIn (Fence.wide.inRound l) _ _ _ _ _ _ from callsIn_wide.2 (Field_any _ _)) ?_⟩
      rintro e w10 ⟨rfl, rfl⟩
      dsimp only
      gi_wp2
      exact fin _ hX.out _ _ rfl
    · have zt : ((i : Int) + (j : Int)).tmod 2 = 0 := by rw [Int.tmod_eq_emod_of_nonneg (by omega)]; omega
      have hX : Hid (V = adj n (mx A) i j % 9973) := by
        unfold Hid
        rw [← HV.out]
        unfold minorV adj sg
        rw [if_pos (by omega), Int.one_mul]
      gi_wp2
      exact fin _ hX.out _ _ rfl
  case done =>
    rintro Dd ys W hDd hS ⟨⟨P, e1, e2, e3⟩, c3, c4, hbW⟩ hK
    go_wp2
    refine ⟨by simp, .inl ⟨_, _, rfl, run_takeDeferred hK, ?_⟩⟩
    have hgr := grownBy_putObj' W Dd (.deferred none)
    have hno : ∀ r, some Dd = some r → ∃ o : Obj, W.heap[r]? = some o ∧ o.isCells = false := fun r e => by cases e; exact ⟨_, hK, rfl⟩
    exact ⟨_, results_tmp2 rfl _ _ _, _, _, P, rfl, (e1.passes hgr hno).toM, ⟨e2, fun i j hi hj => e3 i j (by rw [hS]; exact locs_mem hi hj)⟩, hbW.grown hgr hbW.size (fun r e => by cases e; exact Nat.le_trans h5w hDd)⟩
  case stop =>
    rintro D c pre W _ _ h _
    exact h.elim
theorem rd11 {w : World} {b p : Nat} {x : Int} (h0 : w.cell? ⟨b, 0, none⟩ = some (.slice (some ⟨p, 0, none⟩) 1 1)) (h1 : w.cell? ⟨p, 0, none⟩ = some (.int .i64 x)) : RdM w (some ⟨b, 0, none⟩) 1 1 [[x]] := by
  refine ⟨rfl, Nat.le_refl _, by decide, fun k hk => ?_⟩
  obtain rfl : k = 0 := by omega
  exact ⟨b, 0, some ⟨p, 0, none⟩, 1, 1, rfl, h0, RdI.one h1 (Nat.le_refl _) (by decide)⟩

end Go.Proofs.Ytfocfgddlnjfmaa

