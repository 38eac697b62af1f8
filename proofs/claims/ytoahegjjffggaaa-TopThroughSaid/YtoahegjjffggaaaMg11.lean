/-
  minors.of, minors.Of, minors.Adj walked.
  A range over a function whose body always goes on, and where what is yielded may hang on what the rounds ahead have done: the caller's word (of how many rounds are over) tells the iterator what it reads. No program in sight.
  num.Each once more: a range over all places of a matrix whose numbers the loop's body may turn, so long as each number lies as it lay when its place is come to.
  inv.Of walked: what is wrong, or the inverse by the adjugate.
  Inverses by the prime: the adjugate's gives one, there is but one, products turn round. No program in sight.
-/
import Derived.Test.YtoahegjjffggaaaRows
import Derived.StillTailTactics
import Derived.Deep.QuietTactic
import Derived.BigQuiet
import Derived.RangeFuncNested
import Derived.RangeFuncCalls
import Derived.Test.YtoahegjjffggaaaMg0
import Derived.Test.YtoahegjjffggaaaMg2
import Derived.Test.YtoahegjjffggaaaMg3
import Derived.Test.YtoahegjjffggaaaMg4
import Derived.Test.YtoahegjjffggaaaMg5
import Derived.Test.YtoahegjjffggaaaMg10
namespace Go.Proofs.Ytoahegjjffggaaa
open Go.RowKit Go.Shelf Go.Rk
attribute [local go_sem] Oper.semAt_some

/-- What is left without a row and a column, by the prime. -/
def minorV (n : Nat) (M : List (List Int)) (i j : Nat) : Int := det (n - 1) (minor (mx M) i j) % 9973
theorem minorV_in (n : Nat) (M : List (List Int)) (i j : Nat) : 0 ≤ minorV n M i j ∧ minorV n M i j ≤ 9972 := by unfold minorV; omega

theorem minors_of_any {a : Option Addr} {n cap i j : Nat} {M : List (List Int)} {w : World} (h : RdM w a n cap M) (G : Good n n M) (hi : i < n) (hj : j < n) :
    Calls Try.prog 93 #[.slice a n cap, .int .i64 i, .int .i64 j] w fun e w' => e = .returned (.int .i64 (minorV n M i j)) ∧ Below w.heap.size w w' := by
  have n1 := G.n1
  by_cases h1 : n = 1
  · subst h1
    go_enter Try.func93, Try.ntmps93
    go_wp2
    go_ret
    exact ⟨rfl, Below.refl _ _⟩
  · obtain ⟨m, rfl⟩ : ∃ m, n = m + 1 := ⟨n - 1, by omega⟩
    have hw := woN_is (M := M) G.dm hi hj
    have hl : (woN M i j (m + 1)).length = m := hw.1.1
    have C1 := Lib.hid (Cut_any (i := i) h G.dm (by omega) (by omega) hj)
    rw [hl] at C1
    have he : Ent 0 9972 m (woN M i j (m + 1)) := fun r s hr hs => by
      rw [hw.2 r s hr hs]
      exact G.ent _ _ (skip_lt hr) (skip_lt hs)
    have hq : squareR 5 0 9972 (woN M i j (m + 1)) = none := squareR_of (by omega) (by omega) hw.1 he
    have hd : det m (mx (woN M i j (m + 1))) = det m (minor (mx M) i j) := det_congr fun r s hr hs => hw.2 r s hr hs
    have HQ := Lib.hid hq
    have HD := Lib.hid hd
    have z1 : (((m + 1 : Nat) : Int) == 1) = false := beq_eq_false_iff_ne.2 (by omega)
    clear hw hl he hq hd
    obtain ⟨N, hN⟩ : ∃ N, m + 1 = N := ⟨_, rfl⟩
    have HN := Lib.hid hN
    rw [hN] at h G C1 z1 HQ HD hi hj h1 n1 ⊢
    clear hN
    go_enter Try.func93, Try.ntmps93
    go_wp2_with (first | (go_at_call 98; (with_reducible refine C1.out.mono ?_); rintro e w1 ⟨a1, c1, rfl, ho, hb⟩) | (go_at_call 44; refine (det_Of_ok ho.rd HQ.out).mono ?_; rintro e w2 ⟨rfl, hb2⟩))
    go_ret
    refine ⟨?_, hb.trans (hb2.mono hb.size)⟩
    rw [HD.out]
    unfold minorV
    rw [← HN.out]
    rfl

theorem Adj_err {a : Option Addr} {n ca : Nat} {A : List (List Int)} {w : World} {x : Int} (hA : RdM w a n ca A) (hq : squareR 5 0 9972 A = some x) :
    Calls Try.prog 72 #[.slice a n ca] w fun e w' => e = .returned (.tuple #[.slice none 0 0, .iface 59 (.int .i64 x)]) ∧ Below w.heap.size w w' := by
  have C := Lib.hid (det_Check_is (hA.below ((Below.refl w.heap.size w).alloc (Nat.le_refl _) (.cells #[.slice a n ca] 43))) hq)
  clear hq
  go_enter Try.func72, Try.ntmps72
  go_wp2_with (go_at_call 73; refine C.out.mono ?_; rintro e w' ⟨rfl, rfl⟩; simp only [errV])
  go_ret2
  exact ⟨rfl, (Below.refl w.heap.size w).alloc (Nat.le_refl _) _⟩
set_option maxRecDepth 100000 in
set_option maxHeartbeats 4000000 in
theorem Adj_ok {a : Option Addr} {n ca : Nat} {A : List (List Int)} {w : World} (hA : RdM w a n ca A) (G : Good n n A) :
    Calls Try.prog 72 #[.slice a n ca] w fun e w' => ∃ a' cap' P, e = .returned (.tuple #[.slice a' n cap', .nilIface]) ∧ OwM w' w.heap.size 22 3 a' n cap' P ∧ IsR n n P (fun i j => adj n (mx A) i j % 9973) ∧ Below w.heap.size w w' := by
  have HM := Lib.hid matTy
  have HG := Lib.hid G
  have hn := G.n1
  have dA := G.dm
  have ha0 := (Below.refl w.heap.size w).alloc (Nat.le_refl _) (.cells #[.slice a n ca] 43)
  have C := Lib.hid (det_Check_is (hA.below ha0) (squareR_of (lo := 0) (hi := 9972) (most := 5) hn.1 (by omega) G.dm G.ent))
  clear G
  refine (callsIn_wide (n := 6)).1 ?_
  refine callsIn_of_wp_marks Try.func72 rfl trivial ?_ rfl
  simp only [Try.ntmps72, List.size_toArray, List.length_cons, List.length_nil, Nat.reduceAdd, Nat.reduceSub, Array.replicate_succ, Array.replicate_zero, List.push_toArray, List.append_toArray, List.nil_append, List.cons_append]
  refine wpIn_wide.2 ?_
  obtain ⟨bb, ob, D0, O0, C0, rfl, hbb, hD0, hGA⟩ := hA.grid dA (by omega) (by omega)
  go_wp2_with (first | (go_at_call 73; refine C.out.mono ?_; rintro e w' ⟨rfl, rfl⟩; simp only [errV]) | (go_at_call 64; refine (Grid_any n n _ (by omega) (by omega)).mono ?_; rintro e w3 ⟨a3, cap3, rfl, ho3, hb3⟩; have bx := alloc_keep (o := .cells #[.slice a3 n cap3] 43) ((hb3.cell (p := ⟨w.heap.size, 0, none⟩) (by simp)).trans (c := some (.slice (some ⟨bb, ob, none⟩) n ca)) (by simp))) | (go_at_call 65; fail))
  have k2 := ha0.trans (hb3.mono ha0.size)
  have k3 := k2.alloc k2.size (.cells #[.slice a3 n cap3] 43)
  obtain ⟨g, D, C, hz, hd3⟩ := ho3.named (by omega) fun r hr => by rw [(Dm.replicate n n 0).2 r hr]; omega
  cases hz
  have hd4 := (hd3.mono ha0.size).alloc (.cells #[.slice (some ⟨g, 0, none⟩) n cap3] 43)
  have px : (w3.alloc (.cells #[.slice (some ⟨g, 0, none⟩) n cap3] 43)).cell? ⟨w3.heap.size, 0, none⟩ = some (.slice (some ⟨g, 0, none⟩) n cap3) := by simp
  clear hd3 ho3 hb3 k2
  generalize (w3.alloc (.cells #[.slice (some ⟨g, 0, none⟩) n cap3] 43)) = W4 at *
  generalize w3.heap.size = PO at *
  refine (callsIn_wide.1 (each_in 0 (some ⟨bb, ob, none⟩) n ca W4)).mono ?_
  rintro e w' ⟨rfl, rfl⟩
  go_wp2_with fail
  refine (wpIn_wide (n := 6)).1 ?_
  have hd5 := hd4.alloc (.cells #[.slice (some ⟨bb, ob, none⟩) n ca] 43)
  have hBm : (W4.alloc (.cells #[.slice (some ⟨bb, ob, none⟩) n ca] 43)).cell? ⟨W4.heap.size, 0, none⟩ = some (.slice (some ⟨bb, ob, none⟩) n ca) := by simp
  have hBl : W4.heap.size < (W4.alloc (.cells #[.slice (some ⟨bb, ob, none⟩) n ca] 43)).heap.size := by simp
  have k5 := k3.alloc k3.size (.cells #[.slice (some ⟨bb, ob, none⟩) n ca] 43)
  have q5 := alloc_keep (o := .cells #[.slice (some ⟨bb, ob, none⟩) n ca] 43) px
  have r5 := alloc_keep (o := .cells #[.slice (some ⟨bb, ob, none⟩) n ca] 43) bx
  have h5w := k5.size
  have hG5 := hGA.below k5 hbb hD0
  clear px bx k3
  refine wpIn_rangeFunc_ownH rfl (by decide) (gf := 88) (lb := #[.pointer (some ⟨W4.heap.size, 0, none⟩)]) rfl trivial (enters_of Try.func88 (by kernel_rfl) rfl)
    (each_stops 5 (cap := ca) (by omega) (by omega) _ hBm hBl hG5 (Nat.lt_of_lt_of_le hbb h5w) (fun r hr => Nat.lt_of_lt_of_le (hD0 r hr) h5w)) (fun h h' g => h' (h g)) (fun W l o o' _ h1 h2 _ g => g.passes (grownBy_putObj' W l o') (fun r e => by cases e; exact ⟨o, h1, h2⟩)) (Below.refl _ _) (fun _ => rfl)
    (fun pre W => (∃ P, OwMD W w.heap.size 22 3 g D C n cap3 P ∧ Dm n n P ∧ ∀ r s, (r, s) ∈ plcs pre → en P r s = adj n (mx A) r s % 9973) ∧ W.cell? ⟨PO, 0, none⟩ = some (.slice (some ⟨g, 0, none⟩) n cap3) ∧ W.cell? ⟨w.heap.size, 0, none⟩ = some (.slice (some ⟨bb, ob, none⟩) n ca) ∧ Below w.heap.size w W)
    (fun _ _ _ => False)
    (fun s X Y row hs hgr hr => ⟨let ⟨P, e1, e2, e3⟩ := hs.1; ⟨P, e1.passes hgr (fun r e => (hr r e).2), e2, e3⟩, cell_kept hs.2.1 hgr (fun r e => (hr r e).2), cell_kept hs.2.2.1 hgr (fun r e => (hr r e).2), hs.2.2.2.grown hgr hs.2.2.2.size (fun r e => Nat.le_trans h5w (hr r e).1)⟩)
    (fun _ _ _ _ _ hs _ _ => hs)
    ⟨⟨_, hd5, Dm.replicate n n 0, fun r s hp => by cases hp⟩, q5, r5, k5⟩
    (fun x a' W => ∃ Bx, W.cell? ⟨Bx, 0, none⟩ = some (.int .i64 (x.1.1 : Int)) ∧ W.cell? ⟨Bx, 1, none⟩ = some (.int .i64 (x.1.2.1 : Int)) ∧ a' = { tmps := #[Value.slice (some { block := bb, off := ob }) n ca, Value.pointer (some { block := w.heap.size, off := 0 }), Value.slice none 0 0, Value.nilIface, Value.nilIface, Value.pointer (some { block := PO, off := 0 }), Value.pointer (some { block := Bx, off := 0 }), undef, undef, undef, Value.slice (some { block := bb, off := ob }) n ca, Value.nilIface, Value.nilIface, Value.bool false, undef, Value.slice (some { block := bb, off := ob }) n ca, Value.int IntKind.i64 (n : Int), Value.slice (some { block := bb, off := ob }) n ca, Value.int IntKind.i64 (n : Int), Value.slice (some { block := g, off := 0 }) n cap3, Value.slice (some { block := bb, off := ob }) n ca, Value.func (.func 88) #[] #[Value.pointer (some { block := W4.heap.size, off := 0 })], .agg #[.int .i64 (x.1.1 : Int), .int .i64 (x.1.2.1 : Int)], .int .i64 x.1.2.2, undef, undef, undef, undef, undef, undef, undef, undef, undef, undef, undef, undef, undef, undef, undef, undef, undef, undef, undef, undef, undef, undef, undef, undef], defers := [] })
    (fun x a' _ X Y row hs hgr hr => let ⟨Bx, e1, e2, e3⟩ := hs; ⟨Bx, cell_kept e1 hgr (fun r e => (hr r e).2), cell_kept e2 hgr (fun r e => (hr r e).2), e3⟩)
    ?assign ?body ?done ?stop
  case assign =>
    rintro l pre x W K ⟨⟨P, e1, e2, e3⟩, c3, c4, hbW⟩ hK
    dsimp only [encP]
    gi_wp2
    exact hK _ _ ((KeepsOthers.alloc _ _).from _) (fun g => g.fresh ((Below.refl _ _).alloc (Nat.le_refl _) _)) ⟨⟨P, e1.alloc _, e2, e3⟩, alloc_keep c3, alloc_keep c4, hbW.alloc hbW.size _⟩ ⟨W.heap.size, by simp, by simp, rfl⟩
  case body =>
    rintro l pre ⟨⟨i, j, v⟩, hi, hj, hv⟩ a' W hl ⟨r, hr⟩ ⟨⟨P, e1, e2, e3⟩, c3, c4, hbW⟩ ⟨Bx, y1, y2, rfl⟩ hlt
    clear hBm hBl q5 hd4 hd5 r5
    dsimp only at y1 y2 hi hj hv ⊢
    subst hv
    gi_wp2
    refine region_round_quiet (by kernel_rfl) (by kernel_rfl) (fun ⟨_, _, h⟩ => h) (by kernel_rfl) ?_
    repeat (go_big_quiet_step (fail))
    refine wpQuiet_nil ?_
    rintro _ ⟨nq, rfl⟩
    have kq := below_drewN (Below.refl W.heap.size W) nq
    have kw := below_drewN hbW nq
    have c4q := kq.keep (World.block_lt_of_cell? W _ c4) c4
    have C := Lib.hid (minors_of_any (hA.below kw) HG.out hj hi)
    clear y1 y2
    generalize W.drewN nq = Wd at *
    gi_wp2_with (first | (gi_at_call 93; fail))
    refine ⟨trivial, ?_⟩
    refine CallsIn.mono (show CallsIn (Fence.wide.inRound l) 3 _ _ _ _ _ from callsIn_wide.2 C.out) ?_
    clear C c4q
    rintro e w9 ⟨rfl, hb9⟩
    have kk := kq.trans (hb9.mono kq.size)
    have k9 := hbW.trans (kk.mono hbW.size)
    have e1 := e1.below kk
    have c3 := kk.keep (World.block_lt_of_cell? W _ c3) c3
    have c4 := kk.keep (World.block_lt_of_cell? W _ c4) c4
    have a1 := e1.cellO hi
    have a2 := e1.cellI hi (j := j) (by rw [e2.2 i hi]; exact hj)
    have a3 := e1.frozenI hi (by rw [e2.2 i hi]; omega) j
    rw [e2.2 i hi] at a1
    have i1 : (i : Int) < (n : Int) := by omega
    have i2 : (j : Int) < (n : Int) := by omega
    have bV := minorV_in n A j i
    have hKO : KeepsOthers W w9 := ⟨kk.size, fun k o hk _ => (kk.block k (Array.getElem?_eq_some_iff.1 hk).1).trans hk⟩
    clear kq kw hb9
    obtain ⟨V, hV⟩ : ∃ V, minorV n A j i = V := ⟨_, rfl⟩
    rw [hV] at bV ⊢
    have HV := Lib.hid hV
    clear hV kk hbW
    dsimp only
    have fin : ∀ X : Int, X = adj n (mx A) i j % 9973 → ∀ (b : Nat) (W9 : World), W9 = w9.setCell ⟨D i, j, none⟩ (.int .i64 X) → KeepsFrom b W W9 ∧ (Grid n n bb ob D0 O0 C0 (fun i j v => v = en A i j) W → Grid n n bb ob D0 O0 C0 (fun i j v => v = en A i j) W9) ∧ ((∃ P, OwMD W9 w.heap.size 22 3 g D C n cap3 P ∧ Dm n n P ∧ ∀ r s, (r, s) ∈ plcs (pre ++ [(⟨(i, j, en A i j), hi, hj, rfl⟩ : Plc n n (fun i j v => v = en A i j))]) → en P r s = adj n (mx A) r s % 9973) ∧ W9.cell? ⟨PO, 0, none⟩ = some (.slice (some ⟨g, 0, none⟩) n cap3) ∧ W9.cell? ⟨w.heap.size, 0, none⟩ = some (.slice (some ⟨bb, ob, none⟩) n ca) ∧ Below w.heap.size w W9) := by
      rintro X hX b W9 rfl
      refine ⟨(hKO.trans (KeepsOthers.setCell _ _ _)).from _, fun _ => hGA.below (k9.setCell (p := ⟨D i, j, none⟩) (e1.lowI hi).1 _) hbb hD0, ⟨_, e1.set matTy.ne hi _, e2.setE _ _ _, fun r s hp => ?_⟩, set_keepS c3 a2, set_keepS c4 a2, k9.setCell (p := ⟨D i, j, none⟩) (e1.lowI hi).1 _⟩
      rw [plcs_snoc] at hp
      have hpl : r < n ∧ s < n := by
        rcases List.mem_append.1 hp with h | h
        · exact plcs_in h
        · cases List.mem_singleton.1 h
          exact ⟨hi, hj⟩
      rw [e2.en_set _ hpl.1 hpl.2]
      split
      · next h => rw [← h.1, ← h.2]; exact hX
      · next h =>
        rcases List.mem_append.1 hp with h2 | h2
        · exact e3 r s h2
        · cases List.mem_singleton.1 h2
          exact absurd ⟨rfl, rfl⟩ h
    by_cases hp : (i + j) % 2 = 1
    · have zt : ((i : Int) + (j : Int)).tmod 2 = 1 := by rw [Int.tmod_eq_emod_of_nonneg (by omega)]; omega
      have hX : Hid (-V % 9973 = adj n (mx A) i j % 9973) := by
        unfold Hid
        rw [← HV.out]
        unfold minorV adj sg
        rw [if_neg (by omega)]
        omega
      gi_wp2_with fail
      refine ⟨trivial, CallsIn.mono (show CallsIn (Fence.wide.inRound l) _ _ _ _ _ _ from callsIn_wide.2 (Field_any _ _)) ?_⟩
      rintro e w10 ⟨rfl, rfl⟩
      dsimp only
      gi_wp2
      exact fin _ hX.out _ _ rfl
    · have zt : ((i : Int) + (j : Int)).tmod 2 = 0 := by rw [Int.tmod_eq_emod_of_nonneg (by omega)]; omega
      have hX : Hid (V = adj n (mx A) i j % 9973) := by
        unfold Hid
        rw [← HV.out]
        unfold minorV adj sg
        rw [if_pos (by omega), Int.one_mul]
      gi_wp2
      exact fin _ hX.out _ _ rfl
  case done =>
    rintro Dd ys W hDd hS ⟨⟨P, e1, e2, e3⟩, c3, c4, hbW⟩ hK
    go_wp2
    refine ⟨by simp, .inl ⟨_, _, rfl, run_takeDeferred hK, ?_⟩⟩
    have hgr := grownBy_putObj' W Dd (.deferred none)
    have hno : ∀ r, some Dd = some r → ∃ o : Obj, W.heap[r]? = some o ∧ o.isCells = false := fun r e => by cases e; exact ⟨_, hK, rfl⟩
    exact ⟨_, results_tmp2 rfl _ _ _, _, _, P, rfl, (e1.passes hgr hno).toM, ⟨e2, fun i j hi hj => e3 i j (by rw [hS]; exact locs_mem hi hj)⟩, hbW.grown hgr hbW.size (fun r e => by cases e; exact Nat.le_trans h5w hDd)⟩
  case stop =>
    rintro D c pre W _ _ h _
    exact h.elim
theorem rd11 {w : World} {b p : Nat} {x : Int} (h0 : w.cell? ⟨b, 0, none⟩ = some (.slice (some ⟨p, 0, none⟩) 1 1)) (h1 : w.cell? ⟨p, 0, none⟩ = some (.int .i64 x)) : RdM w (some ⟨b, 0, none⟩) 1 1 [[x]] := by
  refine ⟨rfl, Nat.le_refl _, by decide, fun k hk => ?_⟩
  obtain rfl : k = 0 := by omega
  exact ⟨b, 0, some ⟨p, 0, none⟩, 1, 1, rfl, h0, RdI.one h1 (Nat.le_refl _) (by decide)⟩

end Go.Proofs.Ytoahegjjffggaaa

namespace Go.Rk
open Go.RowKit

variable {P : Program}

/-- What an iterator owes: at a loop of N rounds that keeps the word J, of which I tells, it comes to its end. -/
def SeqOn (n : Nat) (P : Program) (gf : Nat) (lb : Array Value) (encs : Nat → Array Value) (I : Nat → World → Prop) (N : Nat) : Prop :=
  ∀ (l : Nat) (J : Nat → World → Prop) (W : World), (∀ k W1, J k W1 → I k W1) →
    (∀ k W1, k < N → J k W1 → YieldAt Fence.wide (n - 1) P l (encs k) W1 fun e W' => e = .returned (.bool true) ∧ J (k + 1) W') → J 0 W →
    CallsIn Fence.wide n P gf (#[.func (.yield l) #[] #[]] ++ lb) W fun e W' => (∃ v, e = .returned v) ∧ J N W'

theorem range_on {n : Nat} {g : Operand} {ps : Array Tmp} {assign body : Code} {Q : Exit → Act → World → Prop} {a : Act} {w : World}
    (h1 : 1 ≤ n) {gf : Nat} {lb : Array Value} (hg : a.eval g = .func (.func gf) #[] lb) (eg : ∀ args w, (callFunc gf args).run P w = .ok (.enter gf args) w)
    {encs : Nat → Array Value} {N : Nat} (hps : ∀ k, (encs k).size = ps.size) (I : Nat → World → Prop) (hI : OwnFrom w.heap.size I) (hseq : SeqOn (n - 1) P gf lb encs I N) (h0 : I 0 w)
    (Ax : Nat → Act → World → Prop) (hAx : ∀ a', OwnFrom w.heap.size (fun k W => Ax k a' W))
    (hassign : ∀ (l k : Nat) (W : World) (K : Act → World → Prop), k < N → I k W → (∀ a' W', KeepsFrom w.heap.size W W' → I k W' → Ax k a' W' → K a' W') →
      assign.wpIn (Fence.wide.inRound l) (n - 1 - 1) P (Exit.then K (fun _ _ _ => False)) { tmps := (ps.zip (encs k)).foldl (fun t (p, v) => t.setIfInBounds p v) a.tmps, defers := [] } W)
    (hbody : ∀ (l k : Nat) (a' : Act) (W : World), k < N → I k W → Ax k a' W → body.wpIn (Fence.wide.inRound l) (n - 1 - 1) P (fun e _ W' => e = .normal ∧ KeepsFrom w.heap.size W W' ∧ I (k + 1) W') a' W)
    (hdone : ∀ (D : Nat) (W : World), w.heap.size ≤ D → I N W → W.heap[D]? = some (.deferred (some [])) → Q .normal { a with defers := { target := .collected D, args := #[] } :: a.defers } W) :
    (Code.rangeFunc g ps assign body).wpIn Fence.wide n P Q a w := by
  refine wpIn_rangeFunc fun fn _ => ?_
  -- the loop's record at each of its states, and the two blocks that are laid
  let R : LoopState → Loop := fun st => { state := st, pending := none, fn, tmps := a.tmps, params := ps, assign, body, defers := w.heap.size }
  let B := w.heap.size
  let Held : LoopState → World → Prop := fun st W => W.heap[B + 1]? = some (.loop (R st)) ∧ W.heap[B]? = some (.deferred (some []))
  let W0 := (w.alloc (.deferred (some []))).alloc (.loop (R .ready))
  have hB0 : Held .ready W0 := by
    refine ⟨?_, (Below.heap_alloc _ _ _ (by simp [B])).trans (World.alloc_heap_new w _)⟩
    have := World.alloc_heap_new (w.alloc (.deferred (some []))) (.loop (R .ready))
    rwa [World.size_alloc] at this
  have hI0 : I 0 W0 := hI.alloc _ (hI.alloc _ h0)
  refine ⟨B + 1, [{ target := .collected B, args := #[] }], W0, { target := .fn (.func gf) lb, args := #[.func (.yield (B + 1)) #[] #[]] }, W0, gf, #[.func (.yield (B + 1)) #[] #[]] ++ lb, W0,
    run_enterLoop_outer _ _ _ _ _, ?_, fun f' _ => trivial, ?_, fun _ => h1, ?_⟩
  · simp only [resolve, hg]
    simp [go_sem]
  · simp [invoke, go_sem, eg]
  · -- a state's turn leaves what is said of I, and the other block
    have turn : ∀ {st W} (st'), Held st W → Held st' (W.putObj (B + 1) (.loop (R st'))) := fun st' h =>
      ⟨World.putObj_heap_same (Array.getElem?_eq_some_iff.1 h.1).1, (World.putObj_heap_other (by omega)).trans h.2⟩
    have kept : ∀ {st W W'}, Held st W → KeepsFrom B W W' → Held st W' := fun h k => ⟨k.same _ _ (by omega) h.1 rfl, k.same _ _ (Nat.le_refl _) h.2 rfl⟩
    refine (hseq (B + 1) (fun k W => I k W ∧ Held .ready W) W0 (fun _ _ h => h.1) ?_ ⟨hI0, hB0⟩).mono ?_
    · rintro k W hk ⟨hi, hh⟩
      refine ⟨fn, _, assign, body, run_yield hh.1 (hps k), roundIn_of_wpIn trivial (hassign _ k W _ hk hi fun a' Wa hka hia hax => ?_)⟩
      have hh2 := kept hh hka
      refine ⟨_, run_beginRound hh2.1 rfl, wpIn_mono (hbody _ k a' _ hk (hI.putObj _ hia (by omega) hh2.1 rfl) ((hAx a').putObj _ hax (by omega) hh2.1 rfl)) ?_⟩
      rintro e a3 W3 ⟨rfl, hk3, hi3⟩
      have hh3 := kept (turn .busy hh2) hk3
      exact ⟨_, _, run_endRound none hh3.1, rfl, hI.putObj _ hi3 (by omega) hh3.1 rfl, turn .ready hh3⟩
    · rintro e W2 ⟨⟨v, rfl⟩, hi, hh⟩
      exact ⟨none, _, run_endLoop hh.1 (by simp [R]), hdone _ _ (Nat.le_refl _) (hI.putObj _ hi (by omega) hh.1 rfl) ((World.putObj_heap_other (by omega)).trans hh.2)⟩
end Go.Rk
namespace Go.Rk
open Go.RowKit

/-- Where the rows of a matrix lie, and what lies at its place number k. -/
structure GridAt (n c b off : Nat) (D O C : Nat → Nat) (v : Nat → Nat → Int) (k : Nat) (W : World) : Prop where
  hdr : ∀ i, i < n → W.cell? ⟨b, off + i, none⟩ = some (.slice (some ⟨D i, O i, none⟩) c (C i))
  el : ∀ i j, i < n → j < c → i * c + j = k → W.cell? ⟨D i, O i + j, none⟩ = some (.int .i64 (v i j))

/-- What is yielded at place number k. -/
def encE (c : Nat) (v : Nat → Nat → Int) (k : Nat) : Array Value := #[.agg #[.int .i64 ((k / c : Nat) : Int), .int .i64 ((k % c : Nat) : Int)], .int .i64 (v (k / c) (k % c))]
theorem encE_at {c : Nat} {v : Nat → Nat → Int} {i j : Nat} (hj : j < c) : encE c v (i * c + j) = #[.agg #[.int .i64 (i : Int), .int .i64 (j : Int)], .int .i64 (v i j)] := by
  have h1 : (i * c + j) / c = i := by rw [Nat.mul_comm, Nat.mul_add_div (by omega), Nat.div_eq_of_lt hj, Nat.add_zero]
  have h2 : (i * c + j) % c = j := by rw [Nat.mul_comm, Nat.mul_add_mod, Nat.mod_eq_of_lt hj]
  unfold encE
  rw [h1, h2]
end Go.Rk
namespace Go.Proofs.Ytoahegjjffggaaa
open Go.RowKit Go.Shelf Go.Rk
attribute [local go_sem] Oper.semAt_some

set_option maxRecDepth 100000 in
set_option maxHeartbeats 4000000 in
theorem each1_on (m : Nat) {n c b off cap Bm : Nat} {D O C : Nat → Nat} {v : Nat → Nat → Int} (hn : n ≤ 1000000) (hc : c ≤ 1000000) (I : Nat → World → Prop)
    (hI : ∀ k W, I k W → GridAt n c b off D O C v k W ∧ W.cell? ⟨Bm, 0, none⟩ = some (.slice (some ⟨b, off, none⟩) n cap)) :
    SeqOn m Try.prog 88 #[.pointer (some ⟨Bm, 0, none⟩)] (encE c v) I (n * c) := by
  intro l J W hJI hY h0
  have hBm := (hI _ _ (hJI _ _ h0)).2
  have HGI : Hid (∀ k W, J k W → GridAt n c b off D O C v k W) := fun k W h => (hI _ _ (hJI _ _ h)).1
  refine callsIn_of_wp Try.func88 rfl trivial ?_ rfl
  simp only [Try.ntmps88, List.size_toArray, List.length_cons, List.length_nil, Nat.reduceAdd, Nat.reduceSub, Array.replicate_succ, Array.replicate_zero, List.push_toArray, List.append_toArray, List.nil_append, List.cons_append]
  gi_wp2
  gi_loopw [9] (fun x wr => ∃ (i : Nat), i ≤ n ∧ x = .int .i64 i ∧ J (i * c) wr)
    (fun x _ => n - (intOf x).toNat)
  case atStart => exact ⟨0, Nat.zero_le _, rfl, by rw [Nat.zero_mul]; exact h0⟩
  case round =>
    obtain ⟨i, hi, rfl, hJ⟩ := hrel
    by_cases hlt : i < n
    · have y1 := (HGI.out _ _ hJ).hdr i hlt
      gi_wp2
      gi_loopw [16] (fun x wt => ∃ (j : Nat), j ≤ c ∧ x = .int .i64 j ∧ J (i * c + j) wt)
        (fun x _ => c - (intOf x).toNat)
      case atStart => exact ⟨0, Nat.zero_le _, rfl, hJ⟩
      case round =>
        clear hJ y1
        obtain ⟨j, hj, rfl, hJ⟩ := hrel
        by_cases hjc : j < c
        · have y2 := (HGI.out _ _ hJ).el i j hlt hjc rfl
          have hy0 := hY _ wr (place_lt hlt hjc) hJ
          rw [encE_at hjc] at hy0
          obtain ⟨fn, tmps, assign, body, hy, hR⟩ := hy0
          gi_wp2
          refine ⟨fun e => by simp [Fence.wide] at e, hR.mono ?_⟩
          rintro e W3 ⟨rfl, hJ3⟩
          gi_wp2
          go_roundw
          case rel => exact ⟨j + 1, by omega, by go_num, hJ3⟩
          case measure => simp [intOf]; omega
        · obtain rfl : j = c := by omega
          gi_wp2
          go_roundw
          case rel => exact ⟨i + 1, by omega, by go_num, by rw [Nat.add_mul, Nat.one_mul]; exact hJ⟩
          case measure => simp [intOf]; omega
    · obtain rfl : i = n := by omega
      gi_wp2
      go_end0
      exact ⟨⟨_, rfl⟩, hJ⟩
end Go.Proofs.Ytoahegjjffggaaa
namespace Go.Proofs.Ytoahegjjffggaaa
open Go.RowKit Go.Shelf Go.Rk
attribute [local go_sem] Oper.semAt_some

section
variable {a : Option Addr} {n ca : Nat} {A : List (List Int)} {w : World}
theorem inv_Of_err {x : Int} (hA : RdM w a n ca A) (hq : squareR 5 0 9972 A = some x) :
    Calls Try.prog 35 #[.slice a n ca] w fun e w' => e = .returned (.tuple #[.slice none 0 0, .iface 59 (.int .i64 x)]) ∧ w = w' := by
  have C := Lib.hid (det_Of_err hA hq)
  clear hq
  go_enter Try.func35, Try.ntmps35
  go_wp2_with (go_at_call 44; refine C.out.mono ?_; rintro e w' ⟨rfl, rfl⟩)
  go_ret2
  exact ⟨rfl, rfl⟩
theorem inv_Of_none (hA : RdM w a n ca A) (G : Good n n A) (hd : det n (mx A) % 9973 = 0) :
    Calls Try.prog 35 #[.slice a n ca] w fun e w' => e = .returned (.tuple #[.slice none 0 0, .iface 59 (.int .i64 5)]) ∧ Below w.heap.size w w' := by
  have C := det_Of_ok hA (squareR_of (lo := 0) (hi := 9972) (most := 5) G.n1.1 (by have := G.n1; omega) G.dm G.ent)
  rw [hd] at C
  have C := Lib.hid C
  clear hd
  go_enter Try.func35, Try.ntmps35
  go_wp2_with (go_at_call 44; refine C.out.mono ?_; rintro e w' ⟨rfl, hb⟩)
  go_ret2
  exact ⟨rfl, hb⟩

/-- The inverse's numbers. -/
def invE (n : Nat) (A : List (List Int)) (i j : Nat) : Int := adj n (mx A) i j % 9973 * powm (det n (mx A) % 9973) 9971 % 9973

set_option maxRecDepth 100000 in
set_option maxHeartbeats 4000000 in
theorem inv_Of_ok (hA : RdM w a n ca A) (G : Good n n A) (hd : det n (mx A) % 9973 ≠ 0) :
    Calls Try.prog 35 #[.slice a n ca] w fun e w' => ∃ a' cap' P, e = .returned (.tuple #[.slice a' n cap', .nilIface]) ∧ OwM w' w.heap.size 22 3 a' n cap' P ∧ IsR n n P (invE n A) ∧ Below w.heap.size w w' := by
  have HM := Lib.hid matTy
  have HG := Lib.hid G
  have hn := G.n1
  have C := Lib.hid (det_Of_ok hA (squareR_of (lo := 0) (hi := 9972) (most := 5) hn.1 (by omega) G.dm G.ent))
  clear G
  obtain ⟨d, hd2⟩ : ∃ d, d = det n (mx A) % 9973 := ⟨_, rfl⟩
  rw [← hd2] at C hd
  have bd : 0 ≤ d ∧ d ≤ 9972 := by omega
  have z1 : (d == 0) = false := beq_eq_false_iff_ne.2 hd
  have HD := Lib.hid hd2
  clear hd hd2
  refine (callsIn_wide (n := 6)).1 ?_
  refine callsIn_of_wp_marks Try.func35 rfl trivial ?_ rfl
  simp only [Try.ntmps35, List.size_toArray, List.length_cons, List.length_nil, Nat.reduceAdd, Nat.reduceSub, Array.replicate_succ, Array.replicate_zero, List.push_toArray, List.append_toArray, List.nil_append, List.cons_append]
  refine wpIn_wide.2 ?_
  obtain ⟨O, hO⟩ : ∃ O, powm d 9971 = O := ⟨_, rfl⟩
  have bO : 0 ≤ O ∧ O ≤ 9972 := by rw [← hO]; unfold powm; omega
  have CO := Over_any d
  rw [hO] at CO
  have CO := Lib.hid CO
  have HO := Lib.hid hO
  clear hO
  go_wp2_with (first | (go_at_call 44; (with_reducible refine C.out.mono ?_); rintro e w1 ⟨rfl, k1⟩) | (go_at_call 72; refine (Adj_ok (hA.below k1) HG.out).mono ?_; rintro e w2 ⟨a2, c2, P0, rfl, ho2, hP0, b2⟩; obtain ⟨g, D, Cp, hz, hd2⟩ := ho2.named (by omega) (fun r hr => by rw [hP0.1.2 r hr]; omega); cases hz; have k2 := below_tr k1 b2) | (go_at_call 52; (with_reducible refine (CO.out _ bd.1 bd.2).mono ?_); rintro e w4 ⟨rfl, rfl⟩) | (go_at_call 65; fail))
  have hlow : Hid (g < w2.heap.size ∧ ∀ i, i < n → D i < w2.heap.size) := ⟨hd2.lowO.2, fun i hi => (hd2.lowI hi).2⟩
  have hd4 := ((hd2.mono k1.size).alloc (.cells #[.slice (some ⟨g, 0, none⟩) n c2] 43)).alloc (.cells #[.int .i64 O] 3)
  have k3 := k2.alloc k2.size (.cells #[.slice (some ⟨g, 0, none⟩) n c2] 43)
  have k4 := k3.alloc k3.size (.cells #[.int .i64 O] 3)
  have px : ((w2.alloc (.cells #[.slice (some ⟨g, 0, none⟩) n c2] 43)).alloc (.cells #[.int .i64 O] 3)).cell? ⟨w2.heap.size, 0, none⟩ = some (.slice (some ⟨g, 0, none⟩) n c2) := alloc_keep (by simp)
  have py : ((w2.alloc (.cells #[.slice (some ⟨g, 0, none⟩) n c2] 43)).alloc (.cells #[.int .i64 O] 3)).cell? ⟨w2.heap.size + 1, 0, none⟩ = some (.int .i64 O) := by simp
  have hPO : Hid (g < w2.heap.size + 1 ∧ ∀ i, i < n → D i < w2.heap.size + 1) := ⟨by have := hlow.out.1; omega, fun i hi => by have := hlow.out.2 i hi; omega⟩
  clear C CO b2 ho2 k3 hd2 hlow
  generalize ((w2.alloc (.cells #[.slice (some ⟨g, 0, none⟩) n c2] 43)).alloc (.cells #[.int .i64 O] 3)) = W4 at *
  have hPQ : Hid (w2.heap.size + 1 ≠ w2.heap.size) := Nat.succ_ne_self _
  have hlow1 : Hid (∀ i, i < n → D i ≠ w2.heap.size + 1) := fun i hi e => by have := hPO.out.2 i hi; omega
  clear hPO
  generalize w2.heap.size = PO at *
  generalize PO + 1 = PV at *
  refine (callsIn_wide.1 (each_in 0 (some ⟨g, 0, none⟩) n c2 W4)).mono ?_
  rintro e w' ⟨rfl, rfl⟩
  go_wp2_with fail
  refine (wpIn_wide (n := 6)).1 ?_
  have hd5 := hd4.alloc (.cells #[.slice (some ⟨g, 0, none⟩) n c2] 43)
  have hBm : (W4.alloc (.cells #[.slice (some ⟨g, 0, none⟩) n c2] 43)).cell? ⟨W4.heap.size, 0, none⟩ = some (.slice (some ⟨g, 0, none⟩) n c2) := by simp
  have k5 := k4.alloc k4.size (.cells #[.slice (some ⟨g, 0, none⟩) n c2] 43)
  have q5 := alloc_keep (o := .cells #[.slice (some ⟨g, 0, none⟩) n c2] 43) px
  have r5 := alloc_keep (o := .cells #[.slice (some ⟨g, 0, none⟩) n c2] 43) py
  have h5w := k5.size
  clear px py k4 hd4
  let V : Nat → Nat → Int := fun i j => adj n (mx A) i j % 9973
  let I : Nat → World → Prop := fun k W => (∃ P, OwMD W w.heap.size 22 3 g D Cp n c2 P ∧ Dm n n P ∧ ∀ i j, i < n → j < n → en P i j = if i * n + j < k then V i j * O % 9973 else V i j) ∧ W.cell? ⟨PO, 0, none⟩ = some (.slice (some ⟨g, 0, none⟩) n c2) ∧ W.cell? ⟨PV, 0, none⟩ = some (.int .i64 O) ∧ W.cell? ⟨W4.heap.size, 0, none⟩ = some (.slice (some ⟨g, 0, none⟩) n c2) ∧ Below w.heap.size w W
  refine range_on (n := 6) (by decide) (gf := 88) (lb := #[.pointer (some ⟨W4.heap.size, 0, none⟩)]) rfl (enters_of Try.func88 (by kernel_rfl) rfl) (encs := encE n V) (N := n * n) (fun _ => rfl) I
    (fun k X Y row hs hgr hr => ⟨let ⟨P, e1, e2, e3⟩ := hs.1; ⟨P, e1.passes hgr (fun r e => (hr r e).2), e2, e3⟩, cell_kept hs.2.1 hgr (fun r e => (hr r e).2), cell_kept hs.2.2.1 hgr (fun r e => (hr r e).2), cell_kept hs.2.2.2.1 hgr (fun r e => (hr r e).2), hs.2.2.2.2.grown hgr hs.2.2.2.2.size (fun r e => Nat.le_trans h5w (hr r e).1)⟩)
    (each1_on 5 (n := n) (c := n) (v := V) (D := D) (O := fun _ => 0) (C := Cp) (b := g) (off := 0) (cap := c2) (by omega) (by omega) I fun k W h => ⟨let ⟨P, e1, e2, e3⟩ := h.1; ⟨fun i hi => by rw [Nat.zero_add, ← e2.2 i hi]; exact e1.cellO hi, fun i j hi hj hk => by rw [Nat.zero_add, e1.cellI hi (by rw [e2.2 i hi]; exact hj), e3 i j hi hj, if_neg (by omega)]⟩, h.2.2.2.1⟩)
    ⟨⟨P0, hd5, hP0.1, fun i j hi hj => by rw [if_neg (Nat.not_lt_zero _)]; exact hP0.2 i j hi hj⟩, q5, r5, hBm, k5⟩
    (fun k a' W => ∃ Bx, W.cell? ⟨Bx, 0, none⟩ = some (.int .i64 ((k / n : Nat) : Int)) ∧ W.cell? ⟨Bx, 1, none⟩ = some (.int .i64 ((k % n : Nat) : Int)) ∧ a' = { tmps := #[Value.slice a n ca, undef, Value.slice none 0 0, Value.nilIface, Value.int IntKind.i64 d, Value.nilIface, Value.pointer (some { block := PO, off := 0 }), Value.nilIface, Value.pointer (some { block := PV, off := 0 }), Value.pointer (some { block := Bx, off := 0 }), .int .i64 (V (k / n) (k % n)), Value.tuple #[Value.int IntKind.i64 d, Value.nilIface], Value.slice a n ca, Value.tuple #[Value.int IntKind.i64 d, Value.nilIface], Value.int IntKind.i64 d, Value.nilIface, Value.nilIface, Value.bool false, undef, Value.int IntKind.i64 d, Value.bool false, undef, Value.tuple #[Value.slice (some { block := g, off := 0 }) n c2, Value.nilIface], Value.slice a n ca, Value.tuple #[Value.slice (some { block := g, off := 0 }) n c2, Value.nilIface], Value.slice (some { block := g, off := 0 }) n c2, Value.nilIface, Value.int IntKind.i64 d, Value.int IntKind.i64 O, Value.slice (some { block := g, off := 0 }) n c2, Value.func (.func 88) #[] #[Value.pointer (some { block := W4.heap.size, off := 0 })], .agg #[.int .i64 ((k / n : Nat) : Int), .int .i64 ((k % n : Nat) : Int)], .int .i64 (V (k / n) (k % n)), undef, undef, undef, undef, undef, undef, undef, undef, undef, undef, undef, undef, undef], defers := [] })
    (fun a' k X Y row hs hgr hr => let ⟨Bx, e1, e2, e3⟩ := hs; ⟨Bx, cell_kept e1 hgr (fun r e => (hr r e).2), cell_kept e2 hgr (fun r e => (hr r e).2), e3⟩)
    ?assign ?body ?done
  case assign =>
    rintro l k W K hk ⟨⟨P, e1, e2, e3⟩, c3, c4, c5, hbW⟩ hK
    dsimp only [encE]
    gi_wp2
    exact hK _ _ ((KeepsOthers.alloc _ _).from _) ⟨⟨P, e1.alloc _, e2, e3⟩, alloc_keep c3, alloc_keep c4, alloc_keep c5, hbW.alloc hbW.size _⟩ ⟨W.heap.size, by simp, by simp, rfl⟩
  case body =>
    rintro l k a' W hk ⟨⟨P, e1, e2, e3⟩, c3, c4, c5, hbW⟩ ⟨Bx, y1, y2, rfl⟩
    clear hBm q5 r5 hd5
    obtain ⟨i, hi0⟩ : ∃ i, i = k / n := ⟨_, rfl⟩
    obtain ⟨j, hj0⟩ : ∃ j, j = k % n := ⟨_, rfl⟩
    have hkk : Hid (k = i * n + j) := by unfold Hid; rw [hi0, hj0]; exact (Nat.div_add_mod' k n).symm
    have hi : i < n := by rw [hi0]; exact Nat.div_lt_of_lt_mul hk
    have hj : j < n := by rw [hj0]; exact Nat.mod_lt _ (by omega)
    have bV : 0 ≤ V i j ∧ V i j ≤ 9972 := by show 0 ≤ _ % 9973 ∧ _ % 9973 ≤ 9972; omega
    simp only [← hi0, ← hj0] at y1 y2 ⊢
    clear hi0 hj0 hk
    have a1 := e1.cellO hi
    have a2 := e1.cellI hi (j := j) (by rw [e2.2 i hi]; exact hj)
    have a3 := e1.frozenI hi (by rw [e2.2 i hi]; omega) j
    rw [e2.2 i hi] at a1
    have i1 : (i : Int) < (n : Int) := by omega
    have i2 : (j : Int) < (n : Int) := by omega
    obtain ⟨x, hx⟩ : ∃ x, V i j = x := ⟨_, rfl⟩
    rw [hx] at bV ⊢
    have HX := Lib.hid hx
    clear hx
    have bm := mul_bd bV bO
    have u1 : IntKind.i64.wrap (x * O) = x * O := Go.IntWalk.i64_in _ (by omega)
    have u2 : (x * O).tmod 9973 = x * O % 9973 := Int.tmod_eq_emod_of_nonneg (by omega)
    gi_wp2
    refine region_round_tail 12 (by kernel_rfl) (by kernel_rfl) (fun ⟨_, _, h⟩ => nomatch (show Exit.outgrown = Exit.normal from h.1)) (by kernel_rfl) ?_
    simp only [List.take_succ_cons, List.take_zero, List.drop_succ_cons, List.drop_zero]
    repeat still_step
    refine wpStill_nil ?_
    change wpList _ _ _ _ _ W.drew
    go_wp2
    refine ⟨((KeepsOthers.setCell _ _ _).trans (KeepsOthers.drew _)).from _, ⟨_, (e1.set matTy.ne hi _).drew, e2.setE _ _ _, fun r s hr hs => ?_⟩, set_keepS c3 a2, set_keep c4 (fun e => hlow1.out i hi e.symm), set_keepS c5 a2, (hbW.setCell (p := ⟨D i, j, none⟩) (e1.lowI hi).1 _).drew⟩
    rw [e2.en_set _ hr hs, e3 r s hr hs, hkk.out]
    have hrs : i = r ∧ j = s ↔ r * n + s = i * n + j := ⟨fun ⟨e1, e2⟩ => by rw [e1, e2], fun e => ?_⟩
    · by_cases h1 : i = r ∧ j = s
      · rw [if_pos h1, if_pos (by have := hrs.1 h1; omega), ← h1.1, ← h1.2, HX.out]
      · have h2 : r * n + s ≠ i * n + j := fun e => h1 (hrs.2 e)
        rw [if_neg h1]
        by_cases h3 : r * n + s < i * n + j
        · rw [if_pos h3, if_pos (by omega)]
        · rw [if_neg h3, if_neg (by omega)]
    · have q1 : (r * n + s) / n = r := by rw [Nat.mul_comm, Nat.mul_add_div (by omega), Nat.div_eq_of_lt hs, Nat.add_zero]
      have q2 : (i * n + j) / n = i := by rw [Nat.mul_comm, Nat.mul_add_div (by omega), Nat.div_eq_of_lt hj, Nat.add_zero]
      have q3 : (r * n + s) % n = s := by rw [Nat.mul_comm, Nat.mul_add_mod, Nat.mod_eq_of_lt hs]
      have q4 : (i * n + j) % n = j := by rw [Nat.mul_comm, Nat.mul_add_mod, Nat.mod_eq_of_lt hj]
      exact ⟨by rw [← q1, ← q2, e], by rw [← q3, ← q4, e]⟩
  case done =>
    rintro Dd W hDd ⟨⟨P, e1, e2, e3⟩, c3, c4, c5, hbW⟩ hK
    go_wp2
    refine ⟨by simp, .inl ⟨_, _, rfl, run_takeDeferred hK, ?_⟩⟩
    have hgr := grownBy_putObj' W Dd (.deferred none)
    have hno : ∀ r, some Dd = some r → ∃ o : Obj, W.heap[r]? = some o ∧ o.isCells = false := fun r e => by cases e; exact ⟨_, hK, rfl⟩
    exact ⟨_, results_tmp2 rfl _ _ _, _, _, P, rfl, (e1.passes hgr hno).toM, ⟨e2, fun i j hi hj => by rw [e3 i j hi hj, if_pos (place_lt hi hj)]; unfold invE; rw [← HD.out, HO.out]⟩, hbW.grown hgr hbW.size (fun r e => by cases e; exact Nat.le_trans h5w hDd)⟩
end
end Go.Proofs.Ytoahegjjffggaaa
namespace Go.Rk
open Go.RowKit

/-- X is A's inverse by the prime. -/
structure IsInv (n : Nat) (A X : Mx) : Prop where
  right : EqM n n (mulM n A X) oneM
  left : EqM n n (mulM n X A) oneM

section
variable {n : Nat} {A B X Y : Mx}
theorem IsInv.symm (h : IsInv n A X) : IsInv n X A := ⟨h.left, h.right⟩
theorem IsInv.congr (h : IsInv n A X) (eA : EqM n n A B) (eX : EqM n n X Y) : IsInv n B Y :=
  ⟨(EqM.mul eA.symm eX.symm).trans h.right, (EqM.mul eX.symm eA.symm).trans h.left⟩
theorem one_right (A : Mx) : EqM n n (mulM n A oneM) A := fun i _ _ hj => Eqm.of_eq (mulM_one A i hj)
theorem one_left (A : Mx) : EqM n n (mulM n oneM A) A := fun _ j hi _ => Eqm.of_eq (one_mulM A hi j)
theorem inv_of_adj {o : Int} (hd : Eqm (det n A * o) 1) (hX : ∀ i j, i < n → j < n → Eqm (X i j) (adj n A i j * o)) : IsInv n A X := by
  refine ⟨fun i j hi hj => ?_, fun i j hi hj => ?_⟩
  · have e : Eqm (mulM n A X i j) (mulM n A (adj n A) i j * o) := by
      unfold mulM
      refine (sumTo_eqm fun k hk => (Eqm.refl (A i k)).mul (hX k j hk hj)).trans (Eqm.of_eq ?_)
      rw [Int.mul_comm, ← sumTo_mul]
      exact sumTo_congr fun k _ => by grind
    rw [mul_adj A hi hj] at e
    unfold oneM
    split at e
    · next h => rw [if_pos h]; exact e.trans hd
    · next h => rw [if_neg h]; rwa [Int.zero_mul] at e
  · have e : Eqm (mulM n X A i j) (mulM n (adj n A) A i j * o) := by
      unfold mulM
      refine (sumTo_eqm fun k hk => (hX i k hi hk).mul (Eqm.refl (A k j))).trans (Eqm.of_eq ?_)
      rw [Int.mul_comm, ← sumTo_mul]
      exact sumTo_congr fun k _ => by grind
    rw [adj_mul A hi hj] at e
    unfold oneM
    split at e
    · next h => rw [if_pos h]; exact e.trans hd
    · next h => rw [if_neg h]; rwa [Int.zero_mul] at e
theorem inv_one (h : EqM n n (mulM n A X) oneM) (k : EqM n n (mulM n Y A) oneM) : EqM n n X Y := by
  have e1 : EqM n n (mulM n Y (mulM n A X)) Y := (EqM.mul (EqM.refl n n Y) h).trans (one_right Y)
  rw [← mulM_go] at e1
  exact ((EqM.mul k (EqM.refl n n X)).trans (one_left X)).symm.trans e1
theorem IsInv.one (h : IsInv n A X) (k : IsInv n A Y) : EqM n n X Y := inv_one h.right k.left
theorem IsInv.mul (h : IsInv n A X) (k : IsInv n B Y) : IsInv n (mulM n A B) (mulM n Y X) := by
  refine ⟨?_, ?_⟩
  · rw [mulM_go, ← mulM_go n n B Y X]
    exact (EqM.mul (EqM.refl n n A) ((EqM.mul k.right (EqM.refl n n X)).trans (one_left X))).trans h.right
  · rw [mulM_go, ← mulM_go n n X A B]
    exact (EqM.mul (EqM.refl n n Y) ((EqM.mul h.left (EqM.refl n n B)).trans (one_left B))).trans k.left
theorem det_oneM (n : Nat) : det n oneM = 1 := by
  rw [det_upper oneM fun i j _ _ h => if_neg (by omega), prodTo_congr (g := fun i => oneM i i) (h := fun _ => 1) fun i _ => if_pos rfl]
  induction n with
  | zero => rfl
  | succ n ih => rw [prodTo, ih, Int.one_mul]
theorem det_inv (h : EqM n n (mulM n A X) oneM) : Eqm (det n A * det n X) 1 := by
  have := det_eqm h
  rwa [det_mul, det_oneM] at this
theorem det_nz (h : EqM n n (mulM n A X) oneM) : det n A % 9973 ≠ 0 := fun e => by
  have h1 := det_inv h
  have h2 : Eqm (det n A * det n X) (0 * det n X) := Eqm.mul (show Eqm (det n A) 0 from e) (Eqm.refl _)
  rw [Int.zero_mul] at h2
  have := h2.symm.trans h1
  unfold Eqm at this
  omega
theorem over_inv {d : Int} (h : d % 9973 ≠ 0) : Eqm (d * powm (d % 9973) 9971) 1 := by
  have := over_mul (a := d % 9973) (by omega) (by omega) h
  rw [Int.mul_comm]
  exact (Eqm.mul (Eqm.refl _) (Eqm.mod d)).symm.trans this
end
end Go.Rk
namespace Go.Proofs.Ytoahegjjffggaaa
open Go.RowKit Go.Rk
variable {n : Nat} {A X B Y : List (List Int)}
theorem invE_inv (hd : det n (mx A) % 9973 ≠ 0) : IsInv n (mx A) (fun i j => invE n A i j) :=
  inv_of_adj (over_inv hd) fun _ _ _ _ => (Eqm.mod _).trans (Eqm.mul (Eqm.mod _) (Eqm.refl _))
theorem Good.inv (G : Good n n A) (hd : det n (mx A) % 9973 ≠ 0) (h : IsR n n X (invE n A)) : Good n n X ∧ IsInv n (mx A) (mx X) :=
  ⟨⟨G.n1, G.n1, h.1, fun i j hi hj => by rw [h.2 i j hi hj]; unfold invE; omega⟩, (invE_inv hd).congr (EqM.refl _ _ _) fun i j hi hj => Eqm.of_eq (h.2 i j hi hj).symm⟩
/-- What is an inverse and passes is the inverse. -/
theorem Good.inv_is (_ : Good n n A) (GX : Good n n X) (h : EqM n n (mulM n (mx A) (mx X)) oneM) : IsR n n X (invE n A) := by
  have e := inv_one h (invE_inv (det_nz h)).left
  refine ⟨GX.dm, fun i j hi hj => ?_⟩
  have h1 := GX.ent i j hi hj
  have h3 : en X i j % 9973 = invE n A i j % 9973 := e i j hi hj
  have h2 : 0 ≤ invE n A i j ∧ invE n A i j ≤ 9972 := by unfold invE; omega
  omega
end Go.Proofs.Ytoahegjjffggaaa
