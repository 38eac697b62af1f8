/-
  mat.Add walked: the sum of two matrices.
  MatPow walked: powers of a matrix add up, and so do powers of powers multiply.
  For MatSays: powers, and what is wrong.
-/
import Derived.Test.YtkielldinghmbaaDoorRows
import Derived.Deep.QuietTactic
import Derived.BigQuiet
import Derived.Test.YtkielldinghmbaaDoorMg0
import Derived.Test.YtkielldinghmbaaDoorMg1
import Derived.Test.YtkielldinghmbaaDoorMg2
import Derived.Test.YtkielldinghmbaaDoorMg5
import Derived.Test.YtkielldinghmbaaDoorMg6
import Derived.Test.YtkielldinghmbaaDoorMg8
import Derived.Test.YtkielldinghmbaaDoorMg12
namespace Go.Proofs.YtkielldinghmbaaDoor
open Go.RowKit Go.Shelf Go.Rk
attribute [local go_sem] Oper.semAt_some

set_option maxRecDepth 100000 in
set_option maxHeartbeats 4000000 in
theorem Add_ok {a b : Option Addr} {n ca cb : Nat} {A B : List (List Int)} {w : World} (hA : RdM w a n ca A) (hB : RdM w b n cb B) (hq : addErr A B = none) :
    Calls Tryd.prog 23 #[.slice a n ca, .slice b n cb] w fun e w' => ∃ a' cap' P, e = .returned (.tuple #[.slice a' n cap', .nilIface]) ∧ OwM w' w.heap.size 32 3 a' n cap' P ∧ IsR n (rowOf A 0).length P (fun i j => (en A i j + en B i j) % 9973) ∧ Below w.heap.size w w' := by
  obtain ⟨g1, g2, _, g3⟩ := addErr_none hq
  have C1 := Lib.hid (mat_Check_is hA g1)
  have C2 := Lib.hid (mat_Check_is hB g2)
  obtain ⟨n1, n2, dA, eA⟩ := grounds_dm hA.len_eq g1
  obtain ⟨_, _, dB, eB⟩ := grounds_dm hB.len_eq g2
  rw [← g3] at dB eB
  obtain ⟨c, hc⟩ : ∃ c, (rowOf A 0).length = c := ⟨_, rfl⟩
  rw [hc] at n2 dA eA dB eB ⊢
  have kB := (Below.refl w.heap.size w).alloc (Nat.le_refl _) (.cells #[.nilIface, .nilIface] 26)
  obtain ⟨wB, hwB⟩ : ∃ wB, w.alloc (.cells #[.nilIface, .nilIface] 26) = wB := ⟨_, rfl⟩
  rw [hwB] at kB
  have HWB := Lib.hid hwB
  have HF : Hid (firstO none none = none) := rfl
  have HEA := Lib.hid eA
  have HEB := Lib.hid eB
  have HDA := Lib.hid dA
  have z1 : ((n : Int) != (n : Int)) = false := bne_eq_false_iff_eq.2 rfl
  have z2 : ((c : Int) != (c : Int)) = false := bne_eq_false_iff_eq.2 rfl
  obtain ⟨ba, oa, hz, _, hra⟩ := (hA.below kB).at (k := 0) (by omega)
  subst hz
  obtain ⟨ai, ci, hc0, _⟩ := hra 0 (by omega)
  rw [Nat.add_zero, hc] at hc0
  obtain ⟨bb, ob, D0, O0, C0, rfl, hbb, hD0, hGB⟩ := hB.grid dB (by omega) (by omega)
  have hd0 := (kB.cell (p := ⟨bb, ob + 0, none⟩) hbb).trans (hGB.hdr 0 (by omega))
  rw [Nat.add_zero] at hd0
  have b1 : (0 : Int) < (n : Int) := by omega
  have b2 : (1 : Int) ≤ (n : Int) := by omega
  clear hq g1 g2 g3 hra eA eB dA hwB hc
  refine (callsIn_wide (n := 6)).1 ?_
  refine callsIn_of_wp_marks Tryd.func23 rfl trivial ?_ rfl
  simp only [Tryd.ntmps23, List.size_toArray, List.length_cons, List.length_nil, Nat.reduceAdd, Nat.reduceSub, Array.replicate_succ, Array.replicate_zero, List.push_toArray, List.append_toArray, List.nil_append, List.cons_append]
  refine wpIn_wide.2 ?_
  go_wp2_with (first | (go_at_call 18; first | ((with_reducible refine C1.out.mono ?_); clear C1; rintro e w' ⟨rfl, rfl⟩; simp only [errV]) | ((with_reducible refine C2.out.mono ?_); rintro e w' ⟨rfl, rfl⟩; simp only [errV])) | (go_at_call 66; refine (First_any (x := none) (y := none) (by simp [errV]) (by simp [errV])).mono ?_; rintro e w' ⟨rfl, rfl⟩; rw [HF.out]; simp only [errV]; rw [HWB.out]))
  go_quiet (fail)
  have kD : Below w.heap.size w (wB.drewN nq) := below_drewN kB nq
  have hA2 := hA.below kD
  generalize wB.drewN nq = w2 at *
  clear hc0 hd0
  have hL5 : ∀ r, r < n → (rowOf A r).length ≤ 1000 := fun r hr => by rw [HDA.out.2 r hr]; omega
  have C3 := Lib.hid (Copy_any hA2 (by omega) hL5)
  clear hL5
  go_wp2_with (first | (go_at_call 67; (with_reducible refine C3.out.mono ?_); rintro e w3 ⟨a3, cap3, rfl, ho3, hb3⟩) | (go_at_call 65; fail))
  have k3 := (kD.trans (hb3.mono kD.size)).alloc (Nat.le_trans kD.size hb3.size) (.cells #[.slice a3 n cap3] 22)
  obtain ⟨g, D, C, hz, hd3⟩ := ho3.named (by omega) fun r hr => by rw [HDA.out.2 r hr]; omega
  cases hz
  have hd4 := (hd3.mono kD.size).alloc (.cells #[.slice (some ⟨g, 0, none⟩) n cap3] 22)
  have px : (w3.alloc (.cells #[.slice (some ⟨g, 0, none⟩) n cap3] 22)).cell? ⟨w3.heap.size, 0, none⟩ = some (.slice (some ⟨g, 0, none⟩) n cap3) := by simp
  clear hd3 ho3 hb3
  generalize (w3.alloc (.cells #[.slice (some ⟨g, 0, none⟩) n cap3] 22)) = W4 at *
  generalize w3.heap.size = PO at *
  refine (callsIn_wide.1 (each_in 0 (some ⟨bb, ob, none⟩) n cb W4)).mono ?_
  rintro e w' ⟨rfl, rfl⟩
  go_wp2_with fail
  refine (wpIn_wide (n := 6)).1 ?_
  have hd5 := hd4.alloc (.cells #[.slice (some ⟨bb, ob, none⟩) n cb] 22)
  have hBm : (W4.alloc (.cells #[.slice (some ⟨bb, ob, none⟩) n cb] 22)).cell? ⟨W4.heap.size, 0, none⟩ = some (.slice (some ⟨bb, ob, none⟩) n cb) := by simp
  have hBl : W4.heap.size < (W4.alloc (.cells #[.slice (some ⟨bb, ob, none⟩) n cb] 22)).heap.size := by simp
  have k5 := k3.alloc k3.size (.cells #[.slice (some ⟨bb, ob, none⟩) n cb] 22)
  have q5 := alloc_keep (o := .cells #[.slice (some ⟨bb, ob, none⟩) n cb] 22) px
  have h5w := k5.size
  have hG5 := hGB.below k5 hbb hD0
  clear px k3
  refine wpIn_rangeFunc_ownH rfl (by decide) (gf := 85) (lb := #[.pointer (some ⟨W4.heap.size, 0, none⟩)]) rfl trivial (enters_of Tryd.func85 (by kernel_rfl) rfl)
    (each_stops 5 (cap := cb) (by omega) (by omega) _ hBm hBl hG5 (Nat.lt_of_lt_of_le hbb h5w) (fun r hr => Nat.lt_of_lt_of_le (hD0 r hr) h5w)) (fun h h' g => h' (h g)) (fun W l o o' _ h1 h2 _ g => g.passes (grownBy_putObj' W l o') (fun r e => by cases e; exact ⟨o, h1, h2⟩)) (Below.refl _ _) (fun _ => rfl)
    (fun pre W => (∃ P, OwMD W w.heap.size 32 3 g D C n cap3 P ∧ Dm n c P ∧ EntR 0 9972 n c P ∧ (∀ i j, i < n → j < c → (i, j) ∉ plcs pre → en P i j = en A i j) ∧ ((plcs pre).Nodup → ∀ p ∈ plcs pre, en P p.1 p.2 = (en A p.1 p.2 + en B p.1 p.2) % 9973)) ∧ W.cell? ⟨PO, 0, none⟩ = some (.slice (some ⟨g, 0, none⟩) n cap3) ∧ Below w.heap.size w W)
    (fun _ _ _ => False)
    (fun s X Y row hs hgr hr => ⟨let ⟨P, e1, e2⟩ := hs.1; ⟨P, e1.passes hgr (fun r e => (hr r e).2), e2⟩, cell_kept hs.2.1 hgr (fun r e => (hr r e).2), hs.2.2.grown hgr hs.2.2.size (fun r e => Nat.le_trans h5w (hr r e).1)⟩)
    (fun _ _ _ _ _ hs _ _ => hs)
    ⟨⟨_, hd5, HDA.out, HEA.out, fun _ _ _ _ _ => rfl, fun _ p hp => by cases hp⟩, q5, k5⟩
    (fun x a' W => ∃ Bx, W.cell? ⟨Bx, 0, none⟩ = some (.int .i64 (x.1.1 : Int)) ∧ W.cell? ⟨Bx, 1, none⟩ = some (.int .i64 (x.1.2.1 : Int)) ∧ a' = { tmps := #[Value.slice (some { block := ba, off := oa }) n ca, Value.slice (some { block := bb, off := ob }) n cb, undef, undef, Value.slice none 0 0, Value.nilIface, Value.nilIface, Value.pointer (some { block := PO, off := 0 }), Value.pointer (some { block := Bx, off := 0 }), .int .i64 x.1.2.2, Value.slice (some { block := ba, off := oa }) n ca, Value.nilIface, Value.slice (some { block := bb, off := ob }) n cb, Value.nilIface, Value.slice (some { block := w.heap.size, off := 0 }) 2 2, Value.nilIface, Value.nilIface, Value.bool false, undef, Value.slice (some { block := ba, off := oa }) n ca, Value.int IntKind.i64 ↑n, Value.slice (some { block := bb, off := ob }) n cb, Value.int IntKind.i64 ↑n, Value.bool false, Value.bool false, Value.slice (some { block := ba, off := oa }) n ca, Value.pointer (some { block := ba, off := oa }), Value.slice ai c ci, Value.int IntKind.i64 ↑c, Value.slice (some { block := bb, off := ob }) n cb, Value.pointer (some { block := bb, off := ob }), Value.slice (some { block := D0 0, off := O0 0 }) c (C0 0), Value.int IntKind.i64 ↑c, Value.bool false, Value.bool false, undef, Value.slice (some { block := ba, off := oa }) n ca, Value.slice (some { block := g, off := 0 }) n cap3, Value.slice (some { block := bb, off := ob }) n cb, Value.func (.func 85) #[] #[Value.pointer (some { block := W4.heap.size, off := 0 })], .agg #[.int .i64 (x.1.1 : Int), .int .i64 (x.1.2.1 : Int)], .int .i64 x.1.2.2, undef, undef, undef, undef, undef, undef, undef, undef, undef, undef, undef, undef, undef, undef, undef, undef, undef, undef, undef, undef, undef], defers := [] })
    (fun x a' _ X Y row hs hgr hr => let ⟨Bx, e1, e2, e3⟩ := hs; ⟨Bx, cell_kept e1 hgr (fun r e => (hr r e).2), cell_kept e2 hgr (fun r e => (hr r e).2), e3⟩)
    ?assign ?body ?done ?stop
  case assign =>
    rintro l pre x W K ⟨⟨P, e1, e2⟩, c3, hbW⟩ hK
    dsimp only [encP]
    gi_wp2
    exact hK _ _ ((KeepsOthers.alloc _ _).from _) (fun g => g.fresh ((Below.refl _ _).alloc (Nat.le_refl _) _)) ⟨⟨P, e1.alloc _, e2⟩, alloc_keep c3, hbW.alloc hbW.size _⟩ ⟨W.heap.size, by simp, by simp, rfl⟩
  case body =>
    rintro l pre ⟨⟨i, j, v⟩, hi, hj, hv⟩ a' W hl ⟨r, hr⟩ ⟨⟨P, e1, e2, e4, e5, e6⟩, c3, hbW⟩ ⟨Bx, y1, y2, rfl⟩ hlt
    clear hBm hBl q5 hd4 hd5
    dsimp only at y1 y2 hi hj hv ⊢
    subst hv
    have a1 := e1.cellO hi
    have a2 := e1.cellI hi (j := j) (by rw [e2.2 i hi]; exact hj)
    have a3 := e1.frozenI hi (by rw [e2.2 i hi]; omega) j
    rw [e2.2 i hi] at a1
    have i1 : (i : Int) < (n : Int) := by omega
    have i2 : (j : Int) < (c : Int) := by omega
    have m1 := e4 i j hi hj
    have m2 := HEB.out i j hi hj
    have u1 : IntKind.i64.wrap (en P i j + en B i j) = en P i j + en B i j := Go.IntWalk.i64_in _ (by omega)
    gi_wp2
    refine region_round_tail 20 (by kernel_rfl) (by kernel_rfl) (fun ⟨_, _, h⟩ => h) (by kernel_rfl) ?_
    simp only [List.take_succ_cons, List.take_zero, List.drop_succ_cons, List.drop_zero]
    repeat still_step
    still_call (stillW (Field_any _ _))
    repeat still_step
    refine wpStill_nil ?_
    change wpList _ _ _ _ _ W.drew
    clear u1
    go_wp2
    refine ⟨((KeepsOthers.setCell _ _ _).trans (KeepsOthers.drew _)).from _, fun g => g.below (((Below.refl w.heap.size W).setCell (p := ⟨D i, j, none⟩) (e1.lowI hi).1 _).drew) hbb hD0, ⟨_, (e1.set matTy.ne hi _).drew, e2.setE _ _ _, fun r s hr hs => ?_, fun r s hr hs hn => ?_, fun hn p hp => ?_⟩, set_keepS c3 a2, (hbW.setCell (p := ⟨D i, j, none⟩) (e1.lowI hi).1 _).drew⟩
    · rw [e2.en_set _ hr hs]
      split
      · omega
      · exact e4 r s hr hs
    · rw [plcs_snoc] at hn
      rw [e2.en_set _ hr hs, if_neg fun h => hn (List.mem_append_right _ (List.mem_singleton.2 (by rw [← h.1, ← h.2])))]
      exact e5 r s hr hs fun h => hn (List.mem_append_left _ h)
    · rw [plcs_snoc] at hn hp
      obtain ⟨hn1, _, hn3⟩ := List.nodup_append.1 hn
      rcases List.mem_append.1 hp with h | h
      · have hne : ¬(i = p.1 ∧ j = p.2) := fun e => hn3 p h (i, j) (List.mem_singleton.2 rfl) (by rw [e.1, e.2])
        rw [e2.en_set _ (plcs_in h).1 (plcs_in h).2, if_neg hne]
        exact e6 hn1 p h
      · cases List.mem_singleton.1 h
        rw [e2.en_set _ hi hj, if_pos ⟨rfl, rfl⟩, e5 i j hi hj fun h => hn3 _ h (i, j) (List.mem_singleton.2 rfl) rfl]
  case done =>
    rintro Dd ys W hDd hS ⟨⟨P, e1, e2, e4, e5, e6⟩, c3, hbW⟩ hK
    go_wp2
    refine ⟨by simp, .inl ⟨_, _, rfl, run_takeDeferred hK, ?_⟩⟩
    have hgr := grownBy_putObj' W Dd (.deferred none)
    have hno : ∀ r, some Dd = some r → ∃ o : Obj, W.heap[r]? = some o ∧ o.isCells = false := fun r e => by cases e; exact ⟨_, hK, rfl⟩
    exact ⟨_, results_tmp2 rfl _ _ _, _, _, P, rfl, (e1.passes hgr hno).toM, ⟨e2, fun i j hi hj => e6 (by rw [hS]; exact locs_nodup _ _) (i, j) (by rw [hS]; exact locs_mem hi hj)⟩, hbW.grown hgr hbW.size (fun r e => by cases e; exact Nat.le_trans h5w hDd)⟩
  case stop =>
    rintro D c pre W _ _ h _
    exact h.elim
end Go.Proofs.YtkielldinghmbaaDoor
namespace Go.Proofs.YtkielldinghmbaaDoor
open Go.RowKit Go.Rk

theorem Good.sq {n : Nat} {A : List (List Int)} (h : Good n n A) : squareR 5 0 9972 A = none := squareR_of h.n1.1 (by have := h.n1; omega) h.dm h.ent
theorem Good.pow {n e : Nat} {A P : List (List Int)} (h : Good n n A) (hp : IsR n n P (fun i j => powM n (mx A) e i j % 9973)) : Good n n P ∧ EqM n n (mx P) (powM n (mx A) e) :=
  ⟨⟨h.n1, h.n1, hp.1, fun i j hi hj => by rw [hp.2 i j hi hj]; dsimp only; omega⟩, fun i j hi hj => by
    show Eqm (en P i j) _
    rw [hp.2 i j hi hj]
    exact Eqm.mod _⟩

end Go.Proofs.YtkielldinghmbaaDoor
namespace Go.Proofs.YtkielldinghmbaaDoor
open Go.RowKit Go.Rk

theorem out_of_in {n lo hi : Int} (h : inB n lo hi = false) : outB n lo hi = true := by
  unfold inB at h; unfold outB; simp only [Bool.and_eq_false_iff, decide_eq_false_iff_not] at h; simp only [Bool.or_eq_true, decide_eq_true_eq]; omega
theorem One_err {x : Int} {w : World} (h : outB x 1 5 = true) :
    Calls Tryd.prog 29 #[.int .i64 x] w fun e w' => e = .returned (.tuple #[.slice none 0 0, .iface 70 (.int .i64 1)]) ∧ w = w' := by
  have HO := Lib.hid h
  clear h
  go_enter Tryd.func29, Tryd.ntmps29
  go_wp2_with (first | (go_at_call 70; refine (out_any _ _ _ _).mono ?_; rintro e w' ⟨rfl, rfl⟩; rw [HO.out]))
  go_ret2
  exact ⟨rfl, rfl⟩
theorem squareR_of_grounds {A : List (List Int)} {q : Int} (h : groundsR 5 0 9972 A = some q) : squareR 5 0 9972 A = some q := by
  unfold squareR; rw [h, if_neg (by simp)]
theorem Field_some {a : Option Addr} {n cap : Nat} {M : List (List Int)} {w : World} {q : Int} (h : RdM w a n cap M) (ho : groundsR 5 0 9972 M = some q) :
    Calls Tryd.prog 16 #[.slice a n cap] w fun e w' => e = .returned (.int .i64 q) ∧ Below w.heap.size w w' := R_Field_any h ho
theorem Field_none {a : Option Addr} {n cap : Nat} {M : List (List Int)} {w : World} (h : RdM w a n cap M) (ho : groundsR 5 0 9972 M = none) :
    Calls Tryd.prog 16 #[.slice a n cap] w fun e w' => e = .returned (.int .i64 0) ∧ Below w.heap.size w w' := R_Field_any h ho
theorem Check_some {a : Option Addr} {n cap : Nat} {M : List (List Int)} {w : World} {q : Int} (h : RdM w a n cap M) (ho : groundsR 5 0 9972 M = some q) :
    Calls Tryd.prog 18 #[.slice a n cap] w fun e w' => e = .returned (.iface 70 (.int .i64 q)) ∧ w = w' := mat_Check_is h ho
theorem Check_none {a : Option Addr} {n cap : Nat} {M : List (List Int)} {w : World} (h : RdM w a n cap M) (ho : groundsR 5 0 9972 M = none) :
    Calls Tryd.prog 18 #[.slice a n cap] w fun e w' => e = .returned .nilIface ∧ w = w' := mat_Check_is h ho

/-- A power, by the prime. -/
def powL (n : Nat) (A : List (List Int)) (k : Nat) : List (List Int) := rowsF (fun i j => powM n (mx A) k i j % 9973) n n
theorem powL_is (n : Nat) (A : List (List Int)) (k : Nat) : IsR n n (powL n A k) fun i j => powM n (mx A) k i j % 9973 := rowsF_is _ _ _
theorem powL_ent (n : Nat) (A : List (List Int)) (k : Nat) : EntR 0 9972 n n (powL n A k) := fun i j hi hj => by rw [(powL_is n A k).2 i j hi hj]; dsimp only; omega
theorem powL_zero (n : Nat) (A : List (List Int)) : rowsF oneM n n = powL n A 0 :=
  ((rowsF_is oneM n n).congr fun i j _ _ => by show oneM i j = oneM i j % 9973; unfold oneM; split <;> rfl).same (powL_is n A 0)
theorem powL_succ (n : Nat) (A : List (List Int)) (k : Nat) : rowsF (fun i j => mulE A (powL n A k) n i j % 9973) n n = powL n A (k + 1) :=
  ((rowsF_is (fun i j => mulE A (powL n A k) n i j % 9973) n n).congr fun i j hi hj => by
    show Eqm _ _
    unfold mulE
    refine sumTo_eqm fun t ht => Eqm.mul (Eqm.refl _) ?_
    show Eqm (en (powL n A k) t j) _
    rw [(powL_is n A k).2 t j ht hj]
    exact Eqm.mod _).same (powL_is n A (k + 1))

end Go.Proofs.YtkielldinghmbaaDoor
