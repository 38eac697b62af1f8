/-
  vander.Check, vander.Full and vander.Det walked.
-/
import Derived.Test.YtefmllkimdaimaaDoorRows
import Derived.Test.YtefmllkimdaimaaDoorLib
import Derived.Test.YtefmllkimdaimaaDoorTr
import Derived.Test.YtefmllkimdaimaaDoorNum
import Derived.Test.YtefmllkimdaimaaDoorMatD
import Derived.Test.YtefmllkimdaimaaDoorEach
import Derived.Test.YtefmllkimdaimaaDoorRect
import Derived.Test.YtefmllkimdaimaaDoorRound
import Derived.StillTailTactics
namespace Go.Proofs.YtefmllkimdaimaaDoor
open Go.RowKit Go.Shelf Go.Rk
attribute [local go_sem] Oper.semAt_some

/-- What is wrong with some numbers. -/
def powersR (l : List Int) : Option Int := if l.length = 0 then some 5 else if 5 < l.length then some 4 else if anyB 0 9972 l then some 1 else none
theorem powersR_none {l : List Int} (h : powersR l = none) : 1 ≤ l.length ∧ l.length ≤ 5 ∧ In 0 9972 l := by
  unfold powersR at h
  split at h
  · cases h
  · split at h
    · cases h
    · split at h
      · cases h
      · next h1 h2 h3 => exact ⟨by omega, by omega, in_of_any (by simpa using h3)⟩

theorem vander_Check_any {a : Option Addr} {n ca : Nat} {l : List Int} {w : World} (hl : RdI w a n ca l) :
    Calls Tryd.prog 26 #[.slice a n ca] w fun e w' => e = .returned (errV (powersR l)) ∧ w = w' := by
  have lm := hl.len_max
  have E := Lib.hid hl.len_eq
  have C := Lib.hid (any_any a n ca l 0 9972 w hl)
  by_cases h0 : n = 0
  · subst h0
    go_enter Tryd.func26, Tryd.ntmps26
    go_wp2
    go_ret
    exact ⟨by unfold powersR; rw [if_pos E.out]; rfl, rfl⟩
  · have z0 : ((n : Int) == 0) = false := beq_eq_false_iff_ne.2 (by omega)
    by_cases h5 : 5 < n
    · have z1 : (5 : Int) < (n : Int) := by omega
      have H0 := Lib.hid h0
      clear h0
      go_enter Tryd.func26, Tryd.ntmps26
      go_wp2
      go_ret
      exact ⟨by unfold powersR; rw [if_neg (by rw [E.out]; exact H0.out), if_pos (by rw [E.out]; exact h5)]; rfl, rfl⟩
    · have z1 : (n : Int) ≤ 5 := by omega
      have H0 := Lib.hid h0
      clear h0
      rcases hb : anyB 0 9972 l
      · rw [hb] at C
        have HB := Lib.hid hb
        clear hb
        go_enter Tryd.func26, Tryd.ntmps26
        go_wp2_with (first | (go_at_call 74; (with_reducible refine C.out.mono ?_); rintro e w' ⟨rfl, rfl⟩))
        go_ret
        exact ⟨by unfold powersR; rw [if_neg (by rw [E.out]; exact H0.out), if_neg (by rw [E.out]; exact h5), HB.out]; rfl, rfl⟩
      · rw [hb] at C
        have HB := Lib.hid hb
        clear hb
        go_enter Tryd.func26, Tryd.ntmps26
        go_wp2_with (first | (go_at_call 74; (with_reducible refine C.out.mono ?_); rintro e w' ⟨rfl, rfl⟩))
        go_ret
        exact ⟨by unfold powersR; rw [if_neg (by rw [E.out]; exact H0.out), if_neg (by rw [E.out]; exact h5), HB.out]; rfl, rfl⟩
theorem vander_Check_is {a : Option Addr} {n ca : Nat} {l : List Int} {w : World} {o : Option Int} (hl : RdI w a n ca l) (ho : powersR l = o) :
    Calls Tryd.prog 26 #[.slice a n ca] w fun e w' => e = .returned (errV o) ∧ w = w' := by
  rw [← ho]; exact vander_Check_any hl
theorem vander_Full_err {a : Option Addr} {n ca : Nat} {l : List Int} {w : World} {x : Int} (hl : RdI w a n ca l) (hq : powersR l = some x) :
    Calls Tryd.prog 28 #[.slice a n ca] w fun e w' => e = .returned (.tuple #[.slice none 0 0, .iface 75 (.int .i64 x)]) ∧ Below w.heap.size w w' := by
  have C := Lib.hid (vander_Check_is (hl.alloc (.cells #[.slice a n ca] 22)) hq)
  clear hq
  go_enter Tryd.func28, Tryd.ntmps28
  go_wp2_with (first | (go_at_call 26; (with_reducible refine C.out.mono ?_); rintro e w' ⟨rfl, rfl⟩; simp only [errV]))
  go_ret2
  exact ⟨rfl, below_al (Below.refl _ _) _⟩

set_option maxHeartbeats 8000000 in
set_option maxRecDepth 100000 in
theorem vander_Full_ok {a : Option Addr} {n ca : Nat} {l : List Int} {w : World} (hl : RdI w a n ca l) (hq : powersR l = none) :
    Calls Tryd.prog 28 #[.slice a n ca] w fun e w' => ∃ aM cM P, e = .returned (.tuple #[.slice aM n cM, .nilIface]) ∧ OwM w' w.heap.size 22 3 aM n cM P ∧ IsR n n P (fun i j => powm (ix l i) j) ∧ Below w.heap.size w w' := by
  obtain ⟨q1, q2, q3⟩ := powersR_none hq
  rw [hl.len_eq] at q1 q2
  have HI := Lib.hid q3
  have hl1 := hl.alloc (.cells #[.slice a n ca] 22)
  have C := Lib.hid (vander_Check_is hl1 hq)
  have p1 : (w.alloc (.cells #[.slice a n ca] 22)).cell? ⟨w.heap.size, 0, none⟩ = some (.slice a n ca) := by simp
  have k1 := below_al (Below.refl _ w) (.cells #[.slice a n ca] 22)
  have hs1 : w.heap.size < (w.alloc (.cells #[.slice a n ca] 22)).heap.size := by simp
  obtain ⟨bx, ox, rfl, lx, cx⟩ := hl.at (k := 0) (by omega)
  clear q3 hq
  refine (callsIn_wide (n := 6)).1 ?_
  refine callsIn_of_wp_marks Tryd.func28 rfl trivial ?_ rfl
  simp only [Tryd.ntmps28, List.size_toArray, List.length_cons, List.length_nil, Nat.reduceAdd, Nat.reduceSub, Array.replicate_succ, Array.replicate_zero, List.push_toArray, List.append_toArray, List.nil_append, List.cons_append]
  refine wpIn_wide.2 ?_
  go_wp2_with (first | (go_at_call 26; (with_reducible refine C.out.mono ?_); rintro e w' ⟨rfl, rfl⟩; simp only [errV]) | (go_at_call 78; refine (Grid_any n n _ (by omega) (by omega)).mono ?_; rintro e w3 ⟨a3, cap3, rfl, ho3, hb3⟩; have bx := alloc_keep (o := .cells #[.slice a3 n cap3] 28) ((hb3.cell (p := ⟨w.heap.size, 0, none⟩) hs1).trans p1)) | (go_at_call 80; fail))
  clear C
  have k2 := k1.trans (hb3.mono k1.size)
  have k3 := k2.alloc k2.size (.cells #[.slice a3 n cap3] 28)
  obtain ⟨g, D, C, hz, hd3⟩ := ho3.named (by omega) fun r hr => by rw [(Dm.replicate n n 0).2 r hr]; omega
  cases hz
  have hd4 := (hd3.mono k1.size).alloc (.cells #[.slice (some ⟨g, 0, none⟩) n cap3] 28)
  have px : (w3.alloc (.cells #[.slice (some ⟨g, 0, none⟩) n cap3] 28)).cell? ⟨w3.heap.size, 0, none⟩ = some (.slice (some ⟨g, 0, none⟩) n cap3) := by simp
  clear hd3 ho3 hb3 k2 p1 hs1 hl1 cx
  generalize (w3.alloc (.cells #[.slice (some ⟨g, 0, none⟩) n cap3] 28)) = W4 at *
  generalize w3.heap.size = PO at *
  refine (callsIn_wide.1 (each_in 0 (some ⟨g, 0, none⟩) n cap3 W4)).mono ?_
  rintro e w' ⟨rfl, rfl⟩
  go_wp2_with fail
  refine (wpIn_wide (n := 6)).1 ?_
  have hd5 := hd4.alloc (.cells #[.slice (some ⟨g, 0, none⟩) n cap3] 28)
  have hG : Grid n n g 0 D (fun _ => 0) C (fun _ _ _ => True) (W4.alloc (.cells #[.slice (some ⟨g, 0, none⟩) n cap3] 28)) := hd5.grid (Dm.replicate n n 0) fun _ _ _ _ => trivial
  have hBm : (W4.alloc (.cells #[.slice (some ⟨g, 0, none⟩) n cap3] 28)).cell? ⟨W4.heap.size, 0, none⟩ = some (.slice (some ⟨g, 0, none⟩) n cap3) := by simp
  have hBl : W4.heap.size < (W4.alloc (.cells #[.slice (some ⟨g, 0, none⟩) n cap3] 28)).heap.size := by simp
  have k5 := k3.alloc k3.size (.cells #[.slice (some ⟨g, 0, none⟩) n cap3] 28)
  have q5 := alloc_keep (o := .cells #[.slice (some ⟨g, 0, none⟩) n cap3] 28) px
  have r5 := alloc_keep (o := .cells #[.slice (some ⟨g, 0, none⟩) n cap3] 28) bx
  have h5w := k5.size
  have hbl : g < (W4.alloc (.cells #[.slice (some ⟨g, 0, none⟩) n cap3] 28)).heap.size := hd5.lowO.2
  have hDl : ∀ r, r < n → D r < (W4.alloc (.cells #[.slice (some ⟨g, 0, none⟩) n cap3] 28)).heap.size := fun r hr => (hd5.lowI hr).2
  clear px bx k3
  refine wpIn_rangeFunc_ownH rfl (by decide) (gf := 115) (lb := #[.pointer (some ⟨W4.heap.size, 0, none⟩)]) rfl trivial (enters_of Tryd.func115 (by kernel_rfl) rfl)
    (each_stops 5 (cap := cap3) (by omega) (by omega) _ hBm hBl hG hbl hDl) (fun h h' g => h' (h g)) (fun W l o o' _ h1 h2 _ g => g.passes (grownBy_putObj' W l o') (fun r e => by cases e; exact ⟨o, h1, h2⟩)) (Below.refl _ _) (fun _ => rfl)
    (fun pre W => (∃ P, OwMD W w.heap.size 22 3 g D C n cap3 P ∧ Dm n n P ∧ ∀ r s, (r, s) ∈ plcs pre → en P r s = powm (ix l r) s) ∧ W.cell? ⟨PO, 0, none⟩ = some (.slice (some ⟨g, 0, none⟩) n cap3) ∧ W.cell? ⟨w.heap.size, 0, none⟩ = some (.slice (some ⟨bx, ox, none⟩) n ca) ∧ Below w.heap.size w W)
    (fun _ _ _ => False)
    (fun s X Y row hs hgr hr => ⟨let ⟨P, e1, e2, e3⟩ := hs.1; ⟨P, e1.passes hgr (fun r e => (hr r e).2), e2, e3⟩, cell_kept hs.2.1 hgr (fun r e => (hr r e).2), cell_kept hs.2.2.1 hgr (fun r e => (hr r e).2), hs.2.2.2.grown hgr hs.2.2.2.size (fun r e => Nat.le_trans h5w (hr r e).1)⟩)
    (fun _ _ _ _ _ hs _ _ => hs)
    ⟨⟨_, hd5, Dm.replicate n n 0, fun r s hp => by cases hp⟩, q5, r5, k5⟩
    (fun x a' W => ∃ Bx, W.cell? ⟨Bx, 0, none⟩ = some (.int .i64 (x.1.1 : Int)) ∧ W.cell? ⟨Bx, 1, none⟩ = some (.int .i64 (x.1.2.1 : Int)) ∧ a' = { tmps := #[Value.slice (some { block := bx, off := ox }) n ca, Value.pointer (some { block := w.heap.size, off := 0 }), Value.slice none 0 0, Value.nilIface, Value.nilIface, Value.pointer (some { block := PO, off := 0 }), Value.pointer (some { block := Bx, off := 0 }), Value.slice (some { block := bx, off := ox }) n ca, Value.nilIface, Value.nilIface, Value.bool false, undef, Value.slice (some { block := bx, off := ox }) n ca, Value.int IntKind.i64 (n : Int), Value.slice (some { block := bx, off := ox }) n ca, Value.int IntKind.i64 (n : Int), Value.slice (some { block := g, off := 0 }) n cap3, Value.slice (some { block := g, off := 0 }) n cap3, Value.func (.func 115) #[] #[Value.pointer (some { block := W4.heap.size, off := 0 })], .agg #[.int .i64 (x.1.1 : Int), .int .i64 (x.1.2.1 : Int)], .int .i64 x.1.2.2, undef, undef, undef, undef, undef, undef, undef, undef, undef, undef, undef, undef, undef, undef, undef, undef, undef], defers := [] })
    (fun x a' _ X Y row hs hgr hr => let ⟨Bx, e1, e2, e3⟩ := hs; ⟨Bx, cell_kept e1 hgr (fun r e => (hr r e).2), cell_kept e2 hgr (fun r e => (hr r e).2), e3⟩)
    ?assign ?body ?done ?stop
  case assign =>
    rintro l pre x W K ⟨⟨P, e1, e2, e3⟩, c3, c4, hbW⟩ hK
    dsimp only [encP]
    gi_wp2
    exact hK _ _ ((KeepsOthers.alloc _ _).from _) (fun g => g.fresh ((Below.refl _ _).alloc (Nat.le_refl _) _)) ⟨⟨P, e1.alloc _, e2, e3⟩, alloc_keep c3, alloc_keep c4, hbW.alloc hbW.size _⟩ ⟨W.heap.size, by simp, by simp, rfl⟩
  case body =>
    rintro lp pre ⟨⟨i, j, v⟩, hi, hj, _⟩ a' W hlp ⟨r, hr⟩ ⟨⟨P, e1, e2, e3⟩, c3, c4, hbW⟩ ⟨Bx, y1, y2, rfl⟩ hlt
    clear hBm hBl q5 hd4 hd5 r5 hG
    dsimp only at y1 y2 hi hj ⊢
    obtain ⟨bz, oz, hz, _, cx⟩ := (hl.below hbW).at hi
    cases hz
    have x1 := cx i hi
    have bX := HI.out i (by rw [hl.len_eq]; exact hi)
    have a1 := e1.cellO hi
    have a2 := e1.cellI hi (j := j) (by rw [e2.2 i hi]; exact hj)
    have a3 := e1.frozenI hi (by rw [e2.2 i hi]; omega) j
    rw [e2.2 i hi] at a1
    have i1 : (i : Int) < (n : Int) := by omega
    have i2 : (j : Int) < (n : Int) := by omega
    clear cx
    gi_wp2
    refine region_round_tail 16 (by kernel_rfl) (by kernel_rfl) (fun ⟨_, _, h⟩ => h) (by kernel_rfl) ?_
    simp only [List.take_succ_cons, List.take_zero, List.drop_succ_cons, List.drop_zero]
    repeat still_step
    still_call (stillW (Power_any (ix l i) j _ bX.1 bX.2 (by omega)))
    repeat still_step
    refine wpStill_nil ?_
    change wpList _ _ _ _ _ W.drew
    go_wp2
    refine ⟨((KeepsOthers.setCell _ _ _).trans (KeepsOthers.drew _)).from _, fun g => (g.setInt a2 fun _ _ _ _ => trivial).fresh (Below.refl _ _).drew, ⟨_, (e1.set matTy.ne hi _).drew, e2.setE _ _ _, fun r s hp => ?_⟩, set_keepS c3 a2, set_keepS c4 a2, (hbW.setCell (p := ⟨D i, j, none⟩) (e1.lowI hi).1 _).drew⟩
    rw [plcs_snoc] at hp
    have hpl : r < n ∧ s < n := by
      rcases List.mem_append.1 hp with h | h
      · exact plcs_in h
      · cases List.mem_singleton.1 h
        exact ⟨hi, hj⟩
    rw [e2.en_set _ hpl.1 hpl.2]
    split
    · next h => rw [← h.1, ← h.2]
    · next h =>
      rcases List.mem_append.1 hp with h2 | h2
      · exact e3 r s h2
      · cases List.mem_singleton.1 h2
        exact absurd ⟨rfl, rfl⟩ h
  case done =>
    rintro Dd ys W hDd hS ⟨⟨P, e1, e2, e3⟩, c3, c4, hbW⟩ hK
    go_wp2
    refine ⟨by simp, .inl ⟨_, _, rfl, run_takeDeferred hK, ?_⟩⟩
    have hgr := grownBy_putObj' W Dd (.deferred none)
    have hno : ∀ r, some Dd = some r → ∃ o : Obj, W.heap[r]? = some o ∧ o.isCells = false := fun r e => by cases e; exact ⟨_, hK, rfl⟩
    exact ⟨_, results_tmp2 rfl _ _ _, _, _, P, rfl, (e1.passes hgr hno).toM, ⟨e2, fun i j hi hj => e3 i j (by rw [hS]; exact locs_mem hi hj)⟩, hbW.grown hgr hbW.size (fun r e => by cases e; exact Nat.le_trans h5w hDd)⟩
  case stop =>
    rintro D c pre W _ _ h _
    exact h.elim
end Go.Proofs.YtefmllkimdaimaaDoor
