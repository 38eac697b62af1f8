/-
  num.Each: a range over all places of a matrix: the contract of its iterator, for every loop body that keeps the matrix's shape (and what is asked of its numbers).
  Matrices of n rows of c numbers; what a loop over all places keeps of them. No program in sight.
  Determinants of integer matrices, by the first row; multilinear, alternating; the product; the transpose; any row, any column. Plain Lean, no program in sight.
  Determinants: the product, the transpose, any row, the adjugate, triangles. Plain Lean, no program in sight.
-/
import Derived.RangeFuncNested
import Derived.RangeFuncBound
import Derived.RangeFuncCalls
import Derived.RangeFuncLeaves
import Derived.Shelf.Abstract
import Derived.Shelf.RegionOpen
import Derived.WalkKit
import Derived.OwnWalkIn
import Derived.TacticsInMore
import Derived.LoopNIn
import Derived.LoopIn
import Derived.Test.YtoahegjjffggaaaRows
import Derived.Test.YtoahegjjffggaaaMg0
import Derived.Test.YtoahegjjffggaaaMg1
import Derived.Test.YtoahegjjffggaaaMg2
namespace Go.Rk
open Go.RowKit

/-- A matrix of n rows of c numbers: where its rows and its numbers lie, and what is asked of each number. -/
structure Grid (n c b off : Nat) (D O C : Nat → Nat) (ok : Nat → Nat → Int → Prop) (W : World) : Prop where
  hdr : ∀ k, k < n → W.cell? ⟨b, off + k, none⟩ = some (.slice (some ⟨D k, O k, none⟩) c (C k))
  el : ∀ k j, k < n → j < c → ∃ v, W.cell? ⟨D k, O k + j, none⟩ = some (.int .i64 v) ∧ ok k j v

section
variable {n c b off : Nat} {D O C : Nat → Nat} {ok : Nat → Nat → Int → Prop} {W W' : World}
theorem Grid.below {n₀ : Nat} (h : Grid n c b off D O C ok W) (hk : Below n₀ W W') (hb : b < n₀) (hD : ∀ k, k < n → D k < n₀) : Grid n c b off D O C ok W' :=
  ⟨fun k hk2 => (hk.cell (p := ⟨b, off + k, none⟩) hb).trans (h.hdr k hk2), fun k j hk2 hj => let ⟨v, hv, ho⟩ := h.el k j hk2 hj; ⟨v, (hk.cell (p := ⟨D k, O k + j, none⟩) (hD k hk2)).trans hv, ho⟩⟩
end

/-- A place of the matrix, and its number. -/
abbrev Plc (n c : Nat) (ok : Nat → Nat → Int → Prop) := { x : Nat × Nat × Int // x.1 < n ∧ x.2.1 < c ∧ ok x.1 x.2.1 x.2.2 }
def encP {n c : Nat} {ok : Nat → Nat → Int → Prop} (x : Plc n c ok) : Array Value := #[.agg #[.int .i64 (x.1.1 : Int), .int .i64 (x.1.2.1 : Int)], .int .i64 x.1.2.2]
def locs (c k : Nat) : List (Nat × Nat) := (List.range k).map fun t => (t / c, t % c)
def plcs {n c : Nat} {ok : Nat → Nat → Int → Prop} (pre : List (Plc n c ok)) : List (Nat × Nat) := pre.map fun x => (x.1.1, x.1.2.1)

theorem locs_succ {c i j : Nat} (hj : j < c) : locs c (i * c + j + 1) = locs c (i * c + j) ++ [(i, j)] := by
  have h1 : (i * c + j) / c = i := by rw [Nat.mul_comm, Nat.mul_add_div (by omega), Nat.div_eq_of_lt hj, Nat.add_zero]
  have h2 : (i * c + j) % c = j := by rw [Nat.mul_comm, Nat.mul_add_mod, Nat.mod_eq_of_lt hj]
  simp [locs, List.range_succ, h1, h2]
theorem locs_length (c k : Nat) : (locs c k).length = k := by simp [locs]
theorem plcs_snoc {n c : Nat} {ok : Nat → Nat → Int → Prop} (pre : List (Plc n c ok)) (x : Plc n c ok) : plcs (pre ++ [x]) = plcs pre ++ [(x.1.1, x.1.2.1)] := by simp [plcs]
theorem plcs_length {n c : Nat} {ok : Nat → Nat → Int → Prop} (pre : List (Plc n c ok)) : (plcs pre).length = pre.length := by simp [plcs]
theorem place_lt {n c i j : Nat} (hi : i < n) (hj : j < c) : i * c + j < n * c := by
  have : (i + 1) * c ≤ n * c := Nat.mul_le_mul_right c hi
  rw [Nat.add_mul, Nat.one_mul] at this
  omega
end Go.Rk
namespace Go.Proofs.Ytoahegjjffggaaa
open Go.RowKit Go.Shelf Go.Rk
attribute [local go_sem] Oper.semAt_some

set_option maxRecDepth 100000 in
set_option maxHeartbeats 4000000 in
theorem each1_in (m : Nat) {n c b off cap : Nat} {D O C : Nat → Nat} {ok : Nat → Nat → Int → Prop} (l Bm : Nat) (hn : n ≤ 1000000) (hc : c ≤ 1000000) (J Jx : List (Plc n c ok) → World → Prop)
    (hY : ∀ pre x W, J pre W → pre.length < n * c → YieldAt Fence.wide (m - 1) Try.prog l (encP x) W fun e W' =>
      (e = .returned (.bool true) ∧ J (pre ++ [x]) W' ∧ (Grid n c b off D O C ok W → Grid n c b off D O C ok W')) ∨ (e = .returned (.bool false) ∧ Jx (pre ++ [x]) W'))
    (W : World) (hBm : W.cell? ⟨Bm, 0, none⟩ = some (.slice (some ⟨b, off, none⟩) n cap)) (hG : Grid n c b off D O C ok W) (h0 : J [] W) :
    CallsIn Fence.wide m Try.prog 88 #[.func (.yield l) #[] #[], .pointer (some ⟨Bm, 0, none⟩)] W fun e W' => (∃ v, e = .returned v) ∧
      ((∃ ys, plcs ys = locs c (n * c) ∧ J ys W') ∨ (∃ pre, (∃ k, k ≤ n * c ∧ plcs pre = locs c k) ∧ Jx pre W')) := by
  refine callsIn_of_wp Try.func88 rfl trivial ?_ rfl
  simp only [Try.ntmps88, List.size_toArray, List.length_cons, List.length_nil, Nat.reduceAdd, Nat.reduceSub, Array.replicate_succ, Array.replicate_zero, List.push_toArray, List.append_toArray, List.nil_append, List.cons_append]
  gi_wp2
  gi_loopw [9] (fun v wr => ∃ (i : Nat) (pre : List (Plc n c ok)), i ≤ n ∧ v = .int .i64 i ∧ Hid (plcs pre = locs c (i * c)) ∧ J pre wr ∧ Grid n c b off D O C ok wr)
    (fun v _ => n - (intOf v).toNat)
  case atStart => exact ⟨0, [], Nat.zero_le _, rfl, by unfold Hid; rw [Nat.zero_mul]; rfl, h0, hG⟩
  case round =>
    obtain ⟨i, pre, hi, rfl, hp, hJ, hg⟩ := hrel
    by_cases hlt : i < n
    · have y1 := hg.hdr i hlt
      gi_wp2
      gi_loopw [16] (fun v wt => ∃ (j : Nat) (pre : List (Plc n c ok)), j ≤ c ∧ v = .int .i64 j ∧ Hid (plcs pre = locs c (i * c + j)) ∧ J pre wt ∧ Grid n c b off D O C ok wt)
        (fun v _ => c - (intOf v).toNat)
      case atStart => exact ⟨0, pre, Nat.zero_le _, rfl, hp, hJ, hg⟩
      case round =>
        clear hJ hp hg y1
        obtain ⟨j, pre, hj, rfl, hp, hJ, hg⟩ := hrel
        by_cases hjc : j < c
        · obtain ⟨v, y2, hok⟩ := hg.el i j hlt hjc
          have hlen : pre.length < n * c := by
            rw [← plcs_length, hp.out, locs_length]
            exact place_lt hlt hjc
          obtain ⟨fn, tmps, assign, body, hy, hR⟩ := hY pre ⟨(i, j, v), hlt, hjc, hok⟩ wr hJ hlen
          dsimp only [encP] at hy
          gi_wp2
          refine ⟨fun e => by simp [Fence.wide] at e, hR.mono ?_⟩
          rintro e W3 (⟨rfl, hJ3, hk3⟩ | ⟨rfl, hJx3⟩)
          · have hg3 := hk3 hg
            gi_wp2
            go_roundw
            case rel => exact ⟨j + 1, _, by omega, by go_num, by unfold Hid; rw [plcs_snoc, hp.out, ← Nat.add_assoc, locs_succ hjc], hJ3, hg3⟩
            case measure => simp [intOf]; omega
          · gi_wp2
            refine bodyPost_ret (results_none rfl _ _ _) rfl ?_
            exact ⟨⟨_, rfl⟩, .inr ⟨_, ⟨i * c + j + 1, place_lt hlt hjc, by rw [plcs_snoc, hp.out, locs_succ hjc]⟩, hJx3⟩⟩
        · obtain rfl : j = c := by omega
          gi_wp2
          go_roundw
          case rel => exact ⟨i + 1, pre, by omega, by go_num, by unfold Hid; rw [hp.out, Nat.add_mul, Nat.one_mul], hJ, hg⟩
          case measure => simp [intOf]; omega
    · obtain rfl : i = n := by omega
      gi_wp2
      go_end0
      exact ⟨⟨_, rfl⟩, .inl ⟨_, hp.out, hJ⟩⟩

/-- num.Each(m): the matrix is boxed; the function value captures the box. -/
theorem each_in (m : Nat) (a : Option Addr) (n cap : Nat) (w : World) :
    CallsIn Fence.wide m Try.prog 65 #[.slice a n cap] w fun e w' => e = .returned (.func (.func 88) #[] #[.pointer (some ⟨w.heap.size, 0, none⟩)]) ∧ w' = w.alloc (.cells #[.slice a n cap] 43) := by
  refine callsIn_of_wp Try.func65 rfl trivial ?_ rfl
  simp only [Try.ntmps65, List.size_toArray, List.length_cons, List.length_nil, Nat.reduceAdd, Nat.reduceSub, Array.replicate_succ, Array.replicate_zero, List.push_toArray, List.append_toArray, List.nil_append, List.cons_append]
  gi_wp2
  go_ret
  exact ⟨rfl, rfl⟩

/-- The iterator, for every loop body that keeps the shape. -/
theorem each_stops (m : Nat) {n c b off cap Bm : Nat} {D O C : Nat → Nat} {ok : Nat → Nat → Int → Prop} (hn : n ≤ 1000000) (hc : c ≤ 1000000) (w : World) (hBm : w.cell? ⟨Bm, 0, none⟩ = some (.slice (some ⟨b, off, none⟩) n cap)) (hBl : Bm < w.heap.size) (hG : Grid n c b off D O C ok w) (hb : b < w.heap.size) (hD : ∀ k, k < n → D k < w.heap.size) :
    SeqStopsK Fence.wide m Try.prog 88 #[.pointer (some ⟨Bm, 0, none⟩)] (encP (n := n) (c := c) (ok := ok)) (fun W W' => Grid n c b off D O C ok W → Grid n c b off D O C ok W')
      (fun ys => plcs ys = locs c (n * c)) (fun pre => ∃ k, k ≤ n * c ∧ plcs pre = locs c k) (n * c) w := fun l J Jx W hW _ _ hY h0 =>
  each1_in m l Bm hn hc J Jx hY W ((hW.cell (p := ⟨Bm, 0, none⟩) hBl).trans hBm) (hG.below hW hb hD) h0
end Go.Proofs.Ytoahegjjffggaaa
namespace Go.Rk
open Go.RowKit

def Dm (n c : Nat) (M : List (List Int)) : Prop := M.length = n ∧ ∀ i, i < n → (rowOf M i).length = c
def EntR (lo hi : Int) (n c : Nat) (M : List (List Int)) : Prop := ∀ i j, i < n → j < c → lo ≤ en M i j ∧ en M i j ≤ hi
def IsR (n c : Nat) (M : List (List Int)) (F : Nat → Nat → Int) : Prop := Dm n c M ∧ ∀ i j, i < n → j < c → en M i j = F i j

theorem Dm.setE {n c : Nat} {M : List (List Int)} (h : Dm n c M) (i j : Nat) (x : Int) : Dm n c (setE M i j x) :=
  ⟨by rw [setE_len]; exact h.1, fun r hr => by rw [setE_row_len]; exact h.2 r hr⟩
theorem Dm.en_set {n c : Nat} {M : List (List Int)} (h : Dm n c M) {i j r s : Nat} (x : Int) (hr : r < n) (hs : s < c) : en (Go.Rk.setE M i j x) r s = if i = r ∧ j = s then x else en M r s := by
  rw [en_setE, h.1, h.2 r hr]
  by_cases e : i = r ∧ j = s
  · rw [if_pos ⟨e.1, e.2, hr, hs⟩, if_pos e]
  · rw [if_neg fun e2 => e ⟨e2.1, e2.2.1⟩, if_neg e]
theorem Dm.ext {n c : Nat} {M N : List (List Int)} (h : Dm n c M) (h' : Dm n c N) (e : ∀ i j, i < n → j < c → en M i j = en N i j) : M = N :=
  en_ext (h.1.trans h'.1.symm) (fun k hk => by rw [h.2 k (by rw [← h.1]; exact hk), h'.2 k (by rw [← h.1]; exact hk)]) fun i j hi hj => e i j (by rw [← h.1]; exact hi) (by rw [← h.2 i (by rw [← h.1]; exact hi)]; exact hj)
theorem Dm.replicate (n c : Nat) (x : Int) : Dm n c (List.replicate n (List.replicate c x)) :=
  ⟨by simp, fun i hi => by rw [rowOf_lt (by simp; exact hi)]; simp⟩
theorem IsR.congr {n c : Nat} {M : List (List Int)} {F G : Nat → Nat → Int} (h : IsR n c M F) (e : ∀ i j, i < n → j < c → F i j = G i j) : IsR n c M G :=
  ⟨h.1, fun i j hi hj => by rw [h.2 i j hi hj, e i j hi hj]⟩

theorem locs_mem {n c i j : Nat} (hi : i < n) (hj : j < c) : (i, j) ∈ locs c (n * c) := by
  have h1 : (i * c + j) / c = i := by rw [Nat.mul_comm, Nat.mul_add_div (by omega), Nat.div_eq_of_lt hj, Nat.add_zero]
  have h2 : (i * c + j) % c = j := by rw [Nat.mul_comm, Nat.mul_add_mod, Nat.mod_eq_of_lt hj]
  exact List.mem_map.2 ⟨i * c + j, List.mem_range.2 (place_lt hi hj), by rw [h1, h2]⟩
theorem plcs_in {n c : Nat} {ok : Nat → Nat → Int → Prop} {pre : List (Plc n c ok)} {p : Nat × Nat} (h : p ∈ plcs pre) : p.1 < n ∧ p.2 < c := by
  obtain ⟨x, _, rfl⟩ := List.mem_map.1 h
  exact ⟨x.2.1, x.2.2.1⟩
theorem locs_nodup (c k : Nat) : (locs c k).Nodup := by
  unfold locs List.Nodup
  rw [List.pairwise_map]
  refine List.Pairwise.imp ?_ List.nodup_range
  intro a b hab e
  injection e with e1 e2
  exact hab (by rw [← Nat.div_add_mod a c, ← Nat.div_add_mod b c, e1, e2])

section
variable {w w' : World} {B T E g : Nat} {D C : Nat → Nat} {n c cap : Nat} {M : List (List Int)} {row : Option Nat}

theorem alloc_keep {p : Addr} {v : Value} {o : Obj} (h : w.cell? p = some v) : (w.alloc o).cell? p = some v :=
  (((Below.refl w.heap.size w).alloc (Nat.le_refl _) o).cell (World.block_lt_of_cell? w p h)).trans h

theorem set_keep {p q : Addr} {v u : Value} (h : w.cell? p = some v) (hne : p.block ≠ q.block) : (w.setCell q u).cell? p = some v :=
  (World.cell?_setCell_other _ _ _ _ (fun e => hne (by rw [e]))).trans h

theorem set_keepS {p q : Addr} {x : Option Addr} {y z : Nat} {u : Int} {v : Value} (h : w.cell? p = some (.slice x y z)) (hq : w.cell? q = some (.int .i64 u)) : (w.setCell q v).cell? p = some (.slice x y z) :=
  (World.cell?_setCell_other _ _ _ _ (fun e => by rw [← e, hq] at h; cases h)).trans h
theorem keepsOthers_drewN (w : World) (q : Nat) : KeepsOthers w (w.drewN q) :=
  ⟨(below_drewN (Below.refl 0 w) q).size, fun k _ h _ => (below_drewN (Below.refl (k + 1) w) q).block k (by omega) |>.trans h⟩

theorem keepBox {v : Value} {t : TypeId} {G : Prop} (h : Below (w.alloc (.cells #[v] t)).drew.heap.size (w.alloc (.cells #[v] t)).drew w')
    (hG : w'.cell? ⟨w.heap.size, 0, none⟩ = some v → w'.frozen? ⟨w.heap.size, 0, none⟩ = false → w'.cell? ⟨w.drew.heap.size, 0, none⟩ = some v → w'.frozen? ⟨w.drew.heap.size, 0, none⟩ = false → G) : G := by
  have h1 := (h.cell (p := ⟨w.heap.size, 0, none⟩) (by simp)).trans (c := some v) (by simp)
  have h2 := (h.frozen (p := ⟨w.heap.size, 0, none⟩) (by simp)).trans (c := false) (by simp)
  exact hG h1 h2 h1 h2

theorem ownsRow_notCells {size k : Nat} {v : Value} {xs : List Value} (h : w.ownsRow B T size v k xs) (hr : ∀ r, row = some r → ∃ o : Obj, w.heap[r]? = some o ∧ o.isCells = false) : v.ownBlock = none ∨ v.ownBlock ≠ row := by
  rcases h.2 with ⟨rfl, _⟩ | ⟨g, c, cur, rfl, _, hg, _⟩
  · exact .inl rfl
  · refine .inr fun e => ?_
    obtain ⟨o, ho, hc⟩ := hr g (by rw [← e]; rfl)
    rw [hg] at ho
    cases ho
    cases hc

/-- What a value owns depends on its own block alone. -/
theorem ownsRow_same {size k : Nat} {v : Value} {xs : List Value} (h : w.ownsRow B T size v k xs) (hb : ∀ b, v.ownBlock = some b → w'.heap[b]? = w.heap[b]?) : w'.ownsRow B T size v k xs := by
  obtain ⟨h1, h2⟩ := h
  refine ⟨h1, ?_⟩
  rcases h2 with h2 | ⟨g, c, cur, hv, hB, hg, hr⟩
  · exact .inl h2
  · exact .inr ⟨g, c, cur, hv, hB, by rw [hb g (by rw [hv]; rfl)]; exact hg, hr⟩
/-- All is as it was but for the rows' own blocks. -/
def KeptBut (n : Nat) (D : Nat → Nat) (w w' : World) : Prop := w.heap.size ≤ w'.heap.size ∧ ∀ b, b < w.heap.size → (∀ i, i < n → b ≠ D i) → w'.heap[b]? = w.heap[b]?
theorem KeptBut.refl (n : Nat) (D : Nat → Nat) (w : World) : KeptBut n D w w := ⟨Nat.le_refl _, fun _ _ _ => rfl⟩
theorem KeptBut.set {D : Nat → Nat} {w w' : World} (h : KeptBut n D w w') {i j : Nat} (hi : i < n) (u : Value) : KeptBut n D w (w'.setCell ⟨D i, j, none⟩ u) :=
  ⟨Nat.le_trans h.1 (by simp), fun b hb hne => (Below.heap_setCell _ _ _ _ (fun e => hne i hi e)).trans (h.2 b hb hne)⟩
theorem KeptBut.drew {D : Nat → Nat} {w w' : World} (h : KeptBut n D w w') : KeptBut n D w w'.drew := ⟨h.1, h.2⟩
theorem OwI.keptBut {a : Option Addr} {m cap : Nat} {l : List Int} {D : Nat → Nat} (h : OwI w B E a m cap l) (hk : KeptBut n D w w') (hD : ∀ i, i < n → D i < B) : OwI w' B E a m cap l :=
  ⟨h.len_eq, ownsRow_same h.own fun b hb => by
    have := h.own.lt b hb
    exact hk.2 b this.2 fun i hi e => by have := hD i hi; omega⟩
theorem OwMD.grownPast (h : OwMD w B T E g D C n cap M) {b : Nat} (hg : w.grownBy w' row) (hr : ∀ r, row = some r → b ≤ r) (h1 : g < b) (h2 : ∀ i, i < n → D i < b) : OwMD w' B T E g D C n cap M :=
  ⟨h.len_eq, h.outer.kept hg (.inr fun e => by have := hr g e.symm; omega), fun i hi => (h.rows i hi).grown hg (.inr fun e => by have := hr (D i) e.symm; have := h2 i hi; omega), h.inj⟩

theorem OwMD.mono {B' : Nat} (h : OwMD w B T E g D C n cap M) (hb : B' ≤ B) : OwMD w B' T E g D C n cap M :=
  ⟨h.len_eq, h.outer.mono hb, fun i hi => (h.rows i hi).mono hb, h.inj⟩

theorem OwMD.passes (h : OwMD w B T E g D C n cap M) (hg : w.grownBy w' row) (hr : ∀ r, row = some r → ∃ o : Obj, w.heap[r]? = some o ∧ o.isCells = false) : OwMD w' B T E g D C n cap M :=
  ⟨h.len_eq, h.outer.kept hg (ownsRow_notCells h.outer hr), fun i hi => (h.rows i hi).grown hg (ownsRow_notCells (h.rows i hi).own hr), h.inj⟩

theorem OwMD.grid (h : OwMD w B T E g D C n cap M) (hd : Dm n c M) {ok : Nat → Nat → Int → Prop} (hok : ∀ i j, i < n → j < c → ok i j (en M i j)) : Grid n c g 0 D (fun _ => 0) C ok w :=
  ⟨fun k hk => by rw [Nat.zero_add, h.cellO hk, hd.2 k hk], fun k j hk hj => ⟨_, by rw [Nat.zero_add]; exact h.cellI hk (by rw [hd.2 k hk]; exact hj), hok k j hk hj⟩⟩

theorem RdM.grid {a : Option Addr} (h : RdM w a n cap M) (hd : Dm n c M) (hn : 0 < n) (hc : 0 < c) : ∃ b off D O C, a = some ⟨b, off, none⟩ ∧ b < w.heap.size ∧ (∀ k, k < n → D k < w.heap.size) ∧ Grid n c b off D O C (fun i j v => v = en M i j) w := by
  obtain ⟨b, off, ha, hb, hr⟩ := h.at hn
  have hr' : ∀ i, i < n → ∃ y : Nat × Nat × Nat, w.cell? ⟨b, off + i, none⟩ = some (.slice (some ⟨y.1, y.2.1, none⟩) c y.2.2) ∧ y.1 < w.heap.size ∧ ∀ j, j < c → w.cell? ⟨y.1, y.2.1 + j, none⟩ = some (.int .i64 (en M i j)) := by
    intro i hi
    obtain ⟨ar, cr, hcell, hrd⟩ := hr i hi
    rw [hd.2 i hi] at hcell hrd
    obtain ⟨p, o, rfl, hp, hx⟩ := hrd.at hc
    exact ⟨(p, o, cr), hcell, hp, hx⟩
  obtain ⟨y, hy⟩ := Go.Deep.choose_lt hr'
  exact ⟨b, off, fun i => (y i).1, fun i => (y i).2.1, fun i => (y i).2.2, ha, hb, fun k hk => (hy k hk).2.1, fun k hk => (hy k hk).1, fun k j hk hj => ⟨_, (hy k hk).2.2 j hj, rfl⟩⟩

variable {b off : Nat} {O : Nat → Nat} {ok : Nat → Nat → Int → Prop}
theorem Grid.fresh (h : Grid n c b off D O C ok w) (hk : Below w.heap.size w w') : Grid n c b off D O C ok w' :=
  ⟨fun k hk2 => (hk.cell (World.block_lt_of_cell? w _ (h.hdr k hk2))).trans (h.hdr k hk2), fun k j hk2 hj => let ⟨v, hv, ho⟩ := h.el k j hk2 hj; ⟨v, (hk.cell (World.block_lt_of_cell? w _ hv)).trans hv, ho⟩⟩
theorem Grid.passes (h : Grid n c b off D O C ok w) (hg : w.grownBy w' row) (hr : ∀ r, row = some r → ∃ o : Obj, w.heap[r]? = some o ∧ o.isCells = false) : Grid n c b off D O C ok w' :=
  ⟨fun k hk2 => cell_kept (h.hdr k hk2) hg hr, fun k j hk2 hj => let ⟨v, hv, ho⟩ := h.el k j hk2 hj; ⟨v, cell_kept hv hg hr, ho⟩⟩
/-- A number stored where a number lies. -/
theorem Grid.setInt (h : Grid n c b off D O C ok w) {p : Addr} {u x : Int} (hp : w.cell? p = some (.int .i64 u)) (hx : ∀ k j, k < n → j < c → ok k j x) : Grid n c b off D O C ok (w.setCell p (.int .i64 x)) := by
  refine ⟨fun k hk => ?_, fun k j hk hj => ?_⟩
  · rw [World.cell?_setCell_other _ _ _ _ (fun e => by have := h.hdr k hk; rw [← e, hp] at this; cases this)]
    exact h.hdr k hk
  · obtain ⟨v, hv, ho⟩ := h.el k j hk hj
    by_cases e : (⟨D k, O k + j, none⟩ : Addr) = p
    · subst e
      exact ⟨x, World.cell?_setCell_same _ _ _ hv, hx k j hk hj⟩
    · exact ⟨v, (World.cell?_setCell_other _ _ _ _ (Ne.symm e)).trans hv, ho⟩
end
end Go.Rk
namespace Go.Rk

abbrev Mx := Nat → Nat → Int

def skip (j c : Nat) : Nat := if c < j then c else c + 1
def minor (A : Mx) (i j : Nat) : Mx := fun r c => A (skip i r) (skip j c)
def sg (j : Nat) : Int := if j % 2 = 0 then 1 else -1
def det : Nat → Mx → Int
  | 0, _ => 1
  | n + 1, A => sumTo (fun j => sg j * A 0 j * det n (minor A 0 j)) (n + 1)
def setRow (A : Mx) (i : Nat) (r : Nat → Int) : Mx := fun k c => if k = i then r c else A k c
def unit_ (j : Nat) : Nat → Int := fun c => if c = j then 1 else 0
def idM : Mx := fun i => unit_ i
def mulM (n : Nat) (A B : Mx) : Mx := fun i j => sumTo (fun k => A i k * B k j) n
def trM (A : Mx) : Mx := fun i j => A j i

theorem sg_succ (j : Nat) : sg (j + 1) = -sg j := by unfold sg; split <;> split <;> omega
theorem sg_sq (j : Nat) : sg j * sg j = 1 := by unfold sg; split <;> rfl
theorem sg_add (i j : Nat) : sg (i + j) = sg i * sg j := by
  induction i with
  | zero => simp [sg]
  | succ i ih => rw [Nat.add_right_comm, sg_succ, sg_succ, ih, Int.neg_mul]
theorem skip_lt {j c n : Nat} (h : c < n) : skip j c < n + 1 := by unfold skip; split <;> omega
theorem skip_ne (j c : Nat) : skip j c ≠ j := by unfold skip; split <;> omega
theorem skip_zero (c : Nat) : skip 0 c = c + 1 := by simp [skip]
theorem skip_skip {i j c : Nat} (h : i ≤ j) : skip i (skip j c) = skip (j + 1) (skip i c) := by
  unfold skip; (repeat' split) <;> omega

theorem det_congr {n : Nat} : ∀ {A B : Mx}, (∀ i j, i < n → j < n → A i j = B i j) → det n A = det n B := by
  induction n with
  | zero => intro A B _; rfl
  | succ n ih =>
    intro A B h
    unfold det
    refine sumTo_congr fun j hj => ?_
    rw [h 0 j (by omega) hj, ih (A := minor A 0 j) (B := minor B 0 j) fun r c hr hc => h _ _ (skip_lt hr) (skip_lt hc)]

theorem minor_setRow_zero (A : Mx) (r : Nat → Int) (j : Nat) : minor (setRow A 0 r) 0 j = minor A 0 j := by
  funext a c; simp [minor, setRow, skip_zero]
theorem minor_setRow_succ (A : Mx) (i : Nat) (r : Nat → Int) (j : Nat) : minor (setRow A (i + 1) r) 0 j = setRow (minor A 0 j) i (fun c => r (skip j c)) := by
  funext a c; simp [minor, setRow, skip_zero]

theorem det_row_add {n : Nat} : ∀ (A : Mx) (i : Nat), i < n → ∀ (r s : Nat → Int), det n (setRow A i fun c => r c + s c) = det n (setRow A i r) + det n (setRow A i s) := by
  induction n with
  | zero => intro A i h; omega
  | succ n ih =>
    intro A i hi r s
    unfold det
    rw [← sumTo_add]
    refine sumTo_congr fun j _ => ?_
    cases i with
    | zero => simp only [minor_setRow_zero, setRow, if_true]; grind
    | succ i =>
      simp only [minor_setRow_succ]
      rw [ih (minor A 0 j) i (by omega) (fun c => r (skip j c)) (fun c => s (skip j c))]
      simp only [setRow]
      grind

theorem det_row_mul {n : Nat} : ∀ (A : Mx) (i : Nat), i < n → ∀ (x : Int) (r : Nat → Int), det n (setRow A i fun c => x * r c) = x * det n (setRow A i r) := by
  induction n with
  | zero => intro A i h; omega
  | succ n ih =>
    intro A i hi x r
    unfold det
    rw [← sumTo_mul]
    refine sumTo_congr fun j _ => ?_
    cases i with
    | zero => simp only [minor_setRow_zero, setRow, if_true]; grind
    | succ i =>
      simp only [minor_setRow_succ]
      rw [ih (minor A 0 j) i (by omega) x (fun c => r (skip j c))]
      simp only [setRow]
      grind

/-- A sum over all pairs of two places, in pairs of pairs. -/
theorem sum_pairs (F : Nat → Nat → Int) (n : Nat) : sumTo (fun j => sumTo (fun k => F j k) (n + 1)) (n + 2) =
    sumTo (fun k => sumTo (fun j => if j ≤ k then F j k + F (k + 1) j else 0) (n + 1)) (n + 1) := by
  have h1 : sumTo (fun j => sumTo (fun k => F j k) (n + 1)) (n + 2) = sumTo (fun j => sumTo (fun k => if j ≤ k then F j k else 0) (n + 1)) (n + 2) + sumTo (fun j => sumTo (fun k => if j ≤ k then 0 else F j k) (n + 1)) (n + 2) := by
    rw [← sumTo_add]
    refine sumTo_congr fun j _ => ?_
    rw [← sumTo_add]
    refine sumTo_congr fun k _ => ?_
    split <;> simp
  have h2 : sumTo (fun j => sumTo (fun k => if j ≤ k then F j k else 0) (n + 1)) (n + 2) = sumTo (fun j => sumTo (fun k => if j ≤ k then F j k else 0) (n + 1)) (n + 1) := by
    show sumTo _ (n + 1) + sumTo (fun k => if n + 1 ≤ k then F (n + 1) k else 0) (n + 1) = _
    rw [sumTo_congr (g := fun k => if n + 1 ≤ k then F (n + 1) k else 0) (h := fun _ => 0) fun k hk => if_neg (by omega), sumTo_zero, Int.add_zero]
  have h3 : sumTo (fun j => sumTo (fun k => if j ≤ k then 0 else F j k) (n + 1)) (n + 2) = sumTo (fun k => sumTo (fun j => if j ≤ k then F (k + 1) j else 0) (n + 1)) (n + 1) := by
    rw [sumTo_succ_left, sumTo_congr (g := fun k => if 0 ≤ k then 0 else F 0 k) (h := fun _ => 0) fun k _ => if_pos (Nat.zero_le _), sumTo_zero, Int.zero_add]
    refine sumTo_congr fun k _ => sumTo_congr fun j _ => ?_
    by_cases h : j ≤ k
    · rw [if_neg (by omega), if_pos h]
    · rw [if_pos (by omega), if_neg h]
  rw [h1, h2, h3, sumTo_swap, ← sumTo_add]
  refine sumTo_congr fun k _ => ?_
  rw [← sumTo_add]
  refine sumTo_congr fun j _ => ?_
  split <;> simp

/-- Two rows beside each other that are alike. -/
theorem det_adj_eq {n : Nat} : ∀ (A : Mx) (i : Nat), i + 1 < n → (∀ c, c < n → A i c = A (i + 1) c) → det n A = 0 := by
  induction n with
  | zero => intro A i h; omega
  | succ n ih =>
    intro A i hi he
    cases i with
    | succ i =>
      unfold det
      rw [sumTo_congr (h := fun _ => 0), sumTo_zero]
      intro j hj
      rw [ih (minor A 0 j) i (by omega) fun c hc => by simp only [minor, skip_zero]; exact he _ (skip_lt hc)]
      simp
    | zero =>
      obtain ⟨m, rfl⟩ : ∃ m, n = m + 1 := ⟨n - 1, by omega⟩
      have h1 : det (m + 2) A = sumTo (fun j => sumTo (fun k => sg j * A 0 j * (sg k * A 1 (skip j k) * det m (minor (minor A 0 j) 0 k))) (m + 1)) (m + 2) := by
        show sumTo (fun j => sg j * A 0 j * det (m + 1) (minor A 0 j)) (m + 2) = _
        refine sumTo_congr fun j _ => ?_
        rw [sumTo_mul]
        rfl
      rw [h1, sum_pairs, sumTo_congr (h := fun _ => 0), sumTo_zero]
      intro k hk
      rw [sumTo_congr (h := fun _ => 0), sumTo_zero]
      intro j hj
      split
      · next hjk =>
        have e1 : skip j k = k + 1 := by unfold skip; split <;> omega
        have e2 : skip (k + 1) j = j := by unfold skip; split <;> omega
        have e3 : minor (minor A 0 j) 0 k = minor (minor A 0 (k + 1)) 0 j := by
          funext a c
          simp only [minor]
          rw [skip_skip hjk]
        rw [e1, e2, e3, sg_succ, ← he (k + 1) (by omega), ← he j (by omega)]
        grind
      · rfl

theorem setRow_self (A : Mx) (i : Nat) : setRow A i (A i) = A := by funext k c; simp only [setRow]; split <;> simp_all
theorem setRow_comm (A : Mx) {i j : Nat} (h : i ≠ j) (r s : Nat → Int) : setRow (setRow A i r) j s = setRow (setRow A j s) i r := by
  funext k c; simp only [setRow]; (repeat' split) <;> first | rfl | omega
theorem setRow_twice (A : Mx) (i : Nat) (r s : Nat → Int) : setRow (setRow A i r) i s = setRow A i s := by
  funext k c; simp only [setRow]; split <;> rfl

/-- What a determinant does with rows, said of any function of n rows. -/
structure Alt (n : Nat) (f : Mx → Int) : Prop where
  congr : ∀ {A B : Mx}, (∀ i j, i < n → j < n → A i j = B i j) → f A = f B
  add : ∀ (A : Mx) (i : Nat), i < n → ∀ (r s : Nat → Int), f (setRow A i fun c => r c + s c) = f (setRow A i r) + f (setRow A i s)
  mul : ∀ (A : Mx) (i : Nat), i < n → ∀ (x : Int) (r : Nat → Int), f (setRow A i fun c => x * r c) = x * f (setRow A i r)
  adj : ∀ (A : Mx) (i : Nat), i + 1 < n → (∀ c, c < n → A i c = A (i + 1) c) → f A = 0

theorem det_alt (n : Nat) : Alt n (det n) := ⟨det_congr, det_row_add, det_row_mul, det_adj_eq⟩

section
variable {n : Nat} {f : Mx → Int}

/-- Two rows changed for each other. -/
def swapM (A : Mx) (i j : Nat) : Mx := setRow (setRow A i (A j)) j (A i)

theorem Alt.swap_adj (h : Alt n f) (A : Mx) (i : Nat) (hi : i + 1 < n) : f (swapM A i (i + 1)) = -f A := by
  have k : ∀ r s : Nat → Int, f (setRow (setRow A i r) (i + 1) s) + f (setRow (setRow A i s) (i + 1) r) = 0 := by
    intro r s
    have h0 := h.adj (setRow (setRow A i fun c => r c + s c) (i + 1) fun c => r c + s c) i hi fun c _ => by simp [setRow]
    have hr := h.adj (setRow (setRow A i r) (i + 1) r) i hi fun c _ => by simp [setRow]
    have hs := h.adj (setRow (setRow A i s) (i + 1) s) i hi fun c _ => by simp [setRow]
    rw [h.add _ _ hi, setRow_comm A (by omega : i ≠ i + 1), setRow_comm A (by omega : i ≠ i + 1), h.add _ _ (by omega), h.add _ _ (by omega), ← setRow_comm A (by omega : i ≠ i + 1), ← setRow_comm A (by omega : i ≠ i + 1),
      ← setRow_comm A (by omega : i ≠ i + 1), ← setRow_comm A (by omega : i ≠ i + 1), hr, hs] at h0
    omega
  have k1 := k (A (i + 1)) (A i)
  rw [setRow_self, show setRow A (i + 1) (A (i + 1)) = A from setRow_self A (i + 1)] at k1
  unfold swapM
  omega

theorem Alt.eq_rows (h : Alt n f) : ∀ (d : Nat) (A : Mx) (i : Nat), i + d + 1 < n → (∀ c, c < n → A i c = A (i + d + 1) c) → f A = 0 := by
  intro d
  induction d with
  | zero => exact fun A i hi he => h.adj A i hi he
  | succ d ih =>
    intro A i hi he
    have h1 := h.swap_adj A (i + d + 1) (by omega)
    have h2 := ih (swapM A (i + d + 1) (i + d + 1 + 1)) i (by omega) fun c hc => by
      have := he c hc
      simp only [swapM, setRow]
      rw [if_neg (by omega), if_neg (by omega), if_neg (by omega), if_pos trivial]
      exact this
    omega

theorem Alt.eq_zero (h : Alt n f) (A : Mx) {i j : Nat} (hij : i ≠ j) (hi : i < n) (hj : j < n) (he : ∀ c, c < n → A i c = A j c) : f A = 0 := by
  rcases Nat.lt_or_ge i j with h1 | h1
  · have := h.eq_rows (j - i - 1) A i (by omega)
    rw [show i + (j - i - 1) + 1 = j from by omega] at this
    exact this he
  · have := h.eq_rows (i - j - 1) A j (by omega)
    rw [show j + (i - j - 1) + 1 = i from by omega] at this
    exact this fun c hc => (he c hc).symm

theorem Alt.swap (h : Alt n f) (A : Mx) {i j : Nat} (hij : i ≠ j) (hi : i < n) (hj : j < n) : f (swapM A i j) = -f A := by
  have k : ∀ r s : Nat → Int, f (setRow (setRow A i r) j s) + f (setRow (setRow A i s) j r) = 0 := by
    intro r s
    have e : ∀ t : Nat → Int, f (setRow (setRow A i t) j t) = 0 := fun t => h.eq_zero _ hij hi hj fun c _ => by simp [setRow]
    have h0 := e fun c => r c + s c
    rw [h.add _ _ hj, setRow_comm A hij, setRow_comm A hij, h.add _ _ hi, h.add _ _ hi, ← setRow_comm A hij, ← setRow_comm A hij, ← setRow_comm A hij, ← setRow_comm A hij, e r, e s] at h0
    omega
  have k1 := k (A j) (A i)
  rw [setRow_self, show setRow A j (A j) = A from setRow_self A j] at k1
  unfold swapM
  omega

/-- So many times one row, added to another one. -/
theorem Alt.add_row (h : Alt n f) (A : Mx) {i j : Nat} (hij : i ≠ j) (hi : i < n) (hj : j < n) (x : Int) : f (setRow A i fun c => A i c + x * A j c) = f A := by
  have h1 := h.add A i hi (A i) (fun c => x * A j c)
  rw [h1, h.mul A i hi, setRow_self, h.eq_zero (setRow A i (A j)) hij hi hj fun c _ => by simp [setRow, Ne.symm hij]]
  simp

theorem Alt.zero_row (h : Alt n f) (A : Mx) {i : Nat} (hi : i < n) (he : ∀ c, c < n → A i c = 0) : f A = 0 := by
  have h1 := h.mul A i hi 0 (A i)
  rw [Int.zero_mul] at h1
  rw [← h1]
  refine h.congr fun a c _ hc => ?_
  simp only [setRow]
  split
  · next e => subst e; rw [he c hc]; simp
  · rfl

/-- A row is a sum of units. -/
theorem Alt.row_sum (h : Alt n f) (A : Mx) {i : Nat} (hi : i < n) : f A = sumTo (fun j => A i j * f (setRow A i (unit_ j))) n := by
  have k : ∀ m, f (setRow A i fun c => if c < m then A i c else 0) = sumTo (fun j => A i j * f (setRow A i (unit_ j))) m := by
    intro m
    induction m with
    | zero => exact h.zero_row _ hi fun c _ => by simp [setRow]
    | succ m ih =>
      rw [sumTo, ← ih, ← h.mul A i hi (A i m) (unit_ m), ← h.add A i hi]
      congr 2
      funext c
      simp only [unit_]
      by_cases h1 : c = m
      · subst h1; simp
      · by_cases h2 : c < m
        · simp [h1, h2, Nat.lt_succ_of_lt h2]
        · simp [h1, h2, show ¬ c < m + 1 from by omega]
  rw [← k n]
  refine h.congr fun a c _ hc => ?_
  simp only [setRow]
  split
  · next e => subst e; simp
  · rfl
end

/-- The row e_j, above the rows of B with a column of noughts put in at j. -/
def under (j : Nat) (B : Mx) : Mx := fun r c => if r = 0 then unit_ j c else if c < j then B (r - 1) c else if c = j then 0 else B (r - 1) (c - 1)

/-- The unit rows, but the j-th one first. -/
def first (j : Nat) : Mx := fun r => if r = 0 then unit_ j else if r ≤ j then unit_ (r - 1) else unit_ r

theorem first_swap (j : Nat) : swapM (first (j + 1)) 0 (j + 1) = fun r => if r = 0 then unit_ j else if r = j + 1 then unit_ (j + 1) else if r ≤ j then unit_ (r - 1) else unit_ r := by
  funext r
  simp only [swapM]
  funext c
  simp only [setRow, first]
  by_cases h0 : r = 0
  · subst h0
    simp
  · by_cases h1 : r = j + 1
    · subst h1; simp
    · by_cases h2 : r ≤ j
      · simp [h0, h1, h2, show r ≤ j + 1 from by omega]
      · simp [h0, h1, h2, show ¬ r ≤ j + 1 from by omega]

theorem Alt.first_sign {n : Nat} {f : Mx → Int} (h : Alt n f) : ∀ j, j < n → f (first j) = sg j * f idM := by
  intro j
  induction j with
  | zero =>
    intro _
    have : first 0 = idM := by
      funext r
      simp only [first, idM]
      split
      · next e => rw [e]
      · next e => rw [if_neg (by omega)]
    rw [this]; simp [sg]
  | succ j ih =>
    intro hj
    have h1 := h.swap (first (j + 1)) (i := 0) (j := j + 1) (by omega) (by omega) hj
    have h2 : swapM (first (j + 1)) 0 (j + 1) = first j := by
      rw [first_swap]
      funext r
      simp only [first]
      by_cases h0 : r = 0
      · simp [h0]
      · by_cases h1 : r = j + 1
        · subst h1; simp [show ¬ j + 1 ≤ j from by omega]
        · simp [h0, h1]
    rw [h2, ih (by omega)] at h1
    rw [sg_succ]
    grind

/-- THERE IS BUT ONE: what does with rows as a determinant does is so many times the determinant. -/
theorem Alt.unique {n : Nat} : ∀ {f : Mx → Int}, Alt n f → ∀ A, f A = f idM * det n A := by
  induction n with
  | zero =>
    intro f h A
    rw [h.congr (A := A) (B := idM) fun i j hi => absurd hi (Nat.not_lt_zero _)]
    simp [det]
  | succ n ih =>
    intro f h A
    rw [h.row_sum A (Nat.succ_pos n), det, ← sumTo_mul]
    refine sumTo_congr fun j hj => ?_
    -- with the first row a unit, the column beneath it may be struck
    have hstrike : f (setRow A 0 (unit_ j)) = f (under j (minor A 0 j)) := by
      have k : ∀ m, m ≤ n → f (fun r c => if r = 0 then unit_ j c else if r ≤ m then (if c = j then 0 else A r c) else A r c) = f (setRow A 0 (unit_ j)) := by
        intro m
        induction m with
        | zero =>
          intro _
          congr 1
          funext r c
          simp only [setRow]
          by_cases h0 : r = 0
          · simp [h0]
          · simp [h0]
        | succ m ihm =>
          intro hm
          rw [← ihm (by omega)]
          rw [← h.add_row (fun r c => if r = 0 then unit_ j c else if r ≤ m then (if c = j then 0 else A r c) else A r c) (i := m + 1) (j := 0) (by omega) (by omega) (by omega) (-A (m + 1) j)]
          congr 1
          funext r c
          simp only [setRow, if_true]
          by_cases h0 : r = 0
          · subst h0; simp
          · by_cases h1 : r = m + 1
            · subst h1
              by_cases h2 : c = j
              · subst h2; simp [unit_]; omega
              · simp [unit_, h2]
            · by_cases h2 : r ≤ m
              · simp [h0, h1, h2, show r ≤ m + 1 from by omega]
              · simp [h0, h1, h2, show ¬ r ≤ m + 1 from by omega]
      rw [← k n (Nat.le_refl _)]
      refine h.congr fun r c hr hc => ?_
      simp only [under, minor, skip_zero]
      by_cases h0 : r = 0
      · simp [h0]
      · rw [if_neg h0, if_pos (by omega), if_neg h0, show r - 1 + 1 = r from by omega]
        by_cases h1 : c < j
        · rw [if_neg (by omega), if_pos h1]; simp [skip, h1]
        · by_cases h2 : c = j
          · simp [h2]
          · rw [if_neg h2, if_neg h1, if_neg h2]
            have : skip j (c - 1) = c := by unfold skip; split <;> omega
            rw [this]
    have g : Alt n (fun B => f (under j B)) := by
      refine ⟨fun {B C} e => h.congr fun r c hr hc => ?_, fun B i hi r s => ?_, fun B i hi x r => ?_, fun B i hi e => ?_⟩
      · simp only [under]
        by_cases h0 : r = 0
        · simp [h0]
        · rw [if_neg h0, if_neg h0]
          by_cases h1 : c < j
          · rw [if_pos h1, if_pos h1]; exact e _ _ (by omega) (by omega)
          · by_cases h2 : c = j
            · simp [h2]
            · rw [if_neg h1, if_neg h1, if_neg h2, if_neg h2]; exact e _ _ (by omega) (by omega)
      · have q : ∀ t : Nat → Int, under j (setRow B i t) = setRow (under j B) (i + 1) (fun c => if c < j then t c else if c = j then 0 else t (c - 1)) := by
          intro t
          funext a c
          simp only [under, setRow]
          by_cases h0 : a = 0
          · simp [h0]
          · by_cases h1 : a = i + 1
            · subst h1; simp
            · simp [h0, h1, show ¬ a - 1 = i from by omega]
        simp only [q]
        rw [← h.add _ _ (by omega)]
        congr 2
        funext c
        (repeat' split) <;> simp
      · have q : ∀ t : Nat → Int, under j (setRow B i t) = setRow (under j B) (i + 1) (fun c => if c < j then t c else if c = j then 0 else t (c - 1)) := by
          intro t
          funext a c
          simp only [under, setRow]
          by_cases h0 : a = 0
          · simp [h0]
          · by_cases h1 : a = i + 1
            · subst h1; simp
            · simp [h0, h1, show ¬ a - 1 = i from by omega]
        simp only [q]
        rw [← h.mul _ _ (by omega)]
        congr 2
        funext c
        (repeat' split) <;> simp
      · refine h.adj _ (i + 1) (by omega) fun c hc => ?_
        have a1 : under j B (i + 1) c = if c < j then B i c else if c = j then 0 else B i (c - 1) := by simp [under]
        have a2 : under j B (i + 1 + 1) c = if c < j then B (i + 1) c else if c = j then 0 else B (i + 1) (c - 1) := by simp [under]
        rw [a1, a2]
        by_cases h1 : c < j
        · rw [if_pos h1, if_pos h1]; exact e _ (by omega)
        · by_cases h2 : c = j
          · simp [h2]
          · rw [if_neg h1, if_neg h1, if_neg h2, if_neg h2]; exact e _ (by omega)
    have hI : f (under j idM) = sg j * f idM := by
      rw [← h.first_sign j hj]
      congr 1
      funext r c
      simp only [under, first, idM]
      by_cases h0 : r = 0
      · simp [h0]
      · rw [if_neg h0, if_neg h0]
        by_cases h1 : r ≤ j
        · rw [if_pos h1]
          simp only [unit_]
          by_cases h2 : c < j
          · rw [if_pos h2]
          · by_cases h3 : c = j
            · rw [if_neg h2, if_pos h3, if_neg (by omega)]
            · rw [if_neg h2, if_neg h3, if_neg (by omega), if_neg (by omega)]
        · rw [if_neg h1]
          simp only [unit_]
          by_cases h2 : c < j
          · rw [if_pos h2, if_neg (by omega), if_neg (by omega)]
          · by_cases h3 : c = j
            · rw [if_neg h2, if_pos h3, if_neg (by omega)]
            · rw [if_neg h2, if_neg h3]
              by_cases h4 : c = r
              · rw [if_pos (by omega), if_pos h4]
              · rw [if_neg (by omega), if_neg h4]
    have hfin := ih g (minor A 0 j)
    rw [hstrike, hfin, hI]
    grind

end Go.Rk
namespace Go.Rk

theorem unit_pick (g : Nat → Int) {i n : Nat} (h : i < n) : sumTo (fun k => unit_ i k * g k) n = g i := by
  induction n with
  | zero => omega
  | succ n ih =>
    rw [sumTo]
    by_cases h1 : i = n
    · subst h1
      rw [sumTo_congr (h := fun _ => 0) fun k hk => by simp [unit_, show ¬ k = i from by omega], sumTo_zero]
      simp [unit_]
    · rw [ih (by omega)]
      simp [unit_, show ¬ n = i from by omega]

theorem unit_pick' (g : Nat → Int) {i n : Nat} (h : i < n) : sumTo (fun k => g k * unit_ k i) n = g i := by
  rw [← unit_pick g h]
  refine sumTo_congr fun k _ => ?_
  by_cases e : k = i
  · subst e; simp [unit_]
  · simp [unit_, e, Ne.symm e]

theorem mulM_id (n : Nat) (A : Mx) {i j : Nat} (hi : i < n) : mulM n idM A i j = A i j := unit_pick (fun k => A k j) hi
theorem mulM_id' (n : Nat) (A : Mx) {i j : Nat} (hj : j < n) : mulM n A idM i j = A i j := by
  unfold mulM idM
  exact unit_pick' (fun k => A i k) hj

theorem mulM_assoc (n m : Nat) (A B C : Mx) (i j : Nat) : mulM m (mulM n A B) C i j = mulM n A (mulM m B C) i j := by
  unfold mulM
  have h1 : ∀ k, sumTo (fun l => A i l * B l k) n * C k j = sumTo (fun l => A i l * (B l k * C k j)) n := fun k => by
    rw [Int.mul_comm, ← sumTo_mul]
    exact sumTo_congr fun l _ => by grind
  rw [sumTo_congr fun k _ => h1 k, sumTo_swap]
  exact sumTo_congr fun l _ => sumTo_mul _ _ _

theorem det_id (n : Nat) : det n idM = 1 := by
  induction n with
  | zero => rfl
  | succ n ih =>
    rw [det, sumTo_succ_left, sumTo_congr (h := fun _ => 0) fun j _ => by simp [idM, unit_], sumTo_zero]
    have : minor idM 0 0 = idM := by funext r c; simp [minor, skip_zero, idM, unit_]
    rw [this, ih]
    simp [idM, unit_, sg]

/-- CAUCHY, BINET. -/
theorem det_mul (n : Nat) (A B : Mx) : det n (mulM n A B) = det n A * det n B := by
  have q : ∀ (A : Mx) (i : Nat) (t : Nat → Int), mulM n (setRow A i t) B = setRow (mulM n A B) i (fun c => sumTo (fun k => t k * B k c) n) := by
    intro A i t
    funext a c
    simp only [mulM, setRow]
    split <;> rfl
  have h : Alt n (fun A => det n (mulM n A B)) := by
    refine ⟨fun {A C} e => det_congr fun i j hi _ => sumTo_congr fun k hk => by rw [e i k hi hk], fun A i hi r s => ?_, fun A i hi x r => ?_, fun A i hi e => ?_⟩
    · simp only [q]
      rw [← det_row_add _ _ hi]
      congr 2
      funext c
      rw [← sumTo_add]
      exact sumTo_congr fun k _ => Int.add_mul _ _ _
    · simp only [q]
      rw [← det_row_mul _ _ hi]
      congr 2
      funext c
      rw [← sumTo_mul]
      exact sumTo_congr fun k _ => Int.mul_assoc _ _ _
    · exact det_adj_eq _ i hi fun c _ => sumTo_congr fun k hk => by rw [e k hk]
  have h1 : det n (mulM n A B) = det n (mulM n idM B) * det n A := h.unique A
  rw [h1, det_congr (A := mulM n idM B) (B := B) fun i j hi _ => mulM_id n B hi, Int.mul_comm]

/-- By the first column. -/
theorem det_col {n : Nat} : ∀ (A : Mx), det (n + 1) A = sumTo (fun i => sg i * A i 0 * det n (minor A i 0)) (n + 1) := by
  induction n with
  | zero => intro A; rfl
  | succ n ih =>
    intro A
    rw [det, sumTo_succ_left, sumTo_succ_left (fun i => sg i * A i 0 * det (n + 1) (minor A i 0))]
    congr 1
    have h1 : ∀ j, j < n + 1 → sg (j + 1) * A 0 (j + 1) * det (n + 1) (minor A 0 (j + 1)) = sumTo (fun i => -(sg i * sg j) * (A 0 (j + 1) * A (i + 1) 0 * det n (minor (minor A 0 (j + 1)) i 0))) (n + 1) := by
      intro j _
      rw [ih, ← sumTo_mul]
      refine sumTo_congr fun i _ => ?_
      have : minor A 0 (j + 1) i 0 = A (i + 1) 0 := by simp [minor, skip]
      rw [this, sg_succ]
      grind
    have h2 : ∀ i, i < n + 1 → sg (i + 1) * A (i + 1) 0 * det (n + 1) (minor A (i + 1) 0) = sumTo (fun j => -(sg i * sg j) * (A 0 (j + 1) * A (i + 1) 0 * det n (minor (minor A 0 (j + 1)) i 0))) (n + 1) := by
      intro i _
      rw [det, ← sumTo_mul]
      refine sumTo_congr fun j _ => ?_
      have e1 : minor A (i + 1) 0 0 j = A 0 (j + 1) := by simp [minor, skip]
      have e2 : minor (minor A (i + 1) 0) 0 j = minor (minor A 0 (j + 1)) i 0 := by
        funext r c
        simp only [minor, skip_zero]
        congr 1
        · unfold skip; (repeat' split) <;> omega
        · unfold skip; (repeat' split) <;> omega
      rw [e1, e2, sg_succ]
      grind
    rw [sumTo_congr h1, sumTo_congr h2, sumTo_swap]

theorem det_tr {n : Nat} : ∀ (A : Mx), det n (trM A) = det n A := by
  induction n with
  | zero => intro A; rfl
  | succ n ih =>
    intro A
    rw [det_col A, det]
    refine sumTo_congr fun j _ => ?_
    have : minor (trM A) 0 j = trM (minor A j 0) := by funext r c; rfl
    rw [this, ih]
    rfl

/-- The row i set first, the others in their order. -/
def raise (A : Mx) (i : Nat) : Mx := fun r => if r = 0 then A i else if r ≤ i then A (r - 1) else A r

theorem Alt.raise_sign {n : Nat} {f : Mx → Int} (h : Alt n f) : ∀ (i : Nat) (A : Mx), i < n → f (raise A i) = sg i * f A := by
  intro i
  induction i with
  | zero =>
    intro A _
    have : raise A 0 = A := by funext r; simp only [raise]; split <;> simp_all
    rw [this]; simp [sg]
  | succ i ih =>
    intro A hi
    have h1 := h.swap_adj A i hi
    have h2 := ih (swapM A i (i + 1)) (by omega)
    have e : raise (swapM A i (i + 1)) i = raise A (i + 1) := by
      funext r c
      simp only [raise, swapM]
      by_cases h0 : r = 0
      · simp [h0, setRow]
      · by_cases h1 : r ≤ i
        · simp [h0, h1, setRow, show r ≤ i + 1 from by omega, show ¬ r - 1 = i + 1 from by omega, show ¬ r - 1 = i from by omega]
        · by_cases h2 : r = i + 1
          · subst h2; simp [setRow, show ¬ i + 1 ≤ i from by omega]
          · simp [h0, h1, h2, setRow, show ¬ r ≤ i + 1 from by omega, show ¬ r = i from by omega]
    rw [← e, h2, h1, sg_succ]
    grind

theorem minor_raise (A : Mx) (i j : Nat) : minor (raise A i) 0 j = minor A i j := by
  funext r c
  simp only [minor, raise, skip_zero]
  simp only [skip]
  by_cases h : r < i
  · simp [h, show r + 1 ≤ i from by omega]
  · simp [h, show ¬ r + 1 ≤ i from by omega]

/-- LAPLACE: by any row. -/
theorem det_row {n : Nat} (A : Mx) {i : Nat} (hi : i < n + 1) : det (n + 1) A = sumTo (fun j => sg (i + j) * A i j * det n (minor A i j)) (n + 1) := by
  have h1 := (det_alt (n + 1)).raise_sign i A hi
  have h2 : det (n + 1) A = sg i * det (n + 1) (raise A i) := by rw [h1, ← Int.mul_assoc, sg_sq, Int.one_mul]
  rw [h2, det, ← sumTo_mul]
  refine sumTo_congr fun j _ => ?_
  rw [minor_raise, sg_add]
  simp only [raise, if_true]
  grind

/-- With another row's numbers it is 0. -/
theorem det_row_other {n : Nat} (A : Mx) {i k : Nat} (hi : i < n + 1) (hk : k < n + 1) (hne : i ≠ k) : sumTo (fun j => sg (i + j) * A k j * det n (minor A i j)) (n + 1) = 0 := by
  have h1 := det_row (setRow A i (A k)) hi
  rw [(det_alt (n + 1)).eq_zero (setRow A i (A k)) hne hi hk fun c _ => by simp [setRow, Ne.symm hne]] at h1
  rw [h1]
  refine sumTo_congr fun j _ => ?_
  have : minor (setRow A i (A k)) i j = minor A i j := by
    funext r c
    simp only [minor, setRow]
    rw [if_neg (skip_ne i r)]
  rw [this]
  simp [setRow]

/-- The adjugate. -/
def adj (n : Nat) (A : Mx) : Mx := fun i j => sg (i + j) * det (n - 1) (minor A j i)

theorem mul_adj {n : Nat} (A : Mx) {i j : Nat} (hi : i < n) (hj : j < n) : mulM n A (adj n A) i j = if i = j then det n A else 0 := by
  obtain ⟨m, rfl⟩ : ∃ m, n = m + 1 := ⟨n - 1, by omega⟩
  unfold mulM adj
  simp only [Nat.add_sub_cancel]
  split
  · next e =>
    subst e
    rw [det_row A hi]
    exact sumTo_congr fun k _ => by rw [Nat.add_comm k i]; grind
  · next e =>
    rw [← det_row_other A hj hi fun e' => e e'.symm]
    exact sumTo_congr fun k _ => by rw [Nat.add_comm k j]; grind

theorem adj_tr (n : Nat) (A : Mx) (i j : Nat) : adj n (trM A) i j = adj n A j i := by
  unfold adj
  have : minor (trM A) j i = trM (minor A i j) := by funext r c; rfl
  rw [this, det_tr, Nat.add_comm]

theorem adj_mul {n : Nat} (A : Mx) {i j : Nat} (hi : i < n) (hj : j < n) : mulM n (adj n A) A i j = if i = j then det n A else 0 := by
  have h := mul_adj (trM A) hj hi
  rw [det_tr] at h
  have e : mulM n (trM A) (adj n (trM A)) j i = mulM n (adj n A) A i j := by
    unfold mulM
    exact sumTo_congr fun k _ => by rw [adj_tr, Int.mul_comm]; rfl
  rw [← e, h]
  by_cases h1 : i = j
  · simp [h1]
  · simp [h1, Ne.symm h1]

def prodTo (g : Nat → Int) : Nat → Int
  | 0 => 1
  | n + 1 => prodTo g n * g n

theorem prodTo_succ_left (g : Nat → Int) (n : Nat) : prodTo g (n + 1) = g 0 * prodTo (fun i => g (i + 1)) n := by
  induction n with
  | zero => simp [prodTo]
  | succ n ih => rw [prodTo, ih, prodTo, Int.mul_assoc]

theorem prodTo_congr {g h : Nat → Int} {n : Nat} (e : ∀ i, i < n → g i = h i) : prodTo g n = prodTo h n := by
  induction n with
  | zero => rfl
  | succ n ih => rw [prodTo, prodTo, ih fun i hi => e i (Nat.lt_succ_of_lt hi), e n (Nat.lt_succ_self n)]

/-- With noughts above the middle. -/
theorem det_lower {n : Nat} : ∀ (A : Mx), (∀ i j, i < n → j < n → i < j → A i j = 0) → det n A = prodTo (fun i => A i i) n := by
  induction n with
  | zero => intro A _; rfl
  | succ n ih =>
    intro A h
    rw [det, sumTo_succ_left, sumTo_congr (h := fun _ => 0) fun j hj => by rw [h 0 (j + 1) (by omega) (by omega) (by omega)]; simp, sumTo_zero, prodTo_succ_left,
      ih (minor A 0 0) fun i j hi hj hij => by simp only [minor, skip_zero]; exact h _ _ (by omega) (by omega) (by omega)]
    simp [sg, minor, skip_zero]

/-- With noughts below the middle. -/
theorem det_upper {n : Nat} (A : Mx) (h : ∀ i j, i < n → j < n → j < i → A i j = 0) : det n A = prodTo (fun i => A i i) n := by
  rw [← det_tr, det_lower (trM A) fun i j hi hj hij => h j i hj hi hij]
  rfl

theorem det_eqm {n : Nat} : ∀ {A B : Mx}, (∀ i j, i < n → j < n → Eqm (A i j) (B i j)) → Eqm (det n A) (det n B) := by
  induction n with
  | zero => intro A B _; exact Eqm.refl _
  | succ n ih =>
    intro A B h
    unfold det
    refine Eqm.sum fun j hj => ?_
    exact ((Eqm.refl _).mul (h 0 j (by omega) hj)).mul (ih fun r c hr hc => h _ _ (skip_lt hr) (skip_lt hc))

end Go.Rk
