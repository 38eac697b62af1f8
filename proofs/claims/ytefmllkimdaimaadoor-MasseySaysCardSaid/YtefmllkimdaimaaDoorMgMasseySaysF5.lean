/-
  num.Each: a range over all places of a matrix: the contract of its iterator, for every loop body that keeps the matrix's shape (and what is asked of its numbers).
  Matrices of n rows of c numbers; what a loop over all places keeps of them. No program in sight.
  Matrices by the prime: products go together, powers add up. No program in sight.
  The package massey walked: Check, misses, corrected, shortest, Fewest, Factors, Goes.
-/
import Derived.RangeFuncNested
import Derived.RangeFuncBound
import Derived.RangeFuncCalls
import Derived.RangeFuncLeaves
import Derived.Shelf.Abstract
import Derived.Shelf.RegionOpen
import Derived.WalkKit
import Derived.OwnWalkIn
import Derived.TacticsInMore
import Derived.LoopNIn
import Derived.LoopIn
import Derived.Test.YtefmllkimdaimaaDoorRows
import Derived.RangeFuncBox
import Derived.Deep.QuietTactic
import Derived.BigQuiet
import Derived.StillTailTactics
import Derived.Test.YtefmllkimdaimaaDoorMgMasseySaysF0
import Derived.Test.YtefmllkimdaimaaDoorMgMasseySaysF1
import Derived.Test.YtefmllkimdaimaaDoorMgMasseySaysF2
import Derived.Test.YtefmllkimdaimaaDoorMgMasseySaysF3
import Derived.Test.YtefmllkimdaimaaDoorMgMasseySaysF4
namespace Go.Rk
open Go.RowKit

/-- A matrix of n rows of c numbers: where its rows and its numbers lie, and what is asked of each number. -/
structure Grid (n c b off : Nat) (D O C : Nat → Nat) (ok : Nat → Nat → Int → Prop) (W : World) : Prop where
  hdr : ∀ k, k < n → W.cell? ⟨b, off + k, none⟩ = some (.slice (some ⟨D k, O k, none⟩) c (C k))
  el : ∀ k j, k < n → j < c → ∃ v, W.cell? ⟨D k, O k + j, none⟩ = some (.int .i64 v) ∧ ok k j v

section
variable {n c b off : Nat} {D O C : Nat → Nat} {ok : Nat → Nat → Int → Prop} {W W' : World}
theorem Grid.below {n₀ : Nat} (h : Grid n c b off D O C ok W) (hk : Below n₀ W W') (hb : b < n₀) (hD : ∀ k, k < n → D k < n₀) : Grid n c b off D O C ok W' :=
  ⟨fun k hk2 => (hk.cell (p := ⟨b, off + k, none⟩) hb).trans (h.hdr k hk2), fun k j hk2 hj => let ⟨v, hv, ho⟩ := h.el k j hk2 hj; ⟨v, (hk.cell (p := ⟨D k, O k + j, none⟩) (hD k hk2)).trans hv, ho⟩⟩
end

/-- A place of the matrix, and its number. -/
abbrev Plc (n c : Nat) (ok : Nat → Nat → Int → Prop) := { x : Nat × Nat × Int // x.1 < n ∧ x.2.1 < c ∧ ok x.1 x.2.1 x.2.2 }
def encP {n c : Nat} {ok : Nat → Nat → Int → Prop} (x : Plc n c ok) : Array Value := #[.agg #[.int .i64 (x.1.1 : Int), .int .i64 (x.1.2.1 : Int)], .int .i64 x.1.2.2]
def locs (c k : Nat) : List (Nat × Nat) := (List.range k).map fun t => (t / c, t % c)
def plcs {n c : Nat} {ok : Nat → Nat → Int → Prop} (pre : List (Plc n c ok)) : List (Nat × Nat) := pre.map fun x => (x.1.1, x.1.2.1)

theorem locs_succ {c i j : Nat} (hj : j < c) : locs c (i * c + j + 1) = locs c (i * c + j) ++ [(i, j)] := by
  have h1 : (i * c + j) / c = i := by rw [Nat.mul_comm, Nat.mul_add_div (by omega), Nat.div_eq_of_lt hj, Nat.add_zero]
  have h2 : (i * c + j) % c = j := by rw [Nat.mul_comm, Nat.mul_add_mod, Nat.mod_eq_of_lt hj]
  simp [locs, List.range_succ, h1, h2]
theorem locs_length (c k : Nat) : (locs c k).length = k := by simp [locs]
theorem plcs_snoc {n c : Nat} {ok : Nat → Nat → Int → Prop} (pre : List (Plc n c ok)) (x : Plc n c ok) : plcs (pre ++ [x]) = plcs pre ++ [(x.1.1, x.1.2.1)] := by simp [plcs]
theorem plcs_length {n c : Nat} {ok : Nat → Nat → Int → Prop} (pre : List (Plc n c ok)) : (plcs pre).length = pre.length := by simp [plcs]
theorem place_lt {n c i j : Nat} (hi : i < n) (hj : j < c) : i * c + j < n * c := by
  have : (i + 1) * c ≤ n * c := Nat.mul_le_mul_right c hi
  rw [Nat.add_mul, Nat.one_mul] at this
  omega
end Go.Rk
namespace Go.Proofs.YtefmllkimdaimaaDoor
open Go.RowKit Go.Shelf Go.Rk
attribute [local go_sem] Oper.semAt_some

set_option maxRecDepth 100000 in
set_option maxHeartbeats 4000000 in
theorem each1_in (m : Nat) {n c b off cap : Nat} {D O C : Nat → Nat} {ok : Nat → Nat → Int → Prop} (l Bm : Nat) (hn : n ≤ 1000000) (hc : c ≤ 1000000) (J Jx : List (Plc n c ok) → World → Prop)
    (hY : ∀ pre x W, J pre W → pre.length < n * c → YieldAt Fence.wide (m - 1) Tryd.prog l (encP x) W fun e W' =>
      (e = .returned (.bool true) ∧ J (pre ++ [x]) W' ∧ (Grid n c b off D O C ok W → Grid n c b off D O C ok W')) ∨ (e = .returned (.bool false) ∧ Jx (pre ++ [x]) W'))
    (W : World) (hBm : W.cell? ⟨Bm, 0, none⟩ = some (.slice (some ⟨b, off, none⟩) n cap)) (hG : Grid n c b off D O C ok W) (h0 : J [] W) :
    CallsIn Fence.wide m Tryd.prog 115 #[.func (.yield l) #[] #[], .pointer (some ⟨Bm, 0, none⟩)] W fun e W' => (∃ v, e = .returned v) ∧
      ((∃ ys, plcs ys = locs c (n * c) ∧ J ys W') ∨ (∃ pre, (∃ k, k ≤ n * c ∧ plcs pre = locs c k) ∧ Jx pre W')) := by
  refine callsIn_of_wp Tryd.func115 rfl trivial ?_ rfl
  simp only [Tryd.ntmps115, List.size_toArray, List.length_cons, List.length_nil, Nat.reduceAdd, Nat.reduceSub, Array.replicate_succ, Array.replicate_zero, List.push_toArray, List.append_toArray, List.nil_append, List.cons_append]
  gi_wp2
  gi_loopw [9] (fun v wr => ∃ (i : Nat) (pre : List (Plc n c ok)), i ≤ n ∧ v = .int .i64 i ∧ Hid (plcs pre = locs c (i * c)) ∧ J pre wr ∧ Grid n c b off D O C ok wr)
    (fun v _ => n - (intOf v).toNat)
  case atStart => exact ⟨0, [], Nat.zero_le _, rfl, by unfold Hid; rw [Nat.zero_mul]; rfl, h0, hG⟩
  case round =>
    obtain ⟨i, pre, hi, rfl, hp, hJ, hg⟩ := hrel
    by_cases hlt : i < n
    · have y1 := hg.hdr i hlt
      gi_wp2
      gi_loopw [16] (fun v wt => ∃ (j : Nat) (pre : List (Plc n c ok)), j ≤ c ∧ v = .int .i64 j ∧ Hid (plcs pre = locs c (i * c + j)) ∧ J pre wt ∧ Grid n c b off D O C ok wt)
        (fun v _ => c - (intOf v).toNat)
      case atStart => exact ⟨0, pre, Nat.zero_le _, rfl, hp, hJ, hg⟩
      case round =>
        clear hJ hp hg y1
        obtain ⟨j, pre, hj, rfl, hp, hJ, hg⟩ := hrel
        by_cases hjc : j < c
        · obtain ⟨v, y2, hok⟩ := hg.el i j hlt hjc
          have hlen : pre.length < n * c := by
            rw [← plcs_length, hp.out, locs_length]
            exact place_lt hlt hjc
          obtain ⟨fn, tmps, assign, body, hy, hR⟩ := hY pre ⟨(i, j, v), hlt, hjc, hok⟩ wr hJ hlen
          dsimp only [encP] at hy
          gi_wp2
          refine ⟨fun e => by simp [Fence.wide] at e, hR.mono ?_⟩
          rintro e W3 (⟨rfl, hJ3, hk3⟩ | ⟨rfl, hJx3⟩)
          · have hg3 := hk3 hg
            gi_wp2
            go_roundw
            case rel => exact ⟨j + 1, _, by omega, by go_num, by unfold Hid; rw [plcs_snoc, hp.out, ← Nat.add_assoc, locs_succ hjc], hJ3, hg3⟩
            case measure => simp [intOf]; omega
          · gi_wp2
            refine bodyPost_ret (results_none rfl _ _ _) rfl ?_
            exact ⟨⟨_, rfl⟩, .inr ⟨_, ⟨i * c + j + 1, place_lt hlt hjc, by rw [plcs_snoc, hp.out, locs_succ hjc]⟩, hJx3⟩⟩
        · obtain rfl : j = c := by omega
          gi_wp2
          go_roundw
          case rel => exact ⟨i + 1, pre, by omega, by go_num, by unfold Hid; rw [hp.out, Nat.add_mul, Nat.one_mul], hJ, hg⟩
          case measure => simp [intOf]; omega
    · obtain rfl : i = n := by omega
      gi_wp2
      go_end0
      exact ⟨⟨_, rfl⟩, .inl ⟨_, hp.out, hJ⟩⟩

/-- num.Each(m): the matrix is boxed; the function value captures the box. -/
theorem each_in (m : Nat) (a : Option Addr) (n cap : Nat) (w : World) :
    CallsIn Fence.wide m Tryd.prog 80 #[.slice a n cap] w fun e w' => e = .returned (.func (.func 115) #[] #[.pointer (some ⟨w.heap.size, 0, none⟩)]) ∧ w' = w.alloc (.cells #[.slice a n cap] 28) := by
  refine callsIn_of_wp Tryd.func80 rfl trivial ?_ rfl
  simp only [Tryd.ntmps80, List.size_toArray, List.length_cons, List.length_nil, Nat.reduceAdd, Nat.reduceSub, Array.replicate_succ, Array.replicate_zero, List.push_toArray, List.append_toArray, List.nil_append, List.cons_append]
  gi_wp2
  go_ret
  exact ⟨rfl, rfl⟩

/-- The iterator, for every loop body that keeps the shape. -/
theorem each_stops (m : Nat) {n c b off cap Bm : Nat} {D O C : Nat → Nat} {ok : Nat → Nat → Int → Prop} (hn : n ≤ 1000000) (hc : c ≤ 1000000) (w : World) (hBm : w.cell? ⟨Bm, 0, none⟩ = some (.slice (some ⟨b, off, none⟩) n cap)) (hBl : Bm < w.heap.size) (hG : Grid n c b off D O C ok w) (hb : b < w.heap.size) (hD : ∀ k, k < n → D k < w.heap.size) :
    SeqStopsK Fence.wide m Tryd.prog 115 #[.pointer (some ⟨Bm, 0, none⟩)] (encP (n := n) (c := c) (ok := ok)) (fun W W' => Grid n c b off D O C ok W → Grid n c b off D O C ok W')
      (fun ys => plcs ys = locs c (n * c)) (fun pre => ∃ k, k ≤ n * c ∧ plcs pre = locs c k) (n * c) w := fun l J Jx W hW _ _ hY h0 =>
  each1_in m l Bm hn hc J Jx hY W ((hW.cell (p := ⟨Bm, 0, none⟩) hBl).trans hBm) (hG.below hW hb hD) h0
end Go.Proofs.YtefmllkimdaimaaDoor
namespace Go.Rk
open Go.RowKit

def Dm (n c : Nat) (M : List (List Int)) : Prop := M.length = n ∧ ∀ i, i < n → (rowOf M i).length = c
def EntR (lo hi : Int) (n c : Nat) (M : List (List Int)) : Prop := ∀ i j, i < n → j < c → lo ≤ en M i j ∧ en M i j ≤ hi
def IsR (n c : Nat) (M : List (List Int)) (F : Nat → Nat → Int) : Prop := Dm n c M ∧ ∀ i j, i < n → j < c → en M i j = F i j

theorem Dm.setE {n c : Nat} {M : List (List Int)} (h : Dm n c M) (i j : Nat) (x : Int) : Dm n c (setE M i j x) :=
  ⟨by rw [setE_len]; exact h.1, fun r hr => by rw [setE_row_len]; exact h.2 r hr⟩
theorem Dm.en_set {n c : Nat} {M : List (List Int)} (h : Dm n c M) {i j r s : Nat} (x : Int) (hr : r < n) (hs : s < c) : en (Go.Rk.setE M i j x) r s = if i = r ∧ j = s then x else en M r s := by
  rw [en_setE, h.1, h.2 r hr]
  by_cases e : i = r ∧ j = s
  · rw [if_pos ⟨e.1, e.2, hr, hs⟩, if_pos e]
  · rw [if_neg fun e2 => e ⟨e2.1, e2.2.1⟩, if_neg e]
theorem Dm.ext {n c : Nat} {M N : List (List Int)} (h : Dm n c M) (h' : Dm n c N) (e : ∀ i j, i < n → j < c → en M i j = en N i j) : M = N :=
  en_ext (h.1.trans h'.1.symm) (fun k hk => by rw [h.2 k (by rw [← h.1]; exact hk), h'.2 k (by rw [← h.1]; exact hk)]) fun i j hi hj => e i j (by rw [← h.1]; exact hi) (by rw [← h.2 i (by rw [← h.1]; exact hi)]; exact hj)
theorem Dm.replicate (n c : Nat) (x : Int) : Dm n c (List.replicate n (List.replicate c x)) :=
  ⟨by simp, fun i hi => by rw [rowOf_lt (by simp; exact hi)]; simp⟩
theorem IsR.congr {n c : Nat} {M : List (List Int)} {F G : Nat → Nat → Int} (h : IsR n c M F) (e : ∀ i j, i < n → j < c → F i j = G i j) : IsR n c M G :=
  ⟨h.1, fun i j hi hj => by rw [h.2 i j hi hj, e i j hi hj]⟩

theorem locs_mem {n c i j : Nat} (hi : i < n) (hj : j < c) : (i, j) ∈ locs c (n * c) := by
  have h1 : (i * c + j) / c = i := by rw [Nat.mul_comm, Nat.mul_add_div (by omega), Nat.div_eq_of_lt hj, Nat.add_zero]
  have h2 : (i * c + j) % c = j := by rw [Nat.mul_comm, Nat.mul_add_mod, Nat.mod_eq_of_lt hj]
  exact List.mem_map.2 ⟨i * c + j, List.mem_range.2 (place_lt hi hj), by rw [h1, h2]⟩
theorem plcs_in {n c : Nat} {ok : Nat → Nat → Int → Prop} {pre : List (Plc n c ok)} {p : Nat × Nat} (h : p ∈ plcs pre) : p.1 < n ∧ p.2 < c := by
  obtain ⟨x, _, rfl⟩ := List.mem_map.1 h
  exact ⟨x.2.1, x.2.2.1⟩
theorem locs_nodup (c k : Nat) : (locs c k).Nodup := by
  unfold locs List.Nodup
  rw [List.pairwise_map]
  refine List.Pairwise.imp ?_ List.nodup_range
  intro a b hab e
  injection e with e1 e2
  exact hab (by rw [← Nat.div_add_mod a c, ← Nat.div_add_mod b c, e1, e2])

section
variable {w w' : World} {B T E g : Nat} {D C : Nat → Nat} {n c cap : Nat} {M : List (List Int)} {row : Option Nat}

theorem alloc_keep {p : Addr} {v : Value} {o : Obj} (h : w.cell? p = some v) : (w.alloc o).cell? p = some v :=
  (((Below.refl w.heap.size w).alloc (Nat.le_refl _) o).cell (World.block_lt_of_cell? w p h)).trans h

theorem set_keep {p q : Addr} {v u : Value} (h : w.cell? p = some v) (hne : p.block ≠ q.block) : (w.setCell q u).cell? p = some v :=
  (World.cell?_setCell_other _ _ _ _ (fun e => hne (by rw [e]))).trans h

theorem set_keepS {p q : Addr} {x : Option Addr} {y z : Nat} {u : Int} {v : Value} (h : w.cell? p = some (.slice x y z)) (hq : w.cell? q = some (.int .i64 u)) : (w.setCell q v).cell? p = some (.slice x y z) :=
  (World.cell?_setCell_other _ _ _ _ (fun e => by rw [← e, hq] at h; cases h)).trans h
theorem keepsOthers_drewN (w : World) (q : Nat) : KeepsOthers w (w.drewN q) :=
  ⟨(below_drewN (Below.refl 0 w) q).size, fun k _ h _ => (below_drewN (Below.refl (k + 1) w) q).block k (by omega) |>.trans h⟩

theorem keepBox {v : Value} {t : TypeId} {G : Prop} (h : Below (w.alloc (.cells #[v] t)).drew.heap.size (w.alloc (.cells #[v] t)).drew w')
    (hG : w'.cell? ⟨w.heap.size, 0, none⟩ = some v → w'.frozen? ⟨w.heap.size, 0, none⟩ = false → w'.cell? ⟨w.drew.heap.size, 0, none⟩ = some v → w'.frozen? ⟨w.drew.heap.size, 0, none⟩ = false → G) : G := by
  have h1 := (h.cell (p := ⟨w.heap.size, 0, none⟩) (by simp)).trans (c := some v) (by simp)
  have h2 := (h.frozen (p := ⟨w.heap.size, 0, none⟩) (by simp)).trans (c := false) (by simp)
  exact hG h1 h2 h1 h2

theorem ownsRow_notCells {size k : Nat} {v : Value} {xs : List Value} (h : w.ownsRow B T size v k xs) (hr : ∀ r, row = some r → ∃ o : Obj, w.heap[r]? = some o ∧ o.isCells = false) : v.ownBlock = none ∨ v.ownBlock ≠ row := by
  rcases h.2 with ⟨rfl, _⟩ | ⟨g, c, cur, rfl, _, hg, _⟩
  · exact .inl rfl
  · refine .inr fun e => ?_
    obtain ⟨o, ho, hc⟩ := hr g (by rw [← e]; rfl)
    rw [hg] at ho
    cases ho
    cases hc

/-- What a value owns depends on its own block alone. -/
theorem ownsRow_same {size k : Nat} {v : Value} {xs : List Value} (h : w.ownsRow B T size v k xs) (hb : ∀ b, v.ownBlock = some b → w'.heap[b]? = w.heap[b]?) : w'.ownsRow B T size v k xs := by
  obtain ⟨h1, h2⟩ := h
  refine ⟨h1, ?_⟩
  rcases h2 with h2 | ⟨g, c, cur, hv, hB, hg, hr⟩
  · exact .inl h2
  · exact .inr ⟨g, c, cur, hv, hB, by rw [hb g (by rw [hv]; rfl)]; exact hg, hr⟩
/-- All is as it was but for the rows' own blocks. -/
def KeptBut (n : Nat) (D : Nat → Nat) (w w' : World) : Prop := w.heap.size ≤ w'.heap.size ∧ ∀ b, b < w.heap.size → (∀ i, i < n → b ≠ D i) → w'.heap[b]? = w.heap[b]?
theorem KeptBut.refl (n : Nat) (D : Nat → Nat) (w : World) : KeptBut n D w w := ⟨Nat.le_refl _, fun _ _ _ => rfl⟩
theorem KeptBut.set {D : Nat → Nat} {w w' : World} (h : KeptBut n D w w') {i j : Nat} (hi : i < n) (u : Value) : KeptBut n D w (w'.setCell ⟨D i, j, none⟩ u) :=
  ⟨Nat.le_trans h.1 (by simp), fun b hb hne => (Below.heap_setCell _ _ _ _ (fun e => hne i hi e)).trans (h.2 b hb hne)⟩
theorem KeptBut.drew {D : Nat → Nat} {w w' : World} (h : KeptBut n D w w') : KeptBut n D w w'.drew := ⟨h.1, h.2⟩
theorem OwI.keptBut {a : Option Addr} {m cap : Nat} {l : List Int} {D : Nat → Nat} (h : OwI w B E a m cap l) (hk : KeptBut n D w w') (hD : ∀ i, i < n → D i < B) : OwI w' B E a m cap l :=
  ⟨h.len_eq, ownsRow_same h.own fun b hb => by
    have := h.own.lt b hb
    exact hk.2 b this.2 fun i hi e => by have := hD i hi; omega⟩
theorem OwMD.grownPast (h : OwMD w B T E g D C n cap M) {b : Nat} (hg : w.grownBy w' row) (hr : ∀ r, row = some r → b ≤ r) (h1 : g < b) (h2 : ∀ i, i < n → D i < b) : OwMD w' B T E g D C n cap M :=
  ⟨h.len_eq, h.outer.kept hg (.inr fun e => by have := hr g e.symm; omega), fun i hi => (h.rows i hi).grown hg (.inr fun e => by have := hr (D i) e.symm; have := h2 i hi; omega), h.inj⟩

theorem OwMD.mono {B' : Nat} (h : OwMD w B T E g D C n cap M) (hb : B' ≤ B) : OwMD w B' T E g D C n cap M :=
  ⟨h.len_eq, h.outer.mono hb, fun i hi => (h.rows i hi).mono hb, h.inj⟩

theorem OwMD.passes (h : OwMD w B T E g D C n cap M) (hg : w.grownBy w' row) (hr : ∀ r, row = some r → ∃ o : Obj, w.heap[r]? = some o ∧ o.isCells = false) : OwMD w' B T E g D C n cap M :=
  ⟨h.len_eq, h.outer.kept hg (ownsRow_notCells h.outer hr), fun i hi => (h.rows i hi).grown hg (ownsRow_notCells (h.rows i hi).own hr), h.inj⟩

theorem OwMD.grid (h : OwMD w B T E g D C n cap M) (hd : Dm n c M) {ok : Nat → Nat → Int → Prop} (hok : ∀ i j, i < n → j < c → ok i j (en M i j)) : Grid n c g 0 D (fun _ => 0) C ok w :=
  ⟨fun k hk => by rw [Nat.zero_add, h.cellO hk, hd.2 k hk], fun k j hk hj => ⟨_, by rw [Nat.zero_add]; exact h.cellI hk (by rw [hd.2 k hk]; exact hj), hok k j hk hj⟩⟩

theorem RdM.grid {a : Option Addr} (h : RdM w a n cap M) (hd : Dm n c M) (hn : 0 < n) (hc : 0 < c) : ∃ b off D O C, a = some ⟨b, off, none⟩ ∧ b < w.heap.size ∧ (∀ k, k < n → D k < w.heap.size) ∧ Grid n c b off D O C (fun i j v => v = en M i j) w := by
  obtain ⟨b, off, ha, hb, hr⟩ := h.at hn
  have hr' : ∀ i, i < n → ∃ y : Nat × Nat × Nat, w.cell? ⟨b, off + i, none⟩ = some (.slice (some ⟨y.1, y.2.1, none⟩) c y.2.2) ∧ y.1 < w.heap.size ∧ ∀ j, j < c → w.cell? ⟨y.1, y.2.1 + j, none⟩ = some (.int .i64 (en M i j)) := by
    intro i hi
    obtain ⟨ar, cr, hcell, hrd⟩ := hr i hi
    rw [hd.2 i hi] at hcell hrd
    obtain ⟨p, o, rfl, hp, hx⟩ := hrd.at hc
    exact ⟨(p, o, cr), hcell, hp, hx⟩
  obtain ⟨y, hy⟩ := Go.Deep.choose_lt hr'
  exact ⟨b, off, fun i => (y i).1, fun i => (y i).2.1, fun i => (y i).2.2, ha, hb, fun k hk => (hy k hk).2.1, fun k hk => (hy k hk).1, fun k j hk hj => ⟨_, (hy k hk).2.2 j hj, rfl⟩⟩

variable {b off : Nat} {O : Nat → Nat} {ok : Nat → Nat → Int → Prop}
theorem Grid.fresh (h : Grid n c b off D O C ok w) (hk : Below w.heap.size w w') : Grid n c b off D O C ok w' :=
  ⟨fun k hk2 => (hk.cell (World.block_lt_of_cell? w _ (h.hdr k hk2))).trans (h.hdr k hk2), fun k j hk2 hj => let ⟨v, hv, ho⟩ := h.el k j hk2 hj; ⟨v, (hk.cell (World.block_lt_of_cell? w _ hv)).trans hv, ho⟩⟩
theorem Grid.passes (h : Grid n c b off D O C ok w) (hg : w.grownBy w' row) (hr : ∀ r, row = some r → ∃ o : Obj, w.heap[r]? = some o ∧ o.isCells = false) : Grid n c b off D O C ok w' :=
  ⟨fun k hk2 => cell_kept (h.hdr k hk2) hg hr, fun k j hk2 hj => let ⟨v, hv, ho⟩ := h.el k j hk2 hj; ⟨v, cell_kept hv hg hr, ho⟩⟩
/-- A number stored where a number lies. -/
theorem Grid.setInt (h : Grid n c b off D O C ok w) {p : Addr} {u x : Int} (hp : w.cell? p = some (.int .i64 u)) (hx : ∀ k j, k < n → j < c → ok k j x) : Grid n c b off D O C ok (w.setCell p (.int .i64 x)) := by
  refine ⟨fun k hk => ?_, fun k j hk hj => ?_⟩
  · rw [World.cell?_setCell_other _ _ _ _ (fun e => by have := h.hdr k hk; rw [← e, hp] at this; cases this)]
    exact h.hdr k hk
  · obtain ⟨v, hv, ho⟩ := h.el k j hk hj
    by_cases e : (⟨D k, O k + j, none⟩ : Addr) = p
    · subst e
      exact ⟨x, World.cell?_setCell_same _ _ _ hv, hx k j hk hj⟩
    · exact ⟨v, (World.cell?_setCell_other _ _ _ _ (Ne.symm e)).trans hv, ho⟩
end
end Go.Rk
namespace Go.Rk
open Go.RowKit

/-- A matrix of so many rows and columns, written out. -/
def mkM (n c : Nat) (F : Nat → Nat → Int) : List (List Int) := (List.range n).map fun i => (List.range c).map fun j => F i j
theorem mkM_row {n c : Nat} {F : Nat → Nat → Int} {i : Nat} (hi : i < n) : rowOf (mkM n c F) i = (List.range c).map fun j => F i j := by
  rw [rowOf_lt (by simp [mkM]; exact hi)]; simp [mkM]
theorem mkM_is (n c : Nat) (F : Nat → Nat → Int) : IsR n c (mkM n c F) F := by
  refine ⟨⟨by simp [mkM], fun i hi => by rw [mkM_row hi]; simp⟩, fun i j hi hj => ?_⟩
  unfold en
  rw [mkM_row hi, ix_lt (by simp; exact hj)]
  simp
theorem IsR.eq {n c : Nat} {M : List (List Int)} {F : Nat → Nat → Int} (h : IsR n c M F) : M = mkM n c F :=
  h.1.ext (mkM_is n c F).1 fun i j hi hj => by rw [h.2 i j hi hj, (mkM_is n c F).2 i j hi hj]

/-- Two matrices that are one by the prime, in the first n rows and c columns. -/
def EqM (n c : Nat) (A B : Mx) : Prop := ∀ i j, i < n → j < c → Eqm (A i j) (B i j)
theorem EqM.refl (n c : Nat) (A : Mx) : EqM n c A A := fun _ _ _ _ => Eqm.refl _
theorem EqM.symm {n c : Nat} {A B : Mx} (h : EqM n c A B) : EqM n c B A := fun i j hi hj => (h i j hi hj).symm
theorem EqM.trans {n c : Nat} {A B C : Mx} (h : EqM n c A B) (k : EqM n c B C) : EqM n c A C := fun i j hi hj => (h i j hi hj).trans (k i j hi hj)
theorem sumTo_eqm {g h : Nat → Int} {n : Nat} (e : ∀ i, i < n → Eqm (g i) (h i)) : Eqm (sumTo g n) (sumTo h n) := by
  induction n with
  | zero => exact Eqm.refl _
  | succ n ih => exact Eqm.add (ih fun i hi => e i (by omega)) (e n (by omega))
theorem EqM.mul {n k c : Nat} {A A' B B' : Mx} (h : EqM n k A A') (g : EqM k c B B') : EqM n c (mulM k A B) (mulM k A' B') :=
  fun i j hi hj => sumTo_eqm fun t ht => Eqm.mul (h i t hi ht) (g t j ht hj)
theorem mulM_go (k c : Nat) (A B C : Mx) : mulM c (mulM k A B) C = mulM k A (mulM c B C) := by
  funext i j
  unfold mulM
  rw [sumTo_congr (h := fun t => sumTo (fun s => A i s * B s t * C t j) k) fun t _ => by rw [Int.mul_comm, ← sumTo_mul]; exact sumTo_congr fun s _ => Int.mul_comm _ _]
  rw [sumTo_swap]
  refine sumTo_congr fun s _ => ?_
  rw [← sumTo_mul]
  exact sumTo_congr fun t _ => Int.mul_assoc _ _ _
theorem mulM_add (k : Nat) (A B C : Mx) : mulM k A (fun i j => B i j + C i j) = fun i j => mulM k A B i j + mulM k A C i j := by
  funext i j
  unfold mulM
  rw [← sumTo_add]
  exact sumTo_congr fun t _ => Int.mul_add _ _ _
theorem mulM_tr (k : Nat) (A B : Mx) : trM (mulM k A B) = mulM k (trM B) (trM A) := by
  funext i j
  unfold trM mulM
  exact sumTo_congr fun t _ => Int.mul_comm _ _

/-- The one that changes nothing. -/
def oneM : Mx := fun i j => if i = j then 1 else 0
theorem sumTo_pick (g : Nat → Int) {n i : Nat} (hi : i < n) : sumTo (fun t => (if i = t then 1 else 0) * g t) n = g i := by
  induction n with
  | zero => omega
  | succ n ih =>
    rw [sumTo]
    by_cases e : i = n
    · subst e
      rw [if_pos rfl, sumTo_congr (h := fun _ => 0) fun t ht => by rw [if_neg (by omega), Int.zero_mul], sumTo_zero]
      omega
    · rw [ih (by omega), if_neg e]
      omega
theorem one_mulM {n : Nat} (A : Mx) {i : Nat} (hi : i < n) (j : Nat) : mulM n oneM A i j = A i j := sumTo_pick (fun t => A t j) hi
theorem mulM_one {n : Nat} (A : Mx) (i : Nat) {j : Nat} (hj : j < n) : mulM n A oneM i j = A i j := by
  unfold mulM oneM
  have e (t : Nat) : A i t * (if t = j then 1 else 0) = (if j = t then 1 else 0) * A i t := by
    rw [Int.mul_comm]
    by_cases h : t = j
    · rw [if_pos h, if_pos h.symm]
    · rw [if_neg h, if_neg fun h2 => h h2.symm]
  rw [sumTo_congr fun t _ => e t]
  exact sumTo_pick (fun t => A i t) hj

def powM (n : Nat) (A : Mx) : Nat → Mx
  | 0 => oneM
  | e + 1 => mulM n A (powM n A e)
theorem powM_congr {n : Nat} {A B : Mx} (h : EqM n n A B) : ∀ e, EqM n n (powM n A e) (powM n B e)
  | 0 => EqM.refl _ _ _
  | e + 1 => EqM.mul h (powM_congr h e)
theorem powM_add {n : Nat} (A : Mx) (a b : Nat) : EqM n n (mulM n (powM n A a) (powM n A b)) (powM n A (a + b)) := by
  induction a with
  | zero => rw [Nat.zero_add]; exact fun i _ hi _ => Eqm.of_eq (one_mulM _ hi _)
  | succ a ih =>
    rw [show a + 1 + b = (a + b) + 1 by omega, powM, mulM_go]
    exact EqM.mul (EqM.refl _ _ _) ih
theorem powM_one {n : Nat} (A : Mx) : EqM n n (powM n A 1) A := fun i _ _ hj => Eqm.of_eq (mulM_one A i hj)
theorem powM_mul {n : Nat} (A : Mx) (a b : Nat) : EqM n n (powM n (powM n A a) b) (powM n A (a * b)) := by
  induction b with
  | zero => exact EqM.refl _ _ _
  | succ b ih =>
    rw [powM, Nat.mul_succ, Nat.add_comm]
    exact (EqM.mul (EqM.refl _ _ _) ih).trans (powM_add A a (a * b))
theorem powM_two {n : Nat} (A : Mx) (k : Nat) : EqM n n (powM n (mulM n A A) k) (powM n A (2 * k)) := by
  refine (powM_congr ?_ k).trans (powM_mul A 2 k)
  exact EqM.mul (EqM.refl _ _ _) (powM_one A).symm
/-- A step of powers by halves. -/
theorem pow_even {n : Nat} (X A : Mx) (k : Nat) : EqM n n (mulM n X (powM n (mulM n A A) k)) (mulM n X (powM n A (2 * k))) := EqM.mul (EqM.refl _ _ _) (powM_two A k)
theorem pow_odd {n : Nat} (X A : Mx) (k : Nat) : EqM n n (mulM n (mulM n X A) (powM n (mulM n A A) k)) (mulM n X (powM n A (2 * k + 1))) := by
  rw [mulM_go]
  exact EqM.mul (EqM.refl _ _ _) (EqM.mul (EqM.refl _ _ _) (powM_two A k))
end Go.Rk
namespace Go.Proofs.YtefmllkimdaimaaDoor
open Go.RowKit Go.Rk

/-- What is wrong with a sequence. -/
def seqR (l : List Int) : Option Int := if 16 < l.length then some 4 else if anyB 0 9972 l then some 1 else none
theorem seqR_none {l : List Int} (h : seqR l = none) : l.length ≤ 16 ∧ In 0 9972 l := by
  unfold seqR at h
  split at h
  · cases h
  · split at h
    · cases h
    · next h1 h2 => exact ⟨by omega, in_of_any (by simpa using h2)⟩

section
variable {a b : Option Addr} {n ca m cb : Nat} {l f : List Int} {w : World}
theorem massey_Check_any (h : RdI w a n ca l) :
    Calls Tryd.prog 42 #[.slice a n ca] w fun e w' => e = .returned (errV (seqR l)) ∧ w = w' := by
  have e1 := h.len_eq
  have C := Lib.hid (any_any a n ca l 0 9972 w h)
  by_cases h16 : 16 < n
  · have hs : seqR l = some 4 := by unfold seqR; rw [if_pos (by omega)]
    rw [hs]
    have i1 : (16 : Int) < (n : Int) := by omega
    go_enter Tryd.func42, Tryd.ntmps42
    go_wp2
    go_ret
    exact ⟨rfl, rfl⟩
  · have i1 : ¬ (16 : Int) < (n : Int) := by omega
    rcases hb : anyB 0 9972 l with _ | _
    · have hs : seqR l = none := by unfold seqR; rw [if_neg (by omega), hb]; rfl
      rw [hs]
      rw [hb] at C
      clear hs hb e1 h16
      go_enter Tryd.func42, Tryd.ntmps42
      go_wp2_with (go_at_call 74; refine C.out.mono ?_; rintro e w2 ⟨rfl, rfl⟩)
      go_ret
      exact ⟨rfl, rfl⟩
    · have hs : seqR l = some 1 := by unfold seqR; rw [if_neg (by omega), hb]; rfl
      rw [hs]
      rw [hb] at C
      clear hs hb e1 h16
      go_enter Tryd.func42, Tryd.ntmps42
      go_wp2_with (go_at_call 74; refine C.out.mono ?_; rintro e w2 ⟨rfl, rfl⟩)
      go_ret
      exact ⟨rfl, rfl⟩
theorem massey_Check_is {o : Option Int} (h : RdI w a n ca l) (ho : seqR l = o) :
    Calls Tryd.prog 42 #[.slice a n ca] w fun e w' => e = .returned (errV o) ∧ w = w' := by
  have := massey_Check_any h
  rw [ho] at this
  exact this

/-- What is left when k products are taken away. -/
def missS (l f : List Int) (t k : Nat) : Int := ix l t - sumTo (fun i => ix f i * ix l (t - 1 - i) % 9973) k
theorem missS_mod (l f : List Int) (t k : Nat) : missS l f t k % 9973 = Rz (ix l) (ix f) k t % 9973 := by
  have : Eqm (missS l f t k) (Rz (ix l) (ix f) k t) := (Eqm.refl _).sub (Eqm.sum fun i _ => (Eqm.mod _))
  exact this
theorem missS_bd {l f : List Int} {t k : Nat} (h1 : In 0 9972 l) (ht : t < l.length) : 0 - 9972 * (k : Int) ≤ missS l f t k ∧ missS l f t k ≤ 9972 := by
  have b := h1 t ht
  have c : ∀ k : Nat, 0 ≤ sumTo (fun i => ix f i * ix l (t - 1 - i) % 9973) k ∧ sumTo (fun i => ix f i * ix l (t - 1 - i) % 9973) k ≤ 9972 * k := fun k => by
    induction k with
    | zero => simp [sumTo]
    | succ k ih => rw [sumTo]; omega
  have := c k
  unfold missS
  omega

theorem misses_any {t : Nat} (h : RdI w a n ca l) (hf : RdI w b m cb f) (h1 : In 0 9972 l) (h2 : In 0 9972 f) (hm : m ≤ t) (ht : t < n) (h16 : n ≤ 16) :
    Calls Tryd.prog 90 #[.slice a n ca, .slice b m cb, .int .i64 t] w fun e w' => e = .returned (.int .i64 (Rz (ix l) (ix f) m t % 9973)) ∧ w = w' := by
  have e1 := h.len_eq
  have e2 := hf.len_eq
  have H1 := Lib.hid h1
  have H2 := Lib.hid h2
  have E1 := Lib.hid e1
  have E2 := Lib.hid e2
  obtain ⟨bl, ol, rfl, _, hc⟩ := h.at ht
  have HC := Lib.hid hc
  have y0 := hc t ht
  have i0 : (t : Int) < (n : Int) := by omega
  clear hc h1 h2 e1 e2
  go_enter Tryd.func90, Tryd.ntmps90
  go_wp2
  go_loop [7, 16] (fun s v => ∃ i : Nat, i ≤ m ∧ v = .int .i64 i ∧ s = .int .i64 (missS l f t i)) (fun _ v => m - (intOf v).toNat)
  case atStart => exact ⟨0, Nat.zero_le _, rfl, by unfold missS; simp [sumTo]⟩
  case round =>
    obtain ⟨i, hi, rfl, rfl⟩ := hrel
    by_cases him : i < m
    · have i1 : (i : Int) < (m : Int) := by omega
      obtain ⟨bf, of_, rfl, _, hcf⟩ := hf.at him
      have y1 := hcf i him
      have y2 := HC.out (t - 1 - i) (by omega)
      have b1 := H2.out i (by rw [E2.out]; exact him)
      have b2 := H1.out (t - 1 - i) (by rw [E1.out]; omega)
      have b3 := mul_bd b1 b2
      have b4 := missS_bd (f := f) (t := t) (k := i) H1.out (by rw [E1.out]; exact ht)
      have hs : missS l f t (i + 1) = missS l f t i - ix f i * ix l (t - 1 - i) % 9973 := by unfold missS; rw [sumTo]; omega
      have HS := Lib.hid hs
      have u0 : IntKind.i64.wrap ((t : Int) - 1) = (t : Int) - 1 := Go.IntWalk.i64_in _ (by omega)
      have u1 : IntKind.i64.wrap ((t : Int) - 1 - i) = ((t - 1 - i : Nat) : Int) := by rw [Go.IntWalk.i64_in _ (by omega)]; omega
      have i2 : ((t - 1 - i : Nat) : Int) < (n : Int) := by omega
      have u2 : IntKind.i64.wrap (ix f i * ix l (t - 1 - i)) = ix f i * ix l (t - 1 - i) := Go.IntWalk.i64_in _ (by omega)
      have u3 : (ix f i * ix l (t - 1 - i)).tmod 9973 = ix f i * ix l (t - 1 - i) % 9973 := Int.tmod_eq_emod_of_nonneg b3.1
      have u4 : IntKind.i64.wrap (missS l f t i - ix f i * ix l (t - 1 - i) % 9973) = missS l f t i - ix f i * ix l (t - 1 - i) % 9973 := Go.IntWalk.i64_in _ (by omega)
      clear hs hcf b1 b2 b3 b4 y0
      generalize t - 1 - i = q at *
      generalize ix f i * ix l q % 9973 = r at *
      go_wp2
      go_round
      case rel => exact ⟨i + 1, by omega, by go_num, congrArg (Value.int .i64) (by rw [HS.out])⟩
      case measure => simp [intOf]; omega
    · obtain rfl : i = m := by omega
      have C := Lib.hid (Field_any (missS l f t i) w)
      rw [missS_mod] at C
      go_wp2_with (first | (go_at_call 76; (with_reducible refine C.out.mono ?_); rintro e w' ⟨rfl, rfl⟩))
      go_ret
      exact ⟨rfl, rfl⟩
end
end Go.Proofs.YtefmllkimdaimaaDoor
