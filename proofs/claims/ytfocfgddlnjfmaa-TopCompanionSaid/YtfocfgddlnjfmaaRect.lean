/-
  Matrices of n rows of c numbers; what a loop over all places keeps of them. No program in sight.
-/
import Derived.Test.YtfocfgddlnjfmaaEach
import Derived.Test.YtfocfgddlnjfmaaSum
namespace Go.Rk
open Go.RowKit

def Dm (n c : Nat) (M : List (List Int)) : Prop := M.length = n ∧ ∀ i, i < n → (rowOf M i).length = c
def EntR (lo hi : Int) (n c : Nat) (M : List (List Int)) : Prop := ∀ i j, i < n → j < c → lo ≤ en M i j ∧ en M i j ≤ hi
def IsR (n c : Nat) (M : List (List Int)) (F : Nat → Nat → Int) : Prop := Dm n c M ∧ ∀ i j, i < n → j < c → en M i j = F i j

theorem Dm.setE {n c : Nat} {M : List (List Int)} (h : Dm n c M) (i j : Nat) (x : Int) : Dm n c (setE M i j x) :=
  ⟨by rw [setE_len]; exact h.1, fun r hr => by rw [setE_row_len]; exact h.2 r hr⟩
theorem Dm.en_set {n c : Nat} {M : List (List Int)} (h : Dm n c M) {i j r s : Nat} (x : Int) (hr : r < n) (hs : s < c) : en (Go.Rk.setE M i j x) r s = if i = r ∧ j = s then x else en M r s := by
  rw [en_setE, h.1, h.2 r hr]
  by_cases e : i = r ∧ j = s
  · rw [if_pos ⟨e.1, e.2, hr, hs⟩, if_pos e]
  · rw [if_neg fun e2 => e ⟨e2.1, e2.2.1⟩, if_neg e]
theorem Dm.ext {n c : Nat} {M N : List (List Int)} (h : Dm n c M) (h' : Dm n c N) (e : ∀ i j, i < n → j < c → en M i j = en N i j) : M = N :=
  en_ext (h.1.trans h'.1.symm) (fun k hk => by rw [h.2 k (by rw [← h.1]; exact hk), h'.2 k (by rw [← h.1]; exact hk)]) fun i j hi hj => e i j (by rw [← h.1]; exact hi) (by rw [← h.2 i (by rw [← h.1]; exact hi)]; exact hj)
theorem Dm.replicate (n c : Nat) (x : Int) : Dm n c (List.replicate n (List.replicate c x)) :=
  ⟨by simp, fun i hi => by rw [rowOf_lt (by simp; exact hi)]; simp⟩
theorem IsR.congr {n c : Nat} {M : List (List Int)} {F G : Nat → Nat → Int} (h : IsR n c M F) (e : ∀ i j, i < n → j < c → F i j = G i j) : IsR n c M G :=
  ⟨h.1, fun i j hi hj => by rw [h.2 i j hi hj, e i j hi hj]⟩

theorem locs_mem {n c i j : Nat} (hi : i < n) (hj : j < c) : (i, j) ∈ locs c (n * c) := by
  have h1 : (i * c + j) / c = i := by rw [Nat.mul_comm, Nat.mul_add_div (by omega), Nat.div_eq_of_lt hj, Nat.add_zero]
  have h2 : (i * c + j) % c = j := by rw [Nat.mul_comm, Nat.mul_add_mod, Nat.mod_eq_of_lt hj]
  exact List.mem_map.2 ⟨i * c + j, List.mem_range.2 (place_lt hi hj), by rw [h1, h2]⟩
theorem plcs_in {n c : Nat} {ok : Nat → Nat → Int → Prop} {pre : List (Plc n c ok)} {p : Nat × Nat} (h : p ∈ plcs pre) : p.1 < n ∧ p.2 < c := by
  obtain ⟨x, _, rfl⟩ := List.mem_map.1 h
  exact ⟨x.2.1, x.2.2.1⟩
theorem locs_nodup (c k : Nat) : (locs c k).Nodup := by
  unfold locs List.Nodup
  rw [List.pairwise_map]
  refine List.Pairwise.imp ?_ List.nodup_range
  intro a b hab e
  injection e with e1 e2
  exact hab (by rw [← Nat.div_add_mod a c, ← Nat.div_add_mod b c, e1, e2])

section
variable {w w' : World} {B T E g : Nat} {D C : Nat → Nat} {n c cap : Nat} {M : List (List Int)} {row : Option Nat}

theorem alloc_keep {p : Addr} {v : Value} {o : Obj} (h : w.cell? p = some v) : (w.alloc o).cell? p = some v :=
  (((Below.refl w.heap.size w).alloc (Nat.le_refl _) o).cell (World.block_lt_of_cell? w p h)).trans h

theorem set_keep {p q : Addr} {v u : Value} (h : w.cell? p = some v) (hne : p.block ≠ q.block) : (w.setCell q u).cell? p = some v :=
  (World.cell?_setCell_other _ _ _ _ (fun e => hne (by rw [e]))).trans h

theorem set_keepS {p q : Addr} {x : Option Addr} {y z : Nat} {u : Int} {v : Value} (h : w.cell? p = some (.slice x y z)) (hq : w.cell? q = some (.int .i64 u)) : (w.setCell q v).cell? p = some (.slice x y z) :=
  (World.cell?_setCell_other _ _ _ _ (fun e => by rw [← e, hq] at h; cases h)).trans h
theorem keepsOthers_drewN (w : World) (q : Nat) : KeepsOthers w (w.drewN q) :=
  ⟨(below_drewN (Below.refl 0 w) q).size, fun k _ h _ => (below_drewN (Below.refl (k + 1) w) q).block k (by omega) |>.trans h⟩

theorem keepBox {v : Value} {t : TypeId} {G : Prop} (h : Below (w.alloc (.cells #[v] t)).drew.heap.size (w.alloc (.cells #[v] t)).drew w')
    (hG : w'.cell? ⟨w.heap.size, 0, none⟩ = some v → w'.frozen? ⟨w.heap.size, 0, none⟩ = false → w'.cell? ⟨w.drew.heap.size, 0, none⟩ = some v → w'.frozen? ⟨w.drew.heap.size, 0, none⟩ = false → G) : G := by
  have h1 := (h.cell (p := ⟨w.heap.size, 0, none⟩) (by simp)).trans (c := some v) (by simp)
  have h2 := (h.frozen (p := ⟨w.heap.size, 0, none⟩) (by simp)).trans (c := false) (by simp)
  exact hG h1 h2 h1 h2

theorem ownsRow_notCells {size k : Nat} {v : Value} {xs : List Value} (h : w.ownsRow B T size v k xs) (hr : ∀ r, row = some r → ∃ o : Obj, w.heap[r]? = some o ∧ o.isCells = false) : v.ownBlock = none ∨ v.ownBlock ≠ row := by
  rcases h.2 with ⟨rfl, _⟩ | ⟨g, c, cur, rfl, _, hg, _⟩
  · exact .inl rfl
  · refine .inr fun e => ?_
    obtain ⟨o, ho, hc⟩ := hr g (by rw [← e]; rfl)
    rw [hg] at ho
    cases ho
    cases hc

/-- What a value owns depends on its own block alone. -/
theorem ownsRow_same {size k : Nat} {v : Value} {xs : List Value} (h : w.ownsRow B T size v k xs) (hb : ∀ b, v.ownBlock = some b → w'.heap[b]? = w.heap[b]?) : w'.ownsRow B T size v k xs := by
  obtain ⟨h1, h2⟩ := h
  refine ⟨h1, ?_⟩
  rcases h2 with h2 | ⟨g, c, cur, hv, hB, hg, hr⟩
  · exact .inl h2
  · exact .inr ⟨g, c, cur, hv, hB, by rw [hb g (by rw [hv]; rfl)]; exact hg, hr⟩
/-- All is as it was but for the rows' own blocks. -/
def KeptBut (n : Nat) (D : Nat → Nat) (w w' : World) : Prop := w.heap.size ≤ w'.heap.size ∧ ∀ b, b < w.heap.size → (∀ i, i < n → b ≠ D i) → w'.heap[b]? = w.heap[b]?
theorem KeptBut.refl (n : Nat) (D : Nat → Nat) (w : World) : KeptBut n D w w := ⟨Nat.le_refl _, fun _ _ _ => rfl⟩
theorem KeptBut.set {D : Nat → Nat} {w w' : World} (h : KeptBut n D w w') {i j : Nat} (hi : i < n) (u : Value) : KeptBut n D w (w'.setCell ⟨D i, j, none⟩ u) :=
  ⟨Nat.le_trans h.1 (by simp), fun b hb hne => (Below.heap_setCell _ _ _ _ (fun e => hne i hi e)).trans (h.2 b hb hne)⟩
theorem KeptBut.drew {D : Nat → Nat} {w w' : World} (h : KeptBut n D w w') : KeptBut n D w w'.drew := ⟨h.1, h.2⟩
theorem OwI.keptBut {a : Option Addr} {m cap : Nat} {l : List Int} {D : Nat → Nat} (h : OwI w B E a m cap l) (hk : KeptBut n D w w') (hD : ∀ i, i < n → D i < B) : OwI w' B E a m cap l :=
  ⟨h.len_eq, ownsRow_same h.own fun b hb => by
    have := h.own.lt b hb
    exact hk.2 b this.2 fun i hi e => by have := hD i hi; omega⟩
theorem OwMD.grownPast (h : OwMD w B T E g D C n cap M) {b : Nat} (hg : w.grownBy w' row) (hr : ∀ r, row = some r → b ≤ r) (h1 : g < b) (h2 : ∀ i, i < n → D i < b) : OwMD w' B T E g D C n cap M :=
  ⟨h.len_eq, h.outer.kept hg (.inr fun e => by have := hr g e.symm; omega), fun i hi => (h.rows i hi).grown hg (.inr fun e => by have := hr (D i) e.symm; have := h2 i hi; omega), h.inj⟩

theorem OwMD.mono {B' : Nat} (h : OwMD w B T E g D C n cap M) (hb : B' ≤ B) : OwMD w B' T E g D C n cap M :=
  ⟨h.len_eq, h.outer.mono hb, fun i hi => (h.rows i hi).mono hb, h.inj⟩

theorem OwMD.passes (h : OwMD w B T E g D C n cap M) (hg : w.grownBy w' row) (hr : ∀ r, row = some r → ∃ o : Obj, w.heap[r]? = some o ∧ o.isCells = false) : OwMD w' B T E g D C n cap M :=
  ⟨h.len_eq, h.outer.kept hg (ownsRow_notCells h.outer hr), fun i hi => (h.rows i hi).grown hg (ownsRow_notCells (h.rows i hi).own hr), h.inj⟩

theorem OwMD.grid (h : OwMD w B T E g D C n cap M) (hd : Dm n c M) {ok : Nat → Nat → Int → Prop} (hok : ∀ i j, i < n → j < c → ok i j (en M i j)) : Grid n c g 0 D (fun _ => 0) C ok w :=
  ⟨fun k hk => by rw [Nat.zero_add, h.cellO hk, hd.2 k hk], fun k j hk hj => ⟨_, by rw [Nat.zero_add]; exact h.cellI hk (by rw [hd.2 k hk]; exact hj), hok k j hk hj⟩⟩

theorem RdM.grid {a : Option Addr} (h : RdM w a n cap M) (hd : Dm n c M) (hn : 0 < n) (hc : 0 < c) : ∃ b off D O C, a = some ⟨b, off, none⟩ ∧ b < w.heap.size ∧ (∀ k, k < n → D k < w.heap.size) ∧ Grid n c b off D O C (fun i j v => v = en M i j) w := by
  obtain ⟨b, off, ha, hb, hr⟩ := h.at hn
  have hr' : ∀ i, i < n → ∃ y : Nat × Nat × Nat, w.cell? ⟨b, off + i, none⟩ = some (.slice (some ⟨y.1, y.2.1, none⟩) c y.2.2) ∧ y.1 < w.heap.size ∧ ∀ j, j < c → w.cell? ⟨y.1, y.2.1 + j, none⟩ = some (.int .i64 (en M i j)) := by
    intro i hi
    obtain ⟨ar, cr, hcell, hrd⟩ := hr i hi
    rw [hd.2 i hi] at hcell hrd
    obtain ⟨p, o, rfl, hp, hx⟩ := hrd.at hc
    exact ⟨(p, o, cr), hcell, hp, hx⟩
  obtain ⟨y, hy⟩ := Go.Deep.choose_lt hr'
  exact ⟨b, off, fun i => (y i).1, fun i => (y i).2.1, fun i => (y i).2.2, ha, hb, fun k hk => (hy k hk).2.1, fun k hk => (hy k hk).1, fun k j hk hj => ⟨_, (hy k hk).2.2 j hj, rfl⟩⟩

variable {b off : Nat} {O : Nat → Nat} {ok : Nat → Nat → Int → Prop}
theorem Grid.fresh (h : Grid n c b off D O C ok w) (hk : Below w.heap.size w w') : Grid n c b off D O C ok w' :=
  ⟨fun k hk2 => (hk.cell (World.block_lt_of_cell? w _ (h.hdr k hk2))).trans (h.hdr k hk2), fun k j hk2 hj => let ⟨v, hv, ho⟩ := h.el k j hk2 hj; ⟨v, (hk.cell (World.block_lt_of_cell? w _ hv)).trans hv, ho⟩⟩
theorem Grid.passes (h : Grid n c b off D O C ok w) (hg : w.grownBy w' row) (hr : ∀ r, row = some r → ∃ o : Obj, w.heap[r]? = some o ∧ o.isCells = false) : Grid n c b off D O C ok w' :=
  ⟨fun k hk2 => cell_kept (h.hdr k hk2) hg hr, fun k j hk2 hj => let ⟨v, hv, ho⟩ := h.el k j hk2 hj; ⟨v, cell_kept hv hg hr, ho⟩⟩
/-- A number stored where a number lies. -/
theorem Grid.setInt (h : Grid n c b off D O C ok w) {p : Addr} {u x : Int} (hp : w.cell? p = some (.int .i64 u)) (hx : ∀ k j, k < n → j < c → ok k j x) : Grid n c b off D O C ok (w.setCell p (.int .i64 x)) := by
  refine ⟨fun k hk => ?_, fun k j hk hj => ?_⟩
  · rw [World.cell?_setCell_other _ _ _ _ (fun e => by have := h.hdr k hk; rw [← e, hp] at this; cases this)]
    exact h.hdr k hk
  · obtain ⟨v, hv, ho⟩ := h.el k j hk hj
    by_cases e : (⟨D k, O k + j, none⟩ : Addr) = p
    · subst e
      exact ⟨x, World.cell?_setCell_same _ _ _ hv, hx k j hk hj⟩
    · exact ⟨v, (World.cell?_setCell_other _ _ _ _ (Ne.symm e)).trans hv, ho⟩
end
end Go.Rk
