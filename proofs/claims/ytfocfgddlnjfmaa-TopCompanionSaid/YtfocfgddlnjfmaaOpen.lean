/-
  The arguments of a statement, opened: slices of integers, slices of slices of integers. No program in sight.
-/
import Derived.Test.YtfocfgddlnjfmaaLib
import Derived.ProofKit
import Derived.Deep.Matrix
namespace Go.Rk
open Go.RowKit Go.ChangeShapes Go.WideShapes Go.Deep

def rowOf (M : List (List Int)) (k : Nat) : List Int := M.getD k []

theorem take_succ_row {M : List (List Int)} {k : Nat} (h : k < M.length) : M.take (k + 1) = M.take k ++ [rowOf M k] := by
  rw [List.take_succ_eq_append_getElem h]
  simp [rowOf, List.getD, h]

/-- The slice value '.slice a len cap' reads as the rows M in the world w. -/
structure RdM (w : World) (a : Option Addr) (len cap : Nat) (M : List (List Int)) : Prop where
  len_eq : M.length = len
  le : len ≤ cap
  max : cap ≤ maxLen
  row : ∀ k, k < len → ∃ b off ar nr cr, a = some ⟨b, off, none⟩ ∧ w.cell? ⟨b, off + k, none⟩ = some (.slice ar nr cr) ∧ RdI w ar nr cr (rowOf M k)

/-- Each number fits int. -/
def Fit (l : List Int) : Prop := ∀ x ∈ l, (Lit.int .i64 x).wf = true

section
variable {H : Type} {enc : TypeId × Value → H} {P : Program} {w : World} {base : Nat} {held : Bool}

theorem addr_add (b off i : Nat) : (⟨b, off, none⟩ : Addr).add i = ⟨b, off + i, none⟩ := by
  unfold Addr.add
  split
  · next e => subst e; rfl
  · rfl

theorem rd_of_ints {x : Addr} {len cap : Nat} {zs : List Int} (hl : len ≤ cap) (hm : cap ≤ maxLen) (hz : zs.length = cap)
    (hc : ∀ i, i < zs.length → w.cell? (x.add i) = some (.int .i64 (zs.getD i 0))) : RdI w (some x) len cap (zs.take len) := by
  refine ⟨by rw [List.length_take, hz]; omega, hl, hm, fun k hk => ?_⟩
  have h0 := hc 0 (by omega)
  have hs : x.spot = none := by
    rcases x with ⟨b, o, s⟩
    have : (⟨b, o, s⟩ : Addr).add 0 = ⟨b, o, s⟩ := by simp [Addr.add]
    rw [this] at h0
    cases s with
    | none => rfl
    | some q =>
      simp only [World.cell?] at h0
      split at h0 <;> simp at h0
  rcases x with ⟨b, o, s⟩
  simp only at hs
  subst hs
  refine ⟨b, o, rfl, ?_⟩
  have := hc k (by omega)
  rw [addr_add] at this
  rw [this, ix_take hk]
  rfl

theorem rd_of_trod {t e : TypeId} {fuel : Nat} {a : Option Addr} {len cap : Nat} {x : DataW H × List MemPlace} (ht : P.underlying t = some (.slice e)) (he : P.underlying e = some (.int .i64)) (hc : P.cellsOf e = 1)
    (h : DataW.trod enc P w base (fun _ => true) held fuel t [.slice a len cap] = some x) : ∃ l, RdI w a len cap l ∧ Fit l := by
  rcases open_ints ht he hc h with ⟨hcs, _⟩ | ⟨y, l, c, zs, hcs, _, hl, hm, hz, _, hcell, hwz⟩
  · simp at hcs
    obtain ⟨rfl, rfl, rfl⟩ := hcs
    exact ⟨[], RdI.nil w, fun x hx => by cases hx⟩
  · simp at hcs
    obtain ⟨rfl, rfl, rfl⟩ := hcs
    simp only [if_true] at hz
    exact ⟨zs.take len, rd_of_ints hl hm hz hcell, fun x hx => hwz x (List.mem_of_mem_take hx)⟩

theorem rows_of_trod {t e q : TypeId} {fuel : Nat} {a : Option Addr} {len cap : Nat} {x : DataW H × List MemPlace} (ht : P.underlying t = some (.slice e)) (he : P.underlying e = some (.slice q)) (hq : P.underlying q = some (.int .i64))
    (ce : P.cellsOf e = 1) (cq : P.cellsOf q = 1) (h : DataW.trod enc P w base (fun _ => true) held fuel t [.slice a len cap] = some x) : ∃ M, RdM w a len cap M ∧ ∀ r ∈ M, Fit r := by
  rcases open_int_rows ht he hq ce cq h with ⟨hcs, _⟩ | ⟨y, l, c, A, L, C, Z, hcs, _, hl, hm, _, hrow⟩
  · simp at hcs
    obtain ⟨rfl, rfl, rfl⟩ := hcs
    exact ⟨[], ⟨rfl, Nat.le_refl _, Nat.zero_le _, fun k hk => absurd hk (Nat.not_lt_zero _)⟩, fun x hx => by cases hx⟩
  · simp at hcs
    obtain ⟨rfl, rfl, rfl⟩ := hcs
    refine ⟨(List.range len).map fun r => (Z r).take (L r), ⟨by simp, hl, hm, fun k hk => ?_⟩, ?_⟩
    · obtain ⟨hcell, hLC, hCm, hZ, hw, hN, hA⟩ := hrow k (by omega)
      have hs : y.spot = none := by
        rcases y with ⟨b, o, s⟩
        cases s with
        | none => rfl
        | some q =>
          have h0 := (hrow 0 (by omega)).1
          simp only [Addr.add, if_true] at h0
          simp only [World.cell?] at h0
          split at h0 <;> simp at h0
      rcases y with ⟨b, o, s⟩
      simp only at hs
      subst hs
      rw [addr_add] at hcell
      refine ⟨b, o, A k, L k, C k, rfl, hcell, ?_⟩
      have hr : rowOf ((List.range len).map fun r => (Z r).take (L r)) k = (Z k).take (L k) := by simp [rowOf, List.getD, hk]
      rw [hr]
      rcases hAk : A k with _ | a'
      · have h0 := hN hAk
        refine ⟨by rw [List.length_take, hZ]; omega, hLC, hCm, fun i hi => by omega⟩
      · exact rd_of_ints hLC hCm hZ fun i hi => (hA a' hAk).2 i (by omega)
    · intro r hr
      obtain ⟨k, hk, rfl⟩ := List.mem_map.1 hr
      have hk' := List.mem_range.1 hk
      obtain ⟨_, _, _, _, hw, _⟩ := hrow k (by omega)
      exact fun x hx => hw x (List.mem_of_mem_take hx)
end
end Go.Rk
