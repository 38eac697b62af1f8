/-
  num.Each: a range over all places of a matrix: the contract of its iterator, for every loop body that keeps the matrix's shape (and what is asked of its numbers).
-/
import Derived.RangeFuncNested
import Derived.RangeFuncBound
import Derived.RangeFuncCalls
import Derived.RangeFuncLeaves
import Derived.Shelf.Abstract
import Derived.Shelf.RegionOpen
import Derived.WalkKit
import Derived.OwnWalkIn
import Derived.TacticsInMore
import Derived.LoopNIn
import Derived.LoopIn
import Derived.Test.YtfocfgddlnjfmaaRows
import Derived.Test.YtfocfgddlnjfmaaLib
import Derived.Test.YtfocfgddlnjfmaaMat
import Derived.Test.YtfocfgddlnjfmaaMatD
namespace Go.Rk
open Go.RowKit

/-- A matrix of n rows of c numbers: where its rows and its numbers lie, and what is asked of each number. -/
structure Grid (n c b off : Nat) (D O C : Nat → Nat) (ok : Nat → Nat → Int → Prop) (W : World) : Prop where
  hdr : ∀ k, k < n → W.cell? ⟨b, off + k, none⟩ = some (.slice (some ⟨D k, O k, none⟩) c (C k))
  el : ∀ k j, k < n → j < c → ∃ v, W.cell? ⟨D k, O k + j, none⟩ = some (.int .i64 v) ∧ ok k j v

section
variable {n c b off : Nat} {D O C : Nat → Nat} {ok : Nat → Nat → Int → Prop} {W W' : World}
theorem Grid.below {n₀ : Nat} (h : Grid n c b off D O C ok W) (hk : Below n₀ W W') (hb : b < n₀) (hD : ∀ k, k < n → D k < n₀) : Grid n c b off D O C ok W' :=
  ⟨fun k hk2 => (hk.cell (p := ⟨b, off + k, none⟩) hb).trans (h.hdr k hk2), fun k j hk2 hj => let ⟨v, hv, ho⟩ := h.el k j hk2 hj; ⟨v, (hk.cell (p := ⟨D k, O k + j, none⟩) (hD k hk2)).trans hv, ho⟩⟩
end

/-- A place of the matrix, and its number. -/
abbrev Plc (n c : Nat) (ok : Nat → Nat → Int → Prop) := { x : Nat × Nat × Int // x.1 < n ∧ x.2.1 < c ∧ ok x.1 x.2.1 x.2.2 }
def encP {n c : Nat} {ok : Nat → Nat → Int → Prop} (x : Plc n c ok) : Array Value := #[.agg #[.int .i64 (x.1.1 : Int), .int .i64 (x.1.2.1 : Int)], .int .i64 x.1.2.2]
def locs (c k : Nat) : List (Nat × Nat) := (List.range k).map fun t => (t / c, t % c)
def plcs {n c : Nat} {ok : Nat → Nat → Int → Prop} (pre : List (Plc n c ok)) : List (Nat × Nat) := pre.map fun x => (x.1.1, x.1.2.1)

theorem locs_succ {c i j : Nat} (hj : j < c) : locs c (i * c + j + 1) = locs c (i * c + j) ++ [(i, j)] := by
  have h1 : (i * c + j) / c = i := by rw [Nat.mul_comm, Nat.mul_add_div (by omega), Nat.div_eq_of_lt hj, Nat.add_zero]
  have h2 : (i * c + j) % c = j := by rw [Nat.mul_comm, Nat.mul_add_mod, Nat.mod_eq_of_lt hj]
  simp [locs, List.range_succ, h1, h2]
theorem locs_length (c k : Nat) : (locs c k).length = k := by simp [locs]
theorem plcs_snoc {n c : Nat} {ok : Nat → Nat → Int → Prop} (pre : List (Plc n c ok)) (x : Plc n c ok) : plcs (pre ++ [x]) = plcs pre ++ [(x.1.1, x.1.2.1)] := by simp [plcs]
theorem plcs_length {n c : Nat} {ok : Nat → Nat → Int → Prop} (pre : List (Plc n c ok)) : (plcs pre).length = pre.length := by simp [plcs]
theorem place_lt {n c i j : Nat} (hi : i < n) (hj : j < c) : i * c + j < n * c := by
  have : (i + 1) * c ≤ n * c := Nat.mul_le_mul_right c hi
  rw [Nat.add_mul, Nat.one_mul] at this
  omega
end Go.Rk
namespace Go.Proofs.Ytfocfgddlnjfmaa
open Go.RowKit Go.Shelf Go.Rk
attribute [local go_sem] Oper.semAt_some

set_option maxRecDepth 100000 in
set_option maxHeartbeats 4000000 in
theorem each1_in (m : Nat) {n c b off cap : Nat} {D O C : Nat → Nat} {ok : Nat → Nat → Int → Prop} (l Bm : Nat) (hn : n ≤ 1000000) (hc : c ≤ 1000000) (J Jx : List (Plc n c ok) → World → Prop)
    (hY : ∀ pre x W, J pre W → pre.length < n * c → YieldAt Fence.wide (m - 1) Try.prog l (encP x) W fun e W' =>
      (e = .returned (.bool true) ∧ J (pre ++ [x]) W' ∧ (Grid n c b off D O C ok W → Grid n c b off D O C ok W')) ∨ (e = .returned (.bool false) ∧ Jx (pre ++ [x]) W'))
    (W : World) (hBm : W.cell? ⟨Bm, 0, none⟩ = some (.slice (some ⟨b, off, none⟩) n cap)) (hG : Grid n c b off D O C ok W) (h0 : J [] W) :
    CallsIn Fence.wide m Try.prog 88 #[.func (.yield l) #[] #[], .pointer (some ⟨Bm, 0, none⟩)] W fun e W' => (∃ v, e = .returned v) ∧
      ((∃ ys, plcs ys = locs c (n * c) ∧ J ys W') ∨ (∃ pre, (∃ k, k ≤ n * c ∧ plcs pre = locs c k) ∧ Jx pre W')) := by
  refine callsIn_of_wp Try.func88 rfl trivial ?_ rfl
  simp only [Try.ntmps88, List.size_toArray, List.length_cons, List.length_nil, Nat.reduceAdd, Nat.reduceSub, Array.replicate_succ, Array.replicate_zero, List.push_toArray, List.append_toArray, List.nil_append, List.cons_append]
  gi_wp2
  gi_loopw [9] (fun v wr => ∃ (i : Nat) (pre : List (Plc n c ok)), i ≤ n ∧ v = .int .i64 i ∧ Hid (plcs pre = locs c (i * c)) ∧ J pre wr ∧ Grid n c b off D O C ok wr)
    (fun v _ => n - (intOf v).toNat)
  case atStart => exact ⟨0, [], Nat.zero_le _, rfl, by unfold Hid; rw [Nat.zero_mul]; rfl, h0, hG⟩
  case round =>
    obtain ⟨i, pre, hi, rfl, hp, hJ, hg⟩ := hrel
    by_cases hlt : i < n
    · have y1 := hg.hdr i hlt
      gi_wp2
      gi_loopw [16] (fun v wt => ∃ (j : Nat) (pre : List (Plc n c ok)), j ≤ c ∧ v = .int .i64 j ∧ Hid (plcs pre = locs c (i * c + j)) ∧ J pre wt ∧ Grid n c b off D O C ok wt)
        (fun v _ => c - (intOf v).toNat)
      case atStart => exact ⟨0, pre, Nat.zero_le _, rfl, hp, hJ, hg⟩
      case round =>
        clear hJ hp hg y1
        obtain ⟨j, pre, hj, rfl, hp, hJ, hg⟩ := hrel
        by_cases hjc : j < c
        · obtain ⟨v, y2, hok⟩ := hg.el i j hlt hjc
          have hlen : pre.length < n * c := by
            rw [← plcs_length, hp.out, locs_length]
            exact place_lt hlt hjc
          obtain ⟨fn, tmps, assign, body, hy, hR⟩ := hY pre ⟨(i, j, v), hlt, hjc, hok⟩ wr hJ hlen
          dsimp only [encP] at hy
          gi_wp2
          refine ⟨fun e => by simp [Fence.wide] at e, hR.mono ?_⟩
          rintro e W3 (⟨rfl, hJ3, hk3⟩ | ⟨rfl, hJx3⟩)
          · have hg3 := hk3 hg
            gi_wp2
            go_roundw
            case rel => exact ⟨j + 1, _, by omega, by go_num, by unfold Hid; rw [plcs_snoc, hp.out, ← Nat.add_assoc, locs_succ hjc], hJ3, hg3⟩
            case measure => simp [intOf]; omega
          · gi_wp2
            refine bodyPost_ret (results_none rfl _ _ _) rfl ?_
            exact ⟨⟨_, rfl⟩, .inr ⟨_, ⟨i * c + j + 1, place_lt hlt hjc, by rw [plcs_snoc, hp.out, locs_succ hjc]⟩, hJx3⟩⟩
        · obtain rfl : j = c := by omega
          gi_wp2
          go_roundw
          case rel => exact ⟨i + 1, pre, by omega, by go_num, by unfold Hid; rw [hp.out, Nat.add_mul, Nat.one_mul], hJ, hg⟩
          case measure => simp [intOf]; omega
    · obtain rfl : i = n := by omega
      gi_wp2
      go_end0
      exact ⟨⟨_, rfl⟩, .inl ⟨_, hp.out, hJ⟩⟩

/-- num.Each(m): the matrix is boxed; the function value captures the box. -/
theorem each_in (m : Nat) (a : Option Addr) (n cap : Nat) (w : World) :
    CallsIn Fence.wide m Try.prog 70 #[.slice a n cap] w fun e w' => e = .returned (.func (.func 88) #[] #[.pointer (some ⟨w.heap.size, 0, none⟩)]) ∧ w' = w.alloc (.cells #[.slice a n cap] 37) := by
  refine callsIn_of_wp Try.func70 rfl trivial ?_ rfl
  simp only [Try.ntmps70, List.size_toArray, List.length_cons, List.length_nil, Nat.reduceAdd, Nat.reduceSub, Array.replicate_succ, Array.replicate_zero, List.push_toArray, List.append_toArray, List.nil_append, List.cons_append]
  gi_wp2
  go_ret
  exact ⟨rfl, rfl⟩

/-- The iterator, for every loop body that keeps the shape. -/
theorem each_stops (m : Nat) {n c b off cap Bm : Nat} {D O C : Nat → Nat} {ok : Nat → Nat → Int → Prop} (hn : n ≤ 1000000) (hc : c ≤ 1000000) (w : World) (hBm : w.cell? ⟨Bm, 0, none⟩ = some (.slice (some ⟨b, off, none⟩) n cap)) (hBl : Bm < w.heap.size) (hG : Grid n c b off D O C ok w) (hb : b < w.heap.size) (hD : ∀ k, k < n → D k < w.heap.size) :
    SeqStopsK Fence.wide m Try.prog 88 #[.pointer (some ⟨Bm, 0, none⟩)] (encP (n := n) (c := c) (ok := ok)) (fun W W' => Grid n c b off D O C ok W → Grid n c b off D O C ok W')
      (fun ys => plcs ys = locs c (n * c)) (fun pre => ∃ k, k ≤ n * c ∧ plcs pre = locs c k) (n * c) w := fun l J Jx W hW _ _ hY h0 =>
  each1_in m l Bm hn hc J Jx hY W ((hW.cell (p := ⟨Bm, 0, none⟩) hBl).trans hBm) (hG.below hW hb hD) h0
end Go.Proofs.Ytfocfgddlnjfmaa
