/-
  Short words: what grows, and grows again; slices and matrices of two, read off their cells. No program in sight.
  The walks of the references' small functions, and of the small functions of the statements' own packages.
  plain.Told and the same package's Error, by errors.As.
  Matrices of a call's own whose rows' places are known by name: for loops that store into them. No program in sight.
  num.Each: a range over all places of a matrix: the contract of its iterator, for every loop body that keeps the matrix's shape (and what is asked of its numbers).
  Matrices of n rows of c numbers; what a loop over all places keeps of them. No program in sight.
-/
import Derived.Test.YtoahegjjffggaaaDoorRows
import Derived.Deep.QuietTactic
import Derived.BigQuiet
import Derived.RangeFuncNested
import Derived.RangeFuncBound
import Derived.RangeFuncCalls
import Derived.RangeFuncLeaves
import Derived.Shelf.Abstract
import Derived.Shelf.RegionOpen
import Derived.WalkKit
import Derived.OwnWalkIn
import Derived.TacticsInMore
import Derived.LoopNIn
import Derived.LoopIn
import Derived.Test.YtoahegjjffggaaaDoorMg0
import Derived.Test.YtoahegjjffggaaaDoorMg1
namespace Go.Proofs.YtoahegjjffggaaaDoor
open Go.RowKit Go.Rk

theorem rd2 {w : World} {b : Nat} {x y : Int} (h0 : w.cell? ⟨b, 0, none⟩ = some (.int .i64 x)) (h1 : w.cell? ⟨b, 1, none⟩ = some (.int .i64 y)) : RdI w (some ⟨b, 0, none⟩) 2 2 [x, y] := by
  refine ⟨rfl, Nat.le_refl _, by decide, fun k hk => ⟨b, 0, rfl, ?_⟩⟩
  rcases k with _ | k
  · exact h0
  · obtain rfl : k = 0 := by omega
    exact h1
/-- A written matrix of two rows of two numbers. -/
theorem rd22 {w : World} {b p q : Nat} {x y z u : Int} (h0 : w.cell? ⟨b, 0, none⟩ = some (.slice (some ⟨p, 0, none⟩) 2 2)) (h1 : w.cell? ⟨b, 1, none⟩ = some (.slice (some ⟨q, 0, none⟩) 2 2))
    (c0 : w.cell? ⟨p, 0, none⟩ = some (.int .i64 x)) (c1 : w.cell? ⟨p, 1, none⟩ = some (.int .i64 y)) (c2 : w.cell? ⟨q, 0, none⟩ = some (.int .i64 z)) (c3 : w.cell? ⟨q, 1, none⟩ = some (.int .i64 u)) :
    RdM w (some ⟨b, 0, none⟩) 2 2 [[x, y], [z, u]] := RdM.two h0 (rd2 c0 c1) h1 (rd2 c2 c3)

theorem below_al {w w' : World} (h : Below w.heap.size w w') (o : Obj) : Below w.heap.size w (w'.alloc o) := h.alloc h.size o
theorem below_tr {w w' w2 : World} (h : Below w.heap.size w w') (k : Below w'.heap.size w' w2) : Below w.heap.size w w2 := h.trans (k.mono h.size)
end Go.Proofs.YtoahegjjffggaaaDoor
namespace Go.Proofs.YtoahegjjffggaaaDoor
open Go.RowKit Go.Rk

def inB (n lo hi : Int) : Bool := decide (lo ≤ n) && decide (n ≤ hi)
theorem inB_true {a lo hi : Int} (h : inB a lo hi = true) : lo ≤ a ∧ a ≤ hi := by
  unfold inB at h
  simp only [Bool.and_eq_true, decide_eq_true_eq] at h
  exact h

theorem R_in_any (n lo hi : Int) (w : World) :
    Calls Tryd.prog 65 #[.int .i64 n, .int .i64 lo, .int .i64 hi] w fun e w' => e = .returned (.bool (inB n lo hi)) ∧ w = w' := by
  by_cases h : lo ≤ n
  all_goals
    go_enter Tryd.func65, Tryd.ntmps65
    go_wp2
    all_goals (go_ret; refine ⟨congrArg (fun b => Ending.returned (.bool b)) ?_, rfl⟩; unfold inB; simp; try omega)
theorem L3_in_any (n lo hi : Int) (w : World) :
    Calls Tryd.prog 25 #[.int .i64 n, .int .i64 lo, .int .i64 hi] w fun e w' => e = .returned (.bool (inB n lo hi)) ∧ w = w' := by
  by_cases h : lo ≤ n
  all_goals
    go_enter Tryd.func25, Tryd.ntmps25
    go_wp2
    all_goals (go_ret; refine ⟨congrArg (fun b => Ending.returned (.bool b)) ?_, rfl⟩; unfold inB; simp; try omega)
theorem R_Mod_any (n : Int) (w : World) (h1 : -9223372036854775808 ≤ n) (h2 : n ≤ 9223372036854775807) :
    Calls Tryd.prog 7 #[.int .i64 n] w fun e w' => e = .returned (.int .i64 (n % 9973)) ∧ w = w' := by
  rcases Int.lt_or_le n 0 with h | h
  · have t := tmod_neg n h
    rcases Int.lt_or_le (n.tmod 9973) 0 with h3 | h3
    · have t1 := t.1
      have T2 := Lib.hid (t.2.1 h3)
      clear t
      go_enter Tryd.func7, Tryd.ntmps7
      go_wp2
      go_ret
      exact ⟨congrArg (fun x => Ending.returned (.int .i64 x)) T2.out.symm, rfl⟩
    · have t1 := t.1
      have T2 := Lib.hid (t.2.2 h3)
      clear t
      go_enter Tryd.func7, Tryd.ntmps7
      go_wp2
      go_ret
      exact ⟨congrArg (fun x => Ending.returned (.int .i64 x)) T2.out.symm, rfl⟩
  · go_enter Tryd.func7, Tryd.ntmps7
    go_wp2
    go_ret
    exact ⟨rfl, rfl⟩
def allB (lo hi : Int) (l : List Int) : Bool := l.all fun n => inB n lo hi
theorem allB_take (lo hi : Int) {l : List Int} {k : Nat} (h : k < l.length) (h0 : allB lo hi (l.take k) = true) (h1 : inB (ix l k) lo hi = true) : allB lo hi (l.take (k + 1)) = true := by
  rw [take_succ_ix h]
  unfold allB at *
  simp only [List.all_append, h0, List.all_cons, h1, List.all_nil, Bool.and_true]
theorem allB_miss (lo hi : Int) {l : List Int} {k : Nat} (h : k < l.length) (h1 : inB (ix l k) lo hi = false) : allB lo hi l = false := by
  unfold allB
  exact List.all_eq_false.2 ⟨_, ix_mem h, by rw [h1]; simp⟩
set_option maxHeartbeats 400000 in
theorem R_All_any {a : Option Addr} {len cap : Nat} {l : List Int} (lo hi : Int) {w : World} (h : RdI w a len cap l) :
    Calls Tryd.prog 42 #[.slice a len cap, .int .i64 lo, .int .i64 hi] w fun e w' => e = .returned (.bool (allB lo hi l)) ∧ w = w' := by
  have hm := h.len_max
  go_enter Tryd.func42, Tryd.ntmps42
  go_wp2
  go_loop [7] (fun i => ∃ k : Nat, k ≤ len ∧ i = .int .i64 k ∧ Hid (allB lo hi (l.take k) = true)) (fun i => len - (intOf i).toNat)
  case atStart => exact ⟨0, Nat.zero_le _, rfl, rfl⟩
  case round =>
    obtain ⟨k, hk, rfl, hno⟩ := hrel
    by_cases hlt : k < len
    · obtain ⟨b, off, rfl, _, hc⟩ := h.at hlt
      have hc := hc k hlt
      have hl : k < l.length := by have := h.len_eq; omega
      rcases ho : inB (ix l k) lo hi
      · have Ho := Lib.hid ho
        clear ho
        go_wp2_with (go_at_call 65; refine (R_in_any _ _ _ _).mono ?_; rintro e w' ⟨rfl, rfl⟩; rw [Ho.out])
        go_ret
        exact ⟨congrArg (fun b => Ending.returned (.bool b)) (allB_miss _ _ hl Ho.out).symm, rfl⟩
      · have Ho := Lib.hid ho
        clear ho
        go_wp2_with (go_at_call 65; refine (R_in_any _ _ _ _).mono ?_; rintro e w' ⟨rfl, rfl⟩; rw [Ho.out])
        go_round
        case rel => exact ⟨k + 1, by omega, by go_num, allB_take _ _ hl hno Ho.out⟩
        case measure => simp [intOf]; omega
    · go_wp2
      go_ret
      refine ⟨congrArg (fun b => Ending.returned (.bool b)) ?_, rfl⟩
      rw [← hno.out, List.take_of_length_le (by have := h.len_eq; omega)]
theorem allB_in {l : List Int} {lo hi : Int} (h : allB lo hi l = true) : In lo hi l := by
  intro k hk
  have h1 := List.all_eq_true.1 h (ix l k) (ix_mem hk)
  simp [inB] at h1
  omega
theorem R_Abs_any (n : Int) (w : World) (h1 : -9223372036854775807 ≤ n) (h2 : n ≤ 9223372036854775807) :
    Calls Tryd.prog 67 #[.int .i64 n] w fun e w' => e = .returned (.int .i64 (n.natAbs : Int)) ∧ w = w' := by
  rcases Int.lt_or_le n 0 with h | h
  all_goals
    go_enter Tryd.func67, Tryd.ntmps67
    go_wp2
    go_ret
    exact ⟨congrArg (fun x => Ending.returned (.int .i64 x)) (by omega), rfl⟩
theorem R_Gcd_any (n : Nat) : ∀ (a b : Int) (w : World) (_ : -1000000000 ≤ a ∧ a ≤ 1000000000) (_ : -1000000000 ≤ b ∧ b ≤ 1000000000) (_ : b.natAbs ≤ n),
    Calls Tryd.prog 47 #[.int .i64 a, .int .i64 b] w fun e w' => e = .returned (.int .i64 (Int.gcd a b : Int)) ∧ w = w' := by
  induction n with
  | zero =>
    intro a b w ha hb hn
    obtain rfl : b = 0 := by omega
    have A1 := Lib.hid (R_Abs_any a w (by omega) (by omega))
    go_enter Tryd.func47, Tryd.ntmps47
    go_wp2_with (go_at_call 67; refine A1.out.mono ?_; rintro e w' ⟨rfl, rfl⟩)
    go_ret
    exact ⟨congrArg (fun x => Ending.returned (.int .i64 x)) (by simp [Int.gcd]), rfl⟩
  | succ n ih =>
    intro a b w ha hb hn
    by_cases h0 : b = 0
    · subst h0
      exact ih a 0 w ha hb (by simp)
    · have g1 : (a.tmod b).natAbs < b.natAbs := by rw [Int.natAbs_tmod]; exact Nat.mod_lt _ (by omega)
      have A1 := Lib.hid (ih b (a.tmod b) w hb (by omega) (by omega))
      have H0 : (b == 0) = false := by simp [h0]
      clear ih h0
      go_enter Tryd.func47, Tryd.ntmps47
      go_wp2_with (go_at_call 47; refine A1.out.mono ?_; rintro e w' ⟨rfl, rfl⟩)
      go_ret
      exact ⟨congrArg (fun x => Ending.returned (.int .i64 x)) (gcd_tmod a b), rfl⟩
set_option maxHeartbeats 400000 in
theorem Ints_q {a a2 : Option Addr} {len cap len2 cap2 : Nat} {l m : List Int} {w : World} (h : RdI w a len cap l) (h2 : RdI w a2 len2 cap2 m) :
    Calls Tryd.prog 12 #[.slice a len cap, .slice a2 len2 cap2] w fun e w' => e = .returned (.bool (decide (l = m))) ∧ ∃ q, w' = w.drewN q := by
  have hm := h.len_max
  have E1 := Lib.hid h.len_eq
  have E2 := Lib.hid h2.len_eq
  by_cases hl : len = len2
  · subst hl
    go_enter Tryd.func12, Tryd.ntmps12
    go_wp2
    go_loopw [5] (fun i wr => ∃ k : Nat, k ≤ len ∧ i = .int .i64 k ∧ Hid (l.take k = m.take k) ∧ ∃ q, wr = w.drewN q) (fun i _ => len - (intOf i).toNat)
    case atStart => exact ⟨0, Nat.zero_le _, rfl, rfl, 0, rfl⟩
    case round =>
      obtain ⟨k, hk, rfl, heq, q, rfl⟩ := hrel
      by_cases hlt : k < len
      · obtain ⟨b, off, rfl, _, hc⟩ := h.at hlt
        obtain ⟨b2, off2, rfl, _, hc2⟩ := h2.at hlt
        have hc := hc k hlt
        have hc2 := hc2 k hlt
        have hlt' : (k : Int) < (len : Int) := by omega
        by_cases he : ix l k = ix m k
        · have He : (ix l k != ix m k) = false := by simp [he]
          have He2 := Lib.hid he
          clear he
          go_wp2
          go_quiet (fail)
          go_wp2
          go_roundw
          case rel => exact ⟨k + 1, by omega, by go_num, by unfold Hid; rw [take_succ_ix (by rw [E1.out]; exact hlt), take_succ_ix (by rw [E2.out]; exact hlt), heq.out, He2.out], q + nq, by simp⟩
          case measure => simp [intOf]; omega
        · have He : (ix l k != ix m k) = true := by simp [he]
          have He2 := Lib.hid he
          clear he
          go_wp2
          go_quiet (fail)
          go_wp2
          go_ret
          refine ⟨congrArg (fun b => Ending.returned (.bool b)) (decide_eq_false ?_).symm, q + nq, by simp [World.drewN_drewN]⟩
          intro hlm
          exact He2.out (by rw [hlm])
      · go_wp2
        go_ret
        refine ⟨congrArg (fun b => Ending.returned (.bool b)) (decide_eq_true ?_).symm, q, rfl⟩
        have := heq.out
        rwa [List.take_of_length_le (by rw [E1.out]; omega), List.take_of_length_le (by rw [E2.out]; omega)] at this
  · have hne : ((len : Int) != (len2 : Int)) = true := by simp; omega
    have Hl := Lib.hid hl
    clear hl
    go_enter Tryd.func12, Tryd.ntmps12
    go_wp2
    go_ret
    refine ⟨congrArg (fun b => Ending.returned (.bool b)) (decide_eq_false ?_).symm, 0, rfl⟩
    intro hlm
    exact Hl.out (by rw [← E1.out, ← E2.out, hlm])

theorem Ints_any {a a2 : Option Addr} {len cap len2 cap2 : Nat} {l m : List Int} {w : World} (h : RdI w a len cap l) (h2 : RdI w a2 len2 cap2 m) :
    Calls Tryd.prog 12 #[.slice a len cap, .slice a2 len2 cap2] w fun e w' => e = .returned (.bool (decide (l = m))) ∧ Below w.heap.size w w' :=
  (Ints_q h h2).mono fun _ _ ⟨he, q, hq⟩ => ⟨he, by rw [hq]; exact below_drewN (Below.refl _ _) q⟩
end Go.Proofs.YtoahegjjffggaaaDoor
namespace Go.Proofs.YtoahegjjffggaaaDoor
open Go.RowKit Go.Rk

/-- The number of an error that is none, or a number. -/
theorem Told_any {x : Option Int} {w : World} (hg : ErrT w) : Calls Tryd.prog 32 #[errV x] w fun e w' => e = .returned (.int .i64 (x.getD 0)) ∧ Below w.heap.size w w' := by
  cases x with
  | none =>
    go_enter Tryd.func32, Tryd.ntmps32
    simp only [errV]
    go_wp2
    go_ret
    exact ⟨rfl, Below.refl _ _⟩
  | some c =>
    have hb := (Below.refl w.heap.size w).alloc (Nat.le_refl _) (.cells #[.int .i64 0] 52)
    have C := Lib.hid (as_hit c ⟨w.heap.size, 0, none⟩ (.int .i64 0) _ (hg.below hb) (by simp) (by simp))
    go_enter Tryd.func32, Tryd.ntmps32
    simp only [errV]
    go_wp2_with (first | (go_at_call 56; (with_reducible refine C.out.mono ?_); rintro e w' ⟨rfl, w2, hb2, hc2, rfl⟩; have hc3 := World.cell?_setCell_same w2 ⟨w.heap.size, 0, none⟩ (.int .i64 c) hc2))
    go_ret
    exact ⟨rfl, (hb.trans (hb2.mono hb.size)).setCell (p := ⟨w.heap.size, 0, none⟩) (Nat.le_refl _) _⟩

theorem E_Error_any {x : Option Int} {e : Int} {w : World} (hg : ErrT w) : Calls Tryd.prog 10 #[errV x, .int .i64 e] w fun ev w' => ev = .returned (.bool (x.getD 0 == e)) ∧ Below w.heap.size w w' := by
  have C := Lib.hid (Told_any (x := x) hg)
  go_enter Tryd.func10, Tryd.ntmps10
  go_wp2_with (first | (go_at_call 32; (with_reducible refine C.out.mono ?_); rintro e w' ⟨rfl, hb⟩))
  go_ret
  exact ⟨rfl, hb⟩
theorem rowErr1_nz {lo hi : Int} {c : Nat} {e : Int} {l : List Int} (h : rowErr1 lo hi c l = some e) : e ≠ 0 := by
  unfold rowErr1 at h
  split at h
  · cases h; decide
  · split at h
    · cases h; decide
    · cases h
theorem rowsErr_nz {lo hi : Int} {c : Nat} {e : Int} {M : List (List Int)} (h : rowsErr lo hi c M = some e) : e ≠ 0 := by
  have g : ∀ (M : List (List Int)) (o : Option Int), (∀ x, o = some x → x ≠ 0) → ∀ x, M.foldl (fun r l => match r with | none => rowErr1 lo hi c l | some c => some c) o = some x → x ≠ 0 := by
    intro M
    induction M with
    | nil => exact fun o ho x hx => ho x hx
    | cons r M ih =>
      intro o ho x hx
      refine ih _ (fun y hy => ?_) x hx
      cases o with
      | none => exact rowErr1_nz hy
      | some z => exact ho y hy
  exact g M none (fun x hx => by cases hx) e h
theorem groundsR_nz {most lo hi : Int} {M : List (List Int)} {e : Int} (h : groundsR most lo hi M = some e) : e ≠ 0 := by
  unfold groundsR at h
  split at h
  · cases h; decide
  · split at h
    · cases h; decide
    · exact rowsErr_nz h
theorem squareR_nz {most lo hi : Int} {M : List (List Int)} {e : Int} (h : squareR most lo hi M = some e) : e ≠ 0 := by
  unfold squareR at h
  split at h
  · split at h
    · cases h
    · cases h; decide
  · exact groundsR_nz h
/-- No error, a number; an error, a number; an error and its own number. -/
theorem E_nil {e : Int} {w : World} (hg : ErrT w) : Calls Tryd.prog 10 #[.nilIface, .int .i64 e] w fun ev w' => ev = .returned (.bool (0 == e)) ∧ Below w.heap.size w w' := E_Error_any (x := none) hg
theorem E_nil0 {w : World} (hg : ErrT w) : Calls Tryd.prog 10 #[.nilIface, .int .i64 0] w fun ev w' => ev = .returned (.bool true) ∧ Below w.heap.size w w' := E_Error_any (x := none) hg
theorem E_some {c e : Int} {w : World} (hg : ErrT w) : Calls Tryd.prog 10 #[.iface 52 (.int .i64 c), .int .i64 e] w fun ev w' => ev = .returned (.bool (c == e)) ∧ Below w.heap.size w w' := E_Error_any (x := some c) hg
theorem E_same {c : Int} {w : World} (hg : ErrT w) : Calls Tryd.prog 10 #[.iface 52 (.int .i64 c), .int .i64 c] w fun ev w' => ev = .returned (.bool true) ∧ Below w.heap.size w w' := by
  have := E_Error_any (x := some c) (e := c) hg
  rw [show ((some c).getD 0 == c) = true from beq_iff_eq.2 rfl] at this
  exact this
end Go.Proofs.YtoahegjjffggaaaDoor
namespace Go.Rk
open Go.RowKit

/-- The outer block is g; row i lies in block D i, of capacity C i. -/
structure OwMD (w : World) (B T E g : Nat) (D C : Nat → Nat) (n cap : Nat) (M : List (List Int)) : Prop where
  len_eq : M.length = n
  outer : w.ownsRow B T 1 (.slice (some ⟨g, 0, none⟩) n cap) n ((List.range n).map fun i => Value.slice (some ⟨D i, 0, none⟩) (rowOf M i).length (C i))
  rows : ∀ i, i < n → OwI w B E (some ⟨D i, 0, none⟩) (rowOf M i).length (C i) (rowOf M i)
  inj : ∀ i j, i < n → j < n → i ≠ j → D i ≠ D j

section
variable {w w' : World} {B B' T E g : Nat} {D C : Nat → Nat} {n cap : Nat} {M : List (List Int)}

theorem OwM.named {a : Option Addr} (h : OwM w B T E a n cap M) (hn : 0 < n) (hp : ∀ i, i < n → 0 < (rowOf M i).length) : ∃ g D C, a = some ⟨g, 0, none⟩ ∧ OwMD w B T E g D C n cap M := by
  obtain ⟨vs, ho, hr, hd⟩ := h.own
  obtain ⟨g, c, hv, hb, hlt⟩ := ho.form hn
  injection hv with ha _ hc
  subst ha; subst hc
  have hr' : ∀ i, i < n → ∃ y : Nat × Nat, vs[i]? = some (.slice (some ⟨y.1, 0, none⟩) (rowOf M i).length y.2) ∧ OwI w B E (some ⟨y.1, 0, none⟩) (rowOf M i).length y.2 (rowOf M i) := by
    intro i hi
    obtain ⟨ar, cr, e, o⟩ := hr i hi
    obtain ⟨b, hab, _⟩ := o.at (hp i hi)
    subst hab
    exact ⟨(b, cr), e, o⟩
  obtain ⟨y, hy⟩ := Go.Deep.choose_lt hr'
  have hvl : vs.length = n := by have := ho.1; omega
  refine ⟨g, fun i => (y i).1, fun i => (y i).2, rfl, h.len_eq, ?_, fun i hi => (hy i hi).2, fun i j hi hj hij e => ?_⟩
  · have : vs = (List.range n).map fun i => Value.slice (some ⟨(y i).1, 0, none⟩) (rowOf M i).length (y i).2 := by
      apply List.ext_getElem?
      intro i
      rcases Nat.lt_or_ge i n with h1 | h1
      · rw [(hy i h1).1]; simp [h1]
      · rw [List.getElem?_eq_none (by omega), List.getElem?_eq_none (by simp; omega)]
    rw [← this]
    exact ho
  · refine hd i j (y i).1 hi hj hij ?_ ?_
    · simp [blk, (hy i hi).1, Value.ownBlock]
    · simp [blk, (hy j hj).1, Value.ownBlock]
      exact e.symm

theorem OwMD.toM (h : OwMD w B T E g D C n cap M) : OwM w B T E (some ⟨g, 0, none⟩) n cap M := by
  refine ⟨h.len_eq, _, h.outer, fun k hk => ⟨_, _, by simp [hk], h.rows k hk⟩, fun i j b hi hj hij e e2 => ?_⟩
  simp [blk, hi, hj, Value.ownBlock] at e e2
  exact h.inj i j hi hj hij (e.trans e2.symm)

theorem OwMD.cellO (h : OwMD w B T E g D C n cap M) {i : Nat} (hi : i < n) : w.cell? ⟨g, i, none⟩ = some (.slice (some ⟨D i, 0, none⟩) (rowOf M i).length (C i)) := by
  rw [h.outer.cellAt i (by omega)]; simp [hi]
theorem OwMD.frozenO (h : OwMD w B T E g D C n cap M) (i : Nat) : w.frozen? ⟨g, i, none⟩ = false := h.outer.frozenAt i
theorem OwMD.cellI (h : OwMD w B T E g D C n cap M) {i j : Nat} (hi : i < n) (hj : j < (rowOf M i).length) : w.cell? ⟨D i, j, none⟩ = some (.int .i64 (en M i j)) := by
  obtain ⟨b, hb, _, _, hc, _⟩ := (h.rows i hi).at (by omega)
  injection hb with hb
  injection hb with hb
  rw [hb]; exact hc j hj
theorem OwMD.frozenI (h : OwMD w B T E g D C n cap M) {i : Nat} (hi : i < n) (hp : 0 < (rowOf M i).length) (j : Nat) : w.frozen? ⟨D i, j, none⟩ = false := by
  obtain ⟨b, hb, _, _, _, hf⟩ := (h.rows i hi).at hp
  injection hb with hb
  injection hb with hb
  rw [hb]; exact hf j
theorem OwMD.lowO (h : OwMD w B T E g D C n cap M) : B ≤ g ∧ g < w.heap.size := h.outer.lt g rfl
theorem OwMD.lowI (h : OwMD w B T E g D C n cap M) {i : Nat} (hi : i < n) : B ≤ D i ∧ D i < w.heap.size := (h.rows i hi).own.lt _ rfl
theorem OwMD.neO (h : OwMD w B T E g D C n cap M) (hne : T ≠ E) {i : Nat} (hi : i < n) : D i ≠ g := by
  intro e
  have := own_ne hne h.outer (h.rows i hi).own (b := g) rfl
  exact this (by rw [← e]; rfl)

theorem OwMD.below (h : OwMD w B T E g D C n cap M) (hb : Below w.heap.size w w') : OwMD w' B T E g D C n cap M :=
  ⟨h.len_eq, h.outer.kept (row := none) ⟨hb.os, hb.tape, hb.output, hb.size, fun k hk _ => hb.block k hk⟩ (.inr (by simp [Value.ownBlock])), fun i hi => (h.rows i hi).below hb, h.inj⟩
theorem OwMD.drew (h : OwMD w B T E g D C n cap M) : OwMD w.drew B T E g D C n cap M := h.below (Below.refl _ _).drew
theorem OwMD.drewN (h : OwMD w B T E g D C n cap M) (k : Nat) : OwMD (w.drewN k) B T E g D C n cap M := h.below (below_drewN (Below.refl _ _) k)
theorem OwMD.alloc (h : OwMD w B T E g D C n cap M) (o : Obj) : OwMD (w.alloc o) B T E g D C n cap M := h.below ((Below.refl _ _).alloc (Nat.le_refl _) o)

/-- A store of an element. -/
theorem OwMD.set (h : OwMD w B T E g D C n cap M) (hne : T ≠ E) {i j : Nat} (hi : i < n) (x : Int) : OwMD (w.setCell ⟨D i, j, none⟩ (.int .i64 x)) B T E g D C n cap (setE M i j x) := by
  refine ⟨by rw [setE_len]; exact h.len_eq, ?_, fun k hk => ?_, h.inj⟩
  · have : ((List.range n).map fun k => Value.slice (some ⟨D k, 0, none⟩) (rowOf (setE M i j x) k).length (C k)) = (List.range n).map fun k => Value.slice (some ⟨D k, 0, none⟩) (rowOf M k).length (C k) :=
      List.map_congr_left fun k _ => by rw [setE_row_len]
    rw [this]
    exact h.outer.kept (grownBy_setCell w _ _) (.inr (by simp [Value.ownBlock]; exact fun e => h.neO hne hi e.symm))
  · rw [setE_row_len]
    by_cases hik : i = k
    · subst hik
      have : rowOf (setE M i j x) i = (rowOf M i).set j x := by
        unfold setE
        rw [rowOf_set, if_pos ⟨rfl, by rw [h.len_eq]; exact hi⟩]
      rw [this]
      exact (h.rows i hi).set x
    · have : rowOf (setE M i j x) k = rowOf M k := by
        unfold setE
        rw [rowOf_set, if_neg fun h2 => hik h2.1]
      rw [this]
      exact (h.rows k hk).setElse (h.inj i k hi hk hik) _

/-- A store beside it. -/
theorem OwMD.setElse (h : OwMD w B T E g D C n cap M) {p : Addr} (hg : p.block ≠ g) (hD : ∀ i, i < n → p.block ≠ D i) (u : Value) : OwMD (w.setCell p u) B T E g D C n cap M :=
  ⟨h.len_eq, h.outer.kept (grownBy_setCell w _ _) (.inr (by simp [Value.ownBlock]; exact fun e => hg e.symm)), fun i hi => (h.rows i hi).setElse (hD i hi) _, h.inj⟩

/-- Two rows in each other's place. -/
def swapL (M : List (List Int)) (i k : Nat) : List (List Int) := (M.set i (rowOf M k)).set k (rowOf M i)
def swapF (D : Nat → Nat) (i k : Nat) : Nat → Nat := fun j => if j = k then D i else if j = i then D k else D j

theorem swapL_len (M : List (List Int)) (i k : Nat) : (swapL M i k).length = M.length := by simp [swapL]
theorem rowOf_swapL {M : List (List Int)} {i k : Nat} (hi : i < M.length) (hk : k < M.length) (j : Nat) : rowOf (swapL M i k) j = if j = k then rowOf M i else if j = i then rowOf M k else rowOf M j := by
  unfold swapL
  rw [rowOf_set, rowOf_set, List.length_set]
  by_cases h1 : j = k
  · subst h1; simp [hk]
  · by_cases h2 : j = i
    · subst h2; simp [h1, Ne.symm h1, hi]
    · simp [h1, h2, Ne.symm h1, Ne.symm h2]

theorem OwMD.swap (h : OwMD w B T E g D C n cap M) (hne : T ≠ E) {i k : Nat} (hi : i < n) (hk : k < n) :
    OwMD ((w.setCell ⟨g, i, none⟩ (.slice (some ⟨D k, 0, none⟩) (rowOf M k).length (C k))).setCell ⟨g, k, none⟩ (.slice (some ⟨D i, 0, none⟩) (rowOf M i).length (C i))) B T E g (swapF D i k) (swapF C i k) n cap (swapL M i k) := by
  have hil : i < M.length := by rw [h.len_eq]; exact hi
  have hkl : k < M.length := by rw [h.len_eq]; exact hk
  have s1 := (h.outer.stored i (.slice (some ⟨D k, 0, none⟩) (rowOf M k).length (C k))).1
  have s2 := (s1.stored k (.slice (some ⟨D i, 0, none⟩) (rowOf M i).length (C i))).1
  refine ⟨by rw [swapL_len]; exact h.len_eq, ?_, fun j hj => ?_, fun a b ha hb hab => ?_⟩
  · have : ((List.range n).map fun j => Value.slice (some ⟨swapF D i k j, 0, none⟩) (rowOf (swapL M i k) j).length (swapF C i k j)) =
        (((List.range n).map fun j => Value.slice (some ⟨D j, 0, none⟩) (rowOf M j).length (C j)).set i (.slice (some ⟨D k, 0, none⟩) (rowOf M k).length (C k))).set k (.slice (some ⟨D i, 0, none⟩) (rowOf M i).length (C i)) := by
      apply List.ext_getElem?
      intro j
      rcases Nat.lt_or_ge j n with h1 | h1
      · rw [List.getElem?_set, List.getElem?_set]
        simp only [List.length_set, List.length_map, List.length_range, List.getElem?_map]
        rw [List.getElem?_range h1]
        simp only [Option.map_some, rowOf_swapL hil hkl, swapF]
        by_cases h2 : j = k
        · subst h2; simp [h1]
        · by_cases h3 : j = i
          · subst h3; simp [h2, Ne.symm h2, h1]
          · simp [h2, h3, Ne.symm h2, Ne.symm h3]
      · rw [List.getElem?_eq_none (by simp; omega), List.getElem?_eq_none (by simp; omega)]
    rw [this]
    exact s2
  · rw [rowOf_swapL hil hkl]
    have keep : ∀ m, m < n → OwI ((w.setCell ⟨g, i, none⟩ (.slice (some ⟨D k, 0, none⟩) (rowOf M k).length (C k))).setCell ⟨g, k, none⟩ (.slice (some ⟨D i, 0, none⟩) (rowOf M i).length (C i))) B E (some ⟨D m, 0, none⟩) (rowOf M m).length (C m) (rowOf M m) :=
      fun m hm => ((h.rows m hm).setElse (h.neO hne hm).symm _).setElse (h.neO hne hm).symm _
    simp only [swapF]
    by_cases h2 : j = k
    · simp only [h2, if_true]; exact keep i hi
    · by_cases h3 : j = i
      · simp only [h3, if_true]
        by_cases h4 : i = k
        · exact absurd (h3.trans h4) h2
        · simp only [if_neg h4]; exact keep k hk
      · simp only [h2, h3, if_false]; exact keep j hj
  · simp only [swapF]
    by_cases h1 : a = k
    · subst h1
      rw [if_pos rfl, if_neg (Ne.symm hab)]
      by_cases h2 : b = i
      · subst h2; rw [if_pos rfl]; exact fun e => hab (by rcases Nat.decEq a b with h3 | h3; exact absurd e.symm (h.inj a b ha hb h3); exact h3)
      · rw [if_neg h2]; exact h.inj i b hi hb (Ne.symm h2)
    · rw [if_neg h1]
      by_cases h3 : a = i
      · subst h3
        rw [if_pos rfl]
        by_cases h2 : b = k
        · subst h2; rw [if_pos rfl]; exact h.inj b a hb ha (Ne.symm hab)
        · rw [if_neg h2, if_neg (Ne.symm hab)]; exact h.inj k b hk hb (Ne.symm h2)
      · rw [if_neg h3]
        by_cases h2 : b = k
        · subst h2; rw [if_pos rfl]; exact h.inj a i ha hi h3
        · rw [if_neg h2]
          by_cases h4 : b = i
          · subst h4; rw [if_pos rfl]; exact h.inj a k ha hk h1
          · rw [if_neg h4]; exact h.inj a b ha hb hab
end
end Go.Rk
namespace Go.Rk
open Go.RowKit

/-- A matrix of n rows of c numbers: where its rows and its numbers lie, and what is asked of each number. -/
structure Grid (n c b off : Nat) (D O C : Nat → Nat) (ok : Nat → Nat → Int → Prop) (W : World) : Prop where
  hdr : ∀ k, k < n → W.cell? ⟨b, off + k, none⟩ = some (.slice (some ⟨D k, O k, none⟩) c (C k))
  el : ∀ k j, k < n → j < c → ∃ v, W.cell? ⟨D k, O k + j, none⟩ = some (.int .i64 v) ∧ ok k j v

section
variable {n c b off : Nat} {D O C : Nat → Nat} {ok : Nat → Nat → Int → Prop} {W W' : World}
theorem Grid.below {n₀ : Nat} (h : Grid n c b off D O C ok W) (hk : Below n₀ W W') (hb : b < n₀) (hD : ∀ k, k < n → D k < n₀) : Grid n c b off D O C ok W' :=
  ⟨fun k hk2 => (hk.cell (p := ⟨b, off + k, none⟩) hb).trans (h.hdr k hk2), fun k j hk2 hj => let ⟨v, hv, ho⟩ := h.el k j hk2 hj; ⟨v, (hk.cell (p := ⟨D k, O k + j, none⟩) (hD k hk2)).trans hv, ho⟩⟩
end

/-- A place of the matrix, and its number. -/
abbrev Plc (n c : Nat) (ok : Nat → Nat → Int → Prop) := { x : Nat × Nat × Int // x.1 < n ∧ x.2.1 < c ∧ ok x.1 x.2.1 x.2.2 }
def encP {n c : Nat} {ok : Nat → Nat → Int → Prop} (x : Plc n c ok) : Array Value := #[.agg #[.int .i64 (x.1.1 : Int), .int .i64 (x.1.2.1 : Int)], .int .i64 x.1.2.2]
def locs (c k : Nat) : List (Nat × Nat) := (List.range k).map fun t => (t / c, t % c)
def plcs {n c : Nat} {ok : Nat → Nat → Int → Prop} (pre : List (Plc n c ok)) : List (Nat × Nat) := pre.map fun x => (x.1.1, x.1.2.1)

theorem locs_succ {c i j : Nat} (hj : j < c) : locs c (i * c + j + 1) = locs c (i * c + j) ++ [(i, j)] := by
  have h1 : (i * c + j) / c = i := by rw [Nat.mul_comm, Nat.mul_add_div (by omega), Nat.div_eq_of_lt hj, Nat.add_zero]
  have h2 : (i * c + j) % c = j := by rw [Nat.mul_comm, Nat.mul_add_mod, Nat.mod_eq_of_lt hj]
  simp [locs, List.range_succ, h1, h2]
theorem locs_length (c k : Nat) : (locs c k).length = k := by simp [locs]
theorem plcs_snoc {n c : Nat} {ok : Nat → Nat → Int → Prop} (pre : List (Plc n c ok)) (x : Plc n c ok) : plcs (pre ++ [x]) = plcs pre ++ [(x.1.1, x.1.2.1)] := by simp [plcs]
theorem plcs_length {n c : Nat} {ok : Nat → Nat → Int → Prop} (pre : List (Plc n c ok)) : (plcs pre).length = pre.length := by simp [plcs]
theorem place_lt {n c i j : Nat} (hi : i < n) (hj : j < c) : i * c + j < n * c := by
  have : (i + 1) * c ≤ n * c := Nat.mul_le_mul_right c hi
  rw [Nat.add_mul, Nat.one_mul] at this
  omega
end Go.Rk
namespace Go.Proofs.YtoahegjjffggaaaDoor
open Go.RowKit Go.Shelf Go.Rk
attribute [local go_sem] Oper.semAt_some

set_option maxRecDepth 100000 in
set_option maxHeartbeats 4000000 in
theorem each1_in (m : Nat) {n c b off cap : Nat} {D O C : Nat → Nat} {ok : Nat → Nat → Int → Prop} (l Bm : Nat) (hn : n ≤ 1000000) (hc : c ≤ 1000000) (J Jx : List (Plc n c ok) → World → Prop)
    (hY : ∀ pre x W, J pre W → pre.length < n * c → YieldAt Fence.wide (m - 1) Tryd.prog l (encP x) W fun e W' =>
      (e = .returned (.bool true) ∧ J (pre ++ [x]) W' ∧ (Grid n c b off D O C ok W → Grid n c b off D O C ok W')) ∨ (e = .returned (.bool false) ∧ Jx (pre ++ [x]) W'))
    (W : World) (hBm : W.cell? ⟨Bm, 0, none⟩ = some (.slice (some ⟨b, off, none⟩) n cap)) (hG : Grid n c b off D O C ok W) (h0 : J [] W) :
    CallsIn Fence.wide m Tryd.prog 64 #[.func (.yield l) #[] #[], .pointer (some ⟨Bm, 0, none⟩)] W fun e W' => (∃ v, e = .returned v) ∧
      ((∃ ys, plcs ys = locs c (n * c) ∧ J ys W') ∨ (∃ pre, (∃ k, k ≤ n * c ∧ plcs pre = locs c k) ∧ Jx pre W')) := by
  refine callsIn_of_wp Tryd.func64 rfl trivial ?_ rfl
  simp only [Tryd.ntmps64, List.size_toArray, List.length_cons, List.length_nil, Nat.reduceAdd, Nat.reduceSub, Array.replicate_succ, Array.replicate_zero, List.push_toArray, List.append_toArray, List.nil_append, List.cons_append]
  gi_wp2
  gi_loopw [9] (fun v wr => ∃ (i : Nat) (pre : List (Plc n c ok)), i ≤ n ∧ v = .int .i64 i ∧ Hid (plcs pre = locs c (i * c)) ∧ J pre wr ∧ Grid n c b off D O C ok wr)
    (fun v _ => n - (intOf v).toNat)
  case atStart => exact ⟨0, [], Nat.zero_le _, rfl, by unfold Hid; rw [Nat.zero_mul]; rfl, h0, hG⟩
  case round =>
    obtain ⟨i, pre, hi, rfl, hp, hJ, hg⟩ := hrel
    by_cases hlt : i < n
    · have y1 := hg.hdr i hlt
      gi_wp2
      gi_loopw [16] (fun v wt => ∃ (j : Nat) (pre : List (Plc n c ok)), j ≤ c ∧ v = .int .i64 j ∧ Hid (plcs pre = locs c (i * c + j)) ∧ J pre wt ∧ Grid n c b off D O C ok wt)
        (fun v _ => c - (intOf v).toNat)
      case atStart => exact ⟨0, pre, Nat.zero_le _, rfl, hp, hJ, hg⟩
      case round =>
        clear hJ hp hg y1
        obtain ⟨j, pre, hj, rfl, hp, hJ, hg⟩ := hrel
        by_cases hjc : j < c
        · obtain ⟨v, y2, hok⟩ := hg.el i j hlt hjc
          have hlen : pre.length < n * c := by
            rw [← plcs_length, hp.out, locs_length]
            exact place_lt hlt hjc
          obtain ⟨fn, tmps, assign, body, hy, hR⟩ := hY pre ⟨(i, j, v), hlt, hjc, hok⟩ wr hJ hlen
          dsimp only [encP] at hy
          gi_wp2
          refine ⟨fun e => by simp [Fence.wide] at e, hR.mono ?_⟩
          rintro e W3 (⟨rfl, hJ3, hk3⟩ | ⟨rfl, hJx3⟩)
          · have hg3 := hk3 hg
            gi_wp2
            go_roundw
            case rel => exact ⟨j + 1, _, by omega, by go_num, by unfold Hid; rw [plcs_snoc, hp.out, ← Nat.add_assoc, locs_succ hjc], hJ3, hg3⟩
            case measure => simp [intOf]; omega
          · gi_wp2
            refine bodyPost_ret (results_none rfl _ _ _) rfl ?_
            exact ⟨⟨_, rfl⟩, .inr ⟨_, ⟨i * c + j + 1, place_lt hlt hjc, by rw [plcs_snoc, hp.out, locs_succ hjc]⟩, hJx3⟩⟩
        · obtain rfl : j = c := by omega
          gi_wp2
          go_roundw
          case rel => exact ⟨i + 1, pre, by omega, by go_num, by unfold Hid; rw [hp.out, Nat.add_mul, Nat.one_mul], hJ, hg⟩
          case measure => simp [intOf]; omega
    · obtain rfl : i = n := by omega
      gi_wp2
      go_end0
      exact ⟨⟨_, rfl⟩, .inl ⟨_, hp.out, hJ⟩⟩

/-- num.Each(m): the matrix is boxed; the function value captures the box. -/
theorem each_in (m : Nat) (a : Option Addr) (n cap : Nat) (w : World) :
    CallsIn Fence.wide m Tryd.prog 41 #[.slice a n cap] w fun e w' => e = .returned (.func (.func 64) #[] #[.pointer (some ⟨w.heap.size, 0, none⟩)]) ∧ w' = w.alloc (.cells #[.slice a n cap] 22) := by
  refine callsIn_of_wp Tryd.func41 rfl trivial ?_ rfl
  simp only [Tryd.ntmps41, List.size_toArray, List.length_cons, List.length_nil, Nat.reduceAdd, Nat.reduceSub, Array.replicate_succ, Array.replicate_zero, List.push_toArray, List.append_toArray, List.nil_append, List.cons_append]
  gi_wp2
  go_ret
  exact ⟨rfl, rfl⟩

/-- The iterator, for every loop body that keeps the shape. -/
theorem each_stops (m : Nat) {n c b off cap Bm : Nat} {D O C : Nat → Nat} {ok : Nat → Nat → Int → Prop} (hn : n ≤ 1000000) (hc : c ≤ 1000000) (w : World) (hBm : w.cell? ⟨Bm, 0, none⟩ = some (.slice (some ⟨b, off, none⟩) n cap)) (hBl : Bm < w.heap.size) (hG : Grid n c b off D O C ok w) (hb : b < w.heap.size) (hD : ∀ k, k < n → D k < w.heap.size) :
    SeqStopsK Fence.wide m Tryd.prog 64 #[.pointer (some ⟨Bm, 0, none⟩)] (encP (n := n) (c := c) (ok := ok)) (fun W W' => Grid n c b off D O C ok W → Grid n c b off D O C ok W')
      (fun ys => plcs ys = locs c (n * c)) (fun pre => ∃ k, k ≤ n * c ∧ plcs pre = locs c k) (n * c) w := fun l J Jx W hW _ _ hY h0 =>
  each1_in m l Bm hn hc J Jx hY W ((hW.cell (p := ⟨Bm, 0, none⟩) hBl).trans hBm) (hG.below hW hb hD) h0
end Go.Proofs.YtoahegjjffggaaaDoor
namespace Go.Rk
open Go.RowKit

def Dm (n c : Nat) (M : List (List Int)) : Prop := M.length = n ∧ ∀ i, i < n → (rowOf M i).length = c
def EntR (lo hi : Int) (n c : Nat) (M : List (List Int)) : Prop := ∀ i j, i < n → j < c → lo ≤ en M i j ∧ en M i j ≤ hi
def IsR (n c : Nat) (M : List (List Int)) (F : Nat → Nat → Int) : Prop := Dm n c M ∧ ∀ i j, i < n → j < c → en M i j = F i j

theorem Dm.setE {n c : Nat} {M : List (List Int)} (h : Dm n c M) (i j : Nat) (x : Int) : Dm n c (setE M i j x) :=
  ⟨by rw [setE_len]; exact h.1, fun r hr => by rw [setE_row_len]; exact h.2 r hr⟩
theorem Dm.en_set {n c : Nat} {M : List (List Int)} (h : Dm n c M) {i j r s : Nat} (x : Int) (hr : r < n) (hs : s < c) : en (Go.Rk.setE M i j x) r s = if i = r ∧ j = s then x else en M r s := by
  rw [en_setE, h.1, h.2 r hr]
  by_cases e : i = r ∧ j = s
  · rw [if_pos ⟨e.1, e.2, hr, hs⟩, if_pos e]
  · rw [if_neg fun e2 => e ⟨e2.1, e2.2.1⟩, if_neg e]
theorem Dm.ext {n c : Nat} {M N : List (List Int)} (h : Dm n c M) (h' : Dm n c N) (e : ∀ i j, i < n → j < c → en M i j = en N i j) : M = N :=
  en_ext (h.1.trans h'.1.symm) (fun k hk => by rw [h.2 k (by rw [← h.1]; exact hk), h'.2 k (by rw [← h.1]; exact hk)]) fun i j hi hj => e i j (by rw [← h.1]; exact hi) (by rw [← h.2 i (by rw [← h.1]; exact hi)]; exact hj)
theorem Dm.replicate (n c : Nat) (x : Int) : Dm n c (List.replicate n (List.replicate c x)) :=
  ⟨by simp, fun i hi => by rw [rowOf_lt (by simp; exact hi)]; simp⟩
theorem IsR.congr {n c : Nat} {M : List (List Int)} {F G : Nat → Nat → Int} (h : IsR n c M F) (e : ∀ i j, i < n → j < c → F i j = G i j) : IsR n c M G :=
  ⟨h.1, fun i j hi hj => by rw [h.2 i j hi hj, e i j hi hj]⟩

theorem locs_mem {n c i j : Nat} (hi : i < n) (hj : j < c) : (i, j) ∈ locs c (n * c) := by
  have h1 : (i * c + j) / c = i := by rw [Nat.mul_comm, Nat.mul_add_div (by omega), Nat.div_eq_of_lt hj, Nat.add_zero]
  have h2 : (i * c + j) % c = j := by rw [Nat.mul_comm, Nat.mul_add_mod, Nat.mod_eq_of_lt hj]
  exact List.mem_map.2 ⟨i * c + j, List.mem_range.2 (place_lt hi hj), by rw [h1, h2]⟩
theorem plcs_in {n c : Nat} {ok : Nat → Nat → Int → Prop} {pre : List (Plc n c ok)} {p : Nat × Nat} (h : p ∈ plcs pre) : p.1 < n ∧ p.2 < c := by
  obtain ⟨x, _, rfl⟩ := List.mem_map.1 h
  exact ⟨x.2.1, x.2.2.1⟩
theorem locs_nodup (c k : Nat) : (locs c k).Nodup := by
  unfold locs List.Nodup
  rw [List.pairwise_map]
  refine List.Pairwise.imp ?_ List.nodup_range
  intro a b hab e
  injection e with e1 e2
  exact hab (by rw [← Nat.div_add_mod a c, ← Nat.div_add_mod b c, e1, e2])

section
variable {w w' : World} {B T E g : Nat} {D C : Nat → Nat} {n c cap : Nat} {M : List (List Int)} {row : Option Nat}

theorem alloc_keep {p : Addr} {v : Value} {o : Obj} (h : w.cell? p = some v) : (w.alloc o).cell? p = some v :=
  (((Below.refl w.heap.size w).alloc (Nat.le_refl _) o).cell (World.block_lt_of_cell? w p h)).trans h

theorem set_keep {p q : Addr} {v u : Value} (h : w.cell? p = some v) (hne : p.block ≠ q.block) : (w.setCell q u).cell? p = some v :=
  (World.cell?_setCell_other _ _ _ _ (fun e => hne (by rw [e]))).trans h

theorem set_keepS {p q : Addr} {x : Option Addr} {y z : Nat} {u : Int} {v : Value} (h : w.cell? p = some (.slice x y z)) (hq : w.cell? q = some (.int .i64 u)) : (w.setCell q v).cell? p = some (.slice x y z) :=
  (World.cell?_setCell_other _ _ _ _ (fun e => by rw [← e, hq] at h; cases h)).trans h
theorem keepsOthers_drewN (w : World) (q : Nat) : KeepsOthers w (w.drewN q) :=
  ⟨(below_drewN (Below.refl 0 w) q).size, fun k _ h _ => (below_drewN (Below.refl (k + 1) w) q).block k (by omega) |>.trans h⟩

theorem keepBox {v : Value} {t : TypeId} {G : Prop} (h : Below (w.alloc (.cells #[v] t)).drew.heap.size (w.alloc (.cells #[v] t)).drew w')
    (hG : w'.cell? ⟨w.heap.size, 0, none⟩ = some v → w'.frozen? ⟨w.heap.size, 0, none⟩ = false → w'.cell? ⟨w.drew.heap.size, 0, none⟩ = some v → w'.frozen? ⟨w.drew.heap.size, 0, none⟩ = false → G) : G := by
  have h1 := (h.cell (p := ⟨w.heap.size, 0, none⟩) (by simp)).trans (c := some v) (by simp)
  have h2 := (h.frozen (p := ⟨w.heap.size, 0, none⟩) (by simp)).trans (c := false) (by simp)
  exact hG h1 h2 h1 h2

theorem ownsRow_notCells {size k : Nat} {v : Value} {xs : List Value} (h : w.ownsRow B T size v k xs) (hr : ∀ r, row = some r → ∃ o : Obj, w.heap[r]? = some o ∧ o.isCells = false) : v.ownBlock = none ∨ v.ownBlock ≠ row := by
  rcases h.2 with ⟨rfl, _⟩ | ⟨g, c, cur, rfl, _, hg, _⟩
  · exact .inl rfl
  · refine .inr fun e => ?_
    obtain ⟨o, ho, hc⟩ := hr g (by rw [← e]; rfl)
    rw [hg] at ho
    cases ho
    cases hc

/-- What a value owns depends on its own block alone. -/
theorem ownsRow_same {size k : Nat} {v : Value} {xs : List Value} (h : w.ownsRow B T size v k xs) (hb : ∀ b, v.ownBlock = some b → w'.heap[b]? = w.heap[b]?) : w'.ownsRow B T size v k xs := by
  obtain ⟨h1, h2⟩ := h
  refine ⟨h1, ?_⟩
  rcases h2 with h2 | ⟨g, c, cur, hv, hB, hg, hr⟩
  · exact .inl h2
  · exact .inr ⟨g, c, cur, hv, hB, by rw [hb g (by rw [hv]; rfl)]; exact hg, hr⟩
/-- All is as it was but for the rows' own blocks. -/
def KeptBut (n : Nat) (D : Nat → Nat) (w w' : World) : Prop := w.heap.size ≤ w'.heap.size ∧ ∀ b, b < w.heap.size → (∀ i, i < n → b ≠ D i) → w'.heap[b]? = w.heap[b]?
theorem KeptBut.refl (n : Nat) (D : Nat → Nat) (w : World) : KeptBut n D w w := ⟨Nat.le_refl _, fun _ _ _ => rfl⟩
theorem KeptBut.set {D : Nat → Nat} {w w' : World} (h : KeptBut n D w w') {i j : Nat} (hi : i < n) (u : Value) : KeptBut n D w (w'.setCell ⟨D i, j, none⟩ u) :=
  ⟨Nat.le_trans h.1 (by simp), fun b hb hne => (Below.heap_setCell _ _ _ _ (fun e => hne i hi e)).trans (h.2 b hb hne)⟩
theorem KeptBut.drew {D : Nat → Nat} {w w' : World} (h : KeptBut n D w w') : KeptBut n D w w'.drew := ⟨h.1, h.2⟩
theorem OwI.keptBut {a : Option Addr} {m cap : Nat} {l : List Int} {D : Nat → Nat} (h : OwI w B E a m cap l) (hk : KeptBut n D w w') (hD : ∀ i, i < n → D i < B) : OwI w' B E a m cap l :=
  ⟨h.len_eq, ownsRow_same h.own fun b hb => by
    have := h.own.lt b hb
    exact hk.2 b this.2 fun i hi e => by have := hD i hi; omega⟩
theorem OwMD.grownPast (h : OwMD w B T E g D C n cap M) {b : Nat} (hg : w.grownBy w' row) (hr : ∀ r, row = some r → b ≤ r) (h1 : g < b) (h2 : ∀ i, i < n → D i < b) : OwMD w' B T E g D C n cap M :=
  ⟨h.len_eq, h.outer.kept hg (.inr fun e => by have := hr g e.symm; omega), fun i hi => (h.rows i hi).grown hg (.inr fun e => by have := hr (D i) e.symm; have := h2 i hi; omega), h.inj⟩

theorem OwMD.mono {B' : Nat} (h : OwMD w B T E g D C n cap M) (hb : B' ≤ B) : OwMD w B' T E g D C n cap M :=
  ⟨h.len_eq, h.outer.mono hb, fun i hi => (h.rows i hi).mono hb, h.inj⟩

theorem OwMD.passes (h : OwMD w B T E g D C n cap M) (hg : w.grownBy w' row) (hr : ∀ r, row = some r → ∃ o : Obj, w.heap[r]? = some o ∧ o.isCells = false) : OwMD w' B T E g D C n cap M :=
  ⟨h.len_eq, h.outer.kept hg (ownsRow_notCells h.outer hr), fun i hi => (h.rows i hi).grown hg (ownsRow_notCells (h.rows i hi).own hr), h.inj⟩

theorem OwMD.grid (h : OwMD w B T E g D C n cap M) (hd : Dm n c M) {ok : Nat → Nat → Int → Prop} (hok : ∀ i j, i < n → j < c → ok i j (en M i j)) : Grid n c g 0 D (fun _ => 0) C ok w :=
  ⟨fun k hk => by rw [Nat.zero_add, h.cellO hk, hd.2 k hk], fun k j hk hj => ⟨_, by rw [Nat.zero_add]; exact h.cellI hk (by rw [hd.2 k hk]; exact hj), hok k j hk hj⟩⟩

theorem RdM.grid {a : Option Addr} (h : RdM w a n cap M) (hd : Dm n c M) (hn : 0 < n) (hc : 0 < c) : ∃ b off D O C, a = some ⟨b, off, none⟩ ∧ b < w.heap.size ∧ (∀ k, k < n → D k < w.heap.size) ∧ Grid n c b off D O C (fun i j v => v = en M i j) w := by
  obtain ⟨b, off, ha, hb, hr⟩ := h.at hn
  have hr' : ∀ i, i < n → ∃ y : Nat × Nat × Nat, w.cell? ⟨b, off + i, none⟩ = some (.slice (some ⟨y.1, y.2.1, none⟩) c y.2.2) ∧ y.1 < w.heap.size ∧ ∀ j, j < c → w.cell? ⟨y.1, y.2.1 + j, none⟩ = some (.int .i64 (en M i j)) := by
    intro i hi
    obtain ⟨ar, cr, hcell, hrd⟩ := hr i hi
    rw [hd.2 i hi] at hcell hrd
    obtain ⟨p, o, rfl, hp, hx⟩ := hrd.at hc
    exact ⟨(p, o, cr), hcell, hp, hx⟩
  obtain ⟨y, hy⟩ := Go.Deep.choose_lt hr'
  exact ⟨b, off, fun i => (y i).1, fun i => (y i).2.1, fun i => (y i).2.2, ha, hb, fun k hk => (hy k hk).2.1, fun k hk => (hy k hk).1, fun k j hk hj => ⟨_, (hy k hk).2.2 j hj, rfl⟩⟩

variable {b off : Nat} {O : Nat → Nat} {ok : Nat → Nat → Int → Prop}
theorem Grid.fresh (h : Grid n c b off D O C ok w) (hk : Below w.heap.size w w') : Grid n c b off D O C ok w' :=
  ⟨fun k hk2 => (hk.cell (World.block_lt_of_cell? w _ (h.hdr k hk2))).trans (h.hdr k hk2), fun k j hk2 hj => let ⟨v, hv, ho⟩ := h.el k j hk2 hj; ⟨v, (hk.cell (World.block_lt_of_cell? w _ hv)).trans hv, ho⟩⟩
theorem Grid.passes (h : Grid n c b off D O C ok w) (hg : w.grownBy w' row) (hr : ∀ r, row = some r → ∃ o : Obj, w.heap[r]? = some o ∧ o.isCells = false) : Grid n c b off D O C ok w' :=
  ⟨fun k hk2 => cell_kept (h.hdr k hk2) hg hr, fun k j hk2 hj => let ⟨v, hv, ho⟩ := h.el k j hk2 hj; ⟨v, cell_kept hv hg hr, ho⟩⟩
/-- A number stored where a number lies. -/
theorem Grid.setInt (h : Grid n c b off D O C ok w) {p : Addr} {u x : Int} (hp : w.cell? p = some (.int .i64 u)) (hx : ∀ k j, k < n → j < c → ok k j x) : Grid n c b off D O C ok (w.setCell p (.int .i64 x)) := by
  refine ⟨fun k hk => ?_, fun k j hk hj => ?_⟩
  · rw [World.cell?_setCell_other _ _ _ _ (fun e => by have := h.hdr k hk; rw [← e, hp] at this; cases this)]
    exact h.hdr k hk
  · obtain ⟨v, hv, ho⟩ := h.el k j hk hj
    by_cases e : (⟨D k, O k + j, none⟩ : Addr) = p
    · subst e
      exact ⟨x, World.cell?_setCell_same _ _ _ hv, hx k j hk hj⟩
    · exact ⟨v, (World.cell?_setCell_other _ _ _ _ (Ne.symm e)).trans hv, ho⟩
end
end Go.Rk
