/-
  The walks of the references' small functions, and of the small functions of the statements' own packages.
  Short words: what grows, and grows again; slices and matrices of two, read off their cells. No program in sight.
  The walk of det.Sign: an order's sign, by its cycles.
-/
import Derived.Test.YtkielldinghmbaaDoorRows
import Derived.Deep.QuietTactic
import Derived.BigQuiet
import Derived.Test.YtkielldinghmbaaDoorMgSolveSaysF0
import Derived.Test.YtkielldinghmbaaDoorMgSolveSaysF1
namespace Go.Proofs.YtkielldinghmbaaDoor
open Go.RowKit Go.Rk

def inB (n lo hi : Int) : Bool := decide (lo ≤ n) && decide (n ≤ hi)
theorem inB_true {a lo hi : Int} (h : inB a lo hi = true) : lo ≤ a ∧ a ≤ hi := by
  unfold inB at h
  simp only [Bool.and_eq_true, decide_eq_true_eq] at h
  exact h

theorem R_in_any (n lo hi : Int) (w : World) :
    Calls Tryd.prog 80 #[.int .i64 n, .int .i64 lo, .int .i64 hi] w fun e w' => e = .returned (.bool (inB n lo hi)) ∧ w = w' := by
  by_cases h : lo ≤ n
  all_goals
    go_enter Tryd.func80, Tryd.ntmps80
    go_wp2
    all_goals (go_ret; refine ⟨congrArg (fun b => Ending.returned (.bool b)) ?_, rfl⟩; unfold inB; simp; try omega)
theorem L2_in_any (n lo hi : Int) (w : World) :
    Calls Tryd.prog 26 #[.int .i64 n, .int .i64 lo, .int .i64 hi] w fun e w' => e = .returned (.bool (inB n lo hi)) ∧ w = w' := by
  by_cases h : lo ≤ n
  all_goals
    go_enter Tryd.func26, Tryd.ntmps26
    go_wp2
    all_goals (go_ret; refine ⟨congrArg (fun b => Ending.returned (.bool b)) ?_, rfl⟩; unfold inB; simp; try omega)
theorem R_Mod_any (n : Int) (w : World) (h1 : -9223372036854775808 ≤ n) (h2 : n ≤ 9223372036854775807) :
    Calls Tryd.prog 47 #[.int .i64 n] w fun e w' => e = .returned (.int .i64 (n % 9973)) ∧ w = w' := by
  rcases Int.lt_or_le n 0 with h | h
  · have t := tmod_neg n h
    rcases Int.lt_or_le (n.tmod 9973) 0 with h3 | h3
    · have t1 := t.1
      have T2 := Lib.hid (t.2.1 h3)
      clear t
      go_enter Tryd.func47, Tryd.ntmps47
      go_wp2
      go_ret
      exact ⟨congrArg (fun x => Ending.returned (.int .i64 x)) T2.out.symm, rfl⟩
    · have t1 := t.1
      have T2 := Lib.hid (t.2.2 h3)
      clear t
      go_enter Tryd.func47, Tryd.ntmps47
      go_wp2
      go_ret
      exact ⟨congrArg (fun x => Ending.returned (.int .i64 x)) T2.out.symm, rfl⟩
  · go_enter Tryd.func47, Tryd.ntmps47
    go_wp2
    go_ret
    exact ⟨rfl, rfl⟩
def allB (lo hi : Int) (l : List Int) : Bool := l.all fun n => inB n lo hi
theorem allB_take (lo hi : Int) {l : List Int} {k : Nat} (h : k < l.length) (h0 : allB lo hi (l.take k) = true) (h1 : inB (ix l k) lo hi = true) : allB lo hi (l.take (k + 1)) = true := by
  rw [take_succ_ix h]
  unfold allB at *
  simp only [List.all_append, h0, List.all_cons, h1, List.all_nil, Bool.and_true]
theorem allB_miss (lo hi : Int) {l : List Int} {k : Nat} (h : k < l.length) (h1 : inB (ix l k) lo hi = false) : allB lo hi l = false := by
  unfold allB
  exact List.all_eq_false.2 ⟨_, ix_mem h, by rw [h1]; simp⟩
set_option maxHeartbeats 400000 in
theorem R_All_any {a : Option Addr} {len cap : Nat} {l : List Int} (lo hi : Int) {w : World} (h : RdI w a len cap l) :
    Calls Tryd.prog 50 #[.slice a len cap, .int .i64 lo, .int .i64 hi] w fun e w' => e = .returned (.bool (allB lo hi l)) ∧ w = w' := by
  have hm := h.len_max
  go_enter Tryd.func50, Tryd.ntmps50
  go_wp2
  go_loop [7] (fun i => ∃ k : Nat, k ≤ len ∧ i = .int .i64 k ∧ Hid (allB lo hi (l.take k) = true)) (fun i => len - (intOf i).toNat)
  case atStart => exact ⟨0, Nat.zero_le _, rfl, rfl⟩
  case round =>
    obtain ⟨k, hk, rfl, hno⟩ := hrel
    by_cases hlt : k < len
    · obtain ⟨b, off, rfl, _, hc⟩ := h.at hlt
      have hc := hc k hlt
      have hl : k < l.length := by have := h.len_eq; omega
      rcases ho : inB (ix l k) lo hi
      · have Ho := Lib.hid ho
        clear ho
        go_wp2_with (go_at_call 80; refine (R_in_any _ _ _ _).mono ?_; rintro e w' ⟨rfl, rfl⟩; rw [Ho.out])
        go_ret
        exact ⟨congrArg (fun b => Ending.returned (.bool b)) (allB_miss _ _ hl Ho.out).symm, rfl⟩
      · have Ho := Lib.hid ho
        clear ho
        go_wp2_with (go_at_call 80; refine (R_in_any _ _ _ _).mono ?_; rintro e w' ⟨rfl, rfl⟩; rw [Ho.out])
        go_round
        case rel => exact ⟨k + 1, by omega, by go_num, allB_take _ _ hl hno Ho.out⟩
        case measure => simp [intOf]; omega
    · go_wp2
      go_ret
      refine ⟨congrArg (fun b => Ending.returned (.bool b)) ?_, rfl⟩
      rw [← hno.out, List.take_of_length_le (by have := h.len_eq; omega)]
theorem allB_in {l : List Int} {lo hi : Int} (h : allB lo hi l = true) : In lo hi l := by
  intro k hk
  have h1 := List.all_eq_true.1 h (ix l k) (ix_mem hk)
  simp [inB] at h1
  omega
set_option maxHeartbeats 400000 in
theorem Ints_q {a a2 : Option Addr} {len cap len2 cap2 : Nat} {l m : List Int} {w : World} (h : RdI w a len cap l) (h2 : RdI w a2 len2 cap2 m) :
    Calls Tryd.prog 32 #[.slice a len cap, .slice a2 len2 cap2] w fun e w' => e = .returned (.bool (decide (l = m))) ∧ ∃ q, w' = w.drewN q := by
  have hm := h.len_max
  have E1 := Lib.hid h.len_eq
  have E2 := Lib.hid h2.len_eq
  by_cases hl : len = len2
  · subst hl
    go_enter Tryd.func32, Tryd.ntmps32
    go_wp2
    go_loopw [5] (fun i wr => ∃ k : Nat, k ≤ len ∧ i = .int .i64 k ∧ Hid (l.take k = m.take k) ∧ ∃ q, wr = w.drewN q) (fun i _ => len - (intOf i).toNat)
    case atStart => exact ⟨0, Nat.zero_le _, rfl, rfl, 0, rfl⟩
    case round =>
      obtain ⟨k, hk, rfl, heq, q, rfl⟩ := hrel
      by_cases hlt : k < len
      · obtain ⟨b, off, rfl, _, hc⟩ := h.at hlt
        obtain ⟨b2, off2, rfl, _, hc2⟩ := h2.at hlt
        have hc := hc k hlt
        have hc2 := hc2 k hlt
        have hlt' : (k : Int) < (len : Int) := by omega
        by_cases he : ix l k = ix m k
        · have He : (ix l k != ix m k) = false := by simp [he]
          have He2 := Lib.hid he
          clear he
          go_wp2
          go_quiet (fail)
          go_wp2
          go_roundw
          case rel => exact ⟨k + 1, by omega, by go_num, by unfold Hid; rw [take_succ_ix (by rw [E1.out]; exact hlt), take_succ_ix (by rw [E2.out]; exact hlt), heq.out, He2.out], q + nq, by simp⟩
          case measure => simp [intOf]; omega
        · have He : (ix l k != ix m k) = true := by simp [he]
          have He2 := Lib.hid he
          clear he
          go_wp2
          go_quiet (fail)
          go_wp2
          go_ret
          refine ⟨congrArg (fun b => Ending.returned (.bool b)) (decide_eq_false ?_).symm, q + nq, by simp [World.drewN_drewN]⟩
          intro hlm
          exact He2.out (by rw [hlm])
      · go_wp2
        go_ret
        refine ⟨congrArg (fun b => Ending.returned (.bool b)) (decide_eq_true ?_).symm, q, rfl⟩
        have := heq.out
        rwa [List.take_of_length_le (by rw [E1.out]; omega), List.take_of_length_le (by rw [E2.out]; omega)] at this
  · have hne : ((len : Int) != (len2 : Int)) = true := by simp; omega
    have Hl := Lib.hid hl
    clear hl
    go_enter Tryd.func32, Tryd.ntmps32
    go_wp2
    go_ret
    refine ⟨congrArg (fun b => Ending.returned (.bool b)) (decide_eq_false ?_).symm, 0, rfl⟩
    intro hlm
    exact Hl.out (by rw [← E1.out, ← E2.out, hlm])

theorem Ints_any {a a2 : Option Addr} {len cap len2 cap2 : Nat} {l m : List Int} {w : World} (h : RdI w a len cap l) (h2 : RdI w a2 len2 cap2 m) :
    Calls Tryd.prog 32 #[.slice a len cap, .slice a2 len2 cap2] w fun e w' => e = .returned (.bool (decide (l = m))) ∧ Below w.heap.size w w' :=
  (Ints_q h h2).mono fun _ _ ⟨he, q, hq⟩ => ⟨he, by rw [hq]; exact below_drewN (Below.refl _ _) q⟩
set_option maxHeartbeats 400000 in
theorem Rows_q {a a2 : Option Addr} {len cap len2 cap2 : Nat} {M N : List (List Int)} {w : World} (h : RdM w a len cap M) (h2 : RdM w a2 len2 cap2 N) :
    Calls Tryd.prog 21 #[.slice a len cap, .slice a2 len2 cap2] w fun e w' => e = .returned (.bool (decide (M = N))) ∧ ∃ q, w' = w.drewN q := by
  have hm := h.len_max
  have E1 := Lib.hid h.len_eq
  have E2 := Lib.hid h2.len_eq
  by_cases hl : len = len2
  · subst hl
    go_enter Tryd.func21, Tryd.ntmps21
    go_wp2
    go_loopw [5] (fun i wr => ∃ k : Nat, k ≤ len ∧ i = .int .i64 k ∧ Hid (M.take k = N.take k) ∧ ∃ q, wr = w.drewN q) (fun i _ => len - (intOf i).toNat)
    case atStart => exact ⟨0, Nat.zero_le _, rfl, rfl, 0, rfl⟩
    case round =>
      obtain ⟨k, hk, rfl, heq, q, hq⟩ := hrel
      have h' : RdM wr a len cap M := by rw [hq]; exact h.below (below_drewN (Below.refl _ _) q)
      have h2' : RdM wr a2 len cap2 N := by rw [hq]; exact h2.below (below_drewN (Below.refl _ _) q)
      have HQ := Lib.hid hq
      clear hq
      by_cases hlt : k < len
      · obtain ⟨b, off, rfl, _, hr⟩ := h'.at hlt
        obtain ⟨b2, off2, rfl, _, hr2⟩ := h2'.at hlt
        obtain ⟨ar, cr, hc, hrd⟩ := hr k hlt
        obtain ⟨ar2, cr2, hc2, hrd2⟩ := hr2 k hlt
        have hlt' : (k : Int) < (len : Int) := by omega
        have CI : ∀ q, Calls Tryd.prog 32 #[.slice ar (rowOf M k).length cr, .slice ar2 (rowOf N k).length cr2] (wr.drewN q) fun e w' => e = .returned (.bool (decide (rowOf M k = rowOf N k))) ∧ ∃ m, w' = (wr.drewN q).drewN m := fun q => Ints_q (hrd.drewN q) (hrd2.drewN q)
        by_cases he : rowOf M k = rowOf N k
        · have He : decide (rowOf M k = rowOf N k) = true := by simp [he]
          rw [He] at CI
          have HCI := Lib.hid CI
          have He2 := Lib.hid he
          clear he CI He
          go_wp2
          go_quiet ((go_at_call 32; exact Calls.quiet_of (HCI.out _)))
          go_wp2
          go_roundw
          case rel => exact ⟨k + 1, by omega, by go_num, by unfold Hid; rw [take_succ_row (by rw [E1.out]; exact hlt), take_succ_row (by rw [E2.out]; exact hlt), heq.out, He2.out], q + nq, by rw [HQ.out, World.drewN_drewN]⟩
          case measure => simp [intOf]; omega
        · have He : decide (rowOf M k = rowOf N k) = false := by simp [he]
          rw [He] at CI
          have HCI := Lib.hid CI
          have He2 := Lib.hid he
          clear he CI He
          go_wp2
          go_quiet ((go_at_call 32; exact Calls.quiet_of (HCI.out _)))
          go_wp2
          go_ret
          refine ⟨congrArg (fun b => Ending.returned (.bool b)) (decide_eq_false ?_).symm, q + nq, by rw [HQ.out, World.drewN_drewN]⟩
          intro hlm
          exact He2.out (by rw [hlm])
      · go_wp2
        go_ret
        refine ⟨congrArg (fun b => Ending.returned (.bool b)) (decide_eq_true ?_).symm, q, HQ.out⟩
        have := heq.out
        rwa [List.take_of_length_le (by rw [E1.out]; omega), List.take_of_length_le (by rw [E2.out]; omega)] at this
  · have hne : ((len : Int) != (len2 : Int)) = true := bne_iff_ne.2 (by omega)
    have Hl := Lib.hid hl
    clear hl
    go_enter Tryd.func21, Tryd.ntmps21
    go_wp2
    go_ret
    refine ⟨congrArg (fun b => Ending.returned (.bool b)) (decide_eq_false ?_).symm, 0, rfl⟩
    intro hlm
    exact Hl.out (by rw [← E1.out, ← E2.out, hlm])

theorem Rows_any {a a2 : Option Addr} {len cap len2 cap2 : Nat} {l m : List (List Int)} {w : World} (h : RdM w a len cap l) (h2 : RdM w a2 len2 cap2 m) :
    Calls Tryd.prog 21 #[.slice a len cap, .slice a2 len2 cap2] w fun e w' => e = .returned (.bool (decide (l = m))) ∧ Below w.heap.size w w' :=
  (Rows_q h h2).mono fun _ _ ⟨he, q, hq⟩ => ⟨he, by rw [hq]; exact below_drewN (Below.refl _ _) q⟩
set_option maxHeartbeats 400000 in
theorem R_Copy_any {a : Option Addr} {n cap : Nat} {M : List (List Int)} {w : World} (h : RdM w a n cap M) (hn : n ≤ 1000) (hl : ∀ k, k < n → (rowOf M k).length ≤ 1000) :
    Calls Tryd.prog 60 #[.slice a n cap] w fun e w' => ∃ a' cap', e = .returned (.slice a' n cap') ∧ OwM w' w.heap.size 32 3 a' n cap' M ∧ Below w.heap.size w w' := by
  have HM := Lib.hid matTy
  have E1 := Lib.hid h.len_eq
  have hb0 : Below w.heap.size w w := Below.refl _ _
  go_enter Tryd.func60, Tryd.ntmps60
  go_wp2
  go_loopw [3, 4] (fun v i wr => ∃ (k : Nat) (q : Option Addr) (cq : Nat), k ≤ n ∧ i = .int .i64 k ∧ v = .slice q k cq ∧ OwM wr w.heap.size 32 3 q k cq (M.take k) ∧ Below w.heap.size w wr) (fun _ i _ => n - (intOf i).toNat)
  case atStart => exact ⟨0, none, 0, Nat.zero_le _, rfl, rfl, OwM.nil _ _ _ _, hb0⟩
  case round =>
    obtain ⟨k, q, cq, hk, rfl, rfl, ho, hb⟩ := hrel
    by_cases hlt : k < n
    · have hsz := hb.size
      obtain ⟨b, off, rfl, hbl, hr⟩ := h.at hlt
      obtain ⟨ar, cr, hc, hrd⟩ := hr k hlt
      have hc := hb.keep hbl hc
      have hrd := hrd.below hb
      have hlk := hl k hlt
      have tok1 : True := trivial
      go_wp2_with (first
        | (at_builtin; have _t := tok1; refine wpList_append_ints HM.out.int rfl (.tmp 12) (.tmp 16) rfl rfl rfl (OwI.nil wr wr.heap.size _) hrd (by omega) (Nat.le_refl _) ?_; intro a3 cap3 w3 ho3 hg3; have hb3 := below_of_grown hg3; clear tok1; rw [Nat.zero_add, List.nil_append] at ho3)
        | (at_builtin; refine wpList_push_row HM.out rfl (.tmp 18) (.tmp 20) rfl rfl rfl ho (hb3.alloc hb3.size _) (ho3.below ((Below.refl _ _).alloc (Nat.le_refl _) _)) (by simp) (by omega) hsz ?_; intro a4 cap4 w4 ho4 hb4))
      have hb5 := ((hb.trans (hb3.mono hsz)).alloc (Nat.le_trans hsz hb3.size) _).trans hb4
      go_roundw
      case rel => exact ⟨k + 1, a4, cap4, by omega, by go_num, rfl, by rw [take_succ_row (by rw [E1.out]; exact hlt)]; exact ho4, hb5⟩
      case measure => simp [intOf]; omega
    · obtain rfl : k = n := by omega
      go_wp2
      go_ret
      refine ⟨q, cq, rfl, ?_, hb⟩
      rw [List.take_of_length_le (by rw [E1.out]; exact Nat.le_refl _)] at ho
      exact ho
end Go.Proofs.YtkielldinghmbaaDoor
namespace Go.Proofs.YtkielldinghmbaaDoor
open Go.RowKit Go.Rk

theorem rd2 {w : World} {b : Nat} {x y : Int} (h0 : w.cell? ⟨b, 0, none⟩ = some (.int .i64 x)) (h1 : w.cell? ⟨b, 1, none⟩ = some (.int .i64 y)) : RdI w (some ⟨b, 0, none⟩) 2 2 [x, y] := by
  refine ⟨rfl, Nat.le_refl _, by decide, fun k hk => ⟨b, 0, rfl, ?_⟩⟩
  rcases k with _ | k
  · exact h0
  · obtain rfl : k = 0 := by omega
    exact h1
/-- A written matrix of two rows of two numbers. -/
theorem rd22 {w : World} {b p q : Nat} {x y z u : Int} (h0 : w.cell? ⟨b, 0, none⟩ = some (.slice (some ⟨p, 0, none⟩) 2 2)) (h1 : w.cell? ⟨b, 1, none⟩ = some (.slice (some ⟨q, 0, none⟩) 2 2))
    (c0 : w.cell? ⟨p, 0, none⟩ = some (.int .i64 x)) (c1 : w.cell? ⟨p, 1, none⟩ = some (.int .i64 y)) (c2 : w.cell? ⟨q, 0, none⟩ = some (.int .i64 z)) (c3 : w.cell? ⟨q, 1, none⟩ = some (.int .i64 u)) :
    RdM w (some ⟨b, 0, none⟩) 2 2 [[x, y], [z, u]] := RdM.two h0 (rd2 c0 c1) h1 (rd2 c2 c3)

theorem below_al {w w' : World} (h : Below w.heap.size w w') (o : Obj) : Below w.heap.size w (w'.alloc o) := h.alloc h.size o
theorem below_tr {w w' w2 : World} (h : Below w.heap.size w w') (k : Below w'.heap.size w' w2) : Below w.heap.size w w2 := h.trans (k.mono h.size)
end Go.Proofs.YtkielldinghmbaaDoor
namespace Go.Rk
open Go.RowKit

def bx (l : List Bool) (k : Nat) : Bool := l.getD k false
theorem bx_set (l : List Bool) (k j : Nat) (x : Bool) : bx (l.set k x) j = if k = j ∧ j < l.length then x else bx l j := by
  simp only [bx, List.getD, List.getElem?_set]
  by_cases h1 : k = j
  · subst h1
    by_cases h2 : k < l.length <;> simp [h2]
  · simp [h1]

/-- A slice of bools of the call's own. -/
structure OwB (w : World) (B E : Nat) (a : Option Addr) (n cap : Nat) (l : List Bool) : Prop where
  len_eq : l.length = n
  own : w.ownsRow B E 1 (.slice a n cap) n (l.map Value.bool)

structure BoolTy (P : Program) (T E : TypeId) : Prop where
  ht : P.underlying T = some (.slice E)
  hi : ∃ i, P.info? E = some i ∧ i.zero = some (.bool false) ∧ i.size = 1 ∧ i.bytes = 1

section
variable {w w' : World} {B E : Nat} {a : Option Addr} {n cap : Nat} {l : List Bool}
theorem OwB.at (h : OwB w B E a n cap l) (hn : 0 < n) :
    ∃ g, a = some ⟨g, 0, none⟩ ∧ B ≤ g ∧ g < w.heap.size ∧ (∀ i, i < n → w.cell? ⟨g, i, none⟩ = some (.bool (bx l i))) ∧ ∀ i, w.frozen? ⟨g, i, none⟩ = false := by
  obtain ⟨g, c, hv, hb, hlt⟩ := h.own.form hn
  injection hv with ha _ hc
  subst ha; subst hc
  refine ⟨g, rfl, hb, hlt, fun i hi => ?_, fun i => h.own.frozenAt i⟩
  rw [h.own.cellAt i (by omega), List.getElem?_map, List.getElem?_eq_getElem (by rw [h.len_eq]; exact hi)]
  simp [bx, List.getD, h.len_eq, hi]
theorem OwB.below (h : OwB w B E a n cap l) (hb : Below w.heap.size w w') : OwB w' B E a n cap l :=
  ⟨h.len_eq, h.own.kept (row := none) ⟨hb.os, hb.tape, hb.output, hb.size, fun k hk _ => hb.block k hk⟩ (by cases (Value.slice a n cap).ownBlock <;> simp)⟩
theorem OwB.set {g k : Nat} (h : OwB w B E (some ⟨g, 0, none⟩) n cap l) (x : Bool) : OwB (w.setCell ⟨g, k, none⟩ (.bool x)) B E (some ⟨g, 0, none⟩) n cap (l.set k x) :=
  ⟨by rw [List.length_set]; exact h.len_eq, by rw [List.map_set]; exact (h.own.stored k _).1⟩
end

theorem wpList_make_bools {P : Program} {T E : TypeId} {w : World} (hT : BoolTy P T E) {ops : Array Oper} {rest : List Oper} {o : Oper} {ac : Act} {Q : Exit → Act → World → Prop} (hgd : o.guard = none) (x y : Operand) (ho : o.op = .makeSlice T x y)
    {n : Nat} (hx : ac.eval x = .int .i64 n) (hy : ac.eval y = .int .i64 n) (hn : n ≤ 1000000)
    (h : ∀ w', OwB w' w.heap.size E (some ⟨w.heap.size, 0, none⟩) n n (List.replicate n false) → Below w.heap.size w w' → wpList P ops Q rest (ac.put o.dst (.slice (some ⟨w.heap.size, 0, none⟩) n n)) w') : wpList P ops Q (o :: rest) ac w := by
  obtain ⟨i, hi, hz, hs, hby⟩ := hT.hi
  refine wpList_make_full w hgd x y T ho w.heap.size E i (.bool false) 1 hT.ht hi hz hs .i64 .i64 n n n hx hy rfl rfl (by rw [hby]; omega) (by unfold maxLen; omega) (Nat.le_refl _) fun w' h1 h2 => h w' ⟨by simp, ?_⟩ (below_of_grown h2)
  have : (madeCells (Value.bool false).cells (n * 1)).toList = (List.replicate n false).map Value.bool := by
    rw [Nat.mul_one, List.map_replicate]
    exact toList_madeCells_one _ n
  rw [this] at h1
  exact h1

/-- Which numbers have been met in the first k places. -/
def metN (l : List Int) (n : Nat) : Nat → List Bool
  | 0 => List.replicate n false
  | k + 1 => (metN l n k).set (ix l k).toNat true
/-- Nothing is wrong in the first k places: each number a place, none of them twice. -/
def okN (l : List Int) (n : Nat) : Nat → Bool
  | 0 => true
  | k + 1 => okN l n k && !(decide (ix l k < 0) || decide ((n : Int) - 1 < ix l k)) && !bx (metN l n k) (ix l k).toNat

theorem metN_len (l : List Int) (n k : Nat) : (metN l n k).length = n := by
  induction k with
  | zero => simp [metN]
  | succ k ih => simp [metN, ih]

theorem okN_le {l : List Int} {n : Nat} : ∀ {k}, okN l n k = true → ∀ j, j < k → 0 ≤ ix l j ∧ ix l j ≤ (n : Int) - 1 := by
  intro k
  induction k with
  | zero => intro _ j hj; omega
  | succ k ih =>
    intro h j hj
    simp only [okN, Bool.and_eq_true, Bool.not_eq_true', Bool.or_eq_false_iff, decide_eq_false_iff_not] at h
    rcases Nat.lt_or_ge j k with h1 | h1
    · exact ih h.1.1 j h1
    · obtain rfl : j = k := by omega
      omega

theorem okN_false {l : List Int} {n k m : Nat} (h : okN l n k = false) (hkm : k ≤ m) : okN l n m = false := by
  induction m with
  | zero => obtain rfl : k = 0 := by omega
            exact h
  | succ m ih =>
    rcases Nat.lt_or_ge m k with h1 | h1
    · obtain rfl : k = m + 1 := by omega
      exact h
    · rw [okN, ih h1]; rfl

/-- One cycle from k on: what has been done, and how long it is. -/
def cycF (l : List Int) : Nat → List Bool → Nat → Nat → List Bool × Nat
  | 0, d, _, g => (d, g)
  | f + 1, d, k, g => if bx d k then (d, g) else cycF l f (d.set k true) (ix l k).toNat (g + 1)
def cycN (l : List Int) (n : Nat) : Nat → List Bool × Int
  | 0 => (List.replicate n false, 1)
  | i + 1 => ((cycF l (n + 1) (cycN l n i).1 i 0).1, if 0 < (cycF l (n + 1) (cycN l n i).1 i 0).2 ∧ (cycF l (n + 1) (cycN l n i).1 i 0).2 % 2 = 0 then -(cycN l n i).2 else (cycN l n i).2)
/-- An order's sign. -/
def signC (l : List Int) : Int := if okN l l.length l.length then (cycN l l.length l.length).2 else 0

def cntF (d : List Bool) : Nat := (d.filter fun b => !b).length
theorem cntF_set {d : List Bool} {k : Nat} (hk : k < d.length) (h : bx d k = false) : cntF (d.set k true) + 1 = cntF d := by
  induction d generalizing k with
  | nil => simp at hk
  | cons x d ih =>
    cases k with
    | zero =>
      have : x = false := by simpa [bx] using h
      subst this
      simp [cntF]
    | succ k =>
      have h2 : bx d k = false := by simpa [bx] using h
      have := ih (by simpa using hk) h2
      simp only [cntF, List.set_cons_succ, List.filter_cons] at *
      cases x <;> simp <;> omega
theorem cntF_le (d : List Bool) : cntF d ≤ d.length := List.length_filter_le _ _

theorem cycF_len (l : List Int) : ∀ (f : Nat) (d : List Bool) (k g : Nat), (cycF l f d k g).1.length = d.length ∧ (cycF l f d k g).2 ≤ g + f := by
  intro f
  induction f with
  | zero => intro d k g; exact ⟨rfl, Nat.le_refl _⟩
  | succ f ih =>
    intro d k g
    rw [cycF]
    split
    · exact ⟨rfl, by omega⟩
    · have := ih (d.set k true) (ix l k).toNat (g + 1)
      simp only [List.length_set] at this
      omega

theorem cycN_len (l : List Int) (n i : Nat) : (cycN l n i).1.length = n ∧ ((cycN l n i).2 = 1 ∨ (cycN l n i).2 = -1) := by
  induction i with
  | zero => simp [cycN]
  | succ i ih =>
    simp only [cycN]
    refine ⟨by rw [(cycF_len l _ _ _ _).1, ih.1], ?_⟩
    split <;> omega
end Go.Rk
namespace Go.Proofs.YtkielldinghmbaaDoor
open Go.RowKit Go.Rk

theorem infoBool : (Tryd.prog.info? 4).map (fun i => (i.zero, i.size, i.bytes)) = some (some (.bool false), 1, 1) := by kernel_rfl
theorem boolTy : BoolTy Tryd.prog 80 4 := by
  obtain ⟨i0, hi, h0, h1, h2⟩ := info_parts infoBool
  exact ⟨Tryd.underlying80, ⟨i0, hi, h0, h1, h2⟩⟩

set_option maxHeartbeats 2000000 in
theorem Sign_any {a : Option Addr} {n cap : Nat} {l : List Int} {w : World} (h : RdI w a n cap l) (hn : n ≤ 1000) :
    Calls Tryd.prog 40 #[.slice a n cap] w fun e w' => e = .returned (.int .i64 (signC l)) ∧ Below w.heap.size w w' := by
  have E1 := Lib.hid h.len_eq
  have HB := Lib.hid boolTy
  have hb0 : Below w.heap.size w w := Below.refl _ _
  go_enter Tryd.func40, Tryd.ntmps40
  go_wp2_with (at_make; refine wpList_make_bools HB.out rfl (.tmp 12) (.tmp 12) rfl rfl rfl (by omega) ?_; intro w1 ho1 hb1)
  go_loopw [16] (fun i wr => ∃ k : Nat, k ≤ n ∧ i = .int .i64 k ∧ Hid (okN l n k = true) ∧ OwB wr w.heap.size 4 (some ⟨w.heap.size, 0, none⟩) n n (metN l n k) ∧ Below w.heap.size w wr) (fun i _ => n - (intOf i).toNat)
  case atStart => exact ⟨0, Nat.zero_le _, rfl, rfl, ho1, hb1⟩
  case round =>
    obtain ⟨k, hk, rfl, hok, ho, hb⟩ := hrel
    by_cases hlt : k < n
    · obtain ⟨b, off, rfl, hbl, hc⟩ := h.at hlt
      have hc := hb.keep hbl (hc k hlt)
      rcases hout : outB (ix l k) 0 ((n : Int) - 1)
      · have hr : 0 ≤ ix l k ∧ ix l k ≤ (n : Int) - 1 := by unfold outB at hout; simp at hout; omega
        obtain ⟨v, hv⟩ := Int.eq_ofNat_of_zero_le hr.1
        have hvn : v < n := by omega
        obtain ⟨g, hg, _, _, hcell, hfz⟩ := ho.at (by omega)
        injection hg with hg
        injection hg with hg
        subst hg
        have hc2 := hcell v hvn
        have hf := hfz v
        have HO := Lib.hid hout
        have HV := Lib.hid hv
        have HOv : Hid (outB (v : Int) 0 ((n : Int) - 1) = false) := by unfold Hid; rw [← hv]; exact hout
        rw [hv] at hc
        clear hout hv hr hcell hfz
        rcases hs : bx (metN l n k) v
        · rw [hs] at hc2
          have HS := Lib.hid hs
          clear hs
          go_wp2_with (go_at_call 70; refine (out_any _ _ _ _).mono ?_; rintro e w' ⟨rfl, rfl⟩; rw [HOv.out])
          go_roundw
          case rel =>
            refine ⟨k + 1, by omega, by go_num, ?_, ?_, hb.setCell (Nat.le_refl _) _⟩
            · unfold Hid
              have e1 := HO.out
              unfold outB at e1
              rw [okN, hok.out, e1, HV.out, Int.toNat_natCast, HS.out]; rfl
            · rw [metN, HV.out, Int.toNat_natCast]; exact ho.set true
          case measure => simp [intOf]; omega
        · rw [hs] at hc2
          have HS := Lib.hid hs
          clear hs
          go_wp2_with (go_at_call 70; refine (out_any _ _ _ _).mono ?_; rintro e w' ⟨rfl, rfl⟩; rw [HOv.out])
          go_ret
          refine ⟨ret_int ?_, hb⟩
          unfold signC
          rw [if_neg]
          rw [E1.out, okN_false (k := k + 1) (by rw [okN, HV.out, Int.toNat_natCast, HS.out]; simp) (by omega)]
          simp
      · have HO := Lib.hid hout
        clear hout
        go_wp2_with (go_at_call 70; refine (out_any _ _ _ _).mono ?_; rintro e w' ⟨rfl, rfl⟩; rw [HO.out])
        go_ret
        refine ⟨ret_int ?_, hb⟩
        unfold signC
        have e1 := HO.out
        unfold outB at e1
        rw [if_neg]
        rw [E1.out, okN_false (k := k + 1) (by rw [okN, e1]; simp) (by omega)]
        simp
    · obtain rfl : k = n := by omega
      have hin := Lib.hid (okN_le hok.out)
      go_wp2_with (at_make; refine wpList_make_bools HB.out rfl (.tmp 36) (.tmp 36) rfl rfl rfl (by omega) ?_; intro w2 ho2 hb2)
      have hb3 := hb.trans (hb2.mono hb.size)
      have hs0 := hb.size
      clear ho ho1 hb1
      generalize wr.heap.size = N at *
      go_loopw [6, 40] (fun s i wr2 => ∃ i' : Nat, i' ≤ k ∧ i = .int .i64 i' ∧ s = .int .i64 (cycN l k i').2 ∧ OwB wr2 N 4 (some ⟨N, 0, none⟩) k k (cycN l k i').1 ∧ Below w.heap.size w wr2) (fun _ i _ => k - (intOf i).toNat)
      case atStart => exact ⟨0, Nat.zero_le _, rfl, rfl, ho2, hb3⟩
      case round =>
        obtain ⟨i', hi1, rfl, rfl, ho4, hb4⟩ := hrel
        by_cases hlt2 : i' < k
        · have hcl := (cycN_len l k i').2
          go_wp2
          go_loopw [9, 10] (fun lg kk wr3 => ∃ (g v f : Nat) (d : List Bool), kk = .int .i64 v ∧ lg = .int .i64 g ∧ v < k ∧ g ≤ k ∧ g + cntF d ≤ k ∧ cntF d < f ∧ Hid (cycF l f d v g = cycF l (k + 1) (cycN l k i').1 i' 0) ∧ OwB wr3 N 4 (some ⟨N, 0, none⟩) k k d ∧ Below w.heap.size w wr3) (fun lg _ _ => k + 1 - (intOf lg).toNat)
          case atStart => exact ⟨0, i', k + 1, _, rfl, rfl, hlt2, by omega, by have := cntF_le (cycN l k i').1; rw [(cycN_len l k i').1] at this; omega, by have := cntF_le (cycN l k i').1; rw [(cycN_len l k i').1] at this; omega, rfl, ho4, hb4⟩
          case round =>
            obtain ⟨g, v, f, d, rfl, rfl, hv, hg, hcg, hf, hcyc, ho5, hb5⟩ := hrel
            obtain ⟨f', rfl⟩ : ∃ f', f = f' + 1 := ⟨f - 1, by omega⟩
            obtain ⟨g0, hg0, _, _, hcell, hfz⟩ := ho5.at (by omega)
            injection hg0 with hg0
            injection hg0 with hg0
            subst hg0
            have hc2 := hcell v hv
            have hfv := hfz v
            obtain ⟨b, off, rfl, hbl, hc⟩ := h.at hv
            have hc := (hb5.setCell (p := ⟨N, v, none⟩) hs0 (.bool true)).keep hbl (hc v hv)
            have hcnt := cntF_le d
            rw [ho5.len_eq] at hcnt
            rcases hs : bx d v
            · rw [hs] at hc2
              have hin2 := hin.out v hv
              have hst := cntF_set (d := d) (k := v) (by rw [ho5.len_eq]; exact hv) hs
              have HS := Lib.hid hs
              clear hs hcell hfz
              have HST := Lib.hid hst
              clear hst
              obtain ⟨u, hu⟩ := Int.eq_ofNat_of_zero_le hin2.1
              rw [hu] at hc
              have hun : u < k := by omega
              have HU := Lib.hid hu
              clear hu hin2
              have hg2 : g < k := by have := HST.out; omega
              go_wp2
              go_roundw
              case rel => exact ⟨g + 1, u, f', d.set v true, rfl, by go_num, hun, by omega, by have := HST.out; omega, by have := HST.out; omega, by unfold Hid; rw [← hcyc.out, cycF, HS.out, HU.out]; rfl, ho5.set true, hb5.setCell hs0 _⟩
              case measure => simp [intOf]; omega
            · rw [hs] at hc2
              have HS := Lib.hid hs
              clear hs hcell hfz
              have HR : Hid (cycF l (k + 1) (cycN l k i').1 i' 0 = (d, g)) := by unfold Hid; rw [← hcyc.out, cycF, HS.out]; rfl
              by_cases he : 0 < g ∧ g % 2 = 0
              · have h2 : ((g : Int) % 2 == 0) = true := beq_iff_eq.2 (by omega)
                have h3 : (0 : Int) < (g : Int) := by omega
                have HE := Lib.hid he
                clear he
                go_wp2
                go_roundw
                case rel => exact ⟨i' + 1, by omega, by go_num, by rw [cycN, HR.out]; simp only []; rw [if_pos HE.out], by rw [cycN, HR.out]; exact ho5, hb5⟩
                case measure => simp [intOf]; omega
              · have HE := Lib.hid he
                by_cases h3 : 0 < g
                · have h2 : ((g : Int) % 2 == 0) = false := beq_eq_false_iff_ne.2 (by omega)
                  have h3' : (0 : Int) < (g : Int) := by omega
                  clear he
                  go_wp2
                  go_roundw
                  case rel => exact ⟨i' + 1, by omega, by go_num, by rw [cycN, HR.out]; simp only []; rw [if_neg HE.out], by rw [cycN, HR.out]; exact ho5, hb5⟩
                  case measure => simp [intOf]; omega
                · have h3' : ¬ (0 : Int) < (g : Int) := by omega
                  clear he
                  go_wp2
                  go_roundw
                  case rel => exact ⟨i' + 1, by omega, by go_num, by rw [cycN, HR.out]; simp only []; rw [if_neg HE.out], by rw [cycN, HR.out]; exact ho5, hb5⟩
                  case measure => simp [intOf]; omega
        · obtain rfl : i' = k := by omega
          go_wp2
          go_ret
          refine ⟨ret_int ?_, hb4⟩
          unfold signC
          rw [E1.out, if_pos hok.out]
end Go.Proofs.YtkielldinghmbaaDoor
