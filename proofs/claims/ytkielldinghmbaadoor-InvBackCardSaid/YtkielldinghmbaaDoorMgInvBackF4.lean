/-
  The walks of the references' small functions, and of the small functions of the statements' own packages.
  plain.Told and the same package's Error, by errors.As.
-/
import Derived.Test.YtkielldinghmbaaDoorRows
import Derived.Deep.QuietTactic
import Derived.BigQuiet
import Derived.Test.YtkielldinghmbaaDoorMgInvBackF0
import Derived.Test.YtkielldinghmbaaDoorMgInvBackF1
import Derived.Test.YtkielldinghmbaaDoorMgInvBackF2
import Derived.Test.YtkielldinghmbaaDoorMgInvBackF3
namespace Go.Proofs.YtkielldinghmbaaDoor
open Go.RowKit Go.Rk

def inB (n lo hi : Int) : Bool := decide (lo ≤ n) && decide (n ≤ hi)
theorem inB_true {a lo hi : Int} (h : inB a lo hi = true) : lo ≤ a ∧ a ≤ hi := by
  unfold inB at h
  simp only [Bool.and_eq_true, decide_eq_true_eq] at h
  exact h

theorem R_in_any (n lo hi : Int) (w : World) :
    Calls Tryd.prog 80 #[.int .i64 n, .int .i64 lo, .int .i64 hi] w fun e w' => e = .returned (.bool (inB n lo hi)) ∧ w = w' := by
  by_cases h : lo ≤ n
  all_goals
    go_enter Tryd.func80, Tryd.ntmps80
    go_wp2
    all_goals (go_ret; refine ⟨congrArg (fun b => Ending.returned (.bool b)) ?_, rfl⟩; unfold inB; simp; try omega)
theorem L2_in_any (n lo hi : Int) (w : World) :
    Calls Tryd.prog 26 #[.int .i64 n, .int .i64 lo, .int .i64 hi] w fun e w' => e = .returned (.bool (inB n lo hi)) ∧ w = w' := by
  by_cases h : lo ≤ n
  all_goals
    go_enter Tryd.func26, Tryd.ntmps26
    go_wp2
    all_goals (go_ret; refine ⟨congrArg (fun b => Ending.returned (.bool b)) ?_, rfl⟩; unfold inB; simp; try omega)
theorem R_Mod_any (n : Int) (w : World) (h1 : -9223372036854775808 ≤ n) (h2 : n ≤ 9223372036854775807) :
    Calls Tryd.prog 47 #[.int .i64 n] w fun e w' => e = .returned (.int .i64 (n % 9973)) ∧ w = w' := by
  rcases Int.lt_or_le n 0 with h | h
  · have t := tmod_neg n h
    rcases Int.lt_or_le (n.tmod 9973) 0 with h3 | h3
    · have t1 := t.1
      have T2 := Lib.hid (t.2.1 h3)
      clear t
      go_enter Tryd.func47, Tryd.ntmps47
      go_wp2
      go_ret
      exact ⟨congrArg (fun x => Ending.returned (.int .i64 x)) T2.out.symm, rfl⟩
    · have t1 := t.1
      have T2 := Lib.hid (t.2.2 h3)
      clear t
      go_enter Tryd.func47, Tryd.ntmps47
      go_wp2
      go_ret
      exact ⟨congrArg (fun x => Ending.returned (.int .i64 x)) T2.out.symm, rfl⟩
  · go_enter Tryd.func47, Tryd.ntmps47
    go_wp2
    go_ret
    exact ⟨rfl, rfl⟩
def allB (lo hi : Int) (l : List Int) : Bool := l.all fun n => inB n lo hi
theorem allB_take (lo hi : Int) {l : List Int} {k : Nat} (h : k < l.length) (h0 : allB lo hi (l.take k) = true) (h1 : inB (ix l k) lo hi = true) : allB lo hi (l.take (k + 1)) = true := by
  rw [take_succ_ix h]
  unfold allB at *
  simp only [List.all_append, h0, List.all_cons, h1, List.all_nil, Bool.and_true]
theorem allB_miss (lo hi : Int) {l : List Int} {k : Nat} (h : k < l.length) (h1 : inB (ix l k) lo hi = false) : allB lo hi l = false := by
  unfold allB
  exact List.all_eq_false.2 ⟨_, ix_mem h, by rw [h1]; simp⟩
set_option maxHeartbeats 400000 in
theorem R_All_any {a : Option Addr} {len cap : Nat} {l : List Int} (lo hi : Int) {w : World} (h : RdI w a len cap l) :
    Calls Tryd.prog 50 #[.slice a len cap, .int .i64 lo, .int .i64 hi] w fun e w' => e = .returned (.bool (allB lo hi l)) ∧ w = w' := by
  have hm := h.len_max
  go_enter Tryd.func50, Tryd.ntmps50
  go_wp2
  go_loop [7] (fun i => ∃ k : Nat, k ≤ len ∧ i = .int .i64 k ∧ Hid (allB lo hi (l.take k) = true)) (fun i => len - (intOf i).toNat)
  case atStart => exact ⟨0, Nat.zero_le _, rfl, rfl⟩
  case round =>
    obtain ⟨k, hk, rfl, hno⟩ := hrel
    by_cases hlt : k < len
    · obtain ⟨b, off, rfl, _, hc⟩ := h.at hlt
      have hc := hc k hlt
      have hl : k < l.length := by have := h.len_eq; omega
      rcases ho : inB (ix l k) lo hi
      · have Ho := Lib.hid ho
        clear ho
        go_wp2_with (go_at_call 80; refine (R_in_any _ _ _ _).mono ?_; rintro e w' ⟨rfl, rfl⟩; rw [Ho.out])
        go_ret
        exact ⟨congrArg (fun b => Ending.returned (.bool b)) (allB_miss _ _ hl Ho.out).symm, rfl⟩
      · have Ho := Lib.hid ho
        clear ho
        go_wp2_with (go_at_call 80; refine (R_in_any _ _ _ _).mono ?_; rintro e w' ⟨rfl, rfl⟩; rw [Ho.out])
        go_round
        case rel => exact ⟨k + 1, by omega, by go_num, allB_take _ _ hl hno Ho.out⟩
        case measure => simp [intOf]; omega
    · go_wp2
      go_ret
      refine ⟨congrArg (fun b => Ending.returned (.bool b)) ?_, rfl⟩
      rw [← hno.out, List.take_of_length_le (by have := h.len_eq; omega)]
theorem allB_in {l : List Int} {lo hi : Int} (h : allB lo hi l = true) : In lo hi l := by
  intro k hk
  have h1 := List.all_eq_true.1 h (ix l k) (ix_mem hk)
  simp [inB] at h1
  omega
set_option maxHeartbeats 400000 in
theorem Ints_q {a a2 : Option Addr} {len cap len2 cap2 : Nat} {l m : List Int} {w : World} (h : RdI w a len cap l) (h2 : RdI w a2 len2 cap2 m) :
    Calls Tryd.prog 32 #[.slice a len cap, .slice a2 len2 cap2] w fun e w' => e = .returned (.bool (decide (l = m))) ∧ ∃ q, w' = w.drewN q := by
  have hm := h.len_max
  have E1 := Lib.hid h.len_eq
  have E2 := Lib.hid h2.len_eq
  by_cases hl : len = len2
  · subst hl
    go_enter Tryd.func32, Tryd.ntmps32
    go_wp2
    go_loopw [5] (fun i wr => ∃ k : Nat, k ≤ len ∧ i = .int .i64 k ∧ Hid (l.take k = m.take k) ∧ ∃ q, wr = w.drewN q) (fun i _ => len - (intOf i).toNat)
    case atStart => exact ⟨0, Nat.zero_le _, rfl, rfl, 0, rfl⟩
    case round =>
      obtain ⟨k, hk, rfl, heq, q, rfl⟩ := hrel
      by_cases hlt : k < len
      · obtain ⟨b, off, rfl, _, hc⟩ := h.at hlt
        obtain ⟨b2, off2, rfl, _, hc2⟩ := h2.at hlt
        have hc := hc k hlt
        have hc2 := hc2 k hlt
        have hlt' : (k : Int) < (len : Int) := by omega
        by_cases he : ix l k = ix m k
        · have He : (ix l k != ix m k) = false := by simp [he]
          have He2 := Lib.hid he
          clear he
          go_wp2
          go_quiet (fail)
          go_wp2
          go_roundw
          case rel => exact ⟨k + 1, by omega, by go_num, by unfold Hid; rw [take_succ_ix (by rw [E1.out]; exact hlt), take_succ_ix (by rw [E2.out]; exact hlt), heq.out, He2.out], q + nq, by simp⟩
          case measure => simp [intOf]; omega
        · have He : (ix l k != ix m k) = true := by simp [he]
          have He2 := Lib.hid he
          clear he
          go_wp2
          go_quiet (fail)
          go_wp2
          go_ret
          refine ⟨congrArg (fun b => Ending.returned (.bool b)) (decide_eq_false ?_).symm, q + nq, by simp [World.drewN_drewN]⟩
          intro hlm
          exact He2.out (by rw [hlm])
      · go_wp2
        go_ret
        refine ⟨congrArg (fun b => Ending.returned (.bool b)) (decide_eq_true ?_).symm, q, rfl⟩
        have := heq.out
        rwa [List.take_of_length_le (by rw [E1.out]; omega), List.take_of_length_le (by rw [E2.out]; omega)] at this
  · have hne : ((len : Int) != (len2 : Int)) = true := by simp; omega
    have Hl := Lib.hid hl
    clear hl
    go_enter Tryd.func32, Tryd.ntmps32
    go_wp2
    go_ret
    refine ⟨congrArg (fun b => Ending.returned (.bool b)) (decide_eq_false ?_).symm, 0, rfl⟩
    intro hlm
    exact Hl.out (by rw [← E1.out, ← E2.out, hlm])

theorem Ints_any {a a2 : Option Addr} {len cap len2 cap2 : Nat} {l m : List Int} {w : World} (h : RdI w a len cap l) (h2 : RdI w a2 len2 cap2 m) :
    Calls Tryd.prog 32 #[.slice a len cap, .slice a2 len2 cap2] w fun e w' => e = .returned (.bool (decide (l = m))) ∧ Below w.heap.size w w' :=
  (Ints_q h h2).mono fun _ _ ⟨he, q, hq⟩ => ⟨he, by rw [hq]; exact below_drewN (Below.refl _ _) q⟩
set_option maxHeartbeats 400000 in
theorem Rows_q {a a2 : Option Addr} {len cap len2 cap2 : Nat} {M N : List (List Int)} {w : World} (h : RdM w a len cap M) (h2 : RdM w a2 len2 cap2 N) :
    Calls Tryd.prog 21 #[.slice a len cap, .slice a2 len2 cap2] w fun e w' => e = .returned (.bool (decide (M = N))) ∧ ∃ q, w' = w.drewN q := by
  have hm := h.len_max
  have E1 := Lib.hid h.len_eq
  have E2 := Lib.hid h2.len_eq
  by_cases hl : len = len2
  · subst hl
    go_enter Tryd.func21, Tryd.ntmps21
    go_wp2
    go_loopw [5] (fun i wr => ∃ k : Nat, k ≤ len ∧ i = .int .i64 k ∧ Hid (M.take k = N.take k) ∧ ∃ q, wr = w.drewN q) (fun i _ => len - (intOf i).toNat)
    case atStart => exact ⟨0, Nat.zero_le _, rfl, rfl, 0, rfl⟩
    case round =>
      obtain ⟨k, hk, rfl, heq, q, hq⟩ := hrel
      have h' : RdM wr a len cap M := by rw [hq]; exact h.below (below_drewN (Below.refl _ _) q)
      have h2' : RdM wr a2 len cap2 N := by rw [hq]; exact h2.below (below_drewN (Below.refl _ _) q)
      have HQ := Lib.hid hq
      clear hq
      by_cases hlt : k < len
      · obtain ⟨b, off, rfl, _, hr⟩ := h'.at hlt
        obtain ⟨b2, off2, rfl, _, hr2⟩ := h2'.at hlt
        obtain ⟨ar, cr, hc, hrd⟩ := hr k hlt
        obtain ⟨ar2, cr2, hc2, hrd2⟩ := hr2 k hlt
        have hlt' : (k : Int) < (len : Int) := by omega
        have CI : ∀ q, Calls Tryd.prog 32 #[.slice ar (rowOf M k).length cr, .slice ar2 (rowOf N k).length cr2] (wr.drewN q) fun e w' => e = .returned (.bool (decide (rowOf M k = rowOf N k))) ∧ ∃ m, w' = (wr.drewN q).drewN m := fun q => Ints_q (hrd.drewN q) (hrd2.drewN q)
        by_cases he : rowOf M k = rowOf N k
        · have He : decide (rowOf M k = rowOf N k) = true := by simp [he]
          rw [He] at CI
          have HCI := Lib.hid CI
          have He2 := Lib.hid he
          clear he CI He
          go_wp2
          go_quiet ((go_at_call 32; exact Calls.quiet_of (HCI.out _)))
          go_wp2
          go_roundw
          case rel => exact ⟨k + 1, by omega, by go_num, by unfold Hid; rw [take_succ_row (by rw [E1.out]; exact hlt), take_succ_row (by rw [E2.out]; exact hlt), heq.out, He2.out], q + nq, by rw [HQ.out, World.drewN_drewN]⟩
          case measure => simp [intOf]; omega
        · have He : decide (rowOf M k = rowOf N k) = false := by simp [he]
          rw [He] at CI
          have HCI := Lib.hid CI
          have He2 := Lib.hid he
          clear he CI He
          go_wp2
          go_quiet ((go_at_call 32; exact Calls.quiet_of (HCI.out _)))
          go_wp2
          go_ret
          refine ⟨congrArg (fun b => Ending.returned (.bool b)) (decide_eq_false ?_).symm, q + nq, by rw [HQ.out, World.drewN_drewN]⟩
          intro hlm
          exact He2.out (by rw [hlm])
      · go_wp2
        go_ret
        refine ⟨congrArg (fun b => Ending.returned (.bool b)) (decide_eq_true ?_).symm, q, HQ.out⟩
        have := heq.out
        rwa [List.take_of_length_le (by rw [E1.out]; omega), List.take_of_length_le (by rw [E2.out]; omega)] at this
  · have hne : ((len : Int) != (len2 : Int)) = true := bne_iff_ne.2 (by omega)
    have Hl := Lib.hid hl
    clear hl
    go_enter Tryd.func21, Tryd.ntmps21
    go_wp2
    go_ret
    refine ⟨congrArg (fun b => Ending.returned (.bool b)) (decide_eq_false ?_).symm, 0, rfl⟩
    intro hlm
    exact Hl.out (by rw [← E1.out, ← E2.out, hlm])

theorem Rows_any {a a2 : Option Addr} {len cap len2 cap2 : Nat} {l m : List (List Int)} {w : World} (h : RdM w a len cap l) (h2 : RdM w a2 len2 cap2 m) :
    Calls Tryd.prog 21 #[.slice a len cap, .slice a2 len2 cap2] w fun e w' => e = .returned (.bool (decide (l = m))) ∧ Below w.heap.size w w' :=
  (Rows_q h h2).mono fun _ _ ⟨he, q, hq⟩ => ⟨he, by rw [hq]; exact below_drewN (Below.refl _ _) q⟩
set_option maxHeartbeats 400000 in
theorem R_Copy_any {a : Option Addr} {n cap : Nat} {M : List (List Int)} {w : World} (h : RdM w a n cap M) (hn : n ≤ 1000) (hl : ∀ k, k < n → (rowOf M k).length ≤ 1000) :
    Calls Tryd.prog 60 #[.slice a n cap] w fun e w' => ∃ a' cap', e = .returned (.slice a' n cap') ∧ OwM w' w.heap.size 32 3 a' n cap' M ∧ Below w.heap.size w w' := by
  have HM := Lib.hid matTy
  have E1 := Lib.hid h.len_eq
  have hb0 : Below w.heap.size w w := Below.refl _ _
  go_enter Tryd.func60, Tryd.ntmps60
  go_wp2
  go_loopw [3, 4] (fun v i wr => ∃ (k : Nat) (q : Option Addr) (cq : Nat), k ≤ n ∧ i = .int .i64 k ∧ v = .slice q k cq ∧ OwM wr w.heap.size 32 3 q k cq (M.take k) ∧ Below w.heap.size w wr) (fun _ i _ => n - (intOf i).toNat)
  case atStart => exact ⟨0, none, 0, Nat.zero_le _, rfl, rfl, OwM.nil _ _ _ _, hb0⟩
  case round =>
    obtain ⟨k, q, cq, hk, rfl, rfl, ho, hb⟩ := hrel
    by_cases hlt : k < n
    · have hsz := hb.size
      obtain ⟨b, off, rfl, hbl, hr⟩ := h.at hlt
      obtain ⟨ar, cr, hc, hrd⟩ := hr k hlt
      have hc := hb.keep hbl hc
      have hrd := hrd.below hb
      have hlk := hl k hlt
      have tok1 : True := trivial
      go_wp2_with (first
        | (at_builtin; have _t := tok1; refine wpList_append_ints HM.out.int rfl (.tmp 12) (.tmp 16) rfl rfl rfl (OwI.nil wr wr.heap.size _) hrd (by omega) (Nat.le_refl _) ?_; intro a3 cap3 w3 ho3 hg3; have hb3 := below_of_grown hg3; clear tok1; rw [Nat.zero_add, List.nil_append] at ho3)
        | (at_builtin; refine wpList_push_row HM.out rfl (.tmp 18) (.tmp 20) rfl rfl rfl ho (hb3.alloc hb3.size _) (ho3.below ((Below.refl _ _).alloc (Nat.le_refl _) _)) (by simp) (by omega) hsz ?_; intro a4 cap4 w4 ho4 hb4))
      have hb5 := ((hb.trans (hb3.mono hsz)).alloc (Nat.le_trans hsz hb3.size) _).trans hb4
      go_roundw
      case rel => exact ⟨k + 1, a4, cap4, by omega, by go_num, rfl, by rw [take_succ_row (by rw [E1.out]; exact hlt)]; exact ho4, hb5⟩
      case measure => simp [intOf]; omega
    · obtain rfl : k = n := by omega
      go_wp2
      go_ret
      refine ⟨q, cq, rfl, ?_, hb⟩
      rw [List.take_of_length_le (by rw [E1.out]; exact Nat.le_refl _)] at ho
      exact ho
end Go.Proofs.YtkielldinghmbaaDoor
namespace Go.Proofs.YtkielldinghmbaaDoor
open Go.RowKit Go.Rk

/-- The number of an error that is none, or a number. -/
theorem Told_any {x : Option Int} {w : World} (hg : ErrT w) : Calls Tryd.prog 62 #[errV x] w fun e w' => e = .returned (.int .i64 (x.getD 0)) ∧ Below w.heap.size w w' := by
  cases x with
  | none =>
    go_enter Tryd.func62, Tryd.ntmps62
    simp only [errV]
    go_wp2
    go_ret
    exact ⟨rfl, Below.refl _ _⟩
  | some c =>
    have hb := (Below.refl w.heap.size w).alloc (Nat.le_refl _) (.cells #[.int .i64 0] 70)
    have C := Lib.hid (as_hit c ⟨w.heap.size, 0, none⟩ (.int .i64 0) _ (hg.below hb) (by simp) (by simp))
    go_enter Tryd.func62, Tryd.ntmps62
    simp only [errV]
    go_wp2_with (first | (go_at_call 84; (with_reducible refine C.out.mono ?_); rintro e w' ⟨rfl, w2, hb2, hc2, rfl⟩; have hc3 := World.cell?_setCell_same w2 ⟨w.heap.size, 0, none⟩ (.int .i64 c) hc2))
    go_ret
    exact ⟨rfl, (hb.trans (hb2.mono hb.size)).setCell (p := ⟨w.heap.size, 0, none⟩) (Nat.le_refl _) _⟩

theorem E_Error_any {x : Option Int} {e : Int} {w : World} (hg : ErrT w) : Calls Tryd.prog 17 #[errV x, .int .i64 e] w fun ev w' => ev = .returned (.bool (x.getD 0 == e)) ∧ Below w.heap.size w w' := by
  have C := Lib.hid (Told_any (x := x) hg)
  go_enter Tryd.func17, Tryd.ntmps17
  go_wp2_with (first | (go_at_call 62; (with_reducible refine C.out.mono ?_); rintro e w' ⟨rfl, hb⟩))
  go_ret
  exact ⟨rfl, hb⟩
theorem rowErr1_nz {lo hi : Int} {c : Nat} {e : Int} {l : List Int} (h : rowErr1 lo hi c l = some e) : e ≠ 0 := by
  unfold rowErr1 at h
  split at h
  · cases h; decide
  · split at h
    · cases h; decide
    · cases h
theorem rowsErr_nz {lo hi : Int} {c : Nat} {e : Int} {M : List (List Int)} (h : rowsErr lo hi c M = some e) : e ≠ 0 := by
  have g : ∀ (M : List (List Int)) (o : Option Int), (∀ x, o = some x → x ≠ 0) → ∀ x, M.foldl (fun r l => match r with | none => rowErr1 lo hi c l | some c => some c) o = some x → x ≠ 0 := by
    intro M
    induction M with
    | nil => exact fun o ho x hx => ho x hx
    | cons r M ih =>
      intro o ho x hx
      refine ih _ (fun y hy => ?_) x hx
      cases o with
      | none => exact rowErr1_nz hy
      | some z => exact ho y hy
  exact g M none (fun x hx => by cases hx) e h
theorem groundsR_nz {most lo hi : Int} {M : List (List Int)} {e : Int} (h : groundsR most lo hi M = some e) : e ≠ 0 := by
  unfold groundsR at h
  split at h
  · cases h; decide
  · split at h
    · cases h; decide
    · exact rowsErr_nz h
theorem squareR_nz {most lo hi : Int} {M : List (List Int)} {e : Int} (h : squareR most lo hi M = some e) : e ≠ 0 := by
  unfold squareR at h
  split at h
  · split at h
    · cases h
    · cases h; decide
  · exact groundsR_nz h
/-- No error, a number; an error, a number; an error and its own number. -/
theorem E_nil {e : Int} {w : World} (hg : ErrT w) : Calls Tryd.prog 17 #[.nilIface, .int .i64 e] w fun ev w' => ev = .returned (.bool (0 == e)) ∧ Below w.heap.size w w' := E_Error_any (x := none) hg
theorem E_nil0 {w : World} (hg : ErrT w) : Calls Tryd.prog 17 #[.nilIface, .int .i64 0] w fun ev w' => ev = .returned (.bool true) ∧ Below w.heap.size w w' := E_Error_any (x := none) hg
theorem E_some {c e : Int} {w : World} (hg : ErrT w) : Calls Tryd.prog 17 #[.iface 70 (.int .i64 c), .int .i64 e] w fun ev w' => ev = .returned (.bool (c == e)) ∧ Below w.heap.size w w' := E_Error_any (x := some c) hg
theorem E_same {c : Int} {w : World} (hg : ErrT w) : Calls Tryd.prog 17 #[.iface 70 (.int .i64 c), .int .i64 c] w fun ev w' => ev = .returned (.bool true) ∧ Below w.heap.size w w' := by
  have := E_Error_any (x := some c) (e := c) hg
  rw [show ((some c).getD 0 == c) = true from beq_iff_eq.2 rfl] at this
  exact this
end Go.Proofs.YtkielldinghmbaaDoor
