/-
  Short words: what grows, and grows again; slices and matrices of two, read off their cells. No program in sight.
  The walks of the references' small functions, and of the small functions of the statements' own packages.
  plain.Told and the same package's Error, by errors.As.
  Matrices of a call's own whose rows' places are known by name: for loops that store into them. No program in sight.
  Determinants of integer matrices, by the first row; multilinear, alternating; the product; the transpose; any row, any column. Plain Lean, no program in sight.
-/
import Derived.Test.YtkielldinghmbaaDoorRows
import Derived.Deep.QuietTactic
import Derived.BigQuiet
import Derived.Test.YtkielldinghmbaaDoorMg0
import Derived.Test.YtkielldinghmbaaDoorMg1
namespace Go.Proofs.YtkielldinghmbaaDoor
open Go.RowKit Go.Rk

theorem rd2 {w : World} {b : Nat} {x y : Int} (h0 : w.cell? ⟨b, 0, none⟩ = some (.int .i64 x)) (h1 : w.cell? ⟨b, 1, none⟩ = some (.int .i64 y)) : RdI w (some ⟨b, 0, none⟩) 2 2 [x, y] := by
  refine ⟨rfl, Nat.le_refl _, by decide, fun k hk => ⟨b, 0, rfl, ?_⟩⟩
  rcases k with _ | k
  · exact h0
  · obtain rfl : k = 0 := by omega
    exact h1
/-- A written matrix of two rows of two numbers. -/
theorem rd22 {w : World} {b p q : Nat} {x y z u : Int} (h0 : w.cell? ⟨b, 0, none⟩ = some (.slice (some ⟨p, 0, none⟩) 2 2)) (h1 : w.cell? ⟨b, 1, none⟩ = some (.slice (some ⟨q, 0, none⟩) 2 2))
    (c0 : w.cell? ⟨p, 0, none⟩ = some (.int .i64 x)) (c1 : w.cell? ⟨p, 1, none⟩ = some (.int .i64 y)) (c2 : w.cell? ⟨q, 0, none⟩ = some (.int .i64 z)) (c3 : w.cell? ⟨q, 1, none⟩ = some (.int .i64 u)) :
    RdM w (some ⟨b, 0, none⟩) 2 2 [[x, y], [z, u]] := RdM.two h0 (rd2 c0 c1) h1 (rd2 c2 c3)

theorem below_al {w w' : World} (h : Below w.heap.size w w') (o : Obj) : Below w.heap.size w (w'.alloc o) := h.alloc h.size o
theorem below_tr {w w' w2 : World} (h : Below w.heap.size w w') (k : Below w'.heap.size w' w2) : Below w.heap.size w w2 := h.trans (k.mono h.size)
end Go.Proofs.YtkielldinghmbaaDoor
namespace Go.Proofs.YtkielldinghmbaaDoor
open Go.RowKit Go.Rk

def inB (n lo hi : Int) : Bool := decide (lo ≤ n) && decide (n ≤ hi)
theorem inB_true {a lo hi : Int} (h : inB a lo hi = true) : lo ≤ a ∧ a ≤ hi := by
  unfold inB at h
  simp only [Bool.and_eq_true, decide_eq_true_eq] at h
  exact h

theorem R_in_any (n lo hi : Int) (w : World) :
    Calls Tryd.prog 80 #[.int .i64 n, .int .i64 lo, .int .i64 hi] w fun e w' => e = .returned (.bool (inB n lo hi)) ∧ w = w' := by
  by_cases h : lo ≤ n
  all_goals
    go_enter Tryd.func80, Tryd.ntmps80
    go_wp2
    all_goals (go_ret; refine ⟨congrArg (fun b => Ending.returned (.bool b)) ?_, rfl⟩; unfold inB; simp; try omega)
theorem L2_in_any (n lo hi : Int) (w : World) :
    Calls Tryd.prog 26 #[.int .i64 n, .int .i64 lo, .int .i64 hi] w fun e w' => e = .returned (.bool (inB n lo hi)) ∧ w = w' := by
  by_cases h : lo ≤ n
  all_goals
    go_enter Tryd.func26, Tryd.ntmps26
    go_wp2
    all_goals (go_ret; refine ⟨congrArg (fun b => Ending.returned (.bool b)) ?_, rfl⟩; unfold inB; simp; try omega)
theorem R_Mod_any (n : Int) (w : World) (h1 : -9223372036854775808 ≤ n) (h2 : n ≤ 9223372036854775807) :
    Calls Tryd.prog 47 #[.int .i64 n] w fun e w' => e = .returned (.int .i64 (n % 9973)) ∧ w = w' := by
  rcases Int.lt_or_le n 0 with h | h
  · have t := tmod_neg n h
    rcases Int.lt_or_le (n.tmod 9973) 0 with h3 | h3
    · have t1 := t.1
      have T2 := Lib.hid (t.2.1 h3)
      clear t
      go_enter Tryd.func47, Tryd.ntmps47
      go_wp2
      go_ret
      exact ⟨congrArg (fun x => Ending.returned (.int .i64 x)) T2.out.symm, rfl⟩
    · have t1 := t.1
      have T2 := Lib.hid (t.2.2 h3)
      clear t
      go_enter Tryd.func47, Tryd.ntmps47
      go_wp2
      go_ret
      exact ⟨congrArg (fun x => Ending.returned (.int .i64 x)) T2.out.symm, rfl⟩
  · go_enter Tryd.func47, Tryd.ntmps47
    go_wp2
    go_ret
    exact ⟨rfl, rfl⟩
def allB (lo hi : Int) (l : List Int) : Bool := l.all fun n => inB n lo hi
theorem allB_take (lo hi : Int) {l : List Int} {k : Nat} (h : k < l.length) (h0 : allB lo hi (l.take k) = true) (h1 : inB (ix l k) lo hi = true) : allB lo hi (l.take (k + 1)) = true := by
  rw [take_succ_ix h]
  unfold allB at *
  simp only [List.all_append, h0, List.all_cons, h1, List.all_nil, Bool.and_true]
theorem allB_miss (lo hi : Int) {l : List Int} {k : Nat} (h : k < l.length) (h1 : inB (ix l k) lo hi = false) : allB lo hi l = false := by
  unfold allB
  exact List.all_eq_false.2 ⟨_, ix_mem h, by rw [h1]; simp⟩
set_option maxHeartbeats 400000 in
theorem R_All_any {a : Option Addr} {len cap : Nat} {l : List Int} (lo hi : Int) {w : World} (h : RdI w a len cap l) :
    Calls Tryd.prog 50 #[.slice a len cap, .int .i64 lo, .int .i64 hi] w fun e w' => e = .returned (.bool (allB lo hi l)) ∧ w = w' := by
  have hm := h.len_max
  go_enter Tryd.func50, Tryd.ntmps50
  go_wp2
  go_loop [7] (fun i => ∃ k : Nat, k ≤ len ∧ i = .int .i64 k ∧ Hid (allB lo hi (l.take k) = true)) (fun i => len - (intOf i).toNat)
  case atStart => exact ⟨0, Nat.zero_le _, rfl, rfl⟩
  case round =>
    obtain ⟨k, hk, rfl, hno⟩ := hrel
    by_cases hlt : k < len
    · obtain ⟨b, off, rfl, _, hc⟩ := h.at hlt
      have hc := hc k hlt
      have hl : k < l.length := by have := h.len_eq; omega
      rcases ho : inB (ix l k) lo hi
      · have Ho := Lib.hid ho
        clear ho
        go_wp2_with (go_at_call 80; refine (R_in_any _ _ _ _).mono ?_; rintro e w' ⟨rfl, rfl⟩; rw [Ho.out])
        go_ret
        exact ⟨congrArg (fun b => Ending.returned (.bool b)) (allB_miss _ _ hl Ho.out).symm, rfl⟩
      · have Ho := Lib.hid ho
        clear ho
        go_wp2_with (go_at_call 80; refine (R_in_any _ _ _ _).mono ?_; rintro e w' ⟨rfl, rfl⟩; rw [Ho.out])
        go_round
        case rel => exact ⟨k + 1, by omega, by go_num, allB_take _ _ hl hno Ho.out⟩
        case measure => simp [intOf]; omega
    · go_wp2
      go_ret
      refine ⟨congrArg (fun b => Ending.returned (.bool b)) ?_, rfl⟩
      rw [← hno.out, List.take_of_length_le (by have := h.len_eq; omega)]
theorem allB_in {l : List Int} {lo hi : Int} (h : allB lo hi l = true) : In lo hi l := by
  intro k hk
  have h1 := List.all_eq_true.1 h (ix l k) (ix_mem hk)
  simp [inB] at h1
  omega
set_option maxHeartbeats 400000 in
theorem Ints_q {a a2 : Option Addr} {len cap len2 cap2 : Nat} {l m : List Int} {w : World} (h : RdI w a len cap l) (h2 : RdI w a2 len2 cap2 m) :
    Calls Tryd.prog 32 #[.slice a len cap, .slice a2 len2 cap2] w fun e w' => e = .returned (.bool (decide (l = m))) ∧ ∃ q, w' = w.drewN q := by
  have hm := h.len_max
  have E1 := Lib.hid h.len_eq
  have E2 := Lib.hid h2.len_eq
  by_cases hl : len = len2
  · subst hl
    go_enter Tryd.func32, Tryd.ntmps32
    go_wp2
    go_loopw [5] (fun i wr => ∃ k : Nat, k ≤ len ∧ i = .int .i64 k ∧ Hid (l.take k = m.take k) ∧ ∃ q, wr = w.drewN q) (fun i _ => len - (intOf i).toNat)
    case atStart => exact ⟨0, Nat.zero_le _, rfl, rfl, 0, rfl⟩
    case round =>
      obtain ⟨k, hk, rfl, heq, q, rfl⟩ := hrel
      by_cases hlt : k < len
      · obtain ⟨b, off, rfl, _, hc⟩ := h.at hlt
        obtain ⟨b2, off2, rfl, _, hc2⟩ := h2.at hlt
        have hc := hc k hlt
        have hc2 := hc2 k hlt
        have hlt' : (k : Int) < (len : Int) := by omega
        by_cases he : ix l k = ix m k
        · have He : (ix l k != ix m k) = false := by simp [he]
          have He2 := Lib.hid he
          clear he
          go_wp2
          go_quiet (fail)
          go_wp2
          go_roundw
          case rel => exact ⟨k + 1, by omega, by go_num, by unfold Hid; rw [take_succ_ix (by rw [E1.out]; exact hlt), take_succ_ix (by rw [E2.out]; exact hlt), heq.out, He2.out], q + nq, by simp⟩
          case measure => simp [intOf]; omega
        · have He : (ix l k != ix m k) = true := by simp [he]
          have He2 := Lib.hid he
          clear he
          go_wp2
          go_quiet (fail)
          go_wp2
          go_ret
          refine ⟨congrArg (fun b => Ending.returned (.bool b)) (decide_eq_false ?_).symm, q + nq, by simp [World.drewN_drewN]⟩
          intro hlm
          exact He2.out (by rw [hlm])
      · go_wp2
        go_ret
        refine ⟨congrArg (fun b => Ending.returned (.bool b)) (decide_eq_true ?_).symm, q, rfl⟩
        have := heq.out
        rwa [List.take_of_length_le (by rw [E1.out]; omega), List.take_of_length_le (by rw [E2.out]; omega)] at this
  · have hne : ((len : Int) != (len2 : Int)) = true := by simp; omega
    have Hl := Lib.hid hl
    clear hl
    go_enter Tryd.func32, Tryd.ntmps32
    go_wp2
    go_ret
    refine ⟨congrArg (fun b => Ending.returned (.bool b)) (decide_eq_false ?_).symm, 0, rfl⟩
    intro hlm
    exact Hl.out (by rw [← E1.out, ← E2.out, hlm])

theorem Ints_any {a a2 : Option Addr} {len cap len2 cap2 : Nat} {l m : List Int} {w : World} (h : RdI w a len cap l) (h2 : RdI w a2 len2 cap2 m) :
    Calls Tryd.prog 32 #[.slice a len cap, .slice a2 len2 cap2] w fun e w' => e = .returned (.bool (decide (l = m))) ∧ Below w.heap.size w w' :=
  (Ints_q h h2).mono fun _ _ ⟨he, q, hq⟩ => ⟨he, by rw [hq]; exact below_drewN (Below.refl _ _) q⟩
set_option maxHeartbeats 400000 in
theorem Rows_q {a a2 : Option Addr} {len cap len2 cap2 : Nat} {M N : List (List Int)} {w : World} (h : RdM w a len cap M) (h2 : RdM w a2 len2 cap2 N) :
    Calls Tryd.prog 21 #[.slice a len cap, .slice a2 len2 cap2] w fun e w' => e = .returned (.bool (decide (M = N))) ∧ ∃ q, w' = w.drewN q := by
  have hm := h.len_max
  have E1 := Lib.hid h.len_eq
  have E2 := Lib.hid h2.len_eq
  by_cases hl : len = len2
  · subst hl
    go_enter Tryd.func21, Tryd.ntmps21
    go_wp2
    go_loopw [5] (fun i wr => ∃ k : Nat, k ≤ len ∧ i = .int .i64 k ∧ Hid (M.take k = N.take k) ∧ ∃ q, wr = w.drewN q) (fun i _ => len - (intOf i).toNat)
    case atStart => exact ⟨0, Nat.zero_le _, rfl, rfl, 0, rfl⟩
    case round =>
      obtain ⟨k, hk, rfl, heq, q, hq⟩ := hrel
      have h' : RdM wr a len cap M := by rw [hq]; exact h.below (below_drewN (Below.refl _ _) q)
      have h2' : RdM wr a2 len cap2 N := by rw [hq]; exact h2.below (below_drewN (Below.refl _ _) q)
      have HQ := Lib.hid hq
      clear hq
      by_cases hlt : k < len
      · obtain ⟨b, off, rfl, _, hr⟩ := h'.at hlt
        obtain ⟨b2, off2, rfl, _, hr2⟩ := h2'.at hlt
        obtain ⟨ar, cr, hc, hrd⟩ := hr k hlt
        obtain ⟨ar2, cr2, hc2, hrd2⟩ := hr2 k hlt
        have hlt' : (k : Int) < (len : Int) := by omega
        have CI : ∀ q, Calls Tryd.prog 32 #[.slice ar (rowOf M k).length cr, .slice ar2 (rowOf N k).length cr2] (wr.drewN q) fun e w' => e = .returned (.bool (decide (rowOf M k = rowOf N k))) ∧ ∃ m, w' = (wr.drewN q).drewN m := fun q => Ints_q (hrd.drewN q) (hrd2.drewN q)
        by_cases he : rowOf M k = rowOf N k
        · have He : decide (rowOf M k = rowOf N k) = true := by simp [he]
          rw [He] at CI
          have HCI := Lib.hid CI
          have He2 := Lib.hid he
          clear he CI He
          go_wp2
          go_quiet ((go_at_call 32; exact Calls.quiet_of (HCI.out _)))
          go_wp2
          go_roundw
          case rel => exact ⟨k + 1, by omega, by go_num, by unfold Hid; rw [take_succ_row (by rw [E1.out]; exact hlt), take_succ_row (by rw [E2.out]; exact hlt), heq.out, He2.out], q + nq, by rw [HQ.out, World.drewN_drewN]⟩
          case measure => simp [intOf]; omega
        · have He : decide (rowOf M k = rowOf N k) = false := by simp [he]
          rw [He] at CI
          have HCI := Lib.hid CI
          have He2 := Lib.hid he
          clear he CI He
          go_wp2
          go_quiet ((go_at_call 32; exact Calls.quiet_of (HCI.out _)))
          go_wp2
          go_ret
          refine ⟨congrArg (fun b => Ending.returned (.bool b)) (decide_eq_false ?_).symm, q + nq, by rw [HQ.out, World.drewN_drewN]⟩
          intro hlm
          exact He2.out (by rw [hlm])
      · go_wp2
        go_ret
        refine ⟨congrArg (fun b => Ending.returned (.bool b)) (decide_eq_true ?_).symm, q, HQ.out⟩
        have := heq.out
        rwa [List.take_of_length_le (by rw [E1.out]; omega), List.take_of_length_le (by rw [E2.out]; omega)] at this
  · have hne : ((len : Int) != (len2 : Int)) = true := bne_iff_ne.2 (by omega)
    have Hl := Lib.hid hl
    clear hl
    go_enter Tryd.func21, Tryd.ntmps21
    go_wp2
    go_ret
    refine ⟨congrArg (fun b => Ending.returned (.bool b)) (decide_eq_false ?_).symm, 0, rfl⟩
    intro hlm
    exact Hl.out (by rw [← E1.out, ← E2.out, hlm])

theorem Rows_any {a a2 : Option Addr} {len cap len2 cap2 : Nat} {l m : List (List Int)} {w : World} (h : RdM w a len cap l) (h2 : RdM w a2 len2 cap2 m) :
    Calls Tryd.prog 21 #[.slice a len cap, .slice a2 len2 cap2] w fun e w' => e = .returned (.bool (decide (l = m))) ∧ Below w.heap.size w w' :=
  (Rows_q h h2).mono fun _ _ ⟨he, q, hq⟩ => ⟨he, by rw [hq]; exact below_drewN (Below.refl _ _) q⟩
set_option maxHeartbeats 400000 in
theorem R_Copy_any {a : Option Addr} {n cap : Nat} {M : List (List Int)} {w : World} (h : RdM w a n cap M) (hn : n ≤ 1000) (hl : ∀ k, k < n → (rowOf M k).length ≤ 1000) :
    Calls Tryd.prog 60 #[.slice a n cap] w fun e w' => ∃ a' cap', e = .returned (.slice a' n cap') ∧ OwM w' w.heap.size 32 3 a' n cap' M ∧ Below w.heap.size w w' := by
  have HM := Lib.hid matTy
  have E1 := Lib.hid h.len_eq
  have hb0 : Below w.heap.size w w := Below.refl _ _
  go_enter Tryd.func60, Tryd.ntmps60
  go_wp2
  go_loopw [3, 4] (fun v i wr => ∃ (k : Nat) (q : Option Addr) (cq : Nat), k ≤ n ∧ i = .int .i64 k ∧ v = .slice q k cq ∧ OwM wr w.heap.size 32 3 q k cq (M.take k) ∧ Below w.heap.size w wr) (fun _ i _ => n - (intOf i).toNat)
  case atStart => exact ⟨0, none, 0, Nat.zero_le _, rfl, rfl, OwM.nil _ _ _ _, hb0⟩
  case round =>
    obtain ⟨k, q, cq, hk, rfl, rfl, ho, hb⟩ := hrel
    by_cases hlt : k < n
    · have hsz := hb.size
      obtain ⟨b, off, rfl, hbl, hr⟩ := h.at hlt
      obtain ⟨ar, cr, hc, hrd⟩ := hr k hlt
      have hc := hb.keep hbl hc
      have hrd := hrd.below hb
      have hlk := hl k hlt
      have tok1 : True := trivial
      go_wp2_with (first
        | (at_builtin; have _t := tok1; refine wpList_append_ints HM.out.int rfl (.tmp 12) (.tmp 16) rfl rfl rfl (OwI.nil wr wr.heap.size _) hrd (by omega) (Nat.le_refl _) ?_; intro a3 cap3 w3 ho3 hg3; have hb3 := below_of_grown hg3; clear tok1; rw [Nat.zero_add, List.nil_append] at ho3)
        | (at_builtin; refine wpList_push_row HM.out rfl (.tmp 18) (.tmp 20) rfl rfl rfl ho (hb3.alloc hb3.size _) (ho3.below ((Below.refl _ _).alloc (Nat.le_refl _) _)) (by simp) (by omega) hsz ?_; intro a4 cap4 w4 ho4 hb4))
      have hb5 := ((hb.trans (hb3.mono hsz)).alloc (Nat.le_trans hsz hb3.size) _).trans hb4
      go_roundw
      case rel => exact ⟨k + 1, a4, cap4, by omega, by go_num, rfl, by rw [take_succ_row (by rw [E1.out]; exact hlt)]; exact ho4, hb5⟩
      case measure => simp [intOf]; omega
    · obtain rfl : k = n := by omega
      go_wp2
      go_ret
      refine ⟨q, cq, rfl, ?_, hb⟩
      rw [List.take_of_length_le (by rw [E1.out]; exact Nat.le_refl _)] at ho
      exact ho
end Go.Proofs.YtkielldinghmbaaDoor
namespace Go.Proofs.YtkielldinghmbaaDoor
open Go.RowKit Go.Rk

/-- The number of an error that is none, or a number. -/
theorem Told_any {x : Option Int} {w : World} (hg : ErrT w) : Calls Tryd.prog 62 #[errV x] w fun e w' => e = .returned (.int .i64 (x.getD 0)) ∧ Below w.heap.size w w' := by
  cases x with
  | none =>
    go_enter Tryd.func62, Tryd.ntmps62
    simp only [errV]
    go_wp2
    go_ret
    exact ⟨rfl, Below.refl _ _⟩
  | some c =>
    have hb := (Below.refl w.heap.size w).alloc (Nat.le_refl _) (.cells #[.int .i64 0] 70)
    have C := Lib.hid (as_hit c ⟨w.heap.size, 0, none⟩ (.int .i64 0) _ (hg.below hb) (by simp) (by simp))
    go_enter Tryd.func62, Tryd.ntmps62
    simp only [errV]
    go_wp2_with (first | (go_at_call 84; (with_reducible refine C.out.mono ?_); rintro e w' ⟨rfl, w2, hb2, hc2, rfl⟩; have hc3 := World.cell?_setCell_same w2 ⟨w.heap.size, 0, none⟩ (.int .i64 c) hc2))
    go_ret
    exact ⟨rfl, (hb.trans (hb2.mono hb.size)).setCell (p := ⟨w.heap.size, 0, none⟩) (Nat.le_refl _) _⟩

theorem E_Error_any {x : Option Int} {e : Int} {w : World} (hg : ErrT w) : Calls Tryd.prog 17 #[errV x, .int .i64 e] w fun ev w' => ev = .returned (.bool (x.getD 0 == e)) ∧ Below w.heap.size w w' := by
  have C := Lib.hid (Told_any (x := x) hg)
  go_enter Tryd.func17, Tryd.ntmps17
  go_wp2_with (first | (go_at_call 62; (with_reducible refine C.out.mono ?_); rintro e w' ⟨rfl, hb⟩))
  go_ret
  exact ⟨rfl, hb⟩
theorem rowErr1_nz {lo hi : Int} {c : Nat} {e : Int} {l : List Int} (h : rowErr1 lo hi c l = some e) : e ≠ 0 := by
  unfold rowErr1 at h
  split at h
  · cases h; decide
  · split at h
    · cases h; decide
    · cases h
theorem rowsErr_nz {lo hi : Int} {c : Nat} {e : Int} {M : List (List Int)} (h : rowsErr lo hi c M = some e) : e ≠ 0 := by
  have g : ∀ (M : List (List Int)) (o : Option Int), (∀ x, o = some x → x ≠ 0) → ∀ x, M.foldl (fun r l => match r with | none => rowErr1 lo hi c l | some c => some c) o = some x → x ≠ 0 := by
    intro M
    induction M with
    | nil => exact fun o ho x hx => ho x hx
    | cons r M ih =>
      intro o ho x hx
      refine ih _ (fun y hy => ?_) x hx
      cases o with
      | none => exact rowErr1_nz hy
      | some z => exact ho y hy
  exact g M none (fun x hx => by cases hx) e h
theorem groundsR_nz {most lo hi : Int} {M : List (List Int)} {e : Int} (h : groundsR most lo hi M = some e) : e ≠ 0 := by
  unfold groundsR at h
  split at h
  · cases h; decide
  · split at h
    · cases h; decide
    · exact rowsErr_nz h
theorem squareR_nz {most lo hi : Int} {M : List (List Int)} {e : Int} (h : squareR most lo hi M = some e) : e ≠ 0 := by
  unfold squareR at h
  split at h
  · split at h
    · cases h
    · cases h; decide
  · exact groundsR_nz h
/-- No error, a number; an error, a number; an error and its own number. -/
theorem E_nil {e : Int} {w : World} (hg : ErrT w) : Calls Tryd.prog 17 #[.nilIface, .int .i64 e] w fun ev w' => ev = .returned (.bool (0 == e)) ∧ Below w.heap.size w w' := E_Error_any (x := none) hg
theorem E_nil0 {w : World} (hg : ErrT w) : Calls Tryd.prog 17 #[.nilIface, .int .i64 0] w fun ev w' => ev = .returned (.bool true) ∧ Below w.heap.size w w' := E_Error_any (x := none) hg
theorem E_some {c e : Int} {w : World} (hg : ErrT w) : Calls Tryd.prog 17 #[.iface 70 (.int .i64 c), .int .i64 e] w fun ev w' => ev = .returned (.bool (c == e)) ∧ Below w.heap.size w w' := E_Error_any (x := some c) hg
theorem E_same {c : Int} {w : World} (hg : ErrT w) : Calls Tryd.prog 17 #[.iface 70 (.int .i64 c), .int .i64 c] w fun ev w' => ev = .returned (.bool true) ∧ Below w.heap.size w w' := by
  have := E_Error_any (x := some c) (e := c) hg
  rw [show ((some c).getD 0 == c) = true from beq_iff_eq.2 rfl] at this
  exact this
end Go.Proofs.YtkielldinghmbaaDoor
namespace Go.Rk
open Go.RowKit

/-- The outer block is g; row i lies in block D i, of capacity C i. -/
structure OwMD (w : World) (B T E g : Nat) (D C : Nat → Nat) (n cap : Nat) (M : List (List Int)) : Prop where
  len_eq : M.length = n
  outer : w.ownsRow B T 1 (.slice (some ⟨g, 0, none⟩) n cap) n ((List.range n).map fun i => Value.slice (some ⟨D i, 0, none⟩) (rowOf M i).length (C i))
  rows : ∀ i, i < n → OwI w B E (some ⟨D i, 0, none⟩) (rowOf M i).length (C i) (rowOf M i)
  inj : ∀ i j, i < n → j < n → i ≠ j → D i ≠ D j

section
variable {w w' : World} {B B' T E g : Nat} {D C : Nat → Nat} {n cap : Nat} {M : List (List Int)}

theorem OwM.named {a : Option Addr} (h : OwM w B T E a n cap M) (hn : 0 < n) (hp : ∀ i, i < n → 0 < (rowOf M i).length) : ∃ g D C, a = some ⟨g, 0, none⟩ ∧ OwMD w B T E g D C n cap M := by
  obtain ⟨vs, ho, hr, hd⟩ := h.own
  obtain ⟨g, c, hv, hb, hlt⟩ := ho.form hn
  injection hv with ha _ hc
  subst ha; subst hc
  have hr' : ∀ i, i < n → ∃ y : Nat × Nat, vs[i]? = some (.slice (some ⟨y.1, 0, none⟩) (rowOf M i).length y.2) ∧ OwI w B E (some ⟨y.1, 0, none⟩) (rowOf M i).length y.2 (rowOf M i) := by
    intro i hi
    obtain ⟨ar, cr, e, o⟩ := hr i hi
    obtain ⟨b, hab, _⟩ := o.at (hp i hi)
    subst hab
    exact ⟨(b, cr), e, o⟩
  obtain ⟨y, hy⟩ := Go.Deep.choose_lt hr'
  have hvl : vs.length = n := by have := ho.1; omega
  refine ⟨g, fun i => (y i).1, fun i => (y i).2, rfl, h.len_eq, ?_, fun i hi => (hy i hi).2, fun i j hi hj hij e => ?_⟩
  · have : vs = (List.range n).map fun i => Value.slice (some ⟨(y i).1, 0, none⟩) (rowOf M i).length (y i).2 := by
      apply List.ext_getElem?
      intro i
      rcases Nat.lt_or_ge i n with h1 | h1
      · rw [(hy i h1).1]; simp [h1]
      · rw [List.getElem?_eq_none (by omega), List.getElem?_eq_none (by simp; omega)]
    rw [← this]
    exact ho
  · refine hd i j (y i).1 hi hj hij ?_ ?_
    · simp [blk, (hy i hi).1, Value.ownBlock]
    · simp [blk, (hy j hj).1, Value.ownBlock]
      exact e.symm

theorem OwMD.toM (h : OwMD w B T E g D C n cap M) : OwM w B T E (some ⟨g, 0, none⟩) n cap M := by
  refine ⟨h.len_eq, _, h.outer, fun k hk => ⟨_, _, by simp [hk], h.rows k hk⟩, fun i j b hi hj hij e e2 => ?_⟩
  simp [blk, hi, hj, Value.ownBlock] at e e2
  exact h.inj i j hi hj hij (e.trans e2.symm)

theorem OwMD.cellO (h : OwMD w B T E g D C n cap M) {i : Nat} (hi : i < n) : w.cell? ⟨g, i, none⟩ = some (.slice (some ⟨D i, 0, none⟩) (rowOf M i).length (C i)) := by
  rw [h.outer.cellAt i (by omega)]; simp [hi]
theorem OwMD.frozenO (h : OwMD w B T E g D C n cap M) (i : Nat) : w.frozen? ⟨g, i, none⟩ = false := h.outer.frozenAt i
theorem OwMD.cellI (h : OwMD w B T E g D C n cap M) {i j : Nat} (hi : i < n) (hj : j < (rowOf M i).length) : w.cell? ⟨D i, j, none⟩ = some (.int .i64 (en M i j)) := by
  obtain ⟨b, hb, _, _, hc, _⟩ := (h.rows i hi).at (by omega)
  injection hb with hb
  injection hb with hb
  rw [hb]; exact hc j hj
theorem OwMD.frozenI (h : OwMD w B T E g D C n cap M) {i : Nat} (hi : i < n) (hp : 0 < (rowOf M i).length) (j : Nat) : w.frozen? ⟨D i, j, none⟩ = false := by
  obtain ⟨b, hb, _, _, _, hf⟩ := (h.rows i hi).at hp
  injection hb with hb
  injection hb with hb
  rw [hb]; exact hf j
theorem OwMD.lowO (h : OwMD w B T E g D C n cap M) : B ≤ g ∧ g < w.heap.size := h.outer.lt g rfl
theorem OwMD.lowI (h : OwMD w B T E g D C n cap M) {i : Nat} (hi : i < n) : B ≤ D i ∧ D i < w.heap.size := (h.rows i hi).own.lt _ rfl
theorem OwMD.neO (h : OwMD w B T E g D C n cap M) (hne : T ≠ E) {i : Nat} (hi : i < n) : D i ≠ g := by
  intro e
  have := own_ne hne h.outer (h.rows i hi).own (b := g) rfl
  exact this (by rw [← e]; rfl)

theorem OwMD.below (h : OwMD w B T E g D C n cap M) (hb : Below w.heap.size w w') : OwMD w' B T E g D C n cap M :=
  ⟨h.len_eq, h.outer.kept (row := none) ⟨hb.os, hb.tape, hb.output, hb.size, fun k hk _ => hb.block k hk⟩ (.inr (by simp [Value.ownBlock])), fun i hi => (h.rows i hi).below hb, h.inj⟩
theorem OwMD.drew (h : OwMD w B T E g D C n cap M) : OwMD w.drew B T E g D C n cap M := h.below (Below.refl _ _).drew
theorem OwMD.drewN (h : OwMD w B T E g D C n cap M) (k : Nat) : OwMD (w.drewN k) B T E g D C n cap M := h.below (below_drewN (Below.refl _ _) k)
theorem OwMD.alloc (h : OwMD w B T E g D C n cap M) (o : Obj) : OwMD (w.alloc o) B T E g D C n cap M := h.below ((Below.refl _ _).alloc (Nat.le_refl _) o)

/-- A store of an element. -/
theorem OwMD.set (h : OwMD w B T E g D C n cap M) (hne : T ≠ E) {i j : Nat} (hi : i < n) (x : Int) : OwMD (w.setCell ⟨D i, j, none⟩ (.int .i64 x)) B T E g D C n cap (setE M i j x) := by
  refine ⟨by rw [setE_len]; exact h.len_eq, ?_, fun k hk => ?_, h.inj⟩
  · have : ((List.range n).map fun k => Value.slice (some ⟨D k, 0, none⟩) (rowOf (setE M i j x) k).length (C k)) = (List.range n).map fun k => Value.slice (some ⟨D k, 0, none⟩) (rowOf M k).length (C k) :=
      List.map_congr_left fun k _ => by rw [setE_row_len]
    rw [this]
    exact h.outer.kept (grownBy_setCell w _ _) (.inr (by simp [Value.ownBlock]; exact fun e => h.neO hne hi e.symm))
  · rw [setE_row_len]
    by_cases hik : i = k
    · subst hik
      have : rowOf (setE M i j x) i = (rowOf M i).set j x := by
        unfold setE
        rw [rowOf_set, if_pos ⟨rfl, by rw [h.len_eq]; exact hi⟩]
      rw [this]
      exact (h.rows i hi).set x
    · have : rowOf (setE M i j x) k = rowOf M k := by
        unfold setE
        rw [rowOf_set, if_neg fun h2 => hik h2.1]
      rw [this]
      exact (h.rows k hk).setElse (h.inj i k hi hk hik) _

/-- A store beside it. -/
theorem OwMD.setElse (h : OwMD w B T E g D C n cap M) {p : Addr} (hg : p.block ≠ g) (hD : ∀ i, i < n → p.block ≠ D i) (u : Value) : OwMD (w.setCell p u) B T E g D C n cap M :=
  ⟨h.len_eq, h.outer.kept (grownBy_setCell w _ _) (.inr (by simp [Value.ownBlock]; exact fun e => hg e.symm)), fun i hi => (h.rows i hi).setElse (hD i hi) _, h.inj⟩

/-- Two rows in each other's place. -/
def swapL (M : List (List Int)) (i k : Nat) : List (List Int) := (M.set i (rowOf M k)).set k (rowOf M i)
def swapF (D : Nat → Nat) (i k : Nat) : Nat → Nat := fun j => if j = k then D i else if j = i then D k else D j

theorem swapL_len (M : List (List Int)) (i k : Nat) : (swapL M i k).length = M.length := by simp [swapL]
theorem rowOf_swapL {M : List (List Int)} {i k : Nat} (hi : i < M.length) (hk : k < M.length) (j : Nat) : rowOf (swapL M i k) j = if j = k then rowOf M i else if j = i then rowOf M k else rowOf M j := by
  unfold swapL
  rw [rowOf_set, rowOf_set, List.length_set]
  by_cases h1 : j = k
  · subst h1; simp [hk]
  · by_cases h2 : j = i
    · subst h2; simp [h1, Ne.symm h1, hi]
    · simp [h1, h2, Ne.symm h1, Ne.symm h2]

theorem OwMD.swap (h : OwMD w B T E g D C n cap M) (hne : T ≠ E) {i k : Nat} (hi : i < n) (hk : k < n) :
    OwMD ((w.setCell ⟨g, i, none⟩ (.slice (some ⟨D k, 0, none⟩) (rowOf M k).length (C k))).setCell ⟨g, k, none⟩ (.slice (some ⟨D i, 0, none⟩) (rowOf M i).length (C i))) B T E g (swapF D i k) (swapF C i k) n cap (swapL M i k) := by
  have hil : i < M.length := by rw [h.len_eq]; exact hi
  have hkl : k < M.length := by rw [h.len_eq]; exact hk
  have s1 := (h.outer.stored i (.slice (some ⟨D k, 0, none⟩) (rowOf M k).length (C k))).1
  have s2 := (s1.stored k (.slice (some ⟨D i, 0, none⟩) (rowOf M i).length (C i))).1
  refine ⟨by rw [swapL_len]; exact h.len_eq, ?_, fun j hj => ?_, fun a b ha hb hab => ?_⟩
  · have : ((List.range n).map fun j => Value.slice (some ⟨swapF D i k j, 0, none⟩) (rowOf (swapL M i k) j).length (swapF C i k j)) =
        (((List.range n).map fun j => Value.slice (some ⟨D j, 0, none⟩) (rowOf M j).length (C j)).set i (.slice (some ⟨D k, 0, none⟩) (rowOf M k).length (C k))).set k (.slice (some ⟨D i, 0, none⟩) (rowOf M i).length (C i)) := by
      apply List.ext_getElem?
      intro j
      rcases Nat.lt_or_ge j n with h1 | h1
      · rw [List.getElem?_set, List.getElem?_set]
        simp only [List.length_set, List.length_map, List.length_range, List.getElem?_map]
        rw [List.getElem?_range h1]
        simp only [Option.map_some, rowOf_swapL hil hkl, swapF]
        by_cases h2 : j = k
        · subst h2; simp [h1]
        · by_cases h3 : j = i
          · subst h3; simp [h2, Ne.symm h2, h1]
          · simp [h2, h3, Ne.symm h2, Ne.symm h3]
      · rw [List.getElem?_eq_none (by simp; omega), List.getElem?_eq_none (by simp; omega)]
    rw [this]
    exact s2
  · rw [rowOf_swapL hil hkl]
    have keep : ∀ m, m < n → OwI ((w.setCell ⟨g, i, none⟩ (.slice (some ⟨D k, 0, none⟩) (rowOf M k).length (C k))).setCell ⟨g, k, none⟩ (.slice (some ⟨D i, 0, none⟩) (rowOf M i).length (C i))) B E (some ⟨D m, 0, none⟩) (rowOf M m).length (C m) (rowOf M m) :=
      fun m hm => ((h.rows m hm).setElse (h.neO hne hm).symm _).setElse (h.neO hne hm).symm _
    simp only [swapF]
    by_cases h2 : j = k
    · simp only [h2, if_true]; exact keep i hi
    · by_cases h3 : j = i
      · simp only [h3, if_true]
        by_cases h4 : i = k
        · exact absurd (h3.trans h4) h2
        · simp only [if_neg h4]; exact keep k hk
      · simp only [h2, h3, if_false]; exact keep j hj
  · simp only [swapF]
    by_cases h1 : a = k
    · subst h1
      rw [if_pos rfl, if_neg (Ne.symm hab)]
      by_cases h2 : b = i
      · subst h2; rw [if_pos rfl]; exact fun e => hab (by rcases Nat.decEq a b with h3 | h3; exact absurd e.symm (h.inj a b ha hb h3); exact h3)
      · rw [if_neg h2]; exact h.inj i b hi hb (Ne.symm h2)
    · rw [if_neg h1]
      by_cases h3 : a = i
      · subst h3
        rw [if_pos rfl]
        by_cases h2 : b = k
        · subst h2; rw [if_pos rfl]; exact h.inj b a hb ha (Ne.symm hab)
        · rw [if_neg h2, if_neg (Ne.symm hab)]; exact h.inj k b hk hb (Ne.symm h2)
      · rw [if_neg h3]
        by_cases h2 : b = k
        · subst h2; rw [if_pos rfl]; exact h.inj a i ha hi h3
        · rw [if_neg h2]
          by_cases h4 : b = i
          · subst h4; rw [if_pos rfl]; exact h.inj a k ha hk h1
          · rw [if_neg h4]; exact h.inj a b ha hb hab
end
end Go.Rk
namespace Go.Rk

abbrev Mx := Nat → Nat → Int

def skip (j c : Nat) : Nat := if c < j then c else c + 1
def minor (A : Mx) (i j : Nat) : Mx := fun r c => A (skip i r) (skip j c)
def sg (j : Nat) : Int := if j % 2 = 0 then 1 else -1
def det : Nat → Mx → Int
  | 0, _ => 1
  | n + 1, A => sumTo (fun j => sg j * A 0 j * det n (minor A 0 j)) (n + 1)
def setRow (A : Mx) (i : Nat) (r : Nat → Int) : Mx := fun k c => if k = i then r c else A k c
def unit_ (j : Nat) : Nat → Int := fun c => if c = j then 1 else 0
def idM : Mx := fun i => unit_ i
def mulM (n : Nat) (A B : Mx) : Mx := fun i j => sumTo (fun k => A i k * B k j) n
def trM (A : Mx) : Mx := fun i j => A j i

theorem sg_succ (j : Nat) : sg (j + 1) = -sg j := by unfold sg; split <;> split <;> omega
theorem sg_sq (j : Nat) : sg j * sg j = 1 := by unfold sg; split <;> rfl
theorem sg_add (i j : Nat) : sg (i + j) = sg i * sg j := by
  induction i with
  | zero => simp [sg]
  | succ i ih => rw [Nat.add_right_comm, sg_succ, sg_succ, ih, Int.neg_mul]
theorem skip_lt {j c n : Nat} (h : c < n) : skip j c < n + 1 := by unfold skip; split <;> omega
theorem skip_ne (j c : Nat) : skip j c ≠ j := by unfold skip; split <;> omega
theorem skip_zero (c : Nat) : skip 0 c = c + 1 := by simp [skip]
theorem skip_skip {i j c : Nat} (h : i ≤ j) : skip i (skip j c) = skip (j + 1) (skip i c) := by
  unfold skip; (repeat' split) <;> omega

theorem det_congr {n : Nat} : ∀ {A B : Mx}, (∀ i j, i < n → j < n → A i j = B i j) → det n A = det n B := by
  induction n with
  | zero => intro A B _; rfl
  | succ n ih =>
    intro A B h
    unfold det
    refine sumTo_congr fun j hj => ?_
    rw [h 0 j (by omega) hj, ih (A := minor A 0 j) (B := minor B 0 j) fun r c hr hc => h _ _ (skip_lt hr) (skip_lt hc)]

theorem minor_setRow_zero (A : Mx) (r : Nat → Int) (j : Nat) : minor (setRow A 0 r) 0 j = minor A 0 j := by
  funext a c; simp [minor, setRow, skip_zero]
theorem minor_setRow_succ (A : Mx) (i : Nat) (r : Nat → Int) (j : Nat) : minor (setRow A (i + 1) r) 0 j = setRow (minor A 0 j) i (fun c => r (skip j c)) := by
  funext a c; simp [minor, setRow, skip_zero]

theorem det_row_add {n : Nat} : ∀ (A : Mx) (i : Nat), i < n → ∀ (r s : Nat → Int), det n (setRow A i fun c => r c + s c) = det n (setRow A i r) + det n (setRow A i s) := by
  induction n with
  | zero => intro A i h; omega
  | succ n ih =>
    intro A i hi r s
    unfold det
    rw [← sumTo_add]
    refine sumTo_congr fun j _ => ?_
    cases i with
    | zero => simp only [minor_setRow_zero, setRow, if_true]; grind
    | succ i =>
      simp only [minor_setRow_succ]
      rw [ih (minor A 0 j) i (by omega) (fun c => r (skip j c)) (fun c => s (skip j c))]
      simp only [setRow]
      grind

theorem det_row_mul {n : Nat} : ∀ (A : Mx) (i : Nat), i < n → ∀ (x : Int) (r : Nat → Int), det n (setRow A i fun c => x * r c) = x * det n (setRow A i r) := by
  induction n with
  | zero => intro A i h; omega
  | succ n ih =>
    intro A i hi x r
    unfold det
    rw [← sumTo_mul]
    refine sumTo_congr fun j _ => ?_
    cases i with
    | zero => simp only [minor_setRow_zero, setRow, if_true]; grind
    | succ i =>
      simp only [minor_setRow_succ]
      rw [ih (minor A 0 j) i (by omega) x (fun c => r (skip j c))]
      simp only [setRow]
      grind

/-- A sum over all pairs of two places, in pairs of pairs. -/
theorem sum_pairs (F : Nat → Nat → Int) (n : Nat) : sumTo (fun j => sumTo (fun k => F j k) (n + 1)) (n + 2) =
    sumTo (fun k => sumTo (fun j => if j ≤ k then F j k + F (k + 1) j else 0) (n + 1)) (n + 1) := by
  have h1 : sumTo (fun j => sumTo (fun k => F j k) (n + 1)) (n + 2) = sumTo (fun j => sumTo (fun k => if j ≤ k then F j k else 0) (n + 1)) (n + 2) + sumTo (fun j => sumTo (fun k => if j ≤ k then 0 else F j k) (n + 1)) (n + 2) := by
    rw [← sumTo_add]
    refine sumTo_congr fun j _ => ?_
    rw [← sumTo_add]
    refine sumTo_congr fun k _ => ?_
    split <;> simp
  have h2 : sumTo (fun j => sumTo (fun k => if j ≤ k then F j k else 0) (n + 1)) (n + 2) = sumTo (fun j => sumTo (fun k => if j ≤ k then F j k else 0) (n + 1)) (n + 1) := by
    show sumTo _ (n + 1) + sumTo (fun k => if n + 1 ≤ k then F (n + 1) k else 0) (n + 1) = _
    rw [sumTo_congr (g := fun k => if n + 1 ≤ k then F (n + 1) k else 0) (h := fun _ => 0) fun k hk => if_neg (by omega), sumTo_zero, Int.add_zero]
  have h3 : sumTo (fun j => sumTo (fun k => if j ≤ k then 0 else F j k) (n + 1)) (n + 2) = sumTo (fun k => sumTo (fun j => if j ≤ k then F (k + 1) j else 0) (n + 1)) (n + 1) := by
    rw [sumTo_succ_left, sumTo_congr (g := fun k => if 0 ≤ k then 0 else F 0 k) (h := fun _ => 0) fun k _ => if_pos (Nat.zero_le _), sumTo_zero, Int.zero_add]
    refine sumTo_congr fun k _ => sumTo_congr fun j _ => ?_
    by_cases h : j ≤ k
    · rw [if_neg (by omega), if_pos h]
    · rw [if_pos (by omega), if_neg h]
  rw [h1, h2, h3, sumTo_swap, ← sumTo_add]
  refine sumTo_congr fun k _ => ?_
  rw [← sumTo_add]
  refine sumTo_congr fun j _ => ?_
  split <;> simp

/-- Two rows beside each other that are alike. -/
theorem det_adj_eq {n : Nat} : ∀ (A : Mx) (i : Nat), i + 1 < n → (∀ c, c < n → A i c = A (i + 1) c) → det n A = 0 := by
  induction n with
  | zero => intro A i h; omega
  | succ n ih =>
    intro A i hi he
    cases i with
    | succ i =>
      unfold det
      rw [sumTo_congr (h := fun _ => 0), sumTo_zero]
      intro j hj
      rw [ih (minor A 0 j) i (by omega) fun c hc => by simp only [minor, skip_zero]; exact he _ (skip_lt hc)]
      simp
    | zero =>
      obtain ⟨m, rfl⟩ : ∃ m, n = m + 1 := ⟨n - 1, by omega⟩
      have h1 : det (m + 2) A = sumTo (fun j => sumTo (fun k => sg j * A 0 j * (sg k * A 1 (skip j k) * det m (minor (minor A 0 j) 0 k))) (m + 1)) (m + 2) := by
        show sumTo (fun j => sg j * A 0 j * det (m + 1) (minor A 0 j)) (m + 2) = _
        refine sumTo_congr fun j _ => ?_
        rw [sumTo_mul]
        rfl
      rw [h1, sum_pairs, sumTo_congr (h := fun _ => 0), sumTo_zero]
      intro k hk
      rw [sumTo_congr (h := fun _ => 0), sumTo_zero]
      intro j hj
      split
      · next hjk =>
        have e1 : skip j k = k + 1 := by unfold skip; split <;> omega
        have e2 : skip (k + 1) j = j := by unfold skip; split <;> omega
        have e3 : minor (minor A 0 j) 0 k = minor (minor A 0 (k + 1)) 0 j := by
          funext a c
          simp only [minor]
          rw [skip_skip hjk]
        rw [e1, e2, e3, sg_succ, ← he (k + 1) (by omega), ← he j (by omega)]
        grind
      · rfl

theorem setRow_self (A : Mx) (i : Nat) : setRow A i (A i) = A := by funext k c; simp only [setRow]; split <;> simp_all
theorem setRow_comm (A : Mx) {i j : Nat} (h : i ≠ j) (r s : Nat → Int) : setRow (setRow A i r) j s = setRow (setRow A j s) i r := by
  funext k c; simp only [setRow]; (repeat' split) <;> first | rfl | omega
theorem setRow_twice (A : Mx) (i : Nat) (r s : Nat → Int) : setRow (setRow A i r) i s = setRow A i s := by
  funext k c; simp only [setRow]; split <;> rfl

/-- What a determinant does with rows, said of any function of n rows. -/
structure Alt (n : Nat) (f : Mx → Int) : Prop where
  congr : ∀ {A B : Mx}, (∀ i j, i < n → j < n → A i j = B i j) → f A = f B
  add : ∀ (A : Mx) (i : Nat), i < n → ∀ (r s : Nat → Int), f (setRow A i fun c => r c + s c) = f (setRow A i r) + f (setRow A i s)
  mul : ∀ (A : Mx) (i : Nat), i < n → ∀ (x : Int) (r : Nat → Int), f (setRow A i fun c => x * r c) = x * f (setRow A i r)
  adj : ∀ (A : Mx) (i : Nat), i + 1 < n → (∀ c, c < n → A i c = A (i + 1) c) → f A = 0

theorem det_alt (n : Nat) : Alt n (det n) := ⟨det_congr, det_row_add, det_row_mul, det_adj_eq⟩

section
variable {n : Nat} {f : Mx → Int}

/-- Two rows changed for each other. -/
def swapM (A : Mx) (i j : Nat) : Mx := setRow (setRow A i (A j)) j (A i)

theorem Alt.swap_adj (h : Alt n f) (A : Mx) (i : Nat) (hi : i + 1 < n) : f (swapM A i (i + 1)) = -f A := by
  have k : ∀ r s : Nat → Int, f (setRow (setRow A i r) (i + 1) s) + f (setRow (setRow A i s) (i + 1) r) = 0 := by
    intro r s
    have h0 := h.adj (setRow (setRow A i fun c => r c + s c) (i + 1) fun c => r c + s c) i hi fun c _ => by simp [setRow]
    have hr := h.adj (setRow (setRow A i r) (i + 1) r) i hi fun c _ => by simp [setRow]
    have hs := h.adj (setRow (setRow A i s) (i + 1) s) i hi fun c _ => by simp [setRow]
    rw [h.add _ _ hi, setRow_comm A (by omega : i ≠ i + 1), setRow_comm A (by omega : i ≠ i + 1), h.add _ _ (by omega), h.add _ _ (by omega), ← setRow_comm A (by omega : i ≠ i + 1), ← setRow_comm A (by omega : i ≠ i + 1),
      ← setRow_comm A (by omega : i ≠ i + 1), ← setRow_comm A (by omega : i ≠ i + 1), hr, hs] at h0
    omega
  have k1 := k (A (i + 1)) (A i)
  rw [setRow_self, show setRow A (i + 1) (A (i + 1)) = A from setRow_self A (i + 1)] at k1
  unfold swapM
  omega

theorem Alt.eq_rows (h : Alt n f) : ∀ (d : Nat) (A : Mx) (i : Nat), i + d + 1 < n → (∀ c, c < n → A i c = A (i + d + 1) c) → f A = 0 := by
  intro d
  induction d with
  | zero => exact fun A i hi he => h.adj A i hi he
  | succ d ih =>
    intro A i hi he
    have h1 := h.swap_adj A (i + d + 1) (by omega)
    have h2 := ih (swapM A (i + d + 1) (i + d + 1 + 1)) i (by omega) fun c hc => by
      have := he c hc
      simp only [swapM, setRow]
      rw [if_neg (by omega), if_neg (by omega), if_neg (by omega), if_pos trivial]
      exact this
    omega

theorem Alt.eq_zero (h : Alt n f) (A : Mx) {i j : Nat} (hij : i ≠ j) (hi : i < n) (hj : j < n) (he : ∀ c, c < n → A i c = A j c) : f A = 0 := by
  rcases Nat.lt_or_ge i j with h1 | h1
  · have := h.eq_rows (j - i - 1) A i (by omega)
    rw [show i + (j - i - 1) + 1 = j from by omega] at this
    exact this he
  · have := h.eq_rows (i - j - 1) A j (by omega)
    rw [show j + (i - j - 1) + 1 = i from by omega] at this
    exact this fun c hc => (he c hc).symm

theorem Alt.swap (h : Alt n f) (A : Mx) {i j : Nat} (hij : i ≠ j) (hi : i < n) (hj : j < n) : f (swapM A i j) = -f A := by
  have k : ∀ r s : Nat → Int, f (setRow (setRow A i r) j s) + f (setRow (setRow A i s) j r) = 0 := by
    intro r s
    have e : ∀ t : Nat → Int, f (setRow (setRow A i t) j t) = 0 := fun t => h.eq_zero _ hij hi hj fun c _ => by simp [setRow]
    have h0 := e fun c => r c + s c
    rw [h.add _ _ hj, setRow_comm A hij, setRow_comm A hij, h.add _ _ hi, h.add _ _ hi, ← setRow_comm A hij, ← setRow_comm A hij, ← setRow_comm A hij, ← setRow_comm A hij, e r, e s] at h0
    omega
  have k1 := k (A j) (A i)
  rw [setRow_self, show setRow A j (A j) = A from setRow_self A j] at k1
  unfold swapM
  omega

/-- So many times one row, added to another one. -/
theorem Alt.add_row (h : Alt n f) (A : Mx) {i j : Nat} (hij : i ≠ j) (hi : i < n) (hj : j < n) (x : Int) : f (setRow A i fun c => A i c + x * A j c) = f A := by
  have h1 := h.add A i hi (A i) (fun c => x * A j c)
  rw [h1, h.mul A i hi, setRow_self, h.eq_zero (setRow A i (A j)) hij hi hj fun c _ => by simp [setRow, Ne.symm hij]]
  simp

theorem Alt.zero_row (h : Alt n f) (A : Mx) {i : Nat} (hi : i < n) (he : ∀ c, c < n → A i c = 0) : f A = 0 := by
  have h1 := h.mul A i hi 0 (A i)
  rw [Int.zero_mul] at h1
  rw [← h1]
  refine h.congr fun a c _ hc => ?_
  simp only [setRow]
  split
  · next e => subst e; rw [he c hc]; simp
  · rfl

/-- A row is a sum of units. -/
theorem Alt.row_sum (h : Alt n f) (A : Mx) {i : Nat} (hi : i < n) : f A = sumTo (fun j => A i j * f (setRow A i (unit_ j))) n := by
  have k : ∀ m, f (setRow A i fun c => if c < m then A i c else 0) = sumTo (fun j => A i j * f (setRow A i (unit_ j))) m := by
    intro m
    induction m with
    | zero => exact h.zero_row _ hi fun c _ => by simp [setRow]
    | succ m ih =>
      rw [sumTo, ← ih, ← h.mul A i hi (A i m) (unit_ m), ← h.add A i hi]
      congr 2
      funext c
      simp only [unit_]
      by_cases h1 : c = m
      · subst h1; simp
      · by_cases h2 : c < m
        · simp [h1, h2, Nat.lt_succ_of_lt h2]
        · simp [h1, h2, show ¬ c < m + 1 from by omega]
  rw [← k n]
  refine h.congr fun a c _ hc => ?_
  simp only [setRow]
  split
  · next e => subst e; simp
  · rfl
end

/-- The row e_j, above the rows of B with a column of noughts put in at j. -/
def under (j : Nat) (B : Mx) : Mx := fun r c => if r = 0 then unit_ j c else if c < j then B (r - 1) c else if c = j then 0 else B (r - 1) (c - 1)

/-- The unit rows, but the j-th one first. -/
def first (j : Nat) : Mx := fun r => if r = 0 then unit_ j else if r ≤ j then unit_ (r - 1) else unit_ r

theorem first_swap (j : Nat) : swapM (first (j + 1)) 0 (j + 1) = fun r => if r = 0 then unit_ j else if r = j + 1 then unit_ (j + 1) else if r ≤ j then unit_ (r - 1) else unit_ r := by
  funext r
  simp only [swapM]
  funext c
  simp only [setRow, first]
  by_cases h0 : r = 0
  · subst h0
    simp
  · by_cases h1 : r = j + 1
    · subst h1; simp
    · by_cases h2 : r ≤ j
      · simp [h0, h1, h2, show r ≤ j + 1 from by omega]
      · simp [h0, h1, h2, show ¬ r ≤ j + 1 from by omega]

theorem Alt.first_sign {n : Nat} {f : Mx → Int} (h : Alt n f) : ∀ j, j < n → f (first j) = sg j * f idM := by
  intro j
  induction j with
  | zero =>
    intro _
    have : first 0 = idM := by
      funext r
      simp only [first, idM]
      split
      · next e => rw [e]
      · next e => rw [if_neg (by omega)]
    rw [this]; simp [sg]
  | succ j ih =>
    intro hj
    have h1 := h.swap (first (j + 1)) (i := 0) (j := j + 1) (by omega) (by omega) hj
    have h2 : swapM (first (j + 1)) 0 (j + 1) = first j := by
      rw [first_swap]
      funext r
      simp only [first]
      by_cases h0 : r = 0
      · simp [h0]
      · by_cases h1 : r = j + 1
        · subst h1; simp [show ¬ j + 1 ≤ j from by omega]
        · simp [h0, h1]
    rw [h2, ih (by omega)] at h1
    rw [sg_succ]
    grind

/-- THERE IS BUT ONE: what does with rows as a determinant does is so many times the determinant. -/
theorem Alt.unique {n : Nat} : ∀ {f : Mx → Int}, Alt n f → ∀ A, f A = f idM * det n A := by
  induction n with
  | zero =>
    intro f h A
    rw [h.congr (A := A) (B := idM) fun i j hi => absurd hi (Nat.not_lt_zero _)]
    simp [det]
  | succ n ih =>
    intro f h A
    rw [h.row_sum A (Nat.succ_pos n), det, ← sumTo_mul]
    refine sumTo_congr fun j hj => ?_
    -- with the first row a unit, the column beneath it may be struck
    have hstrike : f (setRow A 0 (unit_ j)) = f (under j (minor A 0 j)) := by
      have k : ∀ m, m ≤ n → f (fun r c => if r = 0 then unit_ j c else if r ≤ m then (if c = j then 0 else A r c) else A r c) = f (setRow A 0 (unit_ j)) := by
        intro m
        induction m with
        | zero =>
          intro _
          congr 1
          funext r c
          simp only [setRow]
          by_cases h0 : r = 0
          · simp [h0]
          · simp [h0]
        | succ m ihm =>
          intro hm
          rw [← ihm (by omega)]
          rw [← h.add_row (fun r c => if r = 0 then unit_ j c else if r ≤ m then (if c = j then 0 else A r c) else A r c) (i := m + 1) (j := 0) (by omega) (by omega) (by omega) (-A (m + 1) j)]
          congr 1
          funext r c
          simp only [setRow, if_true]
          by_cases h0 : r = 0
          · subst h0; simp
          · by_cases h1 : r = m + 1
            · subst h1
              by_cases h2 : c = j
              · subst h2; simp [unit_]; omega
              · simp [unit_, h2]
            · by_cases h2 : r ≤ m
              · simp [h0, h1, h2, show r ≤ m + 1 from by omega]
              · simp [h0, h1, h2, show ¬ r ≤ m + 1 from by omega]
      rw [← k n (Nat.le_refl _)]
      refine h.congr fun r c hr hc => ?_
      simp only [under, minor, skip_zero]
      by_cases h0 : r = 0
      · simp [h0]
      · rw [if_neg h0, if_pos (by omega), if_neg h0, show r - 1 + 1 = r from by omega]
        by_cases h1 : c < j
        · rw [if_neg (by omega), if_pos h1]; simp [skip, h1]
        · by_cases h2 : c = j
          · simp [h2]
          · rw [if_neg h2, if_neg h1, if_neg h2]
            have : skip j (c - 1) = c := by unfold skip; split <;> omega
            rw [this]
    have g : Alt n (fun B => f (under j B)) := by
      refine ⟨fun {B C} e => h.congr fun r c hr hc => ?_, fun B i hi r s => ?_, fun B i hi x r => ?_, fun B i hi e => ?_⟩
      · simp only [under]
        by_cases h0 : r = 0
        · simp [h0]
        · rw [if_neg h0, if_neg h0]
          by_cases h1 : c < j
          · rw [if_pos h1, if_pos h1]; exact e _ _ (by omega) (by omega)
          · by_cases h2 : c = j
            · simp [h2]
            · rw [if_neg h1, if_neg h1, if_neg h2, if_neg h2]; exact e _ _ (by omega) (by omega)
      · have q : ∀ t : Nat → Int, under j (setRow B i t) = setRow (under j B) (i + 1) (fun c => if c < j then t c else if c = j then 0 else t (c - 1)) := by
          intro t
          funext a c
          simp only [under, setRow]
          by_cases h0 : a = 0
          · simp [h0]
          · by_cases h1 : a = i + 1
            · subst h1; simp
            · simp [h0, h1, show ¬ a - 1 = i from by omega]
        simp only [q]
        rw [← h.add _ _ (by omega)]
        congr 2
        funext c
        (repeat' split) <;> simp
      · have q : ∀ t : Nat → Int, under j (setRow B i t) = setRow (under j B) (i + 1) (fun c => if c < j then t c else if c = j then 0 else t (c - 1)) := by
          intro t
          funext a c
          simp only [under, setRow]
          by_cases h0 : a = 0
          · simp [h0]
          · by_cases h1 : a = i + 1
            · subst h1; simp
            · simp [h0, h1, show ¬ a - 1 = i from by omega]
        simp only [q]
        rw [← h.mul _ _ (by omega)]
        congr 2
        funext c
        (repeat' split) <;> simp
      · refine h.adj _ (i + 1) (by omega) fun c hc => ?_
        have a1 : under j B (i + 1) c = if c < j then B i c else if c = j then 0 else B i (c - 1) := by simp [under]
        have a2 : under j B (i + 1 + 1) c = if c < j then B (i + 1) c else if c = j then 0 else B (i + 1) (c - 1) := by simp [under]
        rw [a1, a2]
        by_cases h1 : c < j
        · rw [if_pos h1, if_pos h1]; exact e _ (by omega)
        · by_cases h2 : c = j
          · simp [h2]
          · rw [if_neg h1, if_neg h1, if_neg h2, if_neg h2]; exact e _ (by omega)
    have hI : f (under j idM) = sg j * f idM := by
      rw [← h.first_sign j hj]
      congr 1
      funext r c
      simp only [under, first, idM]
      by_cases h0 : r = 0
      · simp [h0]
      · rw [if_neg h0, if_neg h0]
        by_cases h1 : r ≤ j
        · rw [if_pos h1]
          simp only [unit_]
          by_cases h2 : c < j
          · rw [if_pos h2]
          · by_cases h3 : c = j
            · rw [if_neg h2, if_pos h3, if_neg (by omega)]
            · rw [if_neg h2, if_neg h3, if_neg (by omega), if_neg (by omega)]
        · rw [if_neg h1]
          simp only [unit_]
          by_cases h2 : c < j
          · rw [if_pos h2, if_neg (by omega), if_neg (by omega)]
          · by_cases h3 : c = j
            · rw [if_neg h2, if_pos h3, if_neg (by omega)]
            · rw [if_neg h2, if_neg h3]
              by_cases h4 : c = r
              · rw [if_pos (by omega), if_pos h4]
              · rw [if_neg (by omega), if_neg h4]
    have hfin := ih g (minor A 0 j)
    rw [hstrike, hfin, hI]
    grind

end Go.Rk
