/-
  The walks of the references' small functions, and of the small functions of the statements' own packages.
-/
import Derived.Test.YtcohkjppfalckaaDoorRows
import Derived.Test.YtcohkjppfalckaaDoorLib
import Derived.Test.YtcohkjppfalckaaDoorOpen
import Derived.Test.YtcohkjppfalckaaDoorNum
import Derived.Deep.QuietTactic
import Derived.BigQuiet
namespace Go.Proofs.YtcohkjppfalckaaDoor
open Go.RowKit Go.Rk

def inB (n lo hi : Int) : Bool := decide (lo ≤ n) && decide (n ≤ hi)
theorem inB_true {a lo hi : Int} (h : inB a lo hi = true) : lo ≤ a ∧ a ≤ hi := by
  unfold inB at h
  simp only [Bool.and_eq_true, decide_eq_true_eq] at h
  exact h

theorem R_in_any (n lo hi : Int) (w : World) :
    Calls Tryd.prog 18 #[.int .i64 n, .int .i64 lo, .int .i64 hi] w fun e w' => e = .returned (.bool (inB n lo hi)) ∧ w = w' := by
  by_cases h : lo ≤ n
  all_goals
    go_enter Tryd.func18, Tryd.ntmps18
    go_wp2
    all_goals (go_ret; refine ⟨congrArg (fun b => Ending.returned (.bool b)) ?_, rfl⟩; unfold inB; simp; try omega)
theorem L3_in_any (n lo hi : Int) (w : World) :
    Calls Tryd.prog 7 #[.int .i64 n, .int .i64 lo, .int .i64 hi] w fun e w' => e = .returned (.bool (inB n lo hi)) ∧ w = w' := by
  by_cases h : lo ≤ n
  all_goals
    go_enter Tryd.func7, Tryd.ntmps7
    go_wp2
    all_goals (go_ret; refine ⟨congrArg (fun b => Ending.returned (.bool b)) ?_, rfl⟩; unfold inB; simp; try omega)
theorem R_Mod_any (n : Int) (w : World) (h1 : -9223372036854775808 ≤ n) (h2 : n ≤ 9223372036854775807) :
    Calls Tryd.prog 15 #[.int .i64 n] w fun e w' => e = .returned (.int .i64 (n % 9973)) ∧ w = w' := by
  rcases Int.lt_or_le n 0 with h | h
  · have t := tmod_neg n h
    rcases Int.lt_or_le (n.tmod 9973) 0 with h3 | h3
    · have t1 := t.1
      have T2 := Lib.hid (t.2.1 h3)
      clear t
      go_enter Tryd.func15, Tryd.ntmps15
      go_wp2
      go_ret
      exact ⟨congrArg (fun x => Ending.returned (.int .i64 x)) T2.out.symm, rfl⟩
    · have t1 := t.1
      have T2 := Lib.hid (t.2.2 h3)
      clear t
      go_enter Tryd.func15, Tryd.ntmps15
      go_wp2
      go_ret
      exact ⟨congrArg (fun x => Ending.returned (.int .i64 x)) T2.out.symm, rfl⟩
  · go_enter Tryd.func15, Tryd.ntmps15
    go_wp2
    go_ret
    exact ⟨rfl, rfl⟩
def allB (lo hi : Int) (l : List Int) : Bool := l.all fun n => inB n lo hi
theorem allB_take (lo hi : Int) {l : List Int} {k : Nat} (h : k < l.length) (h0 : allB lo hi (l.take k) = true) (h1 : inB (ix l k) lo hi = true) : allB lo hi (l.take (k + 1)) = true := by
  rw [take_succ_ix h]
  unfold allB at *
  simp only [List.all_append, h0, List.all_cons, h1, List.all_nil, Bool.and_true]
theorem allB_miss (lo hi : Int) {l : List Int} {k : Nat} (h : k < l.length) (h1 : inB (ix l k) lo hi = false) : allB lo hi l = false := by
  unfold allB
  exact List.all_eq_false.2 ⟨_, ix_mem h, by rw [h1]; simp⟩
set_option maxHeartbeats 400000 in
theorem R_All_any {a : Option Addr} {len cap : Nat} {l : List Int} (lo hi : Int) {w : World} (h : RdI w a len cap l) :
    Calls Tryd.prog 12 #[.slice a len cap, .int .i64 lo, .int .i64 hi] w fun e w' => e = .returned (.bool (allB lo hi l)) ∧ w = w' := by
  have hm := h.len_max
  go_enter Tryd.func12, Tryd.ntmps12
  go_wp2
  go_loop [7] (fun i => ∃ k : Nat, k ≤ len ∧ i = .int .i64 k ∧ Hid (allB lo hi (l.take k) = true)) (fun i => len - (intOf i).toNat)
  case atStart => exact ⟨0, Nat.zero_le _, rfl, rfl⟩
  case round =>
    obtain ⟨k, hk, rfl, hno⟩ := hrel
    by_cases hlt : k < len
    · obtain ⟨b, off, rfl, _, hc⟩ := h.at hlt
      have hc := hc k hlt
      have hl : k < l.length := by have := h.len_eq; omega
      rcases ho : inB (ix l k) lo hi
      · have Ho := Lib.hid ho
        clear ho
        go_wp2_with (go_at_call 18; refine (R_in_any _ _ _ _).mono ?_; rintro e w' ⟨rfl, rfl⟩; rw [Ho.out])
        go_ret
        exact ⟨congrArg (fun b => Ending.returned (.bool b)) (allB_miss _ _ hl Ho.out).symm, rfl⟩
      · have Ho := Lib.hid ho
        clear ho
        go_wp2_with (go_at_call 18; refine (R_in_any _ _ _ _).mono ?_; rintro e w' ⟨rfl, rfl⟩; rw [Ho.out])
        go_round
        case rel => exact ⟨k + 1, by omega, by go_num, allB_take _ _ hl hno Ho.out⟩
        case measure => simp [intOf]; omega
    · go_wp2
      go_ret
      refine ⟨congrArg (fun b => Ending.returned (.bool b)) ?_, rfl⟩
      rw [← hno.out, List.take_of_length_le (by have := h.len_eq; omega)]
theorem allB_in {l : List Int} {lo hi : Int} (h : allB lo hi l = true) : In lo hi l := by
  intro k hk
  have h1 := List.all_eq_true.1 h (ix l k) (ix_mem hk)
  simp [inB] at h1
  omega
set_option maxHeartbeats 400000 in
theorem Ints_q {a a2 : Option Addr} {len cap len2 cap2 : Nat} {l m : List Int} {w : World} (h : RdI w a len cap l) (h2 : RdI w a2 len2 cap2 m) :
    Calls Tryd.prog 10 #[.slice a len cap, .slice a2 len2 cap2] w fun e w' => e = .returned (.bool (decide (l = m))) ∧ ∃ q, w' = w.drewN q := by
  have hm := h.len_max
  have E1 := Lib.hid h.len_eq
  have E2 := Lib.hid h2.len_eq
  by_cases hl : len = len2
  · subst hl
    go_enter Tryd.func10, Tryd.ntmps10
    go_wp2
    go_loopw [5] (fun i wr => ∃ k : Nat, k ≤ len ∧ i = .int .i64 k ∧ Hid (l.take k = m.take k) ∧ ∃ q, wr = w.drewN q) (fun i _ => len - (intOf i).toNat)
    case atStart => exact ⟨0, Nat.zero_le _, rfl, rfl, 0, rfl⟩
    case round =>
      obtain ⟨k, hk, rfl, heq, q, rfl⟩ := hrel
      by_cases hlt : k < len
      · obtain ⟨b, off, rfl, _, hc⟩ := h.at hlt
        obtain ⟨b2, off2, rfl, _, hc2⟩ := h2.at hlt
        have hc := hc k hlt
        have hc2 := hc2 k hlt
        have hlt' : (k : Int) < (len : Int) := by omega
        by_cases he : ix l k = ix m k
        · have He : (ix l k != ix m k) = false := by simp [he]
          have He2 := Lib.hid he
          clear he
          go_wp2
          go_quiet (fail)
          go_wp2
          go_roundw
          case rel => exact ⟨k + 1, by omega, by go_num, by unfold Hid; rw [take_succ_ix (by rw [E1.out]; exact hlt), take_succ_ix (by rw [E2.out]; exact hlt), heq.out, He2.out], q + nq, by simp⟩
          case measure => simp [intOf]; omega
        · have He : (ix l k != ix m k) = true := by simp [he]
          have He2 := Lib.hid he
          clear he
          go_wp2
          go_quiet (fail)
          go_wp2
          go_ret
          refine ⟨congrArg (fun b => Ending.returned (.bool b)) (decide_eq_false ?_).symm, q + nq, by simp [World.drewN_drewN]⟩
          intro hlm
          exact He2.out (by rw [hlm])
      · go_wp2
        go_ret
        refine ⟨congrArg (fun b => Ending.returned (.bool b)) (decide_eq_true ?_).symm, q, rfl⟩
        have := heq.out
        rwa [List.take_of_length_le (by rw [E1.out]; omega), List.take_of_length_le (by rw [E2.out]; omega)] at this
  · have hne : ((len : Int) != (len2 : Int)) = true := by simp; omega
    have Hl := Lib.hid hl
    clear hl
    go_enter Tryd.func10, Tryd.ntmps10
    go_wp2
    go_ret
    refine ⟨congrArg (fun b => Ending.returned (.bool b)) (decide_eq_false ?_).symm, 0, rfl⟩
    intro hlm
    exact Hl.out (by rw [← E1.out, ← E2.out, hlm])

theorem Ints_any {a a2 : Option Addr} {len cap len2 cap2 : Nat} {l m : List Int} {w : World} (h : RdI w a len cap l) (h2 : RdI w a2 len2 cap2 m) :
    Calls Tryd.prog 10 #[.slice a len cap, .slice a2 len2 cap2] w fun e w' => e = .returned (.bool (decide (l = m))) ∧ Below w.heap.size w w' :=
  (Ints_q h h2).mono fun _ _ ⟨he, q, hq⟩ => ⟨he, by rw [hq]; exact below_drewN (Below.refl _ _) q⟩
end Go.Proofs.YtcohkjppfalckaaDoor
