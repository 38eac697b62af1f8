/-
  The walks of the functions of package num and of the references' small ones.
-/
import Derived.Test.YtcohkjppfalckaaDoorRows
import Derived.Test.YtcohkjppfalckaaDoorLib
import Derived.Test.YtcohkjppfalckaaDoorSum
namespace Go.Proofs.YtcohkjppfalckaaDoor
open Go.RowKit Go.Rk

theorem infoInt : (Tryd.prog.info? 3).map (fun i => (i.zero, i.size, i.bytes)) = some (some (.int .i64 0), 1, 8) := by kernel_rfl
theorem intTy : IntTy Tryd.prog 22 3 := by
  obtain ⟨i0, hi, h0, h1, h2⟩ := info_parts infoInt
  exact ⟨Tryd.underlying22, ⟨i0, hi, h0, h1, h2⟩⟩

/-- An error: none, or its number. -/
def errV : Option Int → Value
  | none => .nilIface
  | some c => .iface 37 (.int .i64 c)

theorem ret_bool {a b : Bool} (h : a = b) : Ending.returned (.bool a) = .returned (.bool b) := by rw [h]
theorem ret_int {k : IntKind} {a b : Int} (h : a = b) : Ending.returned (.int k a) = .returned (.int k b) := by rw [h]

def outB (n lo hi : Int) : Bool := decide (n < lo) || decide (hi < n)

theorem out_any (n lo hi : Int) (w : World) :
    Calls Tryd.prog 16 #[.int .i64 n, .int .i64 lo, .int .i64 hi] w fun e w' => e = .returned (.bool (outB n lo hi)) ∧ w = w' := by
  go_enter Tryd.func16, Tryd.ntmps16
  go_wp2
  all_goals (go_ret; refine ⟨ret_bool ?_, rfl⟩; unfold outB; simp; try omega)

def anyB (lo hi : Int) (l : List Int) : Bool := l.any fun n => outB n lo hi

theorem anyB_take (lo hi : Int) {l : List Int} {k : Nat} (h : k < l.length) (h0 : anyB lo hi (l.take k) = false) (h1 : outB (ix l k) lo hi = false) : anyB lo hi (l.take (k + 1)) = false := by
  rw [take_succ_ix h]
  unfold anyB at *
  simp [h0, h1]
theorem anyB_hit (lo hi : Int) {l : List Int} {k : Nat} (h : k < l.length) (h1 : outB (ix l k) lo hi = true) : anyB lo hi l = true := by
  unfold anyB
  exact List.any_eq_true.2 ⟨_, ix_mem h, h1⟩

theorem any_of_in {l : List Int} {lo hi : Int} (h : In lo hi l) : anyB lo hi l = false := by
  refine List.any_eq_false.2 fun x hx => ?_
  obtain ⟨k, hk, rfl⟩ := List.mem_iff_getElem.1 hx
  have := h k hk
  rw [ix_lt hk] at this
  simp [outB]
  omega

theorem in_of_any {l : List Int} {lo hi : Int} (h : anyB lo hi l = false) : In lo hi l := by
  intro k hk
  have h1 := List.any_eq_false.1 h (ix l k) (ix_mem hk)
  simp [outB] at h1
  omega

set_option maxHeartbeats 400000 in
theorem any_any (a : Option Addr) (len cap : Nat) (l : List Int) (lo hi : Int) (w : World) (h : RdI w a len cap l) :
    Calls Tryd.prog 14 #[.slice a len cap, .int .i64 lo, .int .i64 hi] w fun e w' => e = .returned (.bool (anyB lo hi l)) ∧ w = w' := by
  have hm := h.len_max
  go_enter Tryd.func14, Tryd.ntmps14
  go_wp2
  go_loop [11] (fun i => ∃ k : Nat, k ≤ len ∧ i = .int .i64 k ∧ Hid (anyB lo hi (l.take k) = false)) (fun i => len - (intOf i).toNat)
  case atStart => exact ⟨0, Nat.zero_le _, rfl, rfl⟩
  case round =>
    obtain ⟨k, hk, rfl, hno⟩ := hrel
    by_cases hlt : k < len
    · obtain ⟨b, off, rfl, _, hc⟩ := h.at hlt
      have hc := hc k hlt
      have hl : k < l.length := by have := h.len_eq; omega
      rcases ho : outB (ix l k) lo hi
      · have Ho := Lib.hid ho
        clear ho
        go_wp2_with (go_at_call 16; refine (out_any _ _ _ _).mono ?_; rintro e w' ⟨rfl, rfl⟩; rw [Ho.out])
        go_round
        case rel => exact ⟨k + 1, by omega, by go_num, anyB_take _ _ hl hno Ho.out⟩
        case measure => simp [intOf]; omega
      · have Ho := Lib.hid ho
        clear ho
        go_wp2_with (go_at_call 16; refine (out_any _ _ _ _).mono ?_; rintro e w' ⟨rfl, rfl⟩; rw [Ho.out])
        go_ret
        exact ⟨ret_bool (anyB_hit _ _ hl Ho.out).symm, rfl⟩
    · go_wp2
      go_ret
      refine ⟨ret_bool ?_, rfl⟩
      rw [← hno.out, List.take_of_length_le (by have := h.len_eq; omega)]

end Go.Proofs.YtcohkjppfalckaaDoor
