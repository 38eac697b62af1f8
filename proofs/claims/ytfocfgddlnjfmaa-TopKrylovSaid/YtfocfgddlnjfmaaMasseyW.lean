/-
  The package massey walked: Check, misses, corrected, shortest, Fewest, Factors, Goes.
-/
import Derived.Test.YtfocfgddlnjfmaaRows
import Derived.Test.YtfocfgddlnjfmaaLib
import Derived.Test.YtfocfgddlnjfmaaNum
import Derived.Test.YtfocfgddlnjfmaaSum
import Derived.Test.YtfocfgddlnjfmaaMx
import Derived.Test.YtfocfgddlnjfmaaMat
import Derived.Test.YtfocfgddlnjfmaaMatD
import Derived.Test.YtfocfgddlnjfmaaElim
import Derived.Test.YtfocfgddlnjfmaaTr
import Derived.Test.YtfocfgddlnjfmaaMasseyP
import Derived.RangeFuncBox
import Derived.Deep.QuietTactic
import Derived.BigQuiet
import Derived.StillTailTactics
namespace Go.Proofs.Ytfocfgddlnjfmaa
open Go.RowKit Go.Rk

/-- What is wrong with a sequence. -/
def seqR (l : List Int) : Option Int := if 16 < l.length then some 4 else if anyB 0 9972 l then some 1 else none
theorem seqR_none {l : List Int} (h : seqR l = none) : l.length ≤ 16 ∧ In 0 9972 l := by
  unfold seqR at h
  split at h
  · cases h
  · split at h
    · cases h
    · next h1 h2 => exact ⟨by omega, in_of_any (by simpa using h2)⟩

section
variable {a b : Option Addr} {n ca m cb : Nat} {l f : List Int} {w : World}
theorem massey_Check_any (h : RdI w a n ca l) :
    Calls Try.prog 76 #[.slice a n ca] w fun e w' => e = .returned (errV (seqR l)) ∧ w = w' := by
  have e1 := h.len_eq
  have C := Lib.hid (any_any a n ca l 0 9972 w h)
  by_cases h16 : 16 < n
  · have hs : seqR l = some 4 := by unfold seqR; rw [if_pos (by omega)]
    rw [hs]
    have i1 : (16 : Int) < (n : Int) := by omega
    go_enter Try.func76, Try.ntmps76
    go_wp2
    go_ret
    exact ⟨rfl, rfl⟩
  · have i1 : ¬ (16 : Int) < (n : Int) := by omega
    rcases hb : anyB 0 9972 l with _ | _
    · have hs : seqR l = none := by unfold seqR; rw [if_neg (by omega), hb]; rfl
      rw [hs]
      rw [hb] at C
      clear hs hb e1 h16
      go_enter Try.func76, Try.ntmps76
      go_wp2_with (go_at_call 72; refine C.out.mono ?_; rintro e w2 ⟨rfl, rfl⟩)
      go_ret
      exact ⟨rfl, rfl⟩
    · have hs : seqR l = some 1 := by unfold seqR; rw [if_neg (by omega), hb]; rfl
      rw [hs]
      rw [hb] at C
      clear hs hb e1 h16
      go_enter Try.func76, Try.ntmps76
      go_wp2_with (go_at_call 72; refine C.out.mono ?_; rintro e w2 ⟨rfl, rfl⟩)
      go_ret
      exact ⟨rfl, rfl⟩
theorem massey_Check_is {o : Option Int} (h : RdI w a n ca l) (ho : seqR l = o) :
    Calls Try.prog 76 #[.slice a n ca] w fun e w' => e = .returned (errV o) ∧ w = w' := by
  have := massey_Check_any h
  rw [ho] at this
  exact this

/-- What is left when k products are taken away. -/
def missS (l f : List Int) (t k : Nat) : Int := ix l t - sumTo (fun i => ix f i * ix l (t - 1 - i) % 9973) k
theorem missS_mod (l f : List Int) (t k : Nat) : missS l f t k % 9973 = Rz (ix l) (ix f) k t % 9973 := by
  have : Eqm (missS l f t k) (Rz (ix l) (ix f) k t) := (Eqm.refl _).sub (Eqm.sum fun i _ => (Eqm.mod _))
  exact this
theorem missS_bd {l f : List Int} {t k : Nat} (h1 : In 0 9972 l) (ht : t < l.length) : 0 - 9972 * (k : Int) ≤ missS l f t k ∧ missS l f t k ≤ 9972 := by
  have b := h1 t ht
  have c : ∀ k : Nat, 0 ≤ sumTo (fun i => ix f i * ix l (t - 1 - i) % 9973) k ∧ sumTo (fun i => ix f i * ix l (t - 1 - i) % 9973) k ≤ 9972 * k := fun k => by
    induction k with
    | zero => simp [sumTo]
    | succ k ih => rw [sumTo]; omega
  have := c k
  unfold missS
  omega

theorem misses_any {t : Nat} (h : RdI w a n ca l) (hf : RdI w b m cb f) (h1 : In 0 9972 l) (h2 : In 0 9972 f) (hm : m ≤ t) (ht : t < n) (h16 : n ≤ 16) :
    Calls Try.prog 79 #[.slice a n ca, .slice b m cb, .int .i64 t] w fun e w' => e = .returned (.int .i64 (Rz (ix l) (ix f) m t % 9973)) ∧ w = w' := by
  have e1 := h.len_eq
  have e2 := hf.len_eq
  have H1 := Lib.hid h1
  have H2 := Lib.hid h2
  have E1 := Lib.hid e1
  have E2 := Lib.hid e2
  obtain ⟨bl, ol, rfl, _, hc⟩ := h.at ht
  have HC := Lib.hid hc
  have y0 := hc t ht
  have i0 : (t : Int) < (n : Int) := by omega
  clear hc h1 h2 e1 e2
  go_enter Try.func79, Try.ntmps79
  go_wp2
  go_loop [7, 16] (fun s v => ∃ i : Nat, i ≤ m ∧ v = .int .i64 i ∧ s = .int .i64 (missS l f t i)) (fun _ v => m - (intOf v).toNat)
  case atStart => exact ⟨0, Nat.zero_le _, rfl, by unfold missS; simp [sumTo]⟩
  case round =>
    obtain ⟨i, hi, rfl, rfl⟩ := hrel
    by_cases him : i < m
    · have i1 : (i : Int) < (m : Int) := by omega
      obtain ⟨bf, of_, rfl, _, hcf⟩ := hf.at him
      have y1 := hcf i him
      have y2 := HC.out (t - 1 - i) (by omega)
      have b1 := H2.out i (by rw [E2.out]; exact him)
      have b2 := H1.out (t - 1 - i) (by rw [E1.out]; omega)
      have b3 := mul_bd b1 b2
      have b4 := missS_bd (f := f) (t := t) (k := i) H1.out (by rw [E1.out]; exact ht)
      have hs : missS l f t (i + 1) = missS l f t i - ix f i * ix l (t - 1 - i) % 9973 := by unfold missS; rw [sumTo]; omega
      have HS := Lib.hid hs
      have u0 : IntKind.i64.wrap ((t : Int) - 1) = (t : Int) - 1 := Go.IntWalk.i64_in _ (by omega)
      have u1 : IntKind.i64.wrap ((t : Int) - 1 - i) = ((t - 1 - i : Nat) : Int) := by rw [Go.IntWalk.i64_in _ (by omega)]; omega
      have i2 : ((t - 1 - i : Nat) : Int) < (n : Int) := by omega
      have u2 : IntKind.i64.wrap (ix f i * ix l (t - 1 - i)) = ix f i * ix l (t - 1 - i) := Go.IntWalk.i64_in _ (by omega)
      have u3 : (ix f i * ix l (t - 1 - i)).tmod 9973 = ix f i * ix l (t - 1 - i) % 9973 := Int.tmod_eq_emod_of_nonneg b3.1
      have u4 : IntKind.i64.wrap (missS l f t i - ix f i * ix l (t - 1 - i) % 9973) = missS l f t i - ix f i * ix l (t - 1 - i) % 9973 := Go.IntWalk.i64_in _ (by omega)
      clear hs hcf b1 b2 b3 b4 y0
      generalize t - 1 - i = q at *
      generalize ix f i * ix l q % 9973 = r at *
      go_wp2
      go_round
      case rel => exact ⟨i + 1, by omega, by go_num, congrArg (Value.int .i64) (by rw [HS.out])⟩
      case measure => simp [intOf]; omega
    · obtain rfl : i = m := by omega
      have C := Lib.hid (Field_any (missS l f t i) w)
      rw [missS_mod] at C
      go_wp2_with (first | (go_at_call 59; (with_reducible refine C.out.mono ?_); rintro e w' ⟨rfl, rfl⟩))
      go_ret
      exact ⟨rfl, rfl⟩
end
end Go.Proofs.Ytfocfgddlnjfmaa
