/-
  poly.Check and poly.At walked.
-/
import Derived.Test.YtflojkifbdklnaaRows
import Derived.Test.YtflojkifbdklnaaLib
import Derived.Test.YtflojkifbdklnaaNum
import Derived.Test.YtflojkifbdklnaaVanderP
namespace Go.Proofs.Ytflojkifbdklnaa
open Go.RowKit Go.Rk

/-- What is wrong with some factors. -/
def polyR (l : List Int) : Option Int := if 12 < l.length then some 4 else if anyB 0 9972 l then some 1 else none
theorem polyR_none {l : List Int} (h : polyR l = none) : l.length ≤ 12 ∧ In 0 9972 l := by
  unfold polyR at h
  split at h
  · cases h
  · split at h
    · cases h
    · next h1 h2 => exact ⟨by omega, in_of_any (by simpa using h2)⟩
theorem polyR_of {l : List Int} (h1 : l.length ≤ 12) (h2 : In 0 9972 l) : polyR l = none := by
  unfold polyR
  rw [if_neg (by omega), any_of_in h2]
  rfl
section
variable {a : Option Addr} {n ca : Nat} {l : List Int} {w : World}
theorem poly_Check_any (hl : RdI w a n ca l) :
    Calls Try.prog 50 #[.slice a n ca] w fun e w' => e = .returned (errV (polyR l)) ∧ w = w' := by
  have lm := hl.len_max
  have E := Lib.hid hl.len_eq
  have C := any_any a n ca l 0 9972 w hl
  by_cases h5 : 12 < n
  · have z1 : (12 : Int) < (n : Int) := by omega
    go_enter Try.func50, Try.ntmps50
    go_wp2
    go_ret
    exact ⟨by unfold polyR; rw [if_pos (by rw [E.out]; exact h5)]; rfl, rfl⟩
  · have z1 : (n : Int) ≤ 12 := by omega
    rcases hb : anyB 0 9972 l
    · rw [hb] at C
      have C := Lib.hid C
      have HB := Lib.hid hb
      clear hb
      go_enter Try.func50, Try.ntmps50
      go_wp2_with (first | (go_at_call 56; (with_reducible refine C.out.mono ?_); rintro e w' ⟨rfl, rfl⟩))
      go_ret
      exact ⟨by unfold polyR; rw [if_neg (by rw [E.out]; exact h5), HB.out]; rfl, rfl⟩
    · rw [hb] at C
      have C := Lib.hid C
      have HB := Lib.hid hb
      clear hb
      go_enter Try.func50, Try.ntmps50
      go_wp2_with (first | (go_at_call 56; (with_reducible refine C.out.mono ?_); rintro e w' ⟨rfl, rfl⟩))
      go_ret
      exact ⟨by unfold polyR; rw [if_neg (by rw [E.out]; exact h5), HB.out]; rfl, rfl⟩
theorem poly_Check_is {o : Option Int} (hl : RdI w a n ca l) (ho : polyR l = o) :
    Calls Try.prog 50 #[.slice a n ca] w fun e w' => e = .returned (errV o) ∧ w = w' := by
  rw [← ho]; exact poly_Check_any hl

set_option maxHeartbeats 1000000 in
theorem poly_At_ok {x : Int} (hl : RdI w a n ca l) (hq : polyR l = none) (hx : 0 ≤ x ∧ x ≤ 9972) :
    Calls Try.prog 24 #[.slice a n ca, .int .i64 x] w fun e w' => e = .returned (.tuple #[.int .i64 (atV l x), .nilIface]) ∧ w = w' := by
  obtain ⟨g1, g2⟩ := polyR_none hq
  have HL := Lib.hid hl.len_eq
  rw [hl.len_eq] at g1
  have C := Lib.hid (poly_Check_is hl hq)
  have C2 := out_any x 0 9972 w
  rw [show outB x 0 9972 = false by unfold outB; simp; omega] at C2
  have C2 := Lib.hid C2
  have G := Lib.hid g2
  have HF := Lib.hid (hornF_full l x)
  clear hq g2
  go_enter Try.func24, Try.ntmps24
  go_wp2_with (first | (go_at_call 50; (with_reducible refine C.out.mono ?_); rintro e w' ⟨rfl, rfl⟩; simp only [errV]) | (go_at_call 51; (with_reducible refine C2.out.mono ?_); rintro e w' ⟨rfl, rfl⟩))
  go_loop [7, 8] (fun s v => ∃ (k : Nat) (z : Int), k ≤ n ∧ z = (n : Int) - 1 - k ∧ v = .int .i64 z ∧ s = .int .i64 (hornF l x k)) (fun _ v => (intOf v + 1).toNat)
  case atStart => exact ⟨0, _, Nat.zero_le _, by omega, rfl, rfl⟩
  case round =>
    obtain ⟨k, z, hk, hz, rfl, rfl⟩ := hrel
    by_cases hkn : 0 ≤ z
    · obtain ⟨b, o, rfl, _, hc⟩ := hl.at (k := z.toNat) (by omega)
      have y1 := hc z.toNat (by omega)
      have m1 := G.out z.toNat (by rw [HL.out]; omega)
      have hs := hornF_in l x k
      have HN : Hid (hornF l x (k + 1) = (hornF l x k * x + ix l z.toNat) % 9973) := by unfold Hid; rw [hornF, HL.out, show n - 1 - k = z.toNat by omega]
      obtain ⟨S, hS⟩ : ∃ S, S = hornF l x k := ⟨_, rfl⟩
      rw [← hS] at hs HN ⊢
      clear hS hc
      have md := mul_bd hs hx
      have u1 : IntKind.i64.wrap (S * x) = S * x := Go.IntWalk.i64_in _ (by omega)
      have u2 : IntKind.i64.wrap (S * x + ix l z.toNat) = S * x + ix l z.toNat := Go.IntWalk.i64_in _ (by omega)
      have u3 : (S * x + ix l z.toNat).tmod 9973 = (S * x + ix l z.toNat) % 9973 := Int.tmod_eq_emod_of_nonneg (by omega)
      have u4 : IntKind.i64.wrap ((S * x + ix l z.toNat) % 9973) = (S * x + ix l z.toNat) % 9973 := Go.IntWalk.i64_in _ (by omega)
      have b2 : z < (n : Int) := by omega
      have HZ := Lib.hid hz
      clear hz
      go_wp2
      go_round
      case rel => exact ⟨k + 1, z - 1, by have := HZ.out; omega, by have := HZ.out; omega, by go_num, by rw [HN.out]⟩
      case measure => simp [intOf]; omega
    · obtain rfl : k = n := by omega
      have HZ := Lib.hid hz
      clear hz
      have b1 : z < 0 := by omega
      go_wp2
      go_ret2
      exact ⟨by rw [← HF.out, HL.out]; rfl, rfl⟩
end
end Go.Proofs.Ytflojkifbdklnaa
