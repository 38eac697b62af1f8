/-
  BandMuir walked: a determinant beside the middle goes on by the two ahead of it, and turned about it is the same.
-/
import Derived.Test.YtflojkifbdklnaaRows
import Derived.Test.YtflojkifbdklnaaLib
import Derived.Test.YtflojkifbdklnaaRef
import Derived.Test.YtflojkifbdklnaaBand
import Derived.Test.YtflojkifbdklnaaBandLaw
import Derived.Test.YtflojkifbdklnaaBandFact
import Derived.Deep.RegionHeld3
import Derived.Deep.QuietTactic
import Derived.BigQuiet
namespace Go.Proofs.Ytflojkifbdklnaa
open Go.RowKit Go.Rk

set_option maxHeartbeats 2000000 in
set_option maxRecDepth 100000 in
theorem bandMuir_walk {p q r : Option Addr} {n1 c1 n2 c2 n3 c3 : Nat} {m a b : List Int} {w : World} (hm : RdI w p n1 c1 m) (_ : Fit m) (ha : RdI w q n2 c2 a) (_ : Fit a) (hb : RdI w r n3 c3 b) (_ : Fit b) :
    Calls Try.prog 3 #[.slice p n1 c1, .slice q n2 c2, .slice r n3 c3] w fun e w' => e = .returned (.bool true) ∧ Below w.heap.size w w' := by
  rcases h : checkB m a b with _ | c
  · obtain ⟨g1, g2, g3, g4, g5, g6, g7⟩ := checkB_none h
    have e1 := hm.len_eq
    have e2 := ha.len_eq
    have e3 := hb.len_eq
    have l1 : 1 ≤ n1 := by omega
    have l2 : n1 ≤ 10 := by omega
    obtain rfl : n2 = n1 - 1 := by omega
    obtain rfl : n3 = n1 - 1 := by omega
    have E1 := Lib.hid e1
    have E2 := Lib.hid e2
    have E3 := Lib.hid e3
    have G3 := Lib.hid g3
    have G4 := Lib.hid g4
    have H := Lib.hid h
    have HR : Hid (checkB m.reverse b.reverse a.reverse = none) := checkB_of (by simpa using g1) (by simpa using g2) (by simpa using g4) (by simpa using g3) (in_reverse g5) (in_reverse g7) (in_reverse g6)
    have ER : Hid (contB m.reverse b.reverse a.reverse n1 = contB m a b n1) := by unfold Hid; rw [← e1]; exact contB_rev g5 g1 g3 g4
    have q1 := hm.le
    have q2 := ha.le
    have q3 := hb.le
    clear h e1 e2 e3 g3 g4
    go_enter Try.func3, Try.ntmps3
    go_wp2_with (go_at_call 15; refine (bandFact_any _).mono ?_; rintro e w1 ⟨rfl, hb1⟩)
    go_wp2_with fail
    refine (band_Det_ok (hm.below hb1) (ha.below hb1) (hb.below hb1) H.out).mono ?_
    rintro e w2 ⟨rfl, hb2⟩
    have k2 := hb1.trans (hb2.mono hb1.size)
    clear hb1 hb2
    go_wp2_with fail
    refine (Turned_any (hm.below k2) (by omega)).mono ?_
    rintro e w3 ⟨p3, cp3, rfl, ho3, hb3⟩
    have k3 := k2.trans (hb3.mono k2.size)
    go_wp2_with fail
    refine (Turned_any (hb.below k3) (by omega)).mono ?_
    rintro e w4 ⟨p4, cp4, rfl, ho4, hb4⟩
    have k4 := k3.trans (hb4.mono k3.size)
    go_wp2_with fail
    refine (Turned_any (ha.below k4) (by omega)).mono ?_
    rintro e w5 ⟨p5, cp5, rfl, ho5, hb5⟩
    have k5 := k4.trans (hb5.mono k4.size)
    have C5 := band_Det_ok ((ho3.rd.below hb4).below hb5) (ho4.rd.below hb5) ho5.rd HR.out
    rw [ER.out] at C5
    have HC5 := Lib.hid C5
    clear C5
    go_wp2_with fail
    refine HC5.out.mono ?_
    rintro e w6 ⟨rfl, hb6⟩
    have k6 := k5.trans (hb6.mono k5.size)
    clear hb3 hb4 hb5 hb6 ho3 ho4 ho5 HC5 k2 k3 k4 k5
    by_cases h3 : n1 < 3
    · go_wp2
      go_ret
      exact ⟨rfl, k6⟩
    · have hc := contB_in (a := a) (b := b) g5 g1
      have m6 := (hm.below k6).take (n := n1 - 1) (by omega)
      have a6 := (ha.below k6).take (n := n1 - 2) (by omega)
      have b6 := (hb.below k6).take (n := n1 - 2) (by omega)
      have H7 : Hid (checkB (m.take (n1 - 1)) (a.take (n1 - 2)) (b.take (n1 - 2)) = none) :=
        checkB_of (by rw [List.length_take, E1.out]; omega) (by rw [List.length_take, E1.out]; omega) (by simp only [List.length_take, E1.out, E2.out]; omega) (by simp only [List.length_take, E1.out, E3.out]; omega) (in_take g5 _) (in_take g6 _) (in_take g7 _)
      have T7 : Hid (contB (m.take (n1 - 1)) (a.take (n1 - 2)) (b.take (n1 - 2)) (n1 - 1) = contB m a b (n1 - 1)) := by
        have := contB_take (a := a) (b := b) (n := n1 - 1) g5 (by omega) (by rw [E1.out]; omega)
        rw [show n1 - 1 - 1 = n1 - 2 from by omega] at this
        exact this
      have C7 := band_Det_ok (w := w6.drew) (m6.below (Below.refl _ _).drew) (a6.below (Below.refl _ _).drew) (b6.below (Below.refl _ _).drew) H7.out
      rw [T7.out] at C7
      have t1 : ((n1 : Int) - 1).toNat = n1 - 1 := by omega
      have t2 : ((n1 : Int) - 2).toNat = n1 - 2 := by omega
      have w1 : IntKind.i64.wrap ((n1 : Int) - 1) = (n1 : Int) - 1 := Go.IntWalk.i64_in _ (by omega)
      have w2 : IntKind.i64.wrap ((n1 : Int) - 2) = (n1 : Int) - 2 := Go.IntWalk.i64_in _ (by omega)
      have u1 : (0 : Int) ≤ (n1 : Int) - 1 := by omega
      have u2 : (0 : Int) ≤ (n1 : Int) - 2 := by omega
      have u3 : (n1 : Int) - 1 ≤ (c1 : Int) := by omega
      have u4 : (n1 : Int) - 2 ≤ (c2 : Int) := by omega
      have u5 : (n1 : Int) - 2 ≤ (c3 : Int) := by omega
      have t3 : ((n1 : Int) - 3).toNat = n1 - 3 := by omega
      have w3 : IntKind.i64.wrap ((n1 : Int) - 3) = (n1 : Int) - 3 := Go.IntWalk.i64_in _ (by omega)
      have u6 : (0 : Int) ≤ (n1 : Int) - 3 := by omega
      have v1 : (1 : Int) ≤ (n1 : Int) := by omega
      have v2 : (2 : Int) ≤ (n1 : Int) := by omega
      have v3 : (3 : Int) ≤ (n1 : Int) := by omega
      have u7 : (n1 : Int) - 2 ≤ (c1 : Int) := by omega
      have u8 : (n1 : Int) - 3 ≤ (c2 : Int) := by omega
      have u9 : (n1 : Int) - 3 ≤ (c3 : Int) := by omega
      have m7 := (hm.below k6).take (n := n1 - 2) (by omega)
      have a7 := (ha.below k6).take (n := n1 - 3) (by omega)
      have b7 := (hb.below k6).take (n := n1 - 3) (by omega)
      have H8 : Hid (checkB (m.take (n1 - 2)) (a.take (n1 - 3)) (b.take (n1 - 3)) = none) :=
        checkB_of (by rw [List.length_take, E1.out]; omega) (by rw [List.length_take, E1.out]; omega) (by simp only [List.length_take, E1.out, E2.out]; omega) (by simp only [List.length_take, E1.out, E3.out]; omega) (in_take g5 _) (in_take g6 _) (in_take g7 _)
      have T8 : Hid (contB (m.take (n1 - 2)) (a.take (n1 - 3)) (b.take (n1 - 3)) (n1 - 2) = contB m a b (n1 - 2)) := by
        have := contB_take (a := a) (b := b) (n := n1 - 2) g5 (by omega) (by rw [E1.out]; omega)
        rw [show n1 - 2 - 1 = n1 - 3 from by omega] at this
        exact this
      have EF : Hid (contB m a b n1 = (ix m (n1 - 1) * contB m a b (n1 - 1) - ix a (n1 - 2) * ix b (n1 - 2) % 9973 * contB m a b (n1 - 2)) % 9973) := by
        obtain ⟨k, rfl⟩ : ∃ k, n1 = k + 2 := ⟨n1 - 2, by omega⟩
        rfl
      obtain ⟨b1, o1, rfl, x1, y1⟩ := hm.at (k := 0) (by omega)
      obtain ⟨b2, o2, rfl, x2, y2⟩ := ha.at (k := 0) (by omega)
      obtain ⟨b3, o3, rfl, x3, y3⟩ := hb.at (k := 0) (by omega)
      have x4 := g5 (n1 - 1) (by rw [E1.out]; omega)
      have x5 := g6 (n1 - 2) (by rw [E2.out]; omega)
      have x6 := g7 (n1 - 2) (by rw [E3.out]; omega)
      have z0 := hc (n1 - 1)
      have z1 := hc (n1 - 2)
      have HC7 := Lib.hid C7
      clear C7
      go_wp2_with fail
      go_region_held3 (fun _ => True) (exact trivial) (first | (go_at_call 16; refine HC7.out.mono ?_; rintro e w7 ⟨rfl, hb7⟩))
      have k7 := k6.drew.trans (hb7.mono k6.size)
      have C8 := band_Det_ok (w := w7.drew) (((m7.below (Below.refl _ _).drew).below hb7).below (Below.refl _ _).drew) (((a7.below (Below.refl _ _).drew).below hb7).below (Below.refl _ _).drew) (((b7.below (Below.refl _ _).drew).below hb7).below (Below.refl _ _).drew) H8.out
      rw [T8.out] at C8
      have HC8 := Lib.hid C8
      clear C8
      go_wp2_with fail
      go_region_held3 (fun _ => True) (exact trivial) (first | (go_at_call 16; refine HC8.out.mono ?_; rintro e w8 ⟨rfl, hb8⟩))
      have k8 := k7.drew.trans (hb8.mono k7.size)
      have I1 : Hid (inB (contB m a b (n1 - 1)) 0 9972 = true) := by unfold Hid inB; simp; exact z0
      have I2 : Hid (inB (contB m a b (n1 - 2)) 0 9972 = true) := by unfold Hid inB; simp; exact z1
      have y1 := k8.keep x1 (y1 (n1 - 1) (by omega))
      have y2 := k8.keep x2 (y2 (n1 - 2) (by omega))
      have y3 := k8.keep x3 (y3 (n1 - 2) (by omega))
      clear HC7 HC8 m6 a6 b6 m7 a7 b7 hb7 hb8
      go_wp2_with (go_at_call 18; refine (L3_in_any _ _ _ _).mono ?_; rintro e w' ⟨rfl, rfl⟩; first | rw [I1.out] | rw [I2.out])
      have p1 := mul_bd x4 z0
      have p2 := mul_bd x5 x6
      have p3 := mul_bd (a := ix a (n1 - 2) * ix b (n1 - 2) % 9973) (b := contB m a b (n1 - 2)) (by omega) z1
      have EFo := EF.out
      generalize contB m a b n1 = d0 at *
      generalize contB m a b (n1 - 1) = d1 at *
      generalize contB m a b (n1 - 2) = d2 at *
      generalize ix m (n1 - 1) = xm at *
      generalize ix a (n1 - 2) = xa at *
      generalize ix b (n1 - 2) = xb at *
      have hq : (d0 == (xm * d1 - xa * xb % 9973 * d2) % 9973) = true := beq_iff_eq.2 EFo
      have i1 : (n1 : Int) - 1 < (n1 : Int) := by omega
      have i2 : (n1 : Int) - 2 < ((n1 - 1 : Nat) : Int) := by omega
      have w4 : IntKind.i64.wrap (xm * d1) = xm * d1 := Go.IntWalk.i64_in _ (by omega)
      have w5 : IntKind.i64.wrap (xa * xb) = xa * xb := Go.IntWalk.i64_in _ (by omega)
      have w6e : IntKind.i64.wrap (xa * xb % 9973 * d2) = xa * xb % 9973 * d2 := Go.IntWalk.i64_in _ (by omega)
      have w7e : IntKind.i64.wrap (xm * d1 - xa * xb % 9973 * d2) = xm * d1 - xa * xb % 9973 * d2 := Go.IntWalk.i64_in _ (by omega)
      have M1 : Hid (∀ w : World, Calls Try.prog 19 #[.int .i64 (xa * xb)] w fun e w' => e = .returned (.int .i64 (xa * xb % 9973)) ∧ w = w') := fun w => R_Mod_any _ w (by omega) (by omega)
      have M2 : Hid (∀ w : World, Calls Try.prog 19 #[.int .i64 (xm * d1 - xa * xb % 9973 * d2)] w fun e w' => e = .returned (.int .i64 ((xm * d1 - xa * xb % 9973 * d2) % 9973)) ∧ w = w') := fun w => R_Mod_any _ w (by omega) (by omega)
      clear EFo EF H7 H8 T7 T8 p1 p2 p3 x4 x5 x6 z0 z1 I1 I2
      go_quiet ((first | (with_reducible refine quietW (M1.out _)) | (with_reducible refine quietW (M2.out _))))
      clear w1 w2 w3 w4 w5 w6e w7e t1 t2 t3
      go_wp2
      go_ret
      exact ⟨rfl, below_drewN k8 _⟩
  · have H := Lib.hid h
    clear h
    go_enter Try.func3, Try.ntmps3
    go_wp2_with (go_at_call 15; refine (bandFact_any _).mono ?_; rintro e w1 ⟨rfl, hb1⟩)
    go_wp2_with fail
    refine (band_Det_err (hm.below hb1) (ha.below hb1) (hb.below hb1) H.out).mono ?_
    rintro e w2 ⟨rfl, rfl⟩
    go_wp2
    go_ret
    exact ⟨rfl, hb1⟩
end Go.Proofs.Ytflojkifbdklnaa
