/-
  The walks of package det: the checks, the exchange of two rows, the determinant by elimination.
-/
import Derived.Test.YtfocfgddlnjfmaaRows
import Derived.Test.YtfocfgddlnjfmaaLib
import Derived.Test.YtfocfgddlnjfmaaNum
import Derived.Test.YtfocfgddlnjfmaaMat
import Derived.Test.YtfocfgddlnjfmaaMatD
import Derived.Deep.QuietTactic
import Derived.BigQuiet
import Derived.Deep.RegionHeld3
namespace Go.Proofs.Ytfocfgddlnjfmaa
open Go.RowKit Go.Rk

theorem mat_Check_any {a : Option Addr} {n cap : Nat} {M : List (List Int)} {w : World} (h : RdM w a n cap M) :
    Calls Try.prog 62 #[.slice a n cap] w fun e w' => e = .returned (errV (groundsR 5 0 9972 M)) ∧ w = w' := by
  have C := Lib.hid (Grounds_any 5 0 9972 h)
  go_enter Try.func62, Try.ntmps62
  go_wp2_with (go_at_call 87; refine C.out.mono ?_; rintro e w' ⟨rfl, rfl⟩)
  go_ret
  exact ⟨rfl, rfl⟩
theorem mat_Check_is {a : Option Addr} {n cap : Nat} {M : List (List Int)} {w : World} {o : Option Int} (h : RdM w a n cap M) (ho : groundsR 5 0 9972 M = o) :
    Calls Try.prog 62 #[.slice a n cap] w fun e w' => e = .returned (errV o) ∧ w = w' := by
  have := mat_Check_any h
  rw [ho] at this
  exact this
theorem det_Check_any {a : Option Addr} {n cap : Nat} {M : List (List Int)} {w : World} (h : RdM w a n cap M) :
    Calls Try.prog 56 #[.slice a n cap] w fun e w' => e = .returned (errV (squareR 5 0 9972 M)) ∧ w = w' := by
  have E1 := Lib.hid h.len_eq
  have hm := h.len_max
  rcases hg : groundsR 5 0 9972 M with _ | c
  · have HG := Lib.hid (mat_Check_is h hg)
    obtain ⟨g1, g2, _⟩ := groundsR_none hg
    have e1 := E1.out
    obtain ⟨b, off, rfl, hbl, hr⟩ := h.at (k := 0) (by omega)
    obtain ⟨ar0, cr0, hc0, hrd0⟩ := hr 0 (by omega)
    rw [Nat.add_zero] at hc0
    have hm0 := hrd0.len_max
    have hn0 : 0 < n := by omega
    by_cases hs : n = (rowOf M 0).length
    · have z : ((n : Int) != ((rowOf M 0).length : Int)) = false := bne_eq_false_iff_eq.2 (by omega)
      have HS := Lib.hid hs
      have Hg := Lib.hid hg
      clear hs hg e1
      go_enter Try.func56, Try.ntmps56
      go_wp2_with (go_at_call 62; refine HG.out.mono ?_; rintro e w' ⟨rfl, rfl⟩; simp only [errV])
      go_ret
      exact ⟨by unfold squareR; rw [if_pos Hg.out, if_pos (by rw [E1.out]; exact HS.out)]; rfl, rfl⟩
    · have z : ((n : Int) != ((rowOf M 0).length : Int)) = true := bne_iff_ne.2 (by omega)
      have HS := Lib.hid hs
      have Hg := Lib.hid hg
      clear hs hg e1
      go_enter Try.func56, Try.ntmps56
      go_wp2_with (go_at_call 62; refine HG.out.mono ?_; rintro e w' ⟨rfl, rfl⟩; simp only [errV])
      go_ret
      exact ⟨by unfold squareR; rw [if_pos Hg.out, if_neg (by rw [E1.out]; exact HS.out)]; rfl, rfl⟩
  · have HG := Lib.hid (mat_Check_is h hg)
    have Hg := Lib.hid hg
    clear hg
    go_enter Try.func56, Try.ntmps56
    go_wp2_with (go_at_call 62; refine HG.out.mono ?_; rintro e w' ⟨rfl, rfl⟩; simp only [errV])
    go_ret
    exact ⟨by unfold squareR; rw [if_neg (by rw [Hg.out]; simp), Hg.out]; rfl, rfl⟩
theorem det_Check_is {a : Option Addr} {n cap : Nat} {M : List (List Int)} {w : World} {o : Option Int} (h : RdM w a n cap M) (ho : squareR 5 0 9972 M = o) :
    Calls Try.prog 56 #[.slice a n cap] w fun e w' => e = .returned (errV o) ∧ w = w' := by
  have := det_Check_any h
  rw [ho] at this
  exact this
/-- What the exchange of two rows leaves. -/
def Exch (w : World) (L B g Bm Bo : Nat) (D C : Nat → Nat) (n cap : Nat) (M : List (List Int)) (o : Int) (i k : Nat) (e : Ending) (w' : World) : Prop :=
  e = .returned (.tuple #[]) ∧ OwMD w' B 22 3 g (if i = k then D else swapF D i k) (if i = k then C else swapF C i k) n cap (if i = k then M else swapL M i k) ∧
    w'.cell? ⟨Bm, 0, none⟩ = some (.slice (some ⟨g, 0, none⟩) n cap) ∧ w'.cell? ⟨Bo, 0, none⟩ = some (.int .i64 (if i = k then o else -o % 9973)) ∧ w'.frozen? ⟨Bo, 0, none⟩ = false ∧ Below L w w'

set_option maxHeartbeats 1000000 in
theorem exchange_any {L B g Bm Bo : Nat} {D C : Nat → Nat} {n cap : Nat} {M : List (List Int)} {o : Int} {i k : Nat} {w : World} (h : OwMD w B 22 3 g D C n cap M) (hi : i < n) (hk : k < n)
    (hm : w.cell? ⟨Bm, 0, none⟩ = some (.slice (some ⟨g, 0, none⟩) n cap)) (ho : w.cell? ⟨Bo, 0, none⟩ = some (.int .i64 o)) (hf : w.frozen? ⟨Bo, 0, none⟩ = false) (ho1 : 0 ≤ o) (ho2 : o ≤ 9972)
    (n1 : Bm ≠ g) (n2 : Bo ≠ g) (n3 : Bm ≠ Bo) (n4 : ∀ j, j < n → Bo ≠ D j) (hL : L ≤ g) (hL2 : L ≤ Bo) :
    Calls Try.prog 93 #[.int .i64 i, .int .i64 k, .pointer (some ⟨Bm, 0, none⟩), .pointer (some ⟨Bo, 0, none⟩)] w (Exch w L B g Bm Bo D C n cap M o i k) := by
  by_cases hik : i = k
  · have z : ((i : Int) != (k : Int)) = false := bne_eq_false_iff_eq.2 (by omega)
    have HK := Lib.hid hik
    clear hik
    go_enter Try.func93, Try.ntmps93
    go_wp2
    go_end0
    unfold Exch
    simp only [if_pos HK.out]
    exact ⟨by simp, h, hm, ho, hf, Below.refl _ _⟩
  · have z : ((i : Int) != (k : Int)) = true := bne_iff_ne.2 (by omega)
    have HK := Lib.hid hik
    have hki : ¬ k = i := fun e => hik e.symm
    have c1 := h.cellO hi
    have c2 := h.cellO hk
    have f1 := h.frozenO i
    have f2 := h.frozenO k
    have m1 : (i : Int) < (n : Int) := by omega
    have m2 : (k : Int) < (n : Int) := by omega
    have m3 : ¬ Bm = g := n1
    have m4 : ¬ Bo = g := n2
    have m5 : ¬ Bm = Bo := n3
    have m6 : ¬ g = Bm := fun e => n1 e.symm
    have m7 : ¬ g = Bo := fun e => n2 e.symm
    have c3 : (w.setCell ⟨g, i, none⟩ (.slice (some ⟨D k, 0, none⟩) (rowOf M k).length (C k))).cell? ⟨g, k, none⟩ = some (.slice (some ⟨D k, 0, none⟩) (rowOf M k).length (C k)) := by rw [World.cell?_setCell_other _ _ _ _ (by simp)]; exact c2
    have HNE := Lib.hid matTy.ne
    have N1 := Lib.hid n1
    have N2 := Lib.hid n2
    have N3 := Lib.hid n3
    clear n1 n2 n3
    go_enter Try.func93, Try.ntmps93
    go_wp2
    go_region
    go_wp2_with fail
    have hs := (h.swap HNE.out hi hk).drew
    have hm2 : (((w.setCell ⟨g, i, none⟩ (.slice (some ⟨D k, 0, none⟩) (rowOf M k).length (C k))).setCell ⟨g, k, none⟩ (.slice (some ⟨D i, 0, none⟩) (rowOf M i).length (C i))).drew).cell? ⟨Bm, 0, none⟩ = some (.slice (some ⟨g, 0, none⟩) n cap) := by
      show World.cell? ((w.setCell _ _).setCell _ _) _ = _
      rw [World.cell?_setCell_other _ _ _ _ (by simp), World.cell?_setCell_other _ _ _ _ (by simp)]; exact hm
    have ho2' : (((w.setCell ⟨g, i, none⟩ (.slice (some ⟨D k, 0, none⟩) (rowOf M k).length (C k))).setCell ⟨g, k, none⟩ (.slice (some ⟨D i, 0, none⟩) (rowOf M i).length (C i))).drew).cell? ⟨Bo, 0, none⟩ = some (.int .i64 o) := by
      show World.cell? ((w.setCell _ _).setCell _ _) _ = _
      rw [World.cell?_setCell_other _ _ _ _ (by simp), World.cell?_setCell_other _ _ _ _ (by simp)]; exact ho
    have hf2 : (((w.setCell ⟨g, i, none⟩ (.slice (some ⟨D k, 0, none⟩) (rowOf M k).length (C k))).setCell ⟨g, k, none⟩ (.slice (some ⟨D i, 0, none⟩) (rowOf M i).length (C i))).drew).frozen? ⟨Bo, 0, none⟩ = false := by
      show World.frozen? ((w.setCell _ _).setCell _ _) _ = _
      simp [hf]
    have hbl : Below L w (((w.setCell ⟨g, i, none⟩ (.slice (some ⟨D k, 0, none⟩) (rowOf M k).length (C k))).setCell ⟨g, k, none⟩ (.slice (some ⟨D i, 0, none⟩) (rowOf M i).length (C i))).drew) := (((Below.refl L w).setCell hL _).setCell hL _).drew
    clear c1 c2 c3 f1 f2 hm ho hf m6 m7
    generalize (((w.setCell ⟨g, i, none⟩ (.slice (some ⟨D k, 0, none⟩) (rowOf M k).length (C k))).setCell ⟨g, k, none⟩ (.slice (some ⟨D i, 0, none⟩) (rowOf M i).length (C i))).drew) = w2 at *
    refine (Field_any _ _).mono ?_
    rintro e w' ⟨rfl, rfl⟩
    go_wp2
    go_end0
    unfold Exch
    simp only [if_neg HK.out]
    refine ⟨by simp, hs.setElse (p := ⟨Bo, 0, none⟩) N2.out (fun j hj => ?_) _, ?_, World.cell?_setCell_same _ _ _ ho2', by simp [hf2], hbl.setCell hL2 _⟩
    · simp only [swapF]
      (repeat' split) <;> first | exact n4 _ hi | exact n4 _ hk | exact n4 _ hj
    · rw [World.cell?_setCell_other _ _ _ _ (by simp)]; exact hm2
end Go.Proofs.Ytfocfgddlnjfmaa
