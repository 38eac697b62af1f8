/-
  GaussSays walked: of any matrix the one in steps, the columns in which they begin, and how many there are.
-/
import Derived.Test.YtkielldinghmbaaDoorRows
import Derived.Test.YtkielldinghmbaaDoorLib
import Derived.Test.YtkielldinghmbaaDoorTr
import Derived.Test.YtkielldinghmbaaDoorSaysKit
import Derived.Test.YtkielldinghmbaaDoorRStairs
import Derived.Test.YtkielldinghmbaaDoorGaussS
import Derived.Test.YtkielldinghmbaaDoorGaussFact
import Derived.Test.YtkielldinghmbaaDoorRowIn
namespace Go.Proofs.YtkielldinghmbaaDoor
open Go.RowKit Go.Rk

set_option maxHeartbeats 4000000 in
set_option maxRecDepth 100000 in
theorem gaussSays_walk {a : Option Addr} {n ca : Nat} {A : List (List Int)} {w : World} (hg : ErrT w) (hA : RdM w a n ca A) (_ : ∀ r ∈ A, Fit r) :
    Calls Tryd.prog 4 #[.slice a n ca] w fun e w' => e = .returned (.bool true) ∧ Below w.heap.size w w' := by
  rcases hq : groundsR 5 0 9972 A with _ | x
  · have G := Good.of hA.len_eq hq
    obtain ⟨c, hc⟩ : ∃ c, c = (rowOf A 0).length := ⟨_, rfl⟩
    rw [← hc] at G
    clear hc
    have n1 := G.n1
    have c1 := G.c1
    have C0 := Lib.hid (R_Field_any hA hq)
    obtain ⟨ba, oa, rfl, ai, ci, hc0, _⟩ := hA.rowIn G.dm (k := 0) (by omega)
    rw [Nat.add_zero] at hc0
    have hbl := World.block_lt_of_cell? _ _ hc0
    have b1 : (0 : Int) < (n : Int) := by omega
    have b2 : (1 : Int) ≤ (n : Int) := by omega
    have HG := Lib.hid G
    clear hq G
    go_enter Tryd.func4, Tryd.ntmps4
    go_wp2_with (first
      | (go_at_call 16; (with_reducible refine C0.out.mono ?_); rintro e w1 ⟨rfl, k1⟩; simp only [numV]; have hc1 := k1.keep hbl hc0)
      | (go_at_call 30; refine (R_Stairs_any (hA.below k1) HG.out.dm HG.out.ent (by omega) (by omega) (by omega) (Nat.le_refl _) (by omega)).mono ?_; rintro e w2 ⟨aW, cW, aC, cC, W, ws, rfl, hW, hC, gW, b2_⟩)
      | (go_at_call 31; fail))
    have k2 := below_tr k1 b2_
    have C := Lib.hid (Steps_ok (hA.below k2) HG.out)
    (with_reducible refine C.out.mono ?_)
    rintro e w3 ⟨aP, cP, aQ, cQ, P, ps, rfl, hP, hQ, gP, b3⟩
    have k3 := below_tr k2 b3
    obtain ⟨rfl, rfl⟩ := gP.same gW (Made.refl _ _ _) (Made.refl _ _ _)
    have hW3 := hW.below b3
    have hC3 := hC.below b3
    have hP3 := hP.rd
    have hQ3 := hQ.rd
    have GW := Lib.hid gW
    clear C0 C k1 k2 b2_ b3 hW hC hP hQ gP gW hc0 hc1
    go_wp2_with fail
    refine (E_nil0 (hg.below k3)).mono ?_
    rintro e w4 ⟨rfl, b4⟩
    have k4 := below_tr k3 b4
    have C := Lib.hid (Rows_eq (hP3.below b4) (hW3.below b4) rfl)
    go_wp2_with (first | (go_at_call 21; (with_reducible refine C.out.mono ?_); rintro e w5 ⟨rfl, b5⟩) | (go_at_call 32; fail))
    have C2 := Lib.hid (Ints_eq ((hQ3.below b4).below b5) ((hC3.below b4).below b5) rfl)
    have k5 := below_tr k4 b5
    clear C b4 b5 k3 k4 hP3 hW3 hQ3 hC3
    (with_reducible refine C2.out.mono ?_)
    rintro e w6 ⟨rfl, b6⟩
    have k6 := below_tr k5 b6
    have C := Lib.hid (Rank_ok (hA.below k6) HG.out)
    clear C2 b6 k5
    go_wp2_with (first | (go_at_call 33; (with_reducible refine C.out.mono ?_); rintro e w7 ⟨P2, ps2, rfl, g2, b7⟩) | (go_at_call 17; fail))
    have k7 := below_tr k6 b7
    have z1 : ((ps2.length : Int) == (ps.length : Int)) = true := by
      rw [(g2.same GW.out (Made.refl _ _ _) (Made.refl _ _ _)).2]
      exact beq_iff_eq.2 rfl
    clear g2
    refine (E_nil0 (hg.below k7)).mono ?_
    rintro e w8 ⟨rfl, b8⟩
    have k8 := below_tr k7 b8
    go_wp2
    go_ret
    exact ⟨rfl, k8⟩
  · have C0 := Lib.hid (R_Field_any hA hq)
    have HQ := Lib.hid hq
    have z1 : (x == 0) = false := beq_eq_false_iff_ne.2 (groundsR_nz hq)
    clear hq
    go_enter Tryd.func4, Tryd.ntmps4
    go_wp2_with (first
      | (go_at_call 16; (with_reducible refine C0.out.mono ?_); rintro e w1 ⟨rfl, k1⟩; simp only [numV])
      | (go_at_call 31; refine (Steps_err (hA.below k1) HQ.out).mono ?_; rintro e w2 ⟨rfl, rfl⟩)
      | (go_at_call 17; fail))
    refine (E_same (hg.below k1)).mono ?_
    rintro e w4 ⟨rfl, b4⟩
    have k4 := below_tr k1 b4
    clear C0 k1 b4
    go_wp2_with (first
      | (go_at_call 21; refine (Rows_none _).mono ?_; rintro e w5 ⟨rfl, b5⟩)
      | (go_at_call 32; refine (Ints_none _).mono ?_; rintro e w6 ⟨rfl, b6⟩; have k6 := below_tr (below_tr k4 b5) b6)
      | (go_at_call 33; refine (Rank_err (hA.below k6) HQ.out).mono ?_; rintro e w7 ⟨rfl, rfl⟩)
      | (go_at_call 17; refine (E_same (hg.below k6)).mono ?_; rintro e w8 ⟨rfl, b8⟩; have k8 := below_tr k6 b8))
    go_ret
    exact ⟨rfl, k8⟩
end Go.Proofs.YtkielldinghmbaaDoor
