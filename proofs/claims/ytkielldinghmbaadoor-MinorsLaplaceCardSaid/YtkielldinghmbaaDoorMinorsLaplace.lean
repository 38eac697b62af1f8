/-
  MinorsLaplace walked: the sum of a row's numbers times what is left without them, the sign changing, is the determinant; with another row's numbers it is 0.
-/
import Derived.Test.YtkielldinghmbaaDoorRows
import Derived.Test.YtkielldinghmbaaDoorLib
import Derived.Test.YtkielldinghmbaaDoorTr
import Derived.Test.YtkielldinghmbaaDoorRef
import Derived.Test.YtkielldinghmbaaDoorDetMore
import Derived.Test.YtkielldinghmbaaDoorDetOf
import Derived.Test.YtkielldinghmbaaDoorMinors
import Derived.Test.YtkielldinghmbaaDoorAdjW
import Derived.Test.YtkielldinghmbaaDoorRowIn
import Derived.Test.YtkielldinghmbaaDoorErrTold
namespace Go.Proofs.YtkielldinghmbaaDoor
open Go.RowKit Go.Rk

/-- A row's numbers times what is left without them, the sign changing: the first k. -/
def lapS (A : List (List Int)) (n i k : Nat) : Nat → Int
  | 0 => 0
  | j + 1 => (lapS A n i k j + en A k j * (if (i + j) % 2 = 1 then -minorV n A i j else minorV n A i j)) % 9973
theorem lapS_in (A : List (List Int)) (n i k : Nat) : ∀ j, 0 ≤ lapS A n i k j ∧ lapS A n i k j ≤ 9972
  | 0 => ⟨show (0 : Int) ≤ 0 by decide, show (0 : Int) ≤ 9972 by decide⟩
  | j + 1 => by rw [lapS]; omega
theorem lapS_eqm (A : List (List Int)) (n i k : Nat) : ∀ j, Eqm (lapS A n i k j) (sumTo (fun j => sg (i + j) * mx A k j * det (n - 1) (minor (mx A) i j)) j)
  | 0 => Eqm.refl _
  | j + 1 => by
    rw [lapS, sumTo]
    refine (Eqm.mod _).trans ((lapS_eqm A n i k j).add ?_)
    have h1 : Eqm (minorV n A i j) (det (n - 1) (minor (mx A) i j)) := Eqm.mod _
    have h2 : Eqm (if (i + j) % 2 = 1 then -minorV n A i j else minorV n A i j) (sg (i + j) * det (n - 1) (minor (mx A) i j)) := by
      unfold sg
      by_cases h : (i + j) % 2 = 1
      · rw [if_pos h, if_neg (by omega)]
        exact h1.neg.trans (Eqm.of_eq (by omega))
      · rw [if_neg h, if_pos (by omega), Int.one_mul]
        exact h1
    refine ((Eqm.refl (en A k j)).mul h2).trans (Eqm.of_eq ?_)
    show mx A k j * _ = _
    grind
theorem lapS_full {A : List (List Int)} {n i k : Nat} (hi : i < n) (hk : k < n) : lapS A n i k n = if i = k then det n (mx A) % 9973 else 0 := by
  have h := lapS_eqm A n i k n
  have b := lapS_in A n i k n
  obtain ⟨m, rfl⟩ : ∃ m, n = m + 1 := ⟨n - 1, by omega⟩
  rw [Nat.add_sub_cancel] at h
  unfold Eqm at h
  by_cases e : i = k
  · subst e
    rw [if_pos rfl, det_row (mx A) hi]
    omega
  · rw [if_neg e]
    rw [det_row_other (mx A) hi hk e] at h
    omega

set_option maxHeartbeats 4000000 in
set_option maxRecDepth 100000 in
theorem minorsLaplace_walk {a : Option Addr} {n ca : Nat} {A : List (List Int)} {i k : Int} {w : World} (hg : ErrT w) (hA : RdM w a n ca A) (_ : ∀ r ∈ A, Fit r) (_ : (Lit.int .i64 i).wf = true) (_ : (Lit.int .i64 k).wf = true) :
    Calls Tryd.prog 8 #[.slice a n ca, .int .i64 i, .int .i64 k] w fun e w' => e = .returned (.bool true) ∧ Below w.heap.size w w' := by
  have lm := hA.len_max
  go_enter Tryd.func8, Tryd.ntmps8
  go_wp2_with (first | (go_at_call 46; refine (minorsFact_any _).mono ?_; rintro e w1 ⟨rfl, k1⟩) | (go_at_call 39; fail))
  rcases hq : squareR 5 0 9972 A with _ | c
  · obtain ⟨g1, g2⟩ := squareR_grounds hq
    have G := Good.of hA.len_eq g1
    rw [g2, hA.len_eq] at G
    have HG := Lib.hid G
    have n1 := G.n1
    have HQ := Lib.hid hq
    clear hq g1 g2 G
    have C := Lib.hid (det_Of_ok (hA.below k1) HQ.out)
    obtain ⟨d, hd⟩ : ∃ d, det n (mx A) % 9973 = d := ⟨_, rfl⟩
    rw [hd] at C
    have HD := Lib.hid hd
    clear hd
    (with_reducible refine C.out.mono ?_)
    clear C
    rintro e w2 ⟨rfl, b2⟩
    have k2 := below_tr k1 b2
    have u1 : IntKind.i64.wrap ((n : Int) - 1) = (n : Int) - 1 := Go.IntWalk.i64_in _ (by omega)
    clear b2 k1
    have CI := Lib.hid (fun (x : Int) (w : World) => L2_in_any x 0 ((n : Int) - 1) w)
    by_cases hij : (0 ≤ i ∧ i < n) ∧ 0 ≤ k ∧ k < n
    · have z1 : inB i 0 ((n : Int) - 1) = true := by unfold inB; simp; omega
      have z2 : inB k 0 ((n : Int) - 1) = true := by unfold inB; simp; omega
      go_wp2_with fail
      refine (CI.out i _).mono ?_
      rintro e w6 ⟨rfl, rfl⟩
      rw [z1]
      go_wp2_with fail
      refine (CI.out k _).mono ?_
      rintro e w6 ⟨rfl, rfl⟩
      rw [z2]
      clear z1 z2
      obtain ⟨I, rfl⟩ : ∃ I : Nat, i = (I : Int) := ⟨i.toNat, by omega⟩
      obtain ⟨K, rfl⟩ : ∃ K : Nat, k = (K : Int) := ⟨k.toNat, by omega⟩
      have hI : I < n := by omega
      have hK : K < n := by omega
      have HF := Lib.hid (lapS_full (A := A) hI hK)
      go_wp2
      go_loopw [12, 13] (fun s v wr => ∃ j : Nat, j ≤ n ∧ v = .int .i64 j ∧ s = .int .i64 (lapS A n I K j) ∧ Below w2.heap.size w2 wr) (fun _ v _ => n - (intOf v).toNat)
      case atStart => exact ⟨0, Nat.zero_le _, rfl, rfl, Below.refl _ _⟩
      case round =>
        obtain ⟨j, hj, rfl, rfl, hb⟩ := hrel
        have kr := below_tr k2 hb
        have hs := lapS_in A n I K j
        by_cases hjn : j < n
        · have i1 : (j : Int) < (n : Int) := by omega
          have C := Of_ok (i := (I : Int)) (j := (j : Int)) (hA.below kr) HG.out (by omega) (by omega)
          rw [show ((I : Int)).toNat = I by omega, show ((j : Int)).toNat = j by omega] at C
          have C := Lib.hid C
          have bV := minorV_in n A I j
          have HN : Hid (lapS A n I K (j + 1) = (lapS A n I K j + en A K j * (if (I + j) % 2 = 1 then -minorV n A I j else minorV n A I j)) % 9973) := rfl
          obtain ⟨V, hV⟩ : ∃ V, V = minorV n A I j := ⟨_, rfl⟩
          rw [← hV] at C bV HN
          obtain ⟨S, hS⟩ : ∃ S, S = lapS A n I K j := ⟨_, rfl⟩
          rw [← hS] at hs HN ⊢
          clear hV hS
          have zin : inB V 0 9972 = true := by unfold inB; simp; omega
          go_wp2_with (first | (go_at_call 45; (with_reducible refine C.out.mono ?_); rintro e w4 ⟨rfl, b4⟩) | (go_at_call 26; fail))
          refine (L2_in_any _ _ _ _).mono ?_
          rintro e w6 ⟨rfl, rfl⟩
          rw [zin]
          have k4 := below_tr kr b4
          have hb4 := below_tr hb b4
          obtain ⟨bm, om, rfl, ar, cr, y1, hrd⟩ := (hA.below k4).rowIn HG.out.dm hK
          obtain ⟨br, or_, rfl, _, hce⟩ := hrd.at hjn
          have y2 := hce j hjn
          rw [show ix (rowOf A K) j = en A K j from rfl] at y2
          have bE := HG.out.ent K j hK hjn
          obtain ⟨E, hE⟩ : ∃ E, E = en A K j := ⟨_, rfl⟩
          rw [← hE] at y2 bE HN
          have p1 := mul_bd bE bV
          clear hE hce hrd C b4 kr hb
          have i2 : (K : Int) < (n : Int) := by omega
          by_cases hp : (I + j) % 2 = 1
          · have zt : ((I : Int) + (j : Int)).tmod 2 = 1 := by rw [Int.tmod_eq_emod_of_nonneg (by omega)]; omega
            rw [if_pos hp] at HN
            have HP := Lib.hid hp
            clear hp
            have hn' : E * -V = -(E * V) := Int.mul_neg _ _
            have u2 : IntKind.i64.wrap (E * -V) = E * -V := Go.IntWalk.i64_in _ (by omega)
            have u3 : IntKind.i64.wrap (S + E * -V) = S + E * -V := Go.IntWalk.i64_in _ (by omega)
            have q1 : -9223372036854775808 ≤ S + E * -V := by omega
            have q2 : S + E * -V ≤ 9223372036854775807 := by omega
            have HX := Lib.hid hn'
            clear hn' p1
            go_wp2_with (first | (go_at_call 47; refine (R_Mod_any _ _ q1 q2).mono ?_; rintro e w' ⟨rfl, rfl⟩))
            go_roundw
            case rel => exact ⟨j + 1, by omega, by go_num, by rw [HN.out], hb4⟩
            case measure => simp [intOf]; omega
          · have zt : ((I : Int) + (j : Int)).tmod 2 = 0 := by rw [Int.tmod_eq_emod_of_nonneg (by omega)]; omega
            rw [if_neg hp] at HN
            have HP := Lib.hid hp
            clear hp
            have u2 : IntKind.i64.wrap (E * V) = E * V := Go.IntWalk.i64_in _ (by omega)
            have u3 : IntKind.i64.wrap (S + E * V) = S + E * V := Go.IntWalk.i64_in _ (by omega)
            have q1 : -9223372036854775808 ≤ S + E * V := by omega
            have q2 : S + E * V ≤ 9223372036854775807 := by omega
            clear p1
            go_wp2_with (first | (go_at_call 47; refine (R_Mod_any _ _ q1 q2).mono ?_; rintro e w' ⟨rfl, rfl⟩))
            go_roundw
            case rel => exact ⟨j + 1, by omega, by go_num, by rw [HN.out], hb4⟩
            case measure => simp [intOf]; omega
        · obtain rfl : j = n := by omega
          rw [HF.out, HD.out]
          by_cases hIK : I = K
          · have z1 : ((I : Int) == (K : Int)) = true := beq_iff_eq.2 (by omega)
            have z2 : ((I : Int) != (K : Int)) = false := bne_eq_false_iff_eq.2 (by omega)
            have z3 : (d == d) = true := beq_iff_eq.2 rfl
            rw [if_pos hIK]
            have HIK := Lib.hid hIK
            clear hIK
            go_wp2
            go_ret
            exact ⟨rfl, kr⟩
          · have z1 : ((I : Int) == (K : Int)) = false := beq_eq_false_iff_ne.2 (by omega)
            have z2 : ((I : Int) != (K : Int)) = true := bne_iff_ne.2 (by omega)
            rw [if_neg hIK]
            have HIK := Lib.hid hIK
            clear hIK
            go_wp2
            go_ret
            exact ⟨rfl, kr⟩
    · have C3 := Lib.hid (Of_out (hA.below k2) HG.out hij)
      by_cases hi : 0 ≤ i ∧ i < n
      · have z1 : inB i 0 ((n : Int) - 1) = true := by unfold inB; simp; omega
        have z2 : inB k 0 ((n : Int) - 1) = false := by unfold inB; simp; omega
        go_wp2_with fail
        refine (CI.out i _).mono ?_
        rintro e w6 ⟨rfl, rfl⟩
        rw [z1]
        go_wp2_with fail
        refine (CI.out k _).mono ?_
        rintro e w6 ⟨rfl, rfl⟩
        rw [z2]
        clear z1 z2 hij hi
        go_wp2_with (first | (go_at_call 45; (with_reducible refine C3.out.mono ?_); rintro e w8 ⟨rfl, b8⟩) | (go_at_call 17; fail))
        have k8 := below_tr k2 b8
        refine (E_same (hg.below k8)).mono ?_
        rintro e w9 ⟨rfl, b9⟩
        have k9 := below_tr k8 b9
        go_wp2
        go_ret
        exact ⟨rfl, k9⟩
      · have z1 : inB i 0 ((n : Int) - 1) = false := by unfold inB; simp; omega
        go_wp2_with fail
        refine (CI.out i _).mono ?_
        rintro e w6 ⟨rfl, rfl⟩
        rw [z1]
        clear z1 hij hi
        go_wp2_with (first | (go_at_call 45; (with_reducible refine C3.out.mono ?_); rintro e w8 ⟨rfl, b8⟩) | (go_at_call 17; fail))
        have k8 := below_tr k2 b8
        refine (E_same (hg.below k8)).mono ?_
        rintro e w9 ⟨rfl, b9⟩
        have k9 := below_tr k8 b9
        go_wp2
        go_ret
        exact ⟨rfl, k9⟩
  · have C := Lib.hid (det_Of_err (hA.below k1) hq)
    clear hq
    (with_reducible refine C.out.mono ?_)
    clear C
    rintro e w2 ⟨rfl, rfl⟩
    go_wp2
    go_ret
    exact ⟨rfl, k1⟩
end Go.Proofs.YtkielldinghmbaaDoor
