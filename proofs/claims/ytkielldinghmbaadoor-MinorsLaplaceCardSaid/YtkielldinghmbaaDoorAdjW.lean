/-
  The reference's Adj walked; what minors.Of says of what is wrong.
-/
import Derived.Test.YtkielldinghmbaaDoorRows
import Derived.Test.YtkielldinghmbaaDoorLib
import Derived.Test.YtkielldinghmbaaDoorTr
import Derived.Test.YtkielldinghmbaaDoorRef
import Derived.Test.YtkielldinghmbaaDoorRDet
import Derived.Test.YtkielldinghmbaaDoorRowsF
import Derived.Test.YtkielldinghmbaaDoorMinors
namespace Go.Proofs.YtkielldinghmbaaDoor
open Go.RowKit Go.Rk

theorem adjV_is {n : Nat} {M : List (List Int)} {i j : Nat} : adj n (mx M) i j % 9973 = (if (i + j) % 2 = 1 then -minorV n M j i % 9973 else minorV n M j i) := by
  unfold adj sg minorV
  by_cases h : (i + j) % 2 = 1
  · rw [if_neg (by omega), if_pos h]; omega
  · rw [if_pos (by omega), if_neg h, Int.one_mul]

theorem Of_err {a : Option Addr} {n ca : Nat} {i j c : Int} {A : List (List Int)} {w : World} (hA : RdM w a n ca A) (hq : squareR 5 0 9972 A = some c) :
    Calls Tryd.prog 45 #[.slice a n ca, .int .i64 i, .int .i64 j] w fun e w' => e = .returned (.tuple #[.int .i64 0, .iface 70 (.int .i64 c)]) ∧ w = w' := by
  have C := Lib.hid (det_Check_is hA hq)
  clear hq
  go_enter Tryd.func45, Tryd.ntmps45
  go_wp2_with (first | (go_at_call 37; refine C.out.mono ?_; rintro e w' ⟨rfl, rfl⟩; simp only [errV]))
  go_ret2
  exact ⟨rfl, rfl⟩
theorem Of_out {a : Option Addr} {n ca : Nat} {i j : Int} {A : List (List Int)} {w : World} (hA : RdM w a n ca A) (G : Good n n A) (h : ¬ ((0 ≤ i ∧ i < n) ∧ 0 ≤ j ∧ j < n)) :
    Calls Tryd.prog 45 #[.slice a n ca, .int .i64 i, .int .i64 j] w fun e w' => e = .returned (.tuple #[.int .i64 0, .iface 70 (.int .i64 1)]) ∧ Below w.heap.size w w' := by
  have hn := G.n1
  have C := Lib.hid (det_Check_is hA (squareR_of (lo := 0) (hi := 9972) (most := 5) hn.1 (by omega) G.dm G.ent))
  have hb := (Below.refl w.heap.size w).alloc (Nat.le_refl _) (.cells #[.int .i64 i, .int .i64 j] 3)
  have C2 := Lib.hid (any_any _ 2 2 [i, j] 0 ((n : Int) - 1) _ (RdI.lit w [i, j] 3 (by simp [maxLen])))
  have z : anyB 0 ((n : Int) - 1) [i, j] = true := by
    unfold anyB outB
    simp
    omega
  rw [z] at C2
  clear z G h
  go_enter Tryd.func45, Tryd.ntmps45
  go_wp2_with (first | (go_at_call 37; refine C.out.mono ?_; rintro e w' ⟨rfl, rfl⟩; simp only [errV]) | (go_at_call 78; refine C2.out.mono ?_; rintro e w2 ⟨rfl, rfl⟩))
  go_ret2
  exact ⟨rfl, hb⟩

/-- Without a row and a column, and the determinant of that. -/
theorem R_minor_any {a : Option Addr} {n cap r c : Nat} {M : List (List Int)} {w : World} (h : RdM w a n cap M) (G : Good n n M) (hr : r < n) (hc : c < n) :
    Calls Tryd.prog 44 #[.slice a n cap, .int .i64 r, .int .i64 c] w fun e w' => ∃ a' cap' W, e = .returned (.slice a' (n - 1) cap') ∧ RdM w' a' (n - 1) cap' W ∧ Dim (n - 1) W ∧ Ent 0 9972 (n - 1) W ∧ Hid (det (n - 1) (mx W) % 9973 = minorV n M r c) ∧ Below w.heap.size w w' := by
  have n1 := G.n1
  obtain ⟨m, rfl⟩ : ∃ m, n = m + 1 := ⟨n - 1, by omega⟩
  refine (R_Without_sq h (by omega) G.dm hr hc).mono ?_
  rintro e w' ⟨a', cap', W, rfl, ho, hi, hb⟩
  refine ⟨a', cap', W, rfl, ho.rd, hi.1, fun i j h1 h2 => by rw [hi.2 i j h1 h2]; exact G.ent _ _ (skip_lt h1) (skip_lt h2), ?_, hb⟩
  unfold Hid minorV
  rw [Nat.add_sub_cancel, det_congr (A := mx W) (B := minor (mx M) r c) fun i j h1 h2 => hi.2 i j h1 h2]

set_option maxHeartbeats 4000000 in
set_option maxRecDepth 100000 in
theorem R_Adj_any {a : Option Addr} {n ca : Nat} {A : List (List Int)} {w : World} (hA : RdM w a n ca A) (G : Good n n A) :
    Calls Tryd.prog 42 #[.slice a n ca] w fun e w' => ∃ a' cap', e = .returned (.slice a' n cap') ∧ OwM w' w.heap.size 32 3 a' n cap' (rowsF (fun i j => adj n (mx A) i j % 9973) n n) ∧ Below w.heap.size w w' := by
  have HM := Lib.hid matTy
  have n1 := G.n1
  have HG := Lib.hid G
  clear G
  go_enter Tryd.func42, Tryd.ntmps42
  go_wp2
  go_loopw [3, 4] (fun v x wr => ∃ (k : Nat) (q : Option Addr) (cq : Nat), k ≤ n ∧ x = .int .i64 k ∧ v = .slice q k cq ∧ OwM wr w.heap.size 32 3 q k cq (rowsF (fun i j => adj n (mx A) i j % 9973) n k) ∧ Below w.heap.size w wr) (fun _ x _ => n - (intOf x).toNat)
  case atStart => exact ⟨0, none, 0, Nat.zero_le _, rfl, rfl, OwM.nil _ _ _ _, Below.refl _ _⟩
  case round =>
    obtain ⟨k, q, cq, hk, rfl, rfl, ho, hb⟩ := hrel
    by_cases hkn : k < n
    · have i1 : (k : Int) < (n : Int) := by omega
      have hsz := hb.size
      obtain ⟨wo, hwo⟩ : ∃ wo, wo = wr := ⟨_, rfl⟩
      subst hwo
      go_wp2
      go_loopw [5, 6] (fun v x wr => ∃ (j : Nat) (p : Option Addr) (cp : Nat), j ≤ n ∧ x = .int .i64 j ∧ v = .slice p j cp ∧ OwI wr wo.heap.size 3 p j cp (rowF (fun j => adj n (mx A) k j % 9973) j) ∧ Below wo.heap.size wo wr) (fun _ x _ => n - (intOf x).toNat)
      case atStart => exact ⟨0, none, 0, Nat.zero_le _, rfl, rfl, OwI.nil _ _ _, Below.refl _ _⟩
      case round =>
        obtain ⟨j, p, cp, hj, rfl, rfl, hp, hbt⟩ := hrel
        by_cases hjn : j < n
        · have i2 : (j : Int) < (n : Int) := by omega
          have kt := hb.trans (hbt.mono hsz)
          have C := Lib.hid (R_minor_any (hA.below kt) HG.out hjn hkn)
          go_wp2_with (first | (go_at_call 44; (with_reducible refine C.out.mono ?_); rintro e w3 ⟨a3, c3, W, rfl, hW, hWd, hWe, hWv, hb3⟩) | (go_at_call 38; fail))
          have C2 := R_DetMod_any (n - 1) hW hWd hWe (by omega)
          rw [hWv.out] at C2
          have C2 := Lib.hid C2
          have bV := minorV_in n A j k
          have HV := Lib.hid (adjV_is (n := n) (M := A) (i := k) (j := j))
          obtain ⟨V, hV⟩ : ∃ V, V = minorV n A j k := ⟨_, rfl⟩
          rw [← hV] at C2 bV HV
          clear hV C hW hWd hWe hWv
          (with_reducible refine C2.out.mono ?_)
          clear C2
          rintro e w4 ⟨rfl, hb4⟩
          have hb5 := hbt.trans ((hb3.mono hbt.size).trans (hb4.mono (Nat.le_trans hbt.size hb3.size)))
          have hp5 := (hp.below hb3).below hb4
          have hs5 := hb5.size
          clear hp hbt hb3 hb4 kt
          by_cases ho_ : (k + j) % 2 = 1
          · have zt : ((k : Int) + (j : Int)).tmod 2 = 1 := by rw [Int.tmod_eq_emod_of_nonneg (by omega)]; omega
            rw [if_pos ho_] at HV
            have HO := Lib.hid ho_
            clear ho_
            go_wp2_with (first
              | (go_at_call 47; refine (R_Mod_any _ _ (by omega) (by omega)).mono ?_; rintro e w' ⟨rfl, rfl⟩)
              | (at_builtin; refine wpList_push_int HM.out.int rfl (.tmp 33) (.tmp 35) rfl rfl rfl (hp5.alloc _) (z := -V % 9973) (by simp) (by decide) (by decide) (by omega) (by simp; omega) ?_; intro a6 cap6 w6 ho6 hg6))
            have hb6 := (hb5.alloc hs5 _).grown hg6 (by simp; omega) (fun r e => (hp5.own.lt r e).1)
            go_roundw
            case rel => exact ⟨j + 1, a6, cap6, by omega, by go_num, rfl, by rw [rowF_succ, HV.out]; exact ho6, hb6⟩
            case measure => simp [intOf]; omega
          · have zt : ((k : Int) + (j : Int)).tmod 2 = 0 := by rw [Int.tmod_eq_emod_of_nonneg (by omega)]; omega
            rw [if_neg ho_] at HV
            have HO := Lib.hid ho_
            clear ho_
            go_wp2_with (first
              | (at_builtin; refine wpList_push_int HM.out.int rfl (.tmp 33) (.tmp 35) rfl rfl rfl (hp5.alloc _) (z := V) (by simp) (by decide) (by decide) (by omega) (by simp; omega) ?_; intro a6 cap6 w6 ho6 hg6))
            have hb6 := (hb5.alloc hs5 _).grown hg6 (by simp; omega) (fun r e => (hp5.own.lt r e).1)
            go_roundw
            case rel => exact ⟨j + 1, a6, cap6, by omega, by go_num, rfl, by rw [rowF_succ, HV.out]; exact ho6, hb6⟩
            case measure => simp [intOf]; omega
        · obtain rfl : j = n := by omega
          go_wp2_with (first
            | (at_builtin; refine wpList_push_row HM.out rfl (.tmp 37) (.tmp 39) rfl rfl rfl ho (hbt.alloc hbt.size _) (hp.alloc _) (by simp) (by omega) hsz ?_; intro a7 cap7 w7 ho7 hb7))
          have hb8 := ((hb.trans (hbt.mono hsz)).alloc (by have := hbt.size; omega) _).trans hb7
          go_roundw
          case rel => exact ⟨k + 1, a7, cap7, by omega, by go_num, rfl, by rw [rowsF_succ]; exact ho7, hb8⟩
          case measure => simp [intOf]; omega
    · obtain rfl : k = n := by omega
      go_wp2
      go_ret
      exact ⟨q, cq, rfl, ho, hb⟩
end Go.Proofs.YtkielldinghmbaaDoor
