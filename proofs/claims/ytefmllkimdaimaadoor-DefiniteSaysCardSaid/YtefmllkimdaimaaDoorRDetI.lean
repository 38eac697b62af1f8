/-
  The reference's Det of whole numbers walked.
-/
import Derived.Test.YtefmllkimdaimaaDoorRows
import Derived.Test.YtefmllkimdaimaaDoorLib
import Derived.Test.YtefmllkimdaimaaDoorNum
import Derived.Test.YtefmllkimdaimaaDoorRef
import Derived.Test.YtefmllkimdaimaaDoorCut
import Derived.Test.YtefmllkimdaimaaDoorRDet
import Derived.Test.YtefmllkimdaimaaDoorBareissP
import Derived.Test.YtefmllkimdaimaaDoorBareissW
import Derived.Deep.QuietTactic
import Derived.BigQuiet
import Derived.Deep.RegionHeld3
import Derived.StillTailTactics
namespace Go.Proofs.YtefmllkimdaimaaDoor
open Go.RowKit Go.Rk

set_option maxHeartbeats 2000000 in
theorem R_Det_any : ∀ (n : Nat) {a : Option Addr} {cap : Nat} {M : List (List Int)} {w : World} (_ : RdM w a n cap M) (_ : Dim n M) (_ : Ent (-9) 9 n M) (_ : n ≤ 5),
    Calls Tryd.prog 32 #[.slice a n cap] w fun e w' => e = .returned (.int .i64 (det n (mx M))) ∧ Below w.heap.size w w' := by
  intro n
  induction n with
  | zero =>
    intro a cap M w h _ _ _
    go_enter Tryd.func32, Tryd.ntmps32
    go_wp2
    go_ret
    exact ⟨rfl, Below.refl _ _⟩
  | succ n ih =>
    intro a cap M w h hd he h5
    obtain ⟨N, hN⟩ : ∃ N, n + 1 = N := ⟨_, rfl⟩
    rw [hN] at h hd he h5 ⊢
    have hN1 : 1 ≤ N := by omega
    have hN2 : 0 < N := by omega
    have HD := Lib.hid hd
    have HE := Lib.hid he
    have IH : Hid (∀ {a : Option Addr} {cap : Nat} {M : List (List Int)} {w : World} (_ : RdM w a n cap M) (_ : Dim n M) (_ : Ent (-9) 9 n M) (_ : n ≤ 5), Calls Tryd.prog 32 #[.slice a n cap] w fun e w' => e = .returned (.int .i64 (det n (mx M))) ∧ Below w.heap.size w w') := @ih
    clear ih hd he
    obtain ⟨ba, oa, rfl, hba, hra⟩ := h.at (k := 0) (by omega)
    obtain ⟨ai, ci, hc0, hai⟩ := hra 0 (by omega)
    rw [HD.out.2 0 (by omega)] at hc0 hai
    obtain ⟨pa, qa, rfl, hpa, hca⟩ := hai.at (k := 0) (by omega)
    rw [Nat.add_zero] at hc0
    have z0 : ((N : Int) == 0) = false := beq_eq_false_iff_ne.2 (by omega)
    clear hra hai
    go_enter Tryd.func32, Tryd.ntmps32
    go_wp2
    go_loopw [3, 4, 5] (fun vs vg vj wr => ∃ (j : Nat) (S g : Int), j ≤ N ∧ vj = .int .i64 j ∧ vs = .int .i64 S ∧ vg = .int .i64 g ∧ Hid (g = sg j) ∧ (g = 1 ∨ g = -1) ∧ (-63772920 * (j : Int) ≤ S ∧ S ≤ 63772920 * (j : Int)) ∧ Hid (S = sumTo (fun t => sg t * en M 0 t * det n (minor (mx M) 0 t)) j) ∧ Below w.heap.size w wr) (fun _ _ vj _ => N - (intOf vj).toNat)
    case atStart => exact ⟨0, 0, 1, Nat.zero_le _, rfl, rfl, rfl, rfl, .inl rfl, by omega, rfl, Below.refl _ _⟩
    case round =>
      obtain ⟨j, S, g, hj, rfl, rfl, rfl, HG, hg, hS1, HS, hb⟩ := hrel
      have hgn : Hid (-g = sg (j + 1)) := by unfold Hid; rw [sg_succ, HG.out]
      have hgn1 : -g = 1 ∨ -g = -1 := by omega
      have ug : IntKind.i64.wrap (-g) = -g := Go.IntWalk.i64_in _ (by omega)
      by_cases hlt : j < N
      · have hc0 := hb.keep hba hc0
        have y1 := hb.keep hpa (hca j hlt)
        change World.cell? _ _ = some (.int .i64 (en M 0 j)) at y1
        have b1 : (j : Int) < (N : Int) := by omega
        have b2 : (0 : Int) < (N : Int) := by omega
        have b3 : (1 : Int) ≤ (N : Int) := by omega
        have hv := HE.out 0 j (by omega) hlt
        by_cases h0 : en M 0 j = 0
        · have z1 : (en M 0 j != 0) = false := bne_eq_false_iff_eq.2 h0
          have H0 := Lib.hid h0
          clear h0
          go_wp2
          go_roundw
          case rel => exact ⟨j + 1, S, -g, by omega, by go_num, rfl, rfl, hgn, hgn1, by omega, by unfold Hid; rw [sumTo, H0.out, Int.mul_zero, Int.zero_mul, Int.add_zero]; exact HS.out, hb⟩
          case measure => simp [intOf]; omega
        · have z1 : (en M 0 j != 0) = true := bne_iff_ne.2 h0
          clear h0
          obtain ⟨V, hV⟩ : ∃ V, V = en M 0 j := ⟨_, rfl⟩
          rw [← hV] at y1 z1 hv
          obtain ⟨Dt, hDt⟩ : ∃ Dt, Dt = det n (minor (mx M) 0 j) := ⟨_, rfl⟩
          have hD : -7085880 ≤ Dt ∧ Dt ≤ 7085880 := by
            have := det_le (A := minor (mx M) 0 j) (n := n) (b := 9) (by decide) fun r s hr hs => HE.out _ _ (by rw [← hN]; exact skip_lt hr) (by rw [← hN]; exact skip_lt hs)
            have := detB9 (c := n) (by omega)
            omega
          obtain ⟨T1, hT1⟩ : ∃ T1, T1 = g * V := ⟨_, rfl⟩
          have hT1b : -9 ≤ T1 ∧ T1 ≤ 9 := by rcases hg with e | e <;> rw [hT1, e] <;> omega
          have p1 := abs_mul_le hT1b hD
          obtain ⟨T2, hT2⟩ : ∃ T2, T2 = T1 * Dt := ⟨_, rfl⟩
          rw [← hT2] at p1
          have u1 : IntKind.i64.wrap (g * V) = T1 := by rw [hT1]; exact Go.IntWalk.i64_in _ (by rw [← hT1]; omega)
          have u2 : IntKind.i64.wrap (T1 * Dt) = T2 := by rw [hT2]; exact Go.IntWalk.i64_in _ (by rw [← hT2]; omega)
          have u3 : IntKind.i64.wrap (S + T2) = S + T2 := Go.IntWalk.i64_in _ (by omega)
          have HT1 := Lib.hid hT1
          have HT2 := Lib.hid hT2
          have HDt := Lib.hid hDt
          have HV := Lib.hid hV
          have C1 : Hid (Calls Tryd.prog 75 #[.slice (some ⟨ba, oa, none⟩) N cap, .int .i64 0, .int .i64 j] wr.drew fun e w' => ∃ a' cap' W, e = .returned (.slice a' n cap') ∧ OwM w' wr.drew.heap.size 22 3 a' n cap' W ∧ Is n W (minor (mx M) 0 j) ∧ Below wr.drew.heap.size wr.drew w') :=
            by subst hN; exact R_Without_sq (r := 0) (h.below hb.drew) (by omega) HD.out (by omega) hlt
          have hbl : ba < wr.heap.size ∧ pa < wr.heap.size := by have := hb.size; omega
          have hn5 : n ≤ 5 := by omega
          clear hT1 hT2 hDt hV
          go_wp2
          go_region_held3 (fun w' => w'.cell? ⟨ba, oa, none⟩ = some (.slice (some ⟨pa, qa, none⟩) N ci) ∧ w'.cell? ⟨pa, qa + j, none⟩ = some (.int .i64 V))
            (first | go_keep | (go_split_ands; refine ⟨?_, ?_⟩ <;> first | assumption | (refine hbk.keep ?_ ?_ <;> first | assumption | omega | (simp; omega))))
            (first
              | (go_at_call 75; (with_reducible refine C1.out.mono ?_); rintro e w3 ⟨a3, cap3, W, rfl, ho3, hi3, hbk⟩; have kk := hb.drew.trans (hbk.mono hb.drew.size); have kl : wr.heap.size ≤ w3.heap.size := hbk.size)
              | (go_at_call 32; refine (IH.out ho3.rd hi3.1 (fun r s hr hs => by rw [hi3.2 r s hr hs]; exact HE.out _ _ (by rw [← hN]; exact skip_lt hr) (by rw [← hN]; exact skip_lt hs)) hn5).mono ?_; rw [show det n (mx W) = det n (minor (mx M) 0 j) from det_congr fun r s hr hs => hi3.2 r s hr hs, ← HDt.out]; rintro e w4 ⟨rfl, hbk⟩; have kk := kk.trans (hbk.mono kk.size)))
          clear u1 u2 u3
          have e2 : S + T2 = sumTo (fun t => sg t * en M 0 t * det n (minor (mx M) 0 t)) (j + 1) := by
            rw [sumTo, HT2.out, HT1.out, HG.out, HV.out, HDt.out, ← HS.out]
          have e3 : -63772920 * ((j + 1 : Nat) : Int) ≤ S + T2 ∧ S + T2 ≤ 63772920 * ((j + 1 : Nat) : Int) := by omega
          go_wp2
          go_roundw
          case rel => exact ⟨j + 1, _, -g, by omega, by go_num, rfl, rfl, hgn, hgn1, e3, e2, kk⟩
          case measure => simp [intOf]; omega
      · obtain rfl : j = N := by omega
        go_wp2
        go_ret
        refine ⟨?_, hb⟩
        subst hN
        rw [HS.out]
        rfl
end Go.Proofs.YtefmllkimdaimaaDoor
