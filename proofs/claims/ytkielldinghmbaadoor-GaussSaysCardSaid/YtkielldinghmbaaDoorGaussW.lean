/-
  gauss.clear walked.
-/
import Derived.Test.YtkielldinghmbaaDoorRows
import Derived.Test.YtkielldinghmbaaDoorLib
import Derived.Test.YtkielldinghmbaaDoorNum
import Derived.Test.YtkielldinghmbaaDoorMatD
import Derived.Test.YtkielldinghmbaaDoorRect
import Derived.Test.YtkielldinghmbaaDoorElim
import Derived.Deep.QuietTactic
import Derived.BigQuiet
import Derived.StillTailTactics
namespace Go.Proofs.YtkielldinghmbaaDoor
open Go.RowKit Go.Rk

/-- What clearing a column makes of an element. -/
def clearE (M : List (List Int)) (at_ col : Nat) (i j : Nat) : Int :=
  if i = at_ then en M at_ j * powm (en M at_ col) 9971 % 9973 else (en M i j - en M i col * (en M at_ j * powm (en M at_ col) 9971 % 9973)) % 9973

/-- The pivot's row is scaled. -/
def scaleE (M : List (List Int)) (at_ : Nat) (ov : Int) (i j : Nat) : Int := if i = at_ then en M at_ j * ov % 9973 else en M i j
def clearO (M : List (List Int)) (at_ col : Nat) (ov : Int) (i j : Nat) : Int :=
  if i = at_ then en M at_ j * ov % 9973 else (en M i j - en M i col * (en M at_ j * ov % 9973)) % 9973
theorem clearO_in {M : List (List Int)} {at_ col : Nat} {ov : Int} (i j : Nat) : 0 ≤ clearO M at_ col ov i j ∧ clearO M at_ col ov i j ≤ 9972 := by
  unfold clearO; split <;> omega
theorem clearO_same {M : List (List Int)} {n c at_ col : Nat} {ov : Int} (he : EntR 0 9972 n c M) {i j : Nat} (hi : i < n) (hj : j < c) (h : i = at_ ∨ en M i col = 0) : clearO M at_ col ov i j = scaleE M at_ ov i j := by
  unfold clearO scaleE
  by_cases e : i = at_
  · rw [if_pos e, if_pos e]
  · rw [if_neg e, if_neg e]
    rcases h with h | h
    · exact absurd h e
    · rw [h, Int.zero_mul, Int.sub_zero]
      have := he i j hi hj
      omega
/-- The rows ahead of q, and in row q the places ahead of s, are done. -/
def clearP (M : List (List Int)) (at_ col : Nat) (ov : Int) (q s : Nat) (i j : Nat) : Int := if i < q ∨ (i = q ∧ j < s) then clearO M at_ col ov i j else scaleE M at_ ov i j

set_option maxHeartbeats 4000000 in
set_option maxRecDepth 100000 in
theorem clear_any {B g at_ col n c cap : Nat} {D C : Nat → Nat} {M : List (List Int)} {w : World} (h : OwMD w B 32 3 g D C n cap M) (dM : Dm n c M) (eM : EntR 0 9972 n c M) (hat : at_ < n) (hcol : col < c) (hn : n ≤ 100) (hc : c ≤ 100) :
    Calls Tryd.prog 87 #[.slice (some ⟨g, 0, none⟩) n cap, .int .i64 at_, .int .i64 col] w fun e w' => e = .returned (.tuple #[]) ∧ ∃ P, OwMD w' B 32 3 g D C n cap P ∧ IsR n c P (clearE M at_ col) ∧ KeptBut n D w w' ∧ Below B w w' := by
  have a1 := h.cellO hat
  rw [dM.2 at_ hat] at a1
  have a2 := h.cellI hat (j := col) (by rw [dM.2 at_ hat]; exact hcol)
  have b1 : (at_ : Int) < (n : Int) := by omega
  have b2 : (col : Int) < (c : Int) := by omega
  have m0 := eM at_ col hat hcol
  have HD := Lib.hid dM
  have HE := Lib.hid eM
  clear dM eM
  go_enter Tryd.func87, Tryd.ntmps87
  go_wp2_with (go_at_call 74; refine (Over_any _ _ m0.1 m0.2).mono ?_; rintro e w' ⟨rfl, rfl⟩)
  have hov := powm_in (en M at_ col) 9971
  obtain ⟨ov, hO⟩ : ∃ ov, ov = powm (en M at_ col) 9971 := ⟨_, rfl⟩
  rw [← hO] at hov ⊢
  have HO := Lib.hid hO
  clear hO
  go_loopw [24] (fun v wr => ∃ (k : Nat) (P : List (List Int)), k ≤ c ∧ v = .int .i64 k ∧ OwMD wr B 32 3 g D C n cap P ∧ Hid (IsR n c P (fun i j => if i = at_ ∧ j < k then en M at_ j * ov % 9973 else en M i j)) ∧ KeptBut n D w wr ∧ Below B w wr) (fun v _ => c - (intOf v).toNat)
  case atStart => exact ⟨0, M, Nat.zero_le _, rfl, h, ⟨HD.out, fun i j _ _ => by simp⟩, KeptBut.refl _ _ _, Below.refl _ _⟩
  case round =>
    obtain ⟨k, P, hk, rfl, hd, hi, kb, hb⟩ := hrel
    by_cases hlt : k < c
    · have x1 := hd.cellO hat
      rw [hi.out.1.2 at_ hat] at x1
      have x2 := hd.cellI hat (j := k) (by rw [hi.out.1.2 at_ hat]; exact hlt)
      have x3 := hd.frozenI hat (by rw [hi.out.1.2 at_ hat]; omega) k
      have x4 : en P at_ k = en M at_ k := by rw [hi.out.2 at_ k hat hlt]; simp
      rw [x4] at x2
      have m1 := HE.out at_ k hat hlt
      have p1 := mul_bd m1 hov
      obtain ⟨T, hT⟩ : ∃ T, T = en M at_ k * ov := ⟨_, rfl⟩
      rw [← hT] at p1
      have u1 : IntKind.i64.wrap (en M at_ k * ov) = T := by rw [hT]; exact Go.IntWalk.i64_in _ (by omega)
      have u2 : T.tmod 9973 = T % 9973 := Int.tmod_eq_emod_of_nonneg (by omega)
      have u3 : IntKind.i64.wrap (T % 9973) = T % 9973 := Go.IntWalk.i64_in _ (by omega)
      have b3 : (k : Int) < (c : Int) := by omega
      have HT := Lib.hid hT
      clear hT x4
      go_wp2
      go_still_tail 16, (by kernel_rfl)
      change wpList _ _ _ _ _ wr.drew
      clear u1 u2 u3
      go_wp2
      go_roundw
      case rel => exact ⟨k + 1, _, by omega, by go_num, (hd.set matTy.ne hat _).drew, ⟨hi.out.1.setE _ _ _, fun i j h3 h4 => by
        rw [hi.out.1.en_set _ h3 h4]
        by_cases e : at_ = i ∧ k = j
        · rw [if_pos e, HT.out]; dsimp only; rw [if_pos ⟨e.1.symm, by omega⟩, e.2]
        · rw [if_neg e, hi.out.2 i j h3 h4]; dsimp only
          by_cases e2 : i = at_ ∧ j < k
          · rw [if_pos e2, if_pos ⟨e2.1, by omega⟩]
          · rw [if_neg e2, if_neg fun e3 => by omega]⟩, (kb.set hat _).drew, (hb.setCell (p := ⟨D at_, k, none⟩) (hd.lowI hat).1 _).drew⟩
      case measure => simp [intOf]; omega
    · obtain rfl : k = c := by omega
      clear a1 a2
      have hi2 : Hid (IsR n k P (clearP M at_ col ov 0 0)) := hi.out.congr fun i j _ h4 => by
        have e0 : clearP M at_ col ov 0 0 i j = scaleE M at_ ov i j := by unfold clearP; rw [if_neg (by omega)]
        rw [e0]
        unfold scaleE
        by_cases e : i = at_
        · rw [if_pos ⟨e, h4⟩, if_pos e]
        · rw [if_neg fun e2 => e e2.1, if_neg e]
      clear hi m0
      go_wp2
      go_loopw [46] (fun v wr => ∃ (q : Nat) (P : List (List Int)), q ≤ n ∧ v = .int .i64 q ∧ OwMD wr B 32 3 g D C n cap P ∧ Hid (IsR n k P (clearP M at_ col ov q 0)) ∧ KeptBut n D w wr ∧ Below B w wr) (fun v _ => n - (intOf v).toNat)
      case atStart => exact ⟨0, P, Nat.zero_le _, rfl, hd, hi2, kb, hb⟩
      case round =>
        clear hd hi2 kb hb
        obtain ⟨q, P, hq, rfl, hd, hi, kb, hb⟩ := hrel
        by_cases hqn : q < n
        · have x1 := hd.cellO hqn
          rw [hi.out.1.2 q hqn] at x1
          have x2 := hd.cellI hqn (j := col) (by rw [hi.out.1.2 q hqn]; exact hcol)
          have b3 : (q : Int) < (n : Int) := by omega
          have nx : ∀ {P : List (List Int)}, IsR n k P (clearP M at_ col ov q k) → IsR n k P (clearP M at_ col ov (q + 1) 0) := fun h => h.congr fun i j _ h4 => by
            unfold clearP
            by_cases e : i < q ∨ (i = q ∧ j < k)
            · rw [if_pos e, if_pos (by omega)]
            · rw [if_neg e, if_neg (by omega)]
          by_cases hqa : q = at_
          · have z1 : ((q : Int) != (at_ : Int)) = false := bne_eq_false_iff_eq.2 (by omega)
            have HQ := Lib.hid hqa
            clear hqa
            go_wp2
            go_roundw
            case rel => exact ⟨q + 1, P, by omega, by go_num, hd, nx (hi.out.congr fun i j h3 h4 => by
              unfold clearP
              by_cases e : i < q
              · rw [if_pos (by omega), if_pos (by omega)]
              · by_cases e2 : i = q
                · rw [if_neg (by omega), if_pos (by omega)]
                  exact (clearO_same HE.out h3 h4 (.inl (by rw [e2, HQ.out]))).symm
                · rw [if_neg (by omega), if_neg (by omega)]), kb, hb⟩
            case measure => simp [intOf]; omega
          · have z1 : ((q : Int) != (at_ : Int)) = true := bne_iff_ne.2 (by omega)
            have e1 : en P q col = en M q col := by
              rw [hi.out.2 q col hqn hcol]
              unfold clearP scaleE
              rw [if_neg (by omega), if_neg hqa]
            rw [e1] at x2
            have HQ := Lib.hid hqa
            clear hqa e1
            have m1 := HE.out q col hqn hcol
            by_cases hby : en M q col = 0
            · have z2 : (en M q col != 0) = false := bne_eq_false_iff_eq.2 hby
              have HB := Lib.hid hby
              clear hby
              go_wp2
              go_roundw
              case rel => exact ⟨q + 1, P, by omega, by go_num, hd, nx (hi.out.congr fun i j h3 h4 => by
                unfold clearP
                by_cases e : i < q
                · rw [if_pos (by omega), if_pos (by omega)]
                · by_cases e2 : i = q
                  · rw [if_neg (by omega), if_pos (by omega)]
                    exact (clearO_same HE.out h3 h4 (.inr (by rw [e2, HB.out]))).symm
                  · rw [if_neg (by omega), if_neg (by omega)]), kb, hb⟩
              case measure => simp [intOf]; omega
            · have z2 : (en M q col != 0) = true := bne_iff_ne.2 hby
              clear hby
              go_wp2
              obtain ⟨by_, hBy⟩ : ∃ by_, by_ = en M q col := ⟨_, rfl⟩
              rw [← hBy] at m1 ⊢
              have HBY := Lib.hid hBy
              clear hBy x1 x2 z2
              go_loopw [68] (fun v wt => ∃ (s : Nat) (P : List (List Int)), s ≤ k ∧ v = .int .i64 s ∧ OwMD wt B 32 3 g D C n cap P ∧ Hid (IsR n k P (clearP M at_ col ov q s)) ∧ KeptBut n D w wt ∧ Below B w wt) (fun v _ => k - (intOf v).toNat)
              case atStart => exact ⟨0, P, Nat.zero_le _, rfl, hd, hi, kb, hb⟩
              case round =>
                clear hd hi kb hb
                obtain ⟨s, P, hs, rfl, hd, hi, kb, hb⟩ := hrel
                by_cases hsk : s < k
                · have x1 := hd.cellO hqn
                  have x4 := hd.cellO hat
                  rw [hi.out.1.2 q hqn] at x1
                  rw [hi.out.1.2 at_ hat] at x4
                  have x2 := hd.cellI hqn (j := s) (by rw [hi.out.1.2 q hqn]; exact hsk)
                  have x5 := hd.cellI hat (j := s) (by rw [hi.out.1.2 at_ hat]; exact hsk)
                  have x3 := hd.frozenI hqn (by rw [hi.out.1.2 q hqn]; omega) s
                  have e1 : en P q s = en M q s := by
                    rw [hi.out.2 q s hqn hsk]
                    unfold clearP scaleE
                    rw [if_neg (by omega), if_neg HQ.out]
                  have e2 : en P at_ s = en M at_ s * ov % 9973 := by
                    rw [hi.out.2 at_ s hat hsk]
                    unfold clearP clearO scaleE
                    rw [if_pos rfl, if_pos rfl]
                    split <;> rfl
                  rw [e1] at x2
                  rw [e2] at x5
                  obtain ⟨V, hV⟩ : ∃ V, V = en M at_ s * ov % 9973 := ⟨_, rfl⟩
                  rw [← hV] at x5
                  have hv : 0 ≤ V ∧ V ≤ 9972 := by omega
                  have m2 := HE.out q s hqn hsk
                  have p1 := mul_bd m1 hv
                  obtain ⟨T, hT⟩ : ∃ T, T = by_ * V := ⟨_, rfl⟩
                  rw [← hT] at p1
                  have u1 : IntKind.i64.wrap (by_ * V) = T := by rw [hT]; exact Go.IntWalk.i64_in _ (by omega)
                  have u2 : IntKind.i64.wrap (en M q s - T) = en M q s - T := Go.IntWalk.i64_in _ (by omega)
                  have b4 : (s : Int) < (k : Int) := by omega
                  have HT := Lib.hid hT
                  have HV := Lib.hid hV
                  clear hT hV e1 e2
                  go_wp2
                  go_still_tail 24, (by kernel_rfl)
                  still_call (stillW (Field_any _ _))
                  repeat still_step
                  refine wpStill_nil ?_
                  change wpList _ _ _ _ _ wr.drew
                  clear u1 u2
                  go_wp2
                  go_roundw
                  case rel => exact ⟨s + 1, _, by omega, by go_num, (hd.set matTy.ne hqn _).drew, ⟨hi.out.1.setE _ _ _, fun i j h3 h4 => by
                    rw [hi.out.1.en_set _ h3 h4]
                    by_cases e : q = i ∧ s = j
                    · rw [if_pos e]
                      unfold clearP clearO
                      rw [if_pos (by omega), ← e.1, ← e.2, if_neg HQ.out, HT.out, HV.out, HBY.out]
                    · rw [if_neg e, hi.out.2 i j h3 h4]
                      unfold clearP
                      by_cases e2 : i < q ∨ (i = q ∧ j < s)
                      · rw [if_pos e2, if_pos (by omega)]
                      · rw [if_neg e2, if_neg (by omega)]⟩, (kb.set hqn _).drew, (hb.setCell (p := ⟨D q, s, none⟩) (hd.lowI hqn).1 _).drew⟩
                  case measure => simp [intOf]; omega
                · obtain rfl : s = k := by omega
                  go_wp2
                  go_roundw
                  case rel => exact ⟨q + 1, P, by omega, by go_num, hd, nx hi.out, kb, hb⟩
                  case measure => simp [intOf]; omega
        · obtain rfl : q = n := by omega
          go_wp2
          go_end0
          refine ⟨by simp, P, hd, hi.out.congr fun i j h3 _ => ?_, kb, hb⟩
          unfold clearP clearO clearE
          rw [if_pos (.inl h3), HO.out]
end Go.Proofs.YtkielldinghmbaaDoor
