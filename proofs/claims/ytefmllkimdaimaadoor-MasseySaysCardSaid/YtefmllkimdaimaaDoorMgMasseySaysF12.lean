/-
  The walk of det.of: elimination with the first element that is not 0 as pivot; and det.Of.
  When nothing is wrong with a matrix; determinants of matrices with a row changed, modulo 9973. Plain Lean on the words of the walks.
  What goes together, for the statements on matrices.
  gauss.steps, gauss.Steps and gauss.Rank walked.
  The closed fact of the statements on determinants.
  mat.Turn walked: the transpose.
  DetMul walked: the determinant of a product is the product; turned a matrix has the same.
  mat.one, mat.One and mat.Pow walked.
  mat.Pow where something is wrong; the closed fact of the statements on matrices.
  The closed fact of the statements on steps; and that steps are one form.
-/
import Derived.Test.YtefmllkimdaimaaDoorRows
import Derived.Deep.QuietTactic
import Derived.BigQuiet
import Derived.Deep.RegionHeld3
import Derived.StillTailTactics
import Derived.Test.YtefmllkimdaimaaDoorMgMasseySaysF0
import Derived.Test.YtefmllkimdaimaaDoorMgMasseySaysF1
import Derived.Test.YtefmllkimdaimaaDoorMgMasseySaysF2
import Derived.Test.YtefmllkimdaimaaDoorMgMasseySaysF3
import Derived.Test.YtefmllkimdaimaaDoorMgMasseySaysF4
import Derived.Test.YtefmllkimdaimaaDoorMgMasseySaysF5
import Derived.Test.YtefmllkimdaimaaDoorMgMasseySaysF9
import Derived.Test.YtefmllkimdaimaaDoorMgMasseySaysF10
import Derived.Test.YtefmllkimdaimaaDoorMgMasseySaysF11
namespace Go.Proofs.YtefmllkimdaimaaDoor
open Go.RowKit Go.Rk

/-- What lies where while det.of runs. -/
structure DSt (w0 w : World) (Bm Bo g : Nat) (D C : Nat → Nat) (n cap : Nat) (M : List (List Int)) (o : Int) : Prop where
  own : OwMD w (w0.heap.size + 1) 22 3 g D C n cap M
  m : w.cell? ⟨Bm, 0, none⟩ = some (.slice (some ⟨g, 0, none⟩) n cap)
  o : w.cell? ⟨Bo, 0, none⟩ = some (.int .i64 o)
  fo : w.frozen? ⟨Bo, 0, none⟩ = false
  n1 : Bm ≠ g
  n2 : Bo ≠ g
  n3 : Bm ≠ Bo
  n4 : ∀ j, j < n → Bo ≠ D j
  n5 : ∀ j, j < n → Bm ≠ D j
  lo : w0.heap.size ≤ Bo
  lm : w0.heap.size ≤ Bm
  bel : Below w0.heap.size w0 w

section
variable {w0 w w' : World} {Bm Bo g : Nat} {D C : Nat → Nat} {n cap : Nat} {M : List (List Int)} {o : Int}
theorem DSt.drewN (h : DSt w0 w Bm Bo g D C n cap M o) (k : Nat) : DSt w0 (w.drewN k) Bm Bo g D C n cap M o :=
  ⟨h.own.drewN k, h.m, h.o, h.fo, h.n1, h.n2, h.n3, h.n4, h.n5, h.lo, h.lm, below_drewN h.bel k⟩
theorem DSt.drew (h : DSt w0 w Bm Bo g D C n cap M o) : DSt w0 w.drew Bm Bo g D C n cap M o :=
  ⟨h.own.drew, h.m, h.o, h.fo, h.n1, h.n2, h.n3, h.n4, h.n5, h.lo, h.lm, h.bel.drew⟩
theorem DSt.setO (h : DSt w0 w Bm Bo g D C n cap M o) (o' : Int) : DSt w0 (w.setCell ⟨Bo, 0, none⟩ (.int .i64 o')) Bm Bo g D C n cap M o' :=
  ⟨h.own.setElse (p := ⟨Bo, 0, none⟩) h.n2 h.n4 _, by rw [World.cell?_setCell_other _ _ _ _ (by simp; exact h.n3.symm)]; exact h.m, World.cell?_setCell_same _ _ _ h.o, by simp [h.fo], h.n1, h.n2, h.n3, h.n4, h.n5, h.lo, h.lm, h.bel.setCell h.lo _⟩
theorem DSt.setE (h : DSt w0 w Bm Bo g D C n cap M o) {i j : Nat} (hi : i < n) (x : Int) : DSt w0 (w.setCell ⟨D i, j, none⟩ (.int .i64 x)) Bm Bo g D C n cap (setE M i j x) o :=
  ⟨h.own.set matTy.ne hi x, by rw [World.cell?_setCell_other _ _ _ _ (by simp; exact fun e => absurd e.symm (h.n5 i hi))]; exact h.m, by rw [World.cell?_setCell_other _ _ _ _ (by simp; exact fun e => absurd e.symm (h.n4 i hi))]; exact h.o, by simp [h.fo], h.n1, h.n2, h.n3, h.n4, h.n5, h.lo, h.lm,
    h.bel.setCell (Nat.le_trans (Nat.le_succ _) (h.own.lowI hi).1) _⟩
theorem DSt.exch {i k : Nat} {e : Ending} (h : DSt w0 w Bm Bo g D C n cap M o) (hi : i < n) (hk : k < n) (hx : Exch w w0.heap.size (w0.heap.size + 1) g Bm Bo D C n cap M o i k e w') :
    DSt w0 w' Bm Bo g (if i = k then D else swapF D i k) (if i = k then C else swapF C i k) n cap (if i = k then M else swapL M i k) (if i = k then o else -o % 9973) := by
  obtain ⟨_, x1, x2, x3, x4, x5⟩ := hx
  refine ⟨x1, x2, x3, x4, h.n1, h.n2, h.n3, fun j hj => ?_, fun j hj => ?_, h.lo, h.lm, h.bel.trans x5⟩
  · split
    · exact h.n4 j hj
    · simp only [swapF]; (repeat' split) <;> first | exact h.n4 _ hi | exact h.n4 _ hk | exact h.n4 _ hj
  · split
    · exact h.n5 j hj
    · simp only [swapF]; (repeat' split) <;> first | exact h.n5 _ hi | exact h.n5 _ hk | exact h.n5 _ hj
end

set_option maxHeartbeats 4000000 in
set_option maxRecDepth 100000 in
theorem det_of_any {a : Option Addr} {n cap : Nat} {M : List (List Int)} {w : World} (h : RdM w a n cap M) (hd : Dim n M) (he : Ent 0 9972 n M) (h1 : 1 ≤ n) (h5 : n ≤ 5) :
    Calls Tryd.prog 127 #[.slice a n cap] w fun e w' => e = .returned (.int .i64 (det n (mx M) % 9973)) ∧ Below w.heap.size w w' := by
  have S0 := Lib.hid (DInv.start hd he)
  have hR := Lib.hid (show RdM (w.alloc (.cells #[.slice a n cap] 28)) a n cap M from h.below ((Below.refl _ _).alloc (Nat.le_refl _) _))
  have HD := Lib.hid hd
  have hmf : ∀ (fn : Fn) (first cap : Array Value) (w : World), (Instr.makeFunc fn first cap).run Tryd.prog w = .ok (.func fn first cap) w := fun _ _ _ _ => rfl
  clear hd he
  go_enter Tryd.func127, Tryd.ntmps127
  go_wp2_with fail
  refine (Copy_any hR.out (by omega) (fun k hk => by rw [HD.out.2 k hk]; omega)).mono ?_
  rintro e w1 ⟨z, cz, rfl, ho1, hb1⟩
  have hBm : w1.cell? ⟨w.heap.size, 0, none⟩ = some (.slice a n cap) := hb1.keep (by simp) (by rw [World.cell?_alloc_at _ _ _ _ rfl]; rfl)
  have hfm : w1.frozen? ⟨w.heap.size, 0, none⟩ = false := by rw [hb1.frozen (by simp)]; exact World.frozen?_alloc_at _ _ _ _ rfl
  have hz1 : w.heap.size + 1 ≤ w1.heap.size := by have := hb1.size; simpa using this
  have hz2 : ¬ w1.heap.size = w.heap.size := by omega
  have hz3 : w.heap.size < w1.heap.size := by omega
  obtain ⟨g, D, C, hzz, hd1⟩ := ho1.named (by omega) fun i hi => by rw [HD.out.2 i hi]; omega
  subst hzz
  have g1 := hd1.lowO
  have hb0 : Below w.heap.size w w1 := ((Below.refl _ _).alloc (Nat.le_refl _) _).trans (hb1.mono (by simp))
  go_wp2
  have hst : DSt w ((w1.setCell ⟨w.heap.size, 0, none⟩ (.slice (some ⟨g, 0, none⟩) n cz)).alloc (.cells #[.int .i64 1] 3)) w.heap.size w1.heap.size g D C n cz M 1 := by
    simp at hd1 g1
    refine ⟨(hd1.setElse (p := ⟨w.heap.size, 0, none⟩) (by simp; omega) (fun i hi => by have := (hd1.lowI hi).1; simp; omega) _).alloc _, ?_, ?_, ?_, by omega, by omega, by omega, fun j hj => by have := (hd1.lowI hj).2; omega, fun j hj => by have := (hd1.lowI hj).1; omega, by omega, Nat.le_refl _, (hb0.setCell (Nat.le_refl _) _).alloc (by simp; omega) _⟩
    · rw [World.cell?_alloc_past _ _ _ (by simpa using hz3)]; exact World.cell?_setCell_same _ _ _ hBm
    · rw [World.cell?_alloc_at _ _ _ _ (by simp)]; rfl
    · exact World.frozen?_alloc_at _ _ _ _ (by simp)
  generalize ((w1.setCell ⟨w.heap.size, 0, none⟩ (.slice (some ⟨g, 0, none⟩) n cz)).alloc (.cells #[.int .i64 1] 3)) = w3 at *
  clear hBm hfm hz1 hz2 hz3 g1 hb0 hd1 ho1 hb1
  generalize w1.heap.size = Bo at *
  clear hmf
  go_loopw [16] (fun i wr => ∃ (c : Nat) (D C : Nat → Nat) (M' : List (List Int)) (o : Int), c ≤ n ∧ i = .int .i64 c ∧ DSt w wr w.heap.size Bo g D C n cz M' o ∧ Hid (DInv n (mx M) c M' o)) (fun i _ => n - (intOf i).toNat)
  case atStart => exact ⟨0, D, C, M, 1, Nat.zero_le _, rfl, hst, S0⟩
  case round =>
    obtain ⟨c, D, C, M', o, hc, rfl, hs, hi⟩ := hrel
    have hcm := hs.m
    have hco := hs.o
    by_cases hlt : c < n
    · go_wp2
      go_loop [6] (fun i => ∃ k : Nat, c ≤ k ∧ k ≤ n ∧ i = .int .i64 k ∧ Hid (∀ r, c ≤ r → r < k → en M' r c = 0)) (fun i => n - (intOf i).toNat)
      case atStart => exact ⟨c, Nat.le_refl _, hc, rfl, fun r h1 h2 => absurd h2 (by omega)⟩
      case round =>
        obtain ⟨k, hk1, hk2, rfl, hz⟩ := hrel
        by_cases hkn : k < n
        · have x1 := hs.own.cellO hkn
          rw [hi.out.dim.2 k hkn] at x1
          have x2 := hs.own.cellI hkn (j := c) (by rw [hi.out.dim.2 k hkn]; exact hlt)
          by_cases hp : en M' k c = 0
          · have hp' : (en M' k c == 0) = true := beq_iff_eq.2 hp
            have HP := Lib.hid hp
            clear hp
            go_wp2
            go_round
            case rel => exact ⟨k + 1, by omega, by omega, by go_num, zeros_succ hz.out HP.out⟩
            case measure => simp [intOf]; omega
          · have hp' : (en M' k c == 0) = false := beq_eq_false_iff_ne.2 hp
            have HP := Lib.hid hp
            clear hp
            go_wp2_with fail
            refine (exchange_any (L := w.heap.size) hs.own hlt hkn hs.m hs.o hs.fo hi.out.lo hi.out.hi hs.n1 hs.n2 hs.n3 hs.n4 (Nat.le_trans (Nat.le_succ _) hs.own.lowO.1) hs.lo).mono ?_
            rintro e w4 hx
            have hs4 := hs.exch hlt hkn hx
            obtain rfl := hx.1
            have hpc : en (if c = k then M' else swapL M' c k) c c ≠ 0 := by
              by_cases e : c = k
              · subst e; rw [if_pos rfl]; exact HP.out
              · rw [if_neg e, en_swapL hi.out.dim hlt hkn, if_neg e, if_pos rfl]; exact HP.out
            have hi4 := hi.out.exch hk1 hkn
            clear hx hs hi hz hcm hco x1 x2 hp' HP hst S0
            generalize (if c = k then D else swapF D c k) = D4 at *
            generalize (if c = k then C else swapF C c k) = C4 at *
            generalize (if c = k then M' else swapL M' c k) = M4 at *
            generalize (if c = k then o else -o % 9973) = o4 at *
            have y1 := hs4.m
            have y2 := hs4.o
            have y3 := hs4.own.cellO hlt
            rw [hi4.dim.2 c hlt] at y3
            have y4 := hs4.own.cellI hlt (j := c) (by rw [hi4.dim.2 c hlt]; exact hlt)
            have y5 := hs4.fo
            have b1 := hi4.ent c c hlt hlt
            have b2 := hi4.lo
            have b3 := hi4.hi
            have p1 := mul_bd ⟨b2, b3⟩ b1
            have HI4 := Lib.hid hi4
            have HPC := Lib.hid hpc
            have t1 : IntKind.i64.wrap (o4 * en M4 c c) = o4 * en M4 c c := Go.IntWalk.i64_in _ (by omega)
            have t2 : (o4 * en M4 c c).tmod 9973 = o4 * en M4 c c % 9973 := Int.tmod_eq_emod_of_nonneg (by omega)
            have t3 : IntKind.i64.wrap (o4 * en M4 c c % 9973) = o4 * en M4 c c % 9973 := Go.IntWalk.i64_in _ (by omega)
            have c1 : (c : Int) < (n : Int) := by omega
            clear hi4 hpc
            go_wp2
            go_still_tail 10, (by kernel_rfl)
            change wpList _ _ _ _ _ w4.drew
            clear t1 t2 t3
            have hs5 := hs4.setO (o4 * en M4 c c % 9973)
            have v1 := hs5.m
            have v2 := hs5.own.cellO hlt
            rw [HI4.out.dim.2 c hlt] at v2
            have v3 := hs5.own.cellI hlt (j := c) (by rw [HI4.out.dim.2 c hlt]; exact hlt)
            go_wp2_with fail
            refine (Over_any _ _ b1.1 b1.2).mono ?_
            rintro e w' ⟨rfl, rfl⟩
            have hs6 := hs5.drew
            clear hs5 hs4 v1 v2 v3 y1 y2 y3 y4 y5
            generalize (w4.setCell ⟨Bo, 0, none⟩ (.int .i64 (o4 * en M4 c c % 9973))).drew = w5 at *
            have z1 := hs6.m
            have ovb := powm_in (en M4 c c) 9971
            go_wp2
            generalize hov : powm (en M4 c c) 9971 = ov at *
            have HOV := Lib.hid hov
            clear hov
            generalize ho5 : o4 * en M4 c c % 9973 = o5 at *
            have HO5 := Lib.hid ho5
            clear ho5 b1 b2 b3 p1
            go_loopw [8] (fun i wr => ∃ (k : Nat) (M' : List (List Int)), c + 1 ≤ k ∧ k ≤ n ∧ i = .int .i64 k ∧ DSt w wr w.heap.size Bo g D4 C4 n cz M' o5 ∧ Hid (Is n M' (elimP M4 c ov k 0))) (fun i _ => n - (intOf i).toNat)
            case atStart => exact ⟨c + 1, M4, Nat.le_refl _, by omega, by go_num, hs6, ⟨HI4.out.dim, fun i j _ _ => by unfold elimP; rw [if_neg (by omega)]⟩⟩
            case round =>
              obtain ⟨k2, M5, hk3, hk4, rfl, hs7, hi7⟩ := hrel
              have z2 := hs7.m
              by_cases hlt2 : k2 < n
              · have x1 := hs7.own.cellO hlt2
                have x2 := hs7.own.cellI hlt2 (j := c) (by rw [hi7.out.1.2 k2 hlt2]; exact hlt)
                rw [hi7.out.1.2 k2 hlt2] at x1
                have e1 : en M5 k2 c = en M4 k2 c := by rw [hi7.out.2 k2 c hlt2 hlt]; unfold elimP; rw [if_neg (by omega)]
                rw [e1] at x2
                have b4 := HI4.out.ent k2 c hlt2 hlt
                have p2 := mul_bd b4 ovb
                clear e1
                go_wp2
                generalize hby : en M4 k2 c * ov % 9973 = by_ at *
                have byb : 0 ≤ by_ ∧ by_ ≤ 9972 := by omega
                have HBY := Lib.hid hby
                clear hby x1 x2 b4 p2
                go_loopw [85] (fun i wr => ∃ (j : Nat) (M' : List (List Int)), j ≤ n ∧ i = .int .i64 j ∧ DSt w wr w.heap.size Bo g D4 C4 n cz M' o5 ∧ Hid (Is n M' (elimP M4 c ov k2 j))) (fun i _ => n - (intOf i).toNat)
                case atStart => exact ⟨0, M5, Nat.zero_le _, rfl, hs7, hi7⟩
                case round =>
                  obtain ⟨j, M6, hj1, rfl, hs8, hi8⟩ := hrel
                  by_cases hlt3 : j < n
                  · have y1 := hs8.m
                    have y2 := hs8.own.cellO hlt2
                    have y3 := hs8.own.cellO hlt
                    have y4 := hs8.own.cellI hlt2 (j := j) (by rw [hi8.out.1.2 k2 hlt2]; exact hlt3)
                    have y5 := hs8.own.cellI hlt (j := j) (by rw [hi8.out.1.2 c hlt]; exact hlt3)
                    have y6 := hs8.own.frozenI hlt2 (by rw [hi8.out.1.2 k2 hlt2]; omega) j
                    rw [hi8.out.1.2 k2 hlt2] at y2
                    rw [hi8.out.1.2 c hlt] at y3
                    have e2 : en M6 k2 j = en M4 k2 j := by rw [hi8.out.2 k2 j hlt2 hlt3]; unfold elimP; rw [if_neg (by omega)]
                    have e3 : en M6 c j = en M4 c j := by rw [hi8.out.2 c j hlt hlt3]; unfold elimP; rw [if_neg (by omega)]
                    have b5 := HI4.out.ent k2 j hlt2 hlt3
                    have b6 := HI4.out.ent c j hlt hlt3
                    have p3 := mul_bd byb b6
                    have hset := (hs8.setE (j := j) hlt2 (elimE M4 c ov k2 j)).drew
                    have hset2 : Hid (Is n (setE M6 k2 j (elimE M4 c ov k2 j)) (elimP M4 c ov k2 (j + 1))) := by
                      refine Is.congr (hi8.out.set _) fun r s hr hs => ?_
                      simp only [elimP]
                      by_cases e4 : k2 = r ∧ j = s
                      · obtain ⟨rfl, rfl⟩ := e4
                        rw [if_pos ⟨rfl, rfl⟩, if_pos (by omega)]
                      · rw [if_neg e4]
                        by_cases e5 : (c < r ∧ r < k2) ∨ (r = k2 ∧ s < j)
                        · rw [if_pos e5, if_pos (by omega)]
                        · rw [if_neg e5, if_neg (by omega)]
                    rw [e2] at y4
                    rw [e3] at y5
                    clear e2 e3
                    have HEE : Hid (elimE M4 c ov k2 j = (en M4 k2 j - by_ * en M4 c j) % 9973) := by unfold Hid elimE; rw [HBY.out]
                    rw [HEE.out] at hset hset2
                    have u1 : IntKind.i64.wrap (by_ * en M4 c j) = by_ * en M4 c j := Go.IntWalk.i64_in _ (by omega)
                    have u2 : IntKind.i64.wrap (en M4 k2 j - by_ * en M4 c j) = en M4 k2 j - by_ * en M4 c j := Go.IntWalk.i64_in _ (by omega)
                    have c1 : (c : Int) < (n : Int) := by omega
                    have c2 : (k2 : Int) < (n : Int) := by omega
                    have c3 : (j : Int) < (n : Int) := by omega
                    clear b5 b6 p3
                    go_wp2
                    go_still_tail 24, (by kernel_rfl)
                    still_call (stillW (Field_any _ _))
                    repeat still_step
                    refine wpStill_nil ?_
                    change wpList _ _ _ _ _ wr.drew
                    clear u1 u2
                    go_wp2
                    go_roundw
                    case rel => exact ⟨j + 1, _, by omega, by go_num, hset, hset2⟩
                    case measure => simp [intOf]; omega
                  · obtain rfl : j = n := by omega
                    go_wp2
                    go_roundw
                    case rel => exact ⟨k2 + 1, M6, by omega, by omega, by go_num, hs8, hi8.out.next (by omega)⟩
                    case measure => simp [intOf]; omega
              · obtain rfl : k2 = n := by omega
                go_wp2
                go_roundw
                case rel => exact ⟨c + 1, D4, C4, M5, o5, by omega, by go_num, hs7, by unfold Hid; rw [← HO5.out]; exact HI4.out.step hlt HPC.out (by rw [HOV.out]; exact hi7.out)⟩
                case measure => simp [intOf]; omega
        · obtain rfl : k = n := by omega
          go_wp2
          go_ret
          exact ⟨congrArg (fun x => Ending.returned (.int .i64 x)) (hi.out.zero hlt hz.out).symm, hs.bel⟩
    · obtain rfl : c = n := by omega
      go_wp2
      go_ret
      exact ⟨congrArg (fun x => Ending.returned (.int .i64 x)) hi.out.done, hs.bel⟩

theorem squareR_none {most lo hi : Int} {M : List (List Int)} (h : squareR most lo hi M = none) : 1 ≤ M.length ∧ (M.length : Int) ≤ most ∧ Dim M.length M ∧ Ent lo hi M.length M := by
  unfold squareR at h
  split at h
  · next h1 =>
    split at h
    · next h2 =>
      obtain ⟨g1, g2, g3, g4, g5⟩ := groundsR_none h1
      refine ⟨g1, g3, ⟨rfl, fun i hi => by rw [(g5 i hi).1, h2]⟩, fun i j hi hj => (g5 i hi).2 j ?_⟩
      rw [(g5 i hi).1, ← h2]
      exact hj
    · cases h
  · next h1 => exact absurd h h1

section
variable {a : Option Addr} {n cap : Nat} {M : List (List Int)} {w : World}
theorem det_Of_err {c : Int} (h : RdM w a n cap M) (hc : squareR 5 0 9972 M = some c) :
    Calls Tryd.prog 104 #[.slice a n cap] w fun e w' => e = .returned (.tuple #[.int .i64 0, .iface 75 (.int .i64 c)]) ∧ w = w' := by
  have C := Lib.hid (det_Check_is h hc)
  clear hc
  go_enter Tryd.func104, Tryd.ntmps104
  go_wp2_with (go_at_call 106; refine C.out.mono ?_; rintro e w' ⟨rfl, rfl⟩; simp only [errV])
  go_ret2
  exact ⟨rfl, rfl⟩
theorem det_Of_ok (h : RdM w a n cap M) (hc : squareR 5 0 9972 M = none) :
    Calls Tryd.prog 104 #[.slice a n cap] w fun e w' => e = .returned (.tuple #[.int .i64 (det n (mx M) % 9973), .nilIface]) ∧ Below w.heap.size w w' := by
  have C := Lib.hid (det_Check_is h hc)
  obtain ⟨g1, g2, g3, g4⟩ := squareR_none hc
  have e1 := h.len_eq
  rw [e1] at g1 g2 g3 g4
  have C2 := Lib.hid (det_of_any h g3 g4 g1 (by omega))
  clear hc e1 g1 g2 g3 g4
  go_enter Tryd.func104, Tryd.ntmps104
  go_wp2_with (first | (go_at_call 106; refine C.out.mono ?_; rintro e w' ⟨rfl, rfl⟩; simp only [errV]) | (go_at_call 127; refine C2.out.mono ?_; rintro e w' ⟨rfl, hb⟩))
  go_ret2
  exact ⟨rfl, hb⟩
end
end Go.Proofs.YtefmllkimdaimaaDoor
namespace Go.Proofs.YtefmllkimdaimaaDoor
open Go.Rk

theorem rowsErr_of {lo hi : Int} {m : Nat} {M : List (List Int)} (h : ∀ l ∈ M, l.length = m ∧ anyB lo hi l = false) : rowsErr lo hi m M = none := by
  unfold rowsErr
  induction M with
  | nil => rfl
  | cons l M ih =>
    obtain ⟨h1, h2⟩ := h l (by simp)
    have e : rowErr1 lo hi m l = none := by unfold rowErr1; rw [if_neg (by simp [h1]), h2]; simp
    rw [List.foldl_cons]
    show List.foldl _ (rowErr1 lo hi m l) M = none
    rw [e]
    exact ih fun l' hl' => h l' (by simp [hl'])

theorem squareR_of {most lo hi : Int} {M : List (List Int)} {n : Nat} (h1 : 1 ≤ n) (h2 : (n : Int) ≤ most) (hd : Dim n M) (he : Ent lo hi n M) : squareR most lo hi M = none := by
  have hr0 := hd.2 0 (by omega)
  have hg : groundsR most lo hi M = none := by
    unfold groundsR
    rw [if_neg (by rw [hd.1, hr0]; omega), if_neg (by rw [hd.1, hr0]; omega)]
    refine rowsErr_of fun l hl => ?_
    obtain ⟨k, hk, rfl⟩ := List.mem_iff_getElem.1 hl
    rw [← rowOf_lt hk, hr0]
    rw [hd.1] at hk
    refine ⟨hd.2 k hk, any_of_in fun j hj => ?_⟩
    rw [hd.2 k hk] at hj
    exact he k j hk hj
  unfold squareR
  rw [if_pos hg, if_pos (by rw [hd.1, hr0])]

theorem en_set {M : List (List Int)} {n i : Nat} (hd : Dim n M) (hi : i < n) (l : List Int) (r s : Nat) : en (M.set i l) r s = if r = i then ix l s else en M r s := by
  unfold en
  rw [rowOf_set]
  by_cases h : i = r
  · rw [if_pos ⟨h, by rw [← h, hd.1]; exact hi⟩, if_pos h.symm]
  · rw [if_neg fun e => h e.1, if_neg fun e => h e.symm]

theorem Dim.set {M : List (List Int)} {n i : Nat} (hd : Dim n M) {l : List Int} (hl : l.length = n) : Dim n (M.set i l) := by
  refine ⟨by rw [List.length_set]; exact hd.1, fun r hr => ?_⟩
  rw [rowOf_set]
  split
  · exact hl
  · exact hd.2 r hr

theorem Ent.setL {lo hi : Int} {M : List (List Int)} {n i : Nat} (hd : Dim n M) (he : Ent lo hi n M) (hi' : i < n) {l : List Int} (hl : l.length = n) (hln : In lo hi l) : Ent lo hi n (M.set i l) := by
  intro r s hr hs
  rw [en_set hd hi']
  split
  · exact hln s (by rw [hl]; exact hs)
  · exact he r s hr hs

theorem det_set {n : Nat} {M : List (List Int)} (hd : Dim n M) {i : Nat} (hi : i < n) (l : List Int) : det n (mx (M.set i l)) = det n (setRow (mx M) i (ix l)) :=
  det_congr fun r s _ _ => by
    show en (M.set i l) r s = _
    rw [en_set hd hi]
    rfl

theorem det_row_sum {n : Nat} {M B : List (List Int)} (hd : Dim n M) {i : Nat} (hi : i < n) (l : List Int) (hB : Is n B (fun r s => if r = i then (en M i s + ix l s) % 9973 else en M r s)) :
    det n (mx B) % 9973 = (det n (mx M) % 9973 + det n (mx (M.set i l)) % 9973) % 9973 := by
  have h1 : Eqm (det n (mx B)) (det n (setRow (mx M) i fun c => mx M i c + ix l c)) := det_eqm fun r s hr hs => by
    show Eqm (en B r s) _
    rw [hB.2 r s hr hs]
    simp only [setRow]
    by_cases h : r = i
    · rw [if_pos h, if_pos h]; exact Eqm.mod _
    · rw [if_neg h, if_neg h]; exact Eqm.refl _
  rw [det_row_add _ _ hi, Go.Rk.setRow_self, ← det_set hd hi] at h1
  have h2 := (Eqm.mod (det n (mx M))).add (Eqm.mod (det n (mx (M.set i l))))
  unfold Eqm at h1 h2
  omega

/-- Two rows exchanged. -/
theorem det_exch {n : Nat} {M : List (List Int)} (hd : Dim n M) {i j : Nat} (hij : i ≠ j) (hi : i < n) (hj : j < n) :
    det n (mx ((M.set i (rowOf M j)).set j (rowOf M i))) % 9973 = (-(det n (mx M) % 9973)) % 9973 := by
  have h1 : det n (mx ((M.set i (rowOf M j)).set j (rowOf M i))) = -det n (mx M) := by
    rw [← (det_alt n).swap (mx M) hij hi hj]
    refine det_congr fun r s _ _ => ?_
    show en (swapL M i j) r s = _
    rw [en_swapL hd hi hj]
    simp only [swapM, Go.Rk.setRow]
    rfl
  rw [h1]
  omega

/-- So many times one row added to another one. -/
theorem det_added {n : Nat} {M B : List (List Int)} {i j : Nat} (hij : i ≠ j) (hi : i < n) (hj : j < n) (k : Int) (hB : Is n B (fun r s => if r = i then (en M i s + k * en M j s) % 9973 else en M r s)) :
    det n (mx B) % 9973 = det n (mx M) % 9973 := by
  have h1 : Eqm (det n (mx B)) (det n (Go.Rk.setRow (mx M) i fun c => mx M i c + k * mx M j c)) := det_eqm fun r s hr hs => by
    show Eqm (en B r s) _
    rw [hB.2 r s hr hs]
    simp only [Go.Rk.setRow]
    by_cases h : r = i
    · rw [if_pos h, if_pos h]; exact Eqm.mod _
    · rw [if_neg h, if_neg h]; exact Eqm.refl _
  rw [(det_alt n).add_row (mx M) hij hi hj] at h1
  exact h1

/-- One row so many times. -/
theorem det_scaled {n : Nat} {M B : List (List Int)} {i : Nat} (hi : i < n) (k : Int) (hB : Is n B (fun r s => if r = i then (k * en M i s) % 9973 else en M r s)) :
    det n (mx B) % 9973 = (k * (det n (mx M) % 9973)) % 9973 := by
  have h1 : Eqm (det n (mx B)) (det n (Go.Rk.setRow (mx M) i fun c => k * mx M i c)) := det_eqm fun r s hr hs => by
    show Eqm (en B r s) _
    rw [hB.2 r s hr hs]
    simp only [Go.Rk.setRow]
    by_cases h : r = i
    · rw [if_pos h, if_pos h]; exact Eqm.mod _
    · rw [if_neg h, if_neg h]; exact Eqm.refl _
  rw [det_row_mul _ _ hi, Go.Rk.setRow_self] at h1
  exact h1.trans ((Eqm.refl k).mul (Eqm.mod _).symm)
end Go.Proofs.YtefmllkimdaimaaDoor
namespace Go.Proofs.YtefmllkimdaimaaDoor
open Go.RowKit Go.Rk

theorem grounds_of {n c : Nat} {M : List (List Int)} (hn : 1 ≤ n ∧ n ≤ 5) (hc : 1 ≤ c ∧ c ≤ 5) (hd : Dm n c M) (he : EntR 0 9972 n c M) : groundsR 5 0 9972 M = none := by
  have hr0 := hd.2 0 (by omega)
  unfold groundsR
  rw [if_neg (by rw [hd.1, hr0]; omega), if_neg (by rw [hd.1, hr0]; omega)]
  refine rowsErr_of fun l hl => ?_
  obtain ⟨k, hk, rfl⟩ := List.mem_iff_getElem.1 hl
  rw [← rowOf_lt hk, hr0]
  rw [hd.1] at hk
  refine ⟨hd.2 k hk, any_of_in fun j hj => ?_⟩
  rw [hd.2 k hk] at hj
  exact he k j hk hj

theorem mulErr_of {A B : List (List Int)} (g1 : groundsR 5 0 9972 A = none) (g2 : groundsR 5 0 9972 B = none) (h : (rowOf A 0).length = B.length) : mulErr A B = none := by
  unfold mulErr
  rw [g1, g2]
  show (if _ then _ else _) = _
  rw [if_pos h]
theorem addErr_of {A B : List (List Int)} (g1 : groundsR 5 0 9972 A = none) (g2 : groundsR 5 0 9972 B = none) (h : A.length = B.length) (h2 : (rowOf A 0).length = (rowOf B 0).length) : addErr A B = none := by
  unfold addErr
  rw [g1, g2]
  show (if _ then _ else _) = _
  rw [if_pos ⟨h, h2⟩]

/-- A matrix that passes, of n rows of c numbers. -/
structure Good (n c : Nat) (M : List (List Int)) : Prop where
  n1 : 1 ≤ n ∧ n ≤ 5
  c1 : 1 ≤ c ∧ c ≤ 5
  dm : Dm n c M
  ent : EntR 0 9972 n c M
theorem Good.gr {n c : Nat} {M : List (List Int)} (h : Good n c M) : groundsR 5 0 9972 M = none := grounds_of h.n1 h.c1 h.dm h.ent
theorem Good.of {n : Nat} {M : List (List Int)} (e : M.length = n) (g : groundsR 5 0 9972 M = none) : Good n (rowOf M 0).length M :=
  let ⟨a, b, c, d⟩ := grounds_dm e g
  ⟨a, b, c, d⟩
theorem Good.r0 {n c : Nat} {M : List (List Int)} (h : Good n c M) : (rowOf M 0).length = c := h.dm.2 0 (by have := h.n1; omega)
theorem Good.mulOk {n k c : Nat} {A B : List (List Int)} (h : Good n k A) (g : Good k c B) : mulErr A B = none := mulErr_of h.gr g.gr (by rw [h.r0, g.dm.1])
theorem Good.addOk {n c : Nat} {A B : List (List Int)} (h : Good n c A) (g : Good n c B) : addErr A B = none := addErr_of h.gr g.gr (by rw [h.dm.1, g.dm.1]) (by rw [h.r0, g.r0])
/-- The product passes, and is the product by the prime. -/
theorem Good.prod {n k c : Nat} {A B P : List (List Int)} (h : Good n k A) (g : Good k c B) (hp : IsR n c P (fun i j => mulE A B k i j % 9973)) : Good n c P ∧ EqM n c (mx P) (mulM k (mx A) (mx B)) :=
  ⟨⟨h.n1, g.c1, hp.1, fun i j hi hj => by rw [hp.2 i j hi hj]; dsimp only; omega⟩, fun i j hi hj => by
    show Eqm (en P i j) _
    rw [hp.2 i j hi hj]
    exact Eqm.mod _⟩
theorem Good.sum {n c : Nat} {A B P : List (List Int)} (h : Good n c A) (_ : Good n c B) (hp : IsR n c P (fun i j => (en A i j + en B i j) % 9973)) : Good n c P ∧ EqM n c (mx P) (fun i j => mx A i j + mx B i j) :=
  ⟨⟨h.n1, h.c1, hp.1, fun i j hi hj => by rw [hp.2 i j hi hj]; dsimp only; omega⟩, fun i j hi hj => by
    show Eqm (en P i j) _
    rw [hp.2 i j hi hj]
    exact Eqm.mod _⟩
theorem Good.tr {n c : Nat} {A P : List (List Int)} (h : Good n c A) (hp : IsR c n P (fun i j => en A j i)) : Good c n P ∧ EqM c n (mx P) (trM (mx A)) :=
  ⟨⟨h.c1, h.n1, hp.1, fun i j hi hj => by rw [hp.2 i j hi hj]; exact h.ent j i hj hi⟩, fun i j hi hj => Eqm.of_eq (hp.2 i j hi hj)⟩
/-- Two that pass and are one by the prime are one. -/
theorem Good.same {n c : Nat} {A B : List (List Int)} (h : Good n c A) (g : Good n c B) (e : EqM n c (mx A) (mx B)) : A = B :=
  h.dm.ext g.dm fun i j hi hj => by
    have h1 := h.ent i j hi hj
    have h2 := g.ent i j hi hj
    have h3 : en A i j % 9973 = en B i j % 9973 := e i j hi hj
    omega
end Go.Proofs.YtefmllkimdaimaaDoor
namespace Go.Proofs.YtefmllkimdaimaaDoor
open Go.RowKit Go.Rk

section
variable {a : Option Addr} {n c ca : Nat} {M : List (List Int)} {w : World}
end
end Go.Proofs.YtefmllkimdaimaaDoor
namespace Go.Proofs.YtefmllkimdaimaaDoor
open Go.RowKit Go.Rk

end Go.Proofs.YtefmllkimdaimaaDoor
namespace Go.Proofs.YtefmllkimdaimaaDoor
open Go.RowKit Go.Shelf Go.Rk
attribute [local go_sem] Oper.semAt_some

end Go.Proofs.YtefmllkimdaimaaDoor
namespace Go.Proofs.YtefmllkimdaimaaDoor
open Go.RowKit Go.Rk

theorem squareR_grounds {most lo hi : Int} {M : List (List Int)} (h : squareR most lo hi M = none) : groundsR most lo hi M = none ∧ (rowOf M 0).length = M.length := by
  unfold squareR at h
  split at h
  · next h1 =>
    split at h
    · next h2 => exact ⟨h1, h2.symm⟩
    · cases h
  · next h1 => exact absurd h h1

/-- The determinant of the product, by the prime. -/
theorem det_prod {n : Nat} {A B P : List (List Int)} (h : IsR n n P (fun i j => mulE A B n i j % 9973)) : det n (mx P) % 9973 = (det n (mx A) % 9973) * (det n (mx B) % 9973) % 9973 := by
  have e : Eqm (det n (mx P)) (det n (mulM n (mx A) (mx B))) := det_eqm fun i j hi hj => by
    show Eqm (en P i j) _
    rw [h.2 i j hi hj]
    exact Int.emod_emod_of_dvd _ (Int.dvd_refl _)
  rw [det_mul] at e
  rw [e, Int.mul_emod]

theorem det_turned {n : Nat} {A P : List (List Int)} (h : IsR n n P (fun i j => en A j i)) : det n (mx P) = det n (mx A) := by
  rw [← det_tr (mx A)]
  exact det_congr fun i j hi hj => h.2 i j hi hj

end Go.Proofs.YtefmllkimdaimaaDoor
namespace Go.Proofs.YtefmllkimdaimaaDoor
open Go.RowKit Go.Rk

set_option maxHeartbeats 1000000 in
theorem one_any (n : Nat) (w : World) (h1 : 1 ≤ n) (h2 : n ≤ 1000) :
    Calls Tryd.prog 128 #[.int .i64 n] w fun e w' => ∃ a' cap' P, e = .returned (.slice a' n cap') ∧ OwM w' w.heap.size 22 3 a' n cap' P ∧ IsR n n P oneM ∧ Below w.heap.size w w' := by
  go_enter Tryd.func128, Tryd.ntmps128
  go_wp2_with (go_at_call 78; refine (Grid_any n n _ (by omega) (by omega)).mono ?_; rintro e w3 ⟨a3, cap3, rfl, ho3, hb3⟩)
  obtain ⟨g, D, C, hz, hd3⟩ := ho3.named (by omega) fun r hr => by rw [(Dm.replicate n n 0).2 r hr]; omega
  cases hz
  have h0 : ∀ i j, i < n → j < n → en (List.replicate n (List.replicate n (0 : Int))) i j = 0 := fun i j hi hj => by
    unfold en
    rw [rowOf_lt (by simp; exact hi), ix_lt (by simp; exact hj)]
    simp
  clear ho3
  go_loopw [10] (fun v wr => ∃ (k : Nat) (P : List (List Int)), k ≤ n ∧ v = .int .i64 k ∧ OwMD wr w.heap.size 22 3 g D C n cap3 P ∧ Hid (IsR n n P (fun i j => if i = j ∧ i < k then 1 else 0)) ∧ Below w.heap.size w wr) (fun v _ => n - (intOf v).toNat)
  case atStart => exact ⟨0, _, Nat.zero_le _, rfl, hd3, ⟨Dm.replicate n n 0, fun i j hi hj => by rw [h0 i j hi hj]; simp⟩, hb3⟩
  case round =>
    obtain ⟨k, P, hk, rfl, hd, hi, hb⟩ := hrel
    by_cases hlt : k < n
    · have a1 := hd.cellO hlt
      have a2 := hd.cellI hlt (j := k) (by rw [hi.out.1.2 k hlt]; exact hlt)
      have a3 := hd.frozenI hlt (by rw [hi.out.1.2 k hlt]; omega) k
      rw [hi.out.1.2 k hlt] at a1
      have b1 : (k : Int) < (n : Int) := by omega
      go_wp2
      go_roundw
      case rel => exact ⟨k + 1, _, by omega, by go_num, hd.set matTy.ne hlt 1, ⟨hi.out.1.setE _ _ _, fun i j h3 h4 => by
        rw [hi.out.1.en_set _ h3 h4]
        by_cases e : k = i ∧ k = j
        · rw [if_pos e]; dsimp only; rw [if_pos ⟨by omega, by omega⟩]
        · rw [if_neg e, hi.out.2 i j h3 h4]; dsimp only
          by_cases e2 : i = j ∧ i < k
          · rw [if_pos e2, if_pos ⟨e2.1, by omega⟩]
          · rw [if_neg e2, if_neg fun e3 => by omega]⟩, hb.setCell (p := ⟨D k, k, none⟩) (hd.lowI hlt).1 _⟩
      case measure => simp [intOf]; omega
    · obtain rfl : k = n := by omega
      go_wp2
      go_ret
      exact ⟨_, cap3, P, rfl, hd.toM, hi.out.congr fun i j h3 h4 => by
        unfold oneM
        by_cases e : i = j
        · simp only [e, if_true]; rw [if_pos ⟨trivial, by omega⟩]
        · simp [e], hb⟩

theorem One_any (n : Nat) (w : World) (h1 : 1 ≤ n) (h2 : n ≤ 5) :
    Calls Tryd.prog 108 #[.int .i64 n] w fun e w' => ∃ a' cap' P, e = .returned (.tuple #[.slice a' n cap', .nilIface]) ∧ OwM w' w.heap.size 22 3 a' n cap' P ∧ IsR n n P oneM ∧ Below w.heap.size w w' := by
  have HO : Hid (outB (n : Int) 1 5 = false) := by unfold Hid outB; simp; omega
  go_enter Tryd.func108, Tryd.ntmps108
  go_wp2_with (first | (go_at_call 100; refine (out_any _ _ _ _).mono ?_; rintro e w' ⟨rfl, rfl⟩; rw [HO.out]) | (go_at_call 128; refine (one_any n _ h1 (by omega)).mono ?_; rintro e w3 ⟨a3, cap3, P, rfl, ho3, hi3, hb3⟩))
  go_ret2
  exact ⟨a3, cap3, P, rfl, ho3, hi3, hb3⟩

theorem mulE_sq {n : Nat} {X Y P : List (List Int)} (h : IsR n n P (fun i j => mulE X Y n i j % 9973)) : (Dm n n P ∧ EntR 0 9972 n n P) ∧ EqM n n (mx P) (mulM n (mx X) (mx Y)) :=
  ⟨⟨h.1, fun i j hi hj => by rw [h.2 i j hi hj]; dsimp only; omega⟩, fun i j hi hj => by
    show Eqm (en P i j) _
    rw [h.2 i j hi hj]
    exact Eqm.mod _⟩

/-- What is wrong with a power. -/
def powErr (A : List (List Int)) (e : Int) : Option Int :=
  match squareR 5 0 9972 A with
  | some x => some x
  | none => if outB e 0 1000 then some 1 else none

end Go.Proofs.YtefmllkimdaimaaDoor
namespace Go.Proofs.YtefmllkimdaimaaDoor
open Go.RowKit Go.Rk

end Go.Proofs.YtefmllkimdaimaaDoor
namespace Go.Proofs.YtefmllkimdaimaaDoor
open Go.RowKit Go.Rk

theorem _root_.Go.Rk.GInv.good {n c q : Nat} {A : Mx} {M : List (List Int)} {ps : List Int} (h : GInv n c A q M ps) (hn : 1 ≤ n ∧ n ≤ 5) (hc : 1 ≤ c ∧ c ≤ 5) : Good n c M := ⟨hn, hc, h.dm, h.ent⟩
theorem _root_.Go.Rk.GInv.fac {n c : Nat} {A : Mx} {M : List (List Int)} {ps : List Int} (h : GInv n c A c M ps) : Fac n c ps.length A := h.st.fac h.back
theorem _root_.Go.Rk.GInv.least {n c s : Nat} {A : Mx} {M : List (List Int)} {ps : List Int} (h : GInv n c A c M ps) (f : Fac n c s A) : ps.length ≤ s := h.st.no_less h.made f
theorem _root_.Go.Rk.GInv.same {n c : Nat} {A A' : Mx} {M M' : List (List Int)} {ps ps' : List Int} (h : GInv n c A c M ps) (g : GInv n c A' c M' ps') (m : Made n c A A') (m' : Made n c A' A) : M = M' ∧ ps = ps' := by
  obtain ⟨e1, e2, e3⟩ := h.st.unique g.st (h.back.trans (m.trans g.made)) (g.back.trans (m'.trans h.made))
  refine ⟨h.dm.ext g.dm fun i j hi hj => ?_, ix_ext e1 fun i hi => ?_⟩
  · have h1 := h.ent i j hi hj
    have h2 := g.ent i j hi hj
    have h3 : en M i j % 9973 = en M' i j % 9973 := e3 i j hi hj
    omega
  · have h1 := h.pos i hi
    have h2 := g.pos i (by omega)
    have h3 := e2 i hi
    omega

theorem gaussLit : Go.Rk.GInv 2 2 (mx [[0, 2], [0, 4]]) 2 [[0, 1], [0, 0]] [1] := by
  have two : ∀ {P : Nat → Nat → Prop}, P 0 0 → P 0 1 → P 1 0 → P 1 1 → ∀ i j, i < 2 → j < 2 → P i j := by
    intro P h0 h1 h2 h3 i j hi hj
    rcases (show i = 0 ∨ i = 1 by omega) with rfl | rfl <;> rcases (show j = 0 ∨ j = 1 by omega) with rfl | rfl <;> assumption
  refine ⟨⟨rfl, fun i hi => ?_⟩, two (by decide) (by decide) (by decide) (by decide), ⟨mx [[4987, 0], [-2, 1]], two (by unfold Eqm; decide) (by unfold Eqm; decide) (by unfold Eqm; decide) (by unfold Eqm; decide)⟩, ⟨mx [[2, 0], [4, 0]], two (by unfold Eqm; decide) (by unfold Eqm; decide) (by unfold Eqm; decide) (by unfold Eqm; decide)⟩,
    ⟨by decide, fun i hi => ?_, fun i j h1 h2 => ?_, fun i j h1 h2 => ?_, fun i s h1 h2 h3 => ?_, fun i s h1 h2 => ?_⟩, fun i hi => ?_⟩
  · rcases (show i = 0 ∨ i = 1 by omega) with rfl | rfl <;> rfl
  · obtain rfl : i = 0 := by simp at hi; omega
    decide
  · simp at h2; omega
  · obtain rfl : j = 0 := by simp at h2; omega
    rcases (show i = 0 ∨ i = 1 by omega) with rfl | rfl <;> (unfold Eqm; decide)
  · obtain rfl : i = 1 := by simp at h1; omega
    rcases (show s = 0 ∨ s = 1 by omega) with rfl | rfl <;> (unfold Eqm; decide)
  · obtain rfl : i = 0 := by simp at h1; omega
    have : (ix [1] 0).toNat = 1 := by decide
    rw [this] at h2
    obtain rfl : s = 0 := by omega
    unfold Eqm; decide
  · obtain rfl : i = 0 := by simp at hi; omega
    decide

end Go.Proofs.YtefmllkimdaimaaDoor
