/-
  The walk of det.of: elimination with the first element that is not 0 as pivot; and det.Of.
  The walk of det.Sign: an order's sign, by its cycles.
  The closed fact of the statements on determinants.
  When nothing is wrong with a matrix; determinants of matrices with a row changed, modulo 9973. Plain Lean on the words of the walks.
  A region in a round of a range over a function: what is walked of a region elsewhere holds in a round too, if none of its operations is a defer statement. No program in sight.
  mat.Turn walked: the transpose.
-/
import Derived.Test.YtoahegjjffggaaaDoorRows
import Derived.Deep.QuietTactic
import Derived.BigQuiet
import Derived.Deep.RegionHeld3
import Derived.StillTailTactics
import Derived.RangeFuncNested
import Derived.RangeFuncCalls
import Derived.OrdersIn
import Derived.TacticsIn
import Derived.Deep.Quiet
import Derived.StillTail
import Derived.Test.YtoahegjjffggaaaDoorMg0
import Derived.Test.YtoahegjjffggaaaDoorMg1
import Derived.Test.YtoahegjjffggaaaDoorMg2
import Derived.Test.YtoahegjjffggaaaDoorMg3
import Derived.Test.YtoahegjjffggaaaDoorMg4
namespace Go.Proofs.YtoahegjjffggaaaDoor
open Go.RowKit Go.Rk

/-- What lies where while det.of runs. -/
structure DSt (w0 w : World) (Bm Bo g : Nat) (D C : Nat → Nat) (n cap : Nat) (M : List (List Int)) (o : Int) : Prop where
  own : OwMD w (w0.heap.size + 1) 24 3 g D C n cap M
  m : w.cell? ⟨Bm, 0, none⟩ = some (.slice (some ⟨g, 0, none⟩) n cap)
  o : w.cell? ⟨Bo, 0, none⟩ = some (.int .i64 o)
  fo : w.frozen? ⟨Bo, 0, none⟩ = false
  n1 : Bm ≠ g
  n2 : Bo ≠ g
  n3 : Bm ≠ Bo
  n4 : ∀ j, j < n → Bo ≠ D j
  n5 : ∀ j, j < n → Bm ≠ D j
  lo : w0.heap.size ≤ Bo
  lm : w0.heap.size ≤ Bm
  bel : Below w0.heap.size w0 w

section
variable {w0 w w' : World} {Bm Bo g : Nat} {D C : Nat → Nat} {n cap : Nat} {M : List (List Int)} {o : Int}
theorem DSt.drewN (h : DSt w0 w Bm Bo g D C n cap M o) (k : Nat) : DSt w0 (w.drewN k) Bm Bo g D C n cap M o :=
  ⟨h.own.drewN k, h.m, h.o, h.fo, h.n1, h.n2, h.n3, h.n4, h.n5, h.lo, h.lm, below_drewN h.bel k⟩
theorem DSt.drew (h : DSt w0 w Bm Bo g D C n cap M o) : DSt w0 w.drew Bm Bo g D C n cap M o :=
  ⟨h.own.drew, h.m, h.o, h.fo, h.n1, h.n2, h.n3, h.n4, h.n5, h.lo, h.lm, h.bel.drew⟩
theorem DSt.setO (h : DSt w0 w Bm Bo g D C n cap M o) (o' : Int) : DSt w0 (w.setCell ⟨Bo, 0, none⟩ (.int .i64 o')) Bm Bo g D C n cap M o' :=
  ⟨h.own.setElse (p := ⟨Bo, 0, none⟩) h.n2 h.n4 _, by rw [World.cell?_setCell_other _ _ _ _ (by simp; exact h.n3.symm)]; exact h.m, World.cell?_setCell_same _ _ _ h.o, by simp [h.fo], h.n1, h.n2, h.n3, h.n4, h.n5, h.lo, h.lm, h.bel.setCell h.lo _⟩
theorem DSt.setE (h : DSt w0 w Bm Bo g D C n cap M o) {i j : Nat} (hi : i < n) (x : Int) : DSt w0 (w.setCell ⟨D i, j, none⟩ (.int .i64 x)) Bm Bo g D C n cap (setE M i j x) o :=
  ⟨h.own.set matTy.ne hi x, by rw [World.cell?_setCell_other _ _ _ _ (by simp; exact fun e => absurd e.symm (h.n5 i hi))]; exact h.m, by rw [World.cell?_setCell_other _ _ _ _ (by simp; exact fun e => absurd e.symm (h.n4 i hi))]; exact h.o, by simp [h.fo], h.n1, h.n2, h.n3, h.n4, h.n5, h.lo, h.lm,
    h.bel.setCell (Nat.le_trans (Nat.le_succ _) (h.own.lowI hi).1) _⟩
theorem DSt.exch {i k : Nat} {e : Ending} (h : DSt w0 w Bm Bo g D C n cap M o) (hi : i < n) (hk : k < n) (hx : Exch w w0.heap.size (w0.heap.size + 1) g Bm Bo D C n cap M o i k e w') :
    DSt w0 w' Bm Bo g (if i = k then D else swapF D i k) (if i = k then C else swapF C i k) n cap (if i = k then M else swapL M i k) (if i = k then o else -o % 9973) := by
  obtain ⟨_, x1, x2, x3, x4, x5⟩ := hx
  refine ⟨x1, x2, x3, x4, h.n1, h.n2, h.n3, fun j hj => ?_, fun j hj => ?_, h.lo, h.lm, h.bel.trans x5⟩
  · split
    · exact h.n4 j hj
    · simp only [swapF]; (repeat' split) <;> first | exact h.n4 _ hi | exact h.n4 _ hk | exact h.n4 _ hj
  · split
    · exact h.n5 j hj
    · simp only [swapF]; (repeat' split) <;> first | exact h.n5 _ hi | exact h.n5 _ hk | exact h.n5 _ hj
end

set_option maxHeartbeats 4000000 in
set_option maxRecDepth 100000 in
theorem det_of_any {a : Option Addr} {n cap : Nat} {M : List (List Int)} {w : World} (h : RdM w a n cap M) (hd : Dim n M) (he : Ent 0 9972 n M) (h1 : 1 ≤ n) (h5 : n ≤ 5) :
    Calls Tryd.prog 62 #[.slice a n cap] w fun e w' => e = .returned (.int .i64 (det n (mx M) % 9973)) ∧ Below w.heap.size w w' := by
  have S0 := Lib.hid (DInv.start hd he)
  have hR := Lib.hid (show RdM (w.alloc (.cells #[.slice a n cap] 22)) a n cap M from h.below ((Below.refl _ _).alloc (Nat.le_refl _) _))
  have HD := Lib.hid hd
  have hmf : ∀ (fn : Fn) (first cap : Array Value) (w : World), (Instr.makeFunc fn first cap).run Tryd.prog w = .ok (.func fn first cap) w := fun _ _ _ _ => rfl
  clear hd he
  go_enter Tryd.func62, Tryd.ntmps62
  go_wp2_with fail
  refine (Copy_any hR.out (by omega) (fun k hk => by rw [HD.out.2 k hk]; omega)).mono ?_
  rintro e w1 ⟨z, cz, rfl, ho1, hb1⟩
  have hBm : w1.cell? ⟨w.heap.size, 0, none⟩ = some (.slice a n cap) := hb1.keep (by simp) (by rw [World.cell?_alloc_at _ _ _ _ rfl]; rfl)
  have hfm : w1.frozen? ⟨w.heap.size, 0, none⟩ = false := by rw [hb1.frozen (by simp)]; exact World.frozen?_alloc_at _ _ _ _ rfl
  have hz1 : w.heap.size + 1 ≤ w1.heap.size := by have := hb1.size; simpa using this
  have hz2 : ¬ w1.heap.size = w.heap.size := by omega
  have hz3 : w.heap.size < w1.heap.size := by omega
  obtain ⟨g, D, C, hzz, hd1⟩ := ho1.named (by omega) fun i hi => by rw [HD.out.2 i hi]; omega
  subst hzz
  have g1 := hd1.lowO
  have hb0 : Below w.heap.size w w1 := ((Below.refl _ _).alloc (Nat.le_refl _) _).trans (hb1.mono (by simp))
  go_wp2
  have hst : DSt w ((w1.setCell ⟨w.heap.size, 0, none⟩ (.slice (some ⟨g, 0, none⟩) n cz)).alloc (.cells #[.int .i64 1] 3)) w.heap.size w1.heap.size g D C n cz M 1 := by
    simp at hd1 g1
    refine ⟨(hd1.setElse (p := ⟨w.heap.size, 0, none⟩) (by simp; omega) (fun i hi => by have := (hd1.lowI hi).1; simp; omega) _).alloc _, ?_, ?_, ?_, by omega, by omega, by omega, fun j hj => by have := (hd1.lowI hj).2; omega, fun j hj => by have := (hd1.lowI hj).1; omega, by omega, Nat.le_refl _, (hb0.setCell (Nat.le_refl _) _).alloc (by simp; omega) _⟩
    · rw [World.cell?_alloc_past _ _ _ (by simpa using hz3)]; exact World.cell?_setCell_same _ _ _ hBm
    · rw [World.cell?_alloc_at _ _ _ _ (by simp)]; rfl
    · exact World.frozen?_alloc_at _ _ _ _ (by simp)
  generalize ((w1.setCell ⟨w.heap.size, 0, none⟩ (.slice (some ⟨g, 0, none⟩) n cz)).alloc (.cells #[.int .i64 1] 3)) = w3 at *
  clear hBm hfm hz1 hz2 hz3 g1 hb0 hd1 ho1 hb1
  generalize w1.heap.size = Bo at *
  clear hmf
  go_loopw [16] (fun i wr => ∃ (c : Nat) (D C : Nat → Nat) (M' : List (List Int)) (o : Int), c ≤ n ∧ i = .int .i64 c ∧ DSt w wr w.heap.size Bo g D C n cz M' o ∧ Hid (DInv n (mx M) c M' o)) (fun i _ => n - (intOf i).toNat)
  case atStart => exact ⟨0, D, C, M, 1, Nat.zero_le _, rfl, hst, S0⟩
  case round =>
    obtain ⟨c, D, C, M', o, hc, rfl, hs, hi⟩ := hrel
    have hcm := hs.m
    have hco := hs.o
    by_cases hlt : c < n
    · go_wp2
      go_loop [6] (fun i => ∃ k : Nat, c ≤ k ∧ k ≤ n ∧ i = .int .i64 k ∧ Hid (∀ r, c ≤ r → r < k → en M' r c = 0)) (fun i => n - (intOf i).toNat)
      case atStart => exact ⟨c, Nat.le_refl _, hc, rfl, fun r h1 h2 => absurd h2 (by omega)⟩
      case round =>
        obtain ⟨k, hk1, hk2, rfl, hz⟩ := hrel
        by_cases hkn : k < n
        · have x1 := hs.own.cellO hkn
          rw [hi.out.dim.2 k hkn] at x1
          have x2 := hs.own.cellI hkn (j := c) (by rw [hi.out.dim.2 k hkn]; exact hlt)
          by_cases hp : en M' k c = 0
          · have hp' : (en M' k c == 0) = true := beq_iff_eq.2 hp
            have HP := Lib.hid hp
            clear hp
            go_wp2
            go_round
            case rel => exact ⟨k + 1, by omega, by omega, by go_num, zeros_succ hz.out HP.out⟩
            case measure => simp [intOf]; omega
          · have hp' : (en M' k c == 0) = false := beq_eq_false_iff_ne.2 hp
            have HP := Lib.hid hp
            clear hp
            go_wp2_with fail
            refine (exchange_any (L := w.heap.size) hs.own hlt hkn hs.m hs.o hs.fo hi.out.lo hi.out.hi hs.n1 hs.n2 hs.n3 hs.n4 (Nat.le_trans (Nat.le_succ _) hs.own.lowO.1) hs.lo).mono ?_
            rintro e w4 hx
            have hs4 := hs.exch hlt hkn hx
            obtain rfl := hx.1
            have hpc : en (if c = k then M' else swapL M' c k) c c ≠ 0 := by
              by_cases e : c = k
              · subst e; rw [if_pos rfl]; exact HP.out
              · rw [if_neg e, en_swapL hi.out.dim hlt hkn, if_neg e, if_pos rfl]; exact HP.out
            have hi4 := hi.out.exch hk1 hkn
            clear hx hs hi hz hcm hco x1 x2 hp' HP hst S0
            generalize (if c = k then D else swapF D c k) = D4 at *
            generalize (if c = k then C else swapF C c k) = C4 at *
            generalize (if c = k then M' else swapL M' c k) = M4 at *
            generalize (if c = k then o else -o % 9973) = o4 at *
            have y1 := hs4.m
            have y2 := hs4.o
            have y3 := hs4.own.cellO hlt
            rw [hi4.dim.2 c hlt] at y3
            have y4 := hs4.own.cellI hlt (j := c) (by rw [hi4.dim.2 c hlt]; exact hlt)
            have y5 := hs4.fo
            have b1 := hi4.ent c c hlt hlt
            have b2 := hi4.lo
            have b3 := hi4.hi
            have p1 := mul_bd ⟨b2, b3⟩ b1
            have HI4 := Lib.hid hi4
            have HPC := Lib.hid hpc
            have t1 : IntKind.i64.wrap (o4 * en M4 c c) = o4 * en M4 c c := Go.IntWalk.i64_in _ (by omega)
            have t2 : (o4 * en M4 c c).tmod 9973 = o4 * en M4 c c % 9973 := Int.tmod_eq_emod_of_nonneg (by omega)
            have t3 : IntKind.i64.wrap (o4 * en M4 c c % 9973) = o4 * en M4 c c % 9973 := Go.IntWalk.i64_in _ (by omega)
            have c1 : (c : Int) < (n : Int) := by omega
            clear hi4 hpc
            go_wp2
            go_still_tail 10, (by kernel_rfl)
            change wpList _ _ _ _ _ w4.drew
            clear t1 t2 t3
            have hs5 := hs4.setO (o4 * en M4 c c % 9973)
            have v1 := hs5.m
            have v2 := hs5.own.cellO hlt
            rw [HI4.out.dim.2 c hlt] at v2
            have v3 := hs5.own.cellI hlt (j := c) (by rw [HI4.out.dim.2 c hlt]; exact hlt)
            go_wp2_with fail
            refine (Over_any _ _ b1.1 b1.2).mono ?_
            rintro e w' ⟨rfl, rfl⟩
            have hs6 := hs5.drew
            clear hs5 hs4 v1 v2 v3 y1 y2 y3 y4 y5
            generalize (w4.setCell ⟨Bo, 0, none⟩ (.int .i64 (o4 * en M4 c c % 9973))).drew = w5 at *
            have z1 := hs6.m
            have ovb := powm_in (en M4 c c) 9971
            go_wp2
            generalize hov : powm (en M4 c c) 9971 = ov at *
            have HOV := Lib.hid hov
            clear hov
            generalize ho5 : o4 * en M4 c c % 9973 = o5 at *
            have HO5 := Lib.hid ho5
            clear ho5 b1 b2 b3 p1
            go_loopw [8] (fun i wr => ∃ (k : Nat) (M' : List (List Int)), c + 1 ≤ k ∧ k ≤ n ∧ i = .int .i64 k ∧ DSt w wr w.heap.size Bo g D4 C4 n cz M' o5 ∧ Hid (Is n M' (elimP M4 c ov k 0))) (fun i _ => n - (intOf i).toNat)
            case atStart => exact ⟨c + 1, M4, Nat.le_refl _, by omega, by go_num, hs6, ⟨HI4.out.dim, fun i j _ _ => by unfold elimP; rw [if_neg (by omega)]⟩⟩
            case round =>
              obtain ⟨k2, M5, hk3, hk4, rfl, hs7, hi7⟩ := hrel
              have z2 := hs7.m
              by_cases hlt2 : k2 < n
              · have x1 := hs7.own.cellO hlt2
                have x2 := hs7.own.cellI hlt2 (j := c) (by rw [hi7.out.1.2 k2 hlt2]; exact hlt)
                rw [hi7.out.1.2 k2 hlt2] at x1
                have e1 : en M5 k2 c = en M4 k2 c := by rw [hi7.out.2 k2 c hlt2 hlt]; unfold elimP; rw [if_neg (by omega)]
                rw [e1] at x2
                have b4 := HI4.out.ent k2 c hlt2 hlt
                have p2 := mul_bd b4 ovb
                clear e1
                go_wp2
                generalize hby : en M4 k2 c * ov % 9973 = by_ at *
                have byb : 0 ≤ by_ ∧ by_ ≤ 9972 := by omega
                have HBY := Lib.hid hby
                clear hby x1 x2 b4 p2
                go_loopw [85] (fun i wr => ∃ (j : Nat) (M' : List (List Int)), j ≤ n ∧ i = .int .i64 j ∧ DSt w wr w.heap.size Bo g D4 C4 n cz M' o5 ∧ Hid (Is n M' (elimP M4 c ov k2 j))) (fun i _ => n - (intOf i).toNat)
                case atStart => exact ⟨0, M5, Nat.zero_le _, rfl, hs7, hi7⟩
                case round =>
                  obtain ⟨j, M6, hj1, rfl, hs8, hi8⟩ := hrel
                  by_cases hlt3 : j < n
                  · have y1 := hs8.m
                    have y2 := hs8.own.cellO hlt2
                    have y3 := hs8.own.cellO hlt
                    have y4 := hs8.own.cellI hlt2 (j := j) (by rw [hi8.out.1.2 k2 hlt2]; exact hlt3)
                    have y5 := hs8.own.cellI hlt (j := j) (by rw [hi8.out.1.2 c hlt]; exact hlt3)
                    have y6 := hs8.own.frozenI hlt2 (by rw [hi8.out.1.2 k2 hlt2]; omega) j
                    rw [hi8.out.1.2 k2 hlt2] at y2
                    rw [hi8.out.1.2 c hlt] at y3
                    have e2 : en M6 k2 j = en M4 k2 j := by rw [hi8.out.2 k2 j hlt2 hlt3]; unfold elimP; rw [if_neg (by omega)]
                    have e3 : en M6 c j = en M4 c j := by rw [hi8.out.2 c j hlt hlt3]; unfold elimP; rw [if_neg (by omega)]
                    have b5 := HI4.out.ent k2 j hlt2 hlt3
                    have b6 := HI4.out.ent c j hlt hlt3
                    have p3 := mul_bd byb b6
                    have hset := (hs8.setE (j := j) hlt2 (elimE M4 c ov k2 j)).drew
                    have hset2 : Hid (Is n (setE M6 k2 j (elimE M4 c ov k2 j)) (elimP M4 c ov k2 (j + 1))) := by
                      refine Is.congr (hi8.out.set _) fun r s hr hs => ?_
                      simp only [elimP]
                      by_cases e4 : k2 = r ∧ j = s
                      · obtain ⟨rfl, rfl⟩ := e4
                        rw [if_pos ⟨rfl, rfl⟩, if_pos (by omega)]
                      · rw [if_neg e4]
                        by_cases e5 : (c < r ∧ r < k2) ∨ (r = k2 ∧ s < j)
                        · rw [if_pos e5, if_pos (by omega)]
                        · rw [if_neg e5, if_neg (by omega)]
                    rw [e2] at y4
                    rw [e3] at y5
                    clear e2 e3
                    have HEE : Hid (elimE M4 c ov k2 j = (en M4 k2 j - by_ * en M4 c j) % 9973) := by unfold Hid elimE; rw [HBY.out]
                    rw [HEE.out] at hset hset2
                    have u1 : IntKind.i64.wrap (by_ * en M4 c j) = by_ * en M4 c j := Go.IntWalk.i64_in _ (by omega)
                    have u2 : IntKind.i64.wrap (en M4 k2 j - by_ * en M4 c j) = en M4 k2 j - by_ * en M4 c j := Go.IntWalk.i64_in _ (by omega)
                    have c1 : (c : Int) < (n : Int) := by omega
                    have c2 : (k2 : Int) < (n : Int) := by omega
                    have c3 : (j : Int) < (n : Int) := by omega
                    clear b5 b6 p3
                    go_wp2
                    go_still_tail 24, (by kernel_rfl)
                    still_call (stillW (Field_any _ _))
                    repeat still_step
                    refine wpStill_nil ?_
                    change wpList _ _ _ _ _ wr.drew
                    clear u1 u2
                    go_wp2
                    go_roundw
                    case rel => exact ⟨j + 1, _, by omega, by go_num, hset, hset2⟩
                    case measure => simp [intOf]; omega
                  · obtain rfl : j = n := by omega
                    go_wp2
                    go_roundw
                    case rel => exact ⟨k2 + 1, M6, by omega, by omega, by go_num, hs8, hi8.out.next (by omega)⟩
                    case measure => simp [intOf]; omega
              · obtain rfl : k2 = n := by omega
                go_wp2
                go_roundw
                case rel => exact ⟨c + 1, D4, C4, M5, o5, by omega, by go_num, hs7, by unfold Hid; rw [← HO5.out]; exact HI4.out.step hlt HPC.out (by rw [HOV.out]; exact hi7.out)⟩
                case measure => simp [intOf]; omega
        · obtain rfl : k = n := by omega
          go_wp2
          go_ret
          exact ⟨congrArg (fun x => Ending.returned (.int .i64 x)) (hi.out.zero hlt hz.out).symm, hs.bel⟩
    · obtain rfl : c = n := by omega
      go_wp2
      go_ret
      exact ⟨congrArg (fun x => Ending.returned (.int .i64 x)) hi.out.done, hs.bel⟩

theorem squareR_none {most lo hi : Int} {M : List (List Int)} (h : squareR most lo hi M = none) : 1 ≤ M.length ∧ (M.length : Int) ≤ most ∧ Dim M.length M ∧ Ent lo hi M.length M := by
  unfold squareR at h
  split at h
  · next h1 =>
    split at h
    · next h2 =>
      obtain ⟨g1, g2, g3, g4, g5⟩ := groundsR_none h1
      refine ⟨g1, g3, ⟨rfl, fun i hi => by rw [(g5 i hi).1, h2]⟩, fun i j hi hj => (g5 i hi).2 j ?_⟩
      rw [(g5 i hi).1, ← h2]
      exact hj
    · cases h
  · next h1 => exact absurd h h1

section
variable {a : Option Addr} {n cap : Nat} {M : List (List Int)} {w : World}
theorem det_Of_err {c : Int} (h : RdM w a n cap M) (hc : squareR 5 0 9972 M = some c) :
    Calls Tryd.prog 39 #[.slice a n cap] w fun e w' => e = .returned (.tuple #[.int .i64 0, .iface 52 (.int .i64 c)]) ∧ w = w' := by
  have C := Lib.hid (det_Check_is h hc)
  clear hc
  go_enter Tryd.func39, Tryd.ntmps39
  go_wp2_with (go_at_call 30; refine C.out.mono ?_; rintro e w' ⟨rfl, rfl⟩; simp only [errV])
  go_ret2
  exact ⟨rfl, rfl⟩
theorem det_Of_ok (h : RdM w a n cap M) (hc : squareR 5 0 9972 M = none) :
    Calls Tryd.prog 39 #[.slice a n cap] w fun e w' => e = .returned (.tuple #[.int .i64 (det n (mx M) % 9973), .nilIface]) ∧ Below w.heap.size w w' := by
  have C := Lib.hid (det_Check_is h hc)
  obtain ⟨g1, g2, g3, g4⟩ := squareR_none hc
  have e1 := h.len_eq
  rw [e1] at g1 g2 g3 g4
  have C2 := Lib.hid (det_of_any h g3 g4 g1 (by omega))
  clear hc e1 g1 g2 g3 g4
  go_enter Tryd.func39, Tryd.ntmps39
  go_wp2_with (first | (go_at_call 30; refine C.out.mono ?_; rintro e w' ⟨rfl, rfl⟩; simp only [errV]) | (go_at_call 62; refine C2.out.mono ?_; rintro e w' ⟨rfl, hb⟩))
  go_ret2
  exact ⟨rfl, hb⟩
end
end Go.Proofs.YtoahegjjffggaaaDoor
namespace Go.Rk
open Go.RowKit

def bx (l : List Bool) (k : Nat) : Bool := l.getD k false
theorem bx_set (l : List Bool) (k j : Nat) (x : Bool) : bx (l.set k x) j = if k = j ∧ j < l.length then x else bx l j := by
  simp only [bx, List.getD, List.getElem?_set]
  by_cases h1 : k = j
  · subst h1
    by_cases h2 : k < l.length <;> simp [h2]
  · simp [h1]

/-- A slice of bools of the call's own. -/
structure OwB (w : World) (B E : Nat) (a : Option Addr) (n cap : Nat) (l : List Bool) : Prop where
  len_eq : l.length = n
  own : w.ownsRow B E 1 (.slice a n cap) n (l.map Value.bool)

structure BoolTy (P : Program) (T E : TypeId) : Prop where
  ht : P.underlying T = some (.slice E)
  hi : ∃ i, P.info? E = some i ∧ i.zero = some (.bool false) ∧ i.size = 1 ∧ i.bytes = 1

section
variable {w w' : World} {B E : Nat} {a : Option Addr} {n cap : Nat} {l : List Bool}
theorem OwB.at (h : OwB w B E a n cap l) (hn : 0 < n) :
    ∃ g, a = some ⟨g, 0, none⟩ ∧ B ≤ g ∧ g < w.heap.size ∧ (∀ i, i < n → w.cell? ⟨g, i, none⟩ = some (.bool (bx l i))) ∧ ∀ i, w.frozen? ⟨g, i, none⟩ = false := by
  obtain ⟨g, c, hv, hb, hlt⟩ := h.own.form hn
  injection hv with ha _ hc
  subst ha; subst hc
  refine ⟨g, rfl, hb, hlt, fun i hi => ?_, fun i => h.own.frozenAt i⟩
  rw [h.own.cellAt i (by omega), List.getElem?_map, List.getElem?_eq_getElem (by rw [h.len_eq]; exact hi)]
  simp [bx, List.getD, h.len_eq, hi]
theorem OwB.below (h : OwB w B E a n cap l) (hb : Below w.heap.size w w') : OwB w' B E a n cap l :=
  ⟨h.len_eq, h.own.kept (row := none) ⟨hb.os, hb.tape, hb.output, hb.size, fun k hk _ => hb.block k hk⟩ (by cases (Value.slice a n cap).ownBlock <;> simp)⟩
theorem OwB.set {g k : Nat} (h : OwB w B E (some ⟨g, 0, none⟩) n cap l) (x : Bool) : OwB (w.setCell ⟨g, k, none⟩ (.bool x)) B E (some ⟨g, 0, none⟩) n cap (l.set k x) :=
  ⟨by rw [List.length_set]; exact h.len_eq, by rw [List.map_set]; exact (h.own.stored k _).1⟩
end

theorem wpList_make_bools {P : Program} {T E : TypeId} {w : World} (hT : BoolTy P T E) {ops : Array Oper} {rest : List Oper} {o : Oper} {ac : Act} {Q : Exit → Act → World → Prop} (hgd : o.guard = none) (x y : Operand) (ho : o.op = .makeSlice T x y)
    {n : Nat} (hx : ac.eval x = .int .i64 n) (hy : ac.eval y = .int .i64 n) (hn : n ≤ 1000000)
    (h : ∀ w', OwB w' w.heap.size E (some ⟨w.heap.size, 0, none⟩) n n (List.replicate n false) → Below w.heap.size w w' → wpList P ops Q rest (ac.put o.dst (.slice (some ⟨w.heap.size, 0, none⟩) n n)) w') : wpList P ops Q (o :: rest) ac w := by
  obtain ⟨i, hi, hz, hs, hby⟩ := hT.hi
  refine wpList_make_full w hgd x y T ho w.heap.size E i (.bool false) 1 hT.ht hi hz hs .i64 .i64 n n n hx hy rfl rfl (by rw [hby]; omega) (by unfold maxLen; omega) (Nat.le_refl _) fun w' h1 h2 => h w' ⟨by simp, ?_⟩ (below_of_grown h2)
  have : (madeCells (Value.bool false).cells (n * 1)).toList = (List.replicate n false).map Value.bool := by
    rw [Nat.mul_one, List.map_replicate]
    exact toList_madeCells_one _ n
  rw [this] at h1
  exact h1

/-- Which numbers have been met in the first k places. -/
def metN (l : List Int) (n : Nat) : Nat → List Bool
  | 0 => List.replicate n false
  | k + 1 => (metN l n k).set (ix l k).toNat true
/-- Nothing is wrong in the first k places: each number a place, none of them twice. -/
def okN (l : List Int) (n : Nat) : Nat → Bool
  | 0 => true
  | k + 1 => okN l n k && !(decide (ix l k < 0) || decide ((n : Int) - 1 < ix l k)) && !bx (metN l n k) (ix l k).toNat

theorem metN_len (l : List Int) (n k : Nat) : (metN l n k).length = n := by
  induction k with
  | zero => simp [metN]
  | succ k ih => simp [metN, ih]

theorem okN_le {l : List Int} {n : Nat} : ∀ {k}, okN l n k = true → ∀ j, j < k → 0 ≤ ix l j ∧ ix l j ≤ (n : Int) - 1 := by
  intro k
  induction k with
  | zero => intro _ j hj; omega
  | succ k ih =>
    intro h j hj
    simp only [okN, Bool.and_eq_true, Bool.not_eq_true', Bool.or_eq_false_iff, decide_eq_false_iff_not] at h
    rcases Nat.lt_or_ge j k with h1 | h1
    · exact ih h.1.1 j h1
    · obtain rfl : j = k := by omega
      omega

theorem okN_false {l : List Int} {n k m : Nat} (h : okN l n k = false) (hkm : k ≤ m) : okN l n m = false := by
  induction m with
  | zero => obtain rfl : k = 0 := by omega
            exact h
  | succ m ih =>
    rcases Nat.lt_or_ge m k with h1 | h1
    · obtain rfl : k = m + 1 := by omega
      exact h
    · rw [okN, ih h1]; rfl

/-- One cycle from k on: what has been done, and how long it is. -/
def cycF (l : List Int) : Nat → List Bool → Nat → Nat → List Bool × Nat
  | 0, d, _, g => (d, g)
  | f + 1, d, k, g => if bx d k then (d, g) else cycF l f (d.set k true) (ix l k).toNat (g + 1)
def cycN (l : List Int) (n : Nat) : Nat → List Bool × Int
  | 0 => (List.replicate n false, 1)
  | i + 1 => ((cycF l (n + 1) (cycN l n i).1 i 0).1, if 0 < (cycF l (n + 1) (cycN l n i).1 i 0).2 ∧ (cycF l (n + 1) (cycN l n i).1 i 0).2 % 2 = 0 then -(cycN l n i).2 else (cycN l n i).2)
/-- An order's sign. -/
def signC (l : List Int) : Int := if okN l l.length l.length then (cycN l l.length l.length).2 else 0

def cntF (d : List Bool) : Nat := (d.filter fun b => !b).length
theorem cntF_set {d : List Bool} {k : Nat} (hk : k < d.length) (h : bx d k = false) : cntF (d.set k true) + 1 = cntF d := by
  induction d generalizing k with
  | nil => simp at hk
  | cons x d ih =>
    cases k with
    | zero =>
      have : x = false := by simpa [bx] using h
      subst this
      simp [cntF]
    | succ k =>
      have h2 : bx d k = false := by simpa [bx] using h
      have := ih (by simpa using hk) h2
      simp only [cntF, List.set_cons_succ, List.filter_cons] at *
      cases x <;> simp <;> omega
theorem cntF_le (d : List Bool) : cntF d ≤ d.length := List.length_filter_le _ _

theorem cycF_len (l : List Int) : ∀ (f : Nat) (d : List Bool) (k g : Nat), (cycF l f d k g).1.length = d.length ∧ (cycF l f d k g).2 ≤ g + f := by
  intro f
  induction f with
  | zero => intro d k g; exact ⟨rfl, Nat.le_refl _⟩
  | succ f ih =>
    intro d k g
    rw [cycF]
    split
    · exact ⟨rfl, by omega⟩
    · have := ih (d.set k true) (ix l k).toNat (g + 1)
      simp only [List.length_set] at this
      omega

theorem cycN_len (l : List Int) (n i : Nat) : (cycN l n i).1.length = n ∧ ((cycN l n i).2 = 1 ∨ (cycN l n i).2 = -1) := by
  induction i with
  | zero => simp [cycN]
  | succ i ih =>
    simp only [cycN]
    refine ⟨by rw [(cycF_len l _ _ _ _).1, ih.1], ?_⟩
    split <;> omega
end Go.Rk
namespace Go.Proofs.YtoahegjjffggaaaDoor
open Go.RowKit Go.Rk

theorem infoBool : (Tryd.prog.info? 4).map (fun i => (i.zero, i.size, i.bytes)) = some (some (.bool false), 1, 1) := by kernel_rfl
end Go.Proofs.YtoahegjjffggaaaDoor
namespace Go.Proofs.YtoahegjjffggaaaDoor
open Go.RowKit Go.Rk

end Go.Proofs.YtoahegjjffggaaaDoor
namespace Go.Proofs.YtoahegjjffggaaaDoor
open Go.Rk

theorem rowsErr_of {lo hi : Int} {m : Nat} {M : List (List Int)} (h : ∀ l ∈ M, l.length = m ∧ anyB lo hi l = false) : rowsErr lo hi m M = none := by
  unfold rowsErr
  induction M with
  | nil => rfl
  | cons l M ih =>
    obtain ⟨h1, h2⟩ := h l (by simp)
    have e : rowErr1 lo hi m l = none := by unfold rowErr1; rw [if_neg (by simp [h1]), h2]; simp
    rw [List.foldl_cons]
    show List.foldl _ (rowErr1 lo hi m l) M = none
    rw [e]
    exact ih fun l' hl' => h l' (by simp [hl'])

theorem squareR_of {most lo hi : Int} {M : List (List Int)} {n : Nat} (h1 : 1 ≤ n) (h2 : (n : Int) ≤ most) (hd : Dim n M) (he : Ent lo hi n M) : squareR most lo hi M = none := by
  have hr0 := hd.2 0 (by omega)
  have hg : groundsR most lo hi M = none := by
    unfold groundsR
    rw [if_neg (by rw [hd.1, hr0]; omega), if_neg (by rw [hd.1, hr0]; omega)]
    refine rowsErr_of fun l hl => ?_
    obtain ⟨k, hk, rfl⟩ := List.mem_iff_getElem.1 hl
    rw [← rowOf_lt hk, hr0]
    rw [hd.1] at hk
    refine ⟨hd.2 k hk, any_of_in fun j hj => ?_⟩
    rw [hd.2 k hk] at hj
    exact he k j hk hj
  unfold squareR
  rw [if_pos hg, if_pos (by rw [hd.1, hr0])]

theorem en_set {M : List (List Int)} {n i : Nat} (hd : Dim n M) (hi : i < n) (l : List Int) (r s : Nat) : en (M.set i l) r s = if r = i then ix l s else en M r s := by
  unfold en
  rw [rowOf_set]
  by_cases h : i = r
  · rw [if_pos ⟨h, by rw [← h, hd.1]; exact hi⟩, if_pos h.symm]
  · rw [if_neg fun e => h e.1, if_neg fun e => h e.symm]

theorem Dim.set {M : List (List Int)} {n i : Nat} (hd : Dim n M) {l : List Int} (hl : l.length = n) : Dim n (M.set i l) := by
  refine ⟨by rw [List.length_set]; exact hd.1, fun r hr => ?_⟩
  rw [rowOf_set]
  split
  · exact hl
  · exact hd.2 r hr

theorem Ent.setL {lo hi : Int} {M : List (List Int)} {n i : Nat} (hd : Dim n M) (he : Ent lo hi n M) (hi' : i < n) {l : List Int} (hl : l.length = n) (hln : In lo hi l) : Ent lo hi n (M.set i l) := by
  intro r s hr hs
  rw [en_set hd hi']
  split
  · exact hln s (by rw [hl]; exact hs)
  · exact he r s hr hs

theorem det_set {n : Nat} {M : List (List Int)} (hd : Dim n M) {i : Nat} (hi : i < n) (l : List Int) : det n (mx (M.set i l)) = det n (setRow (mx M) i (ix l)) :=
  det_congr fun r s _ _ => by
    show en (M.set i l) r s = _
    rw [en_set hd hi]
    rfl

theorem det_row_sum {n : Nat} {M B : List (List Int)} (hd : Dim n M) {i : Nat} (hi : i < n) (l : List Int) (hB : Is n B (fun r s => if r = i then (en M i s + ix l s) % 9973 else en M r s)) :
    det n (mx B) % 9973 = (det n (mx M) % 9973 + det n (mx (M.set i l)) % 9973) % 9973 := by
  have h1 : Eqm (det n (mx B)) (det n (setRow (mx M) i fun c => mx M i c + ix l c)) := det_eqm fun r s hr hs => by
    show Eqm (en B r s) _
    rw [hB.2 r s hr hs]
    simp only [setRow]
    by_cases h : r = i
    · rw [if_pos h, if_pos h]; exact Eqm.mod _
    · rw [if_neg h, if_neg h]; exact Eqm.refl _
  rw [det_row_add _ _ hi, Go.Rk.setRow_self, ← det_set hd hi] at h1
  have h2 := (Eqm.mod (det n (mx M))).add (Eqm.mod (det n (mx (M.set i l))))
  unfold Eqm at h1 h2
  omega

/-- Two rows exchanged. -/
theorem det_exch {n : Nat} {M : List (List Int)} (hd : Dim n M) {i j : Nat} (hij : i ≠ j) (hi : i < n) (hj : j < n) :
    det n (mx ((M.set i (rowOf M j)).set j (rowOf M i))) % 9973 = (-(det n (mx M) % 9973)) % 9973 := by
  have h1 : det n (mx ((M.set i (rowOf M j)).set j (rowOf M i))) = -det n (mx M) := by
    rw [← (det_alt n).swap (mx M) hij hi hj]
    refine det_congr fun r s _ _ => ?_
    show en (swapL M i j) r s = _
    rw [en_swapL hd hi hj]
    simp only [swapM, Go.Rk.setRow]
    rfl
  rw [h1]
  omega

/-- So many times one row added to another one. -/
theorem det_added {n : Nat} {M B : List (List Int)} {i j : Nat} (hij : i ≠ j) (hi : i < n) (hj : j < n) (k : Int) (hB : Is n B (fun r s => if r = i then (en M i s + k * en M j s) % 9973 else en M r s)) :
    det n (mx B) % 9973 = det n (mx M) % 9973 := by
  have h1 : Eqm (det n (mx B)) (det n (Go.Rk.setRow (mx M) i fun c => mx M i c + k * mx M j c)) := det_eqm fun r s hr hs => by
    show Eqm (en B r s) _
    rw [hB.2 r s hr hs]
    simp only [Go.Rk.setRow]
    by_cases h : r = i
    · rw [if_pos h, if_pos h]; exact Eqm.mod _
    · rw [if_neg h, if_neg h]; exact Eqm.refl _
  rw [(det_alt n).add_row (mx M) hij hi hj] at h1
  exact h1

/-- One row so many times. -/
theorem det_scaled {n : Nat} {M B : List (List Int)} {i : Nat} (hi : i < n) (k : Int) (hB : Is n B (fun r s => if r = i then (k * en M i s) % 9973 else en M r s)) :
    det n (mx B) % 9973 = (k * (det n (mx M) % 9973)) % 9973 := by
  have h1 : Eqm (det n (mx B)) (det n (Go.Rk.setRow (mx M) i fun c => k * mx M i c)) := det_eqm fun r s hr hs => by
    show Eqm (en B r s) _
    rw [hB.2 r s hr hs]
    simp only [Go.Rk.setRow]
    by_cases h : r = i
    · rw [if_pos h, if_pos h]; exact Eqm.mod _
    · rw [if_neg h, if_neg h]; exact Eqm.refl _
  rw [det_row_mul _ _ hi, Go.Rk.setRow_self] at h1
  exact h1.trans ((Eqm.refl k).mul (Eqm.mod _).symm)
end Go.Proofs.YtoahegjjffggaaaDoor
namespace Go.Rk
open Go.RowKit

def noDefer (ops : Array Oper) : Bool := ops.all fun o => match o.op with | .defer _ => false | _ => true
theorem noDefer_at {ops : Array Oper} (h : noDefer ops = true) {i : Nat} {o : Oper} (ho : ops[i]? = some o) : ∀ c, o.op ≠ .defer c := by
  intro c e
  obtain ⟨hi, rfl⟩ := Array.getElem?_eq_some_iff.1 ho
  have := Array.all_eq_true.1 h i hi
  rw [e] at this
  cases this

section
variable {l n : Nat} {P : Program} {ops : Array Oper} {Q : Exit → Act → World → Prop} {md : Region.Mode}

theorem rowsIn_of {row : String} {args : Array Value} {w : World} {R : Value → World → Prop} (h : Rows P row args w R) : RowsIn (Fence.wide.inRound l) n P row args w R :=
  fun c cs _ => let ⟨v, w', r, s⟩ := h c cs; ⟨v, w', r, stepsIn_wide.2 s⟩

theorem op_round {o : Oper} {a : Act} {w : World} {K : Act → World → Prop} (hnd : ∀ c, o.op ≠ .defer c) (h : o.wp P a w K Q) : o.wpIn (Fence.wide.inRound l) n P a w K Q := by
  refine ⟨fun _ _ => trivial, ?_⟩
  rw [show (Fence.wide.inRound l).round = some l from rfl, Oper.semAt_some l _ _ hnd]
  unfold Oper.wp at h
  generalize (execOp a.eval o).run P w = r at h ⊢
  cases r with
  | ok x w' =>
    cases x <;> simp only [Oper.upon, Oper.uponIn] at h ⊢ <;>
      first
        | exact h
        | exact ⟨fun e => by simp [Fence.wide] at e, callsIn_wide.2 h⟩
        | exact ⟨fun e => by simp [Fence.wide] at e, rowsIn_of h⟩
  | halt x w' => cases x <;> simp only [Oper.upon, Oper.uponIn] at h ⊢ <;> exact h

theorem wpOp_round {i : Nat} {K K' : Act → World → Prop} {a : Act} {w : World} (hnd : noDefer ops = true) (hL : ¬ LetsOut Q) (hK : ∀ a w, K a w → K' a w) (h : wpOp P ops Q i K a w) : wpOpIn (Fence.wide.inRound l) n P ops Q i K' a w := by
  unfold wpOp at h
  unfold wpOpIn
  cases ho : ops[i]? with
  | none => rw [ho] at h; exact hK _ _ h
  | some o =>
    rw [ho] at h
    dsimp only at h ⊢
    split
    · next hw =>
      rw [if_pos hw] at h
      rcases h with h | h
      · exact op_round (noDefer_at hnd ho) (Oper.wp_mono hK h)
      · exact absurd h.2 hL
    · next hw =>
      rw [if_neg hw] at h
      exact ⟨fun _ _ => trivial, hK _ _ h⟩

theorem wpAny_round (hnd : noDefer ops = true) (hL : ¬ LetsOut Q) : ∀ (fuel : Nat) (listed : Array Bool) (a : Act) (w : World), wpAny P md ops Q fuel listed a w → wpAnyIn (Fence.wide.inRound l) n P md ops Q fuel listed a w
  | 0, _, _, _, h => h
  | fuel + 1, _, _, _, h => ⟨h.1, fun i hi => wpOp_round hnd hL (wpAny_round hnd hL fuel _) (h.2 i hi)⟩

theorem region_round {id : Nat} {a : Act} {w : World} (hm : P.follows .mixedOrders = true) (hnd : noDefer ops = true) (hL : ¬ LetsOut Q)
    (h : wpAny P .any ops Q ops.size (Array.replicate ops.size false) a { w with drawn := w.drawn + 1 }) : (Code.region id ops true).wpIn (Fence.wide.inRound l) n P Q a w :=
  wpIn_region_any hm (wpAny_round hnd hL _ _ _ _ h)

/-- A region of reads, arithmetic and quiet calls that draws its order, in a round. -/
theorem region_round_quiet {id : Nat} {a : Act} {w : World} {os : List Oper} (hm : P.follows .mixedOrders = true) (hnd : noDefer os.toArray = true) (hL : ¬ LetsOut Q) (hB : Region.lexB .any os.toArray = true)
    (h : wpQuiet P os.toArray (fun w' => ∃ k, w' = w.drewN k) (fun a' => ∀ w', (∃ k, w' = w.drewN k) → Q .normal a' w') os a) : (Code.region id os.toArray true).wpIn (Fence.wide.inRound l) n P Q a w := by
  obtain ⟨b1, b2⟩ : Region.noSelect os.toArray = true ∧ _ := by simpa only [Region.lexB, Bool.and_eq_true] using hB
  have q := wpAnyQ_lex (md := .any) b1 os 0 (Array.replicate os.toArray.size false) a (by simp) (by simpa using b2) h
  exact region_round hm hnd hL (wpAny_of_quiet (C := fun w' => ∃ k, w' = w.drewN k) (Q := fun a' => ∀ w', (∃ k, w' = w.drewN k) → Q .normal a' w') (fun _ w' hw' h => h w' hw') _ _ _ _ ⟨1, rfl⟩ (by simpa using q))

/-- The same, and at its end, in order, what writes. -/
theorem region_round_tail {id : Nat} {a : Act} {w : World} {os : List Oper} (m : Nat) (hm : P.follows .mixedOrders = true) (hnd : noDefer os.toArray = true) (hL : ¬ LetsOut Q) (hB : Region.lexTailB .any os.toArray m = true)
    (h : wpStill P os.toArray w.drew (fun a' => wpList P os.toArray Q (os.drop m) a' w.drew) (os.take m) a) : (Code.region id os.toArray true).wpIn (Fence.wide.inRound l) n P Q a w := by
  simp only [Region.lexTailB, Bool.and_eq_true, decide_eq_true_eq] at hB
  have t1 : (os.take m).length = m := by have := hB.1.1.1.2; simp at this ⊢; omega
  have t2 : (os.drop m).length = os.toArray.size - m := by simp
  have i0 : HeadInv .any os.toArray m (Array.replicate os.toArray.size false) :=
    ⟨by simp, fun j _ _ (e : _ = true) => (by rw [getD_replicate_false] at e; cases e), fun t _ ht => getD_in (by simpa using ht) (getD_replicate_false _ _)⟩
  have q := wpAnyL_lex (md := .any) (g := os.toArray.size - m) hB.1.1.1.1 hB.1.1.2 hB.1.2 hB.1.1.1.2 (os.take m) 0 _ a (fun j hj => by rw [t1] at hj; simp [hj]) (by simpa using t1) i0 (by rw [t1]; exact hB.2) h
  have q2 := wpAny_of_head (Q' := Q) (g := os.toArray.size - m) (fun listed a' e => by
    have := wpAny_of_seq (md := .any) (Q' := Q) (os.drop m) m listed a' w.drew (fun j => by simp [List.getElem?_drop]) (by rw [t2]; exact e.1) e.2
    rwa [t2] at this) _ _ _ q
  rw [t1, show m + (os.toArray.size - m) = os.toArray.size by have := hB.1.1.1.2; omega] at q2
  exact region_round hm hnd hL q2

end
end Go.Rk
namespace Go.Proofs.YtoahegjjffggaaaDoor
open Go.RowKit Go.Shelf Go.Rk
attribute [local go_sem] Oper.semAt_some

end Go.Proofs.YtoahegjjffggaaaDoor
