/-
  bareiss.of walked: elimination of whole numbers by divisions without a rest; bareiss.Check, bareiss.Of.
-/
import Derived.Test.YtfocfgddlnjfmaaRows
import Derived.Test.YtfocfgddlnjfmaaLib
import Derived.Test.YtfocfgddlnjfmaaNum
import Derived.Test.YtfocfgddlnjfmaaMatD
import Derived.Test.YtfocfgddlnjfmaaElim
import Derived.Test.YtfocfgddlnjfmaaDetW
import Derived.Test.YtfocfgddlnjfmaaDetOf
import Derived.Test.YtfocfgddlnjfmaaBareissP
import Derived.Deep.QuietTactic
import Derived.BigQuiet
import Derived.Deep.RegionWith
import Derived.StillTailTactics
import Derived.Deep.Cut
import Derived.Deep.CutRange
import Derived.Deep.DeepCutAuto
namespace Go.Proofs.Ytfocfgddlnjfmaa
open Go.RowKit Go.Rk

theorem tdiv_exact {x l q : Int} (h : x = l * q) (hl : l ≠ 0) : x.tdiv l = q := by rw [h]; exact Int.mul_tdiv_cancel_left q hl

theorem cross_any {w : World} {Bm Bo g ba bc n cap c1 c2 : Nat} {i j c : Nat} {x p y z last q : Int} (hi : i < n) (hj : j < n) (hc : c < n)
    (hm : w.cell? ⟨Bm, 0, none⟩ = some (.slice (some ⟨g, 0, none⟩) n cap)) (ho : w.cell? ⟨Bo, 0, none⟩ = some (.int .i64 last))
    (hr : w.cell? ⟨g, i, none⟩ = some (.slice (some ⟨ba, 0, none⟩) n c1)) (hq : w.cell? ⟨g, c, none⟩ = some (.slice (some ⟨bc, 0, none⟩) n c2))
    (hx : w.cell? ⟨ba, j, none⟩ = some (.int .i64 x)) (hp : w.cell? ⟨bc, c, none⟩ = some (.int .i64 p)) (hy : w.cell? ⟨ba, c, none⟩ = some (.int .i64 y)) (hz : w.cell? ⟨bc, j, none⟩ = some (.int .i64 z))
    (bx : -7085880 ≤ x ∧ x ≤ 7085880) (bp : -7085880 ≤ p ∧ p ≤ 7085880) (by_ : -7085880 ≤ y ∧ y ≤ 7085880) (bz : -7085880 ≤ z ∧ z ≤ 7085880) (bq : -7085880 ≤ q ∧ q ≤ 7085880) (hl : last ≠ 0) (he : x * p - y * z = last * q) :
    Calls Try.prog 85 #[.int .i64 c, .int .i64 i, .int .i64 j, .pointer (some ⟨Bm, 0, none⟩), .pointer (some ⟨Bo, 0, none⟩)] w fun e w' => e = .returned (.int .i64 q) ∧ ∃ m, w' = w.drewN m := by
  have i1 : (i : Int) < (n : Int) := by omega
  have i2 : (j : Int) < (n : Int) := by omega
  have i3 : (c : Int) < (n : Int) := by omega
  have p1 := abs_mul_le bx bp
  have p2 := abs_mul_le by_ bz
  have HE := Lib.hid he
  have HT := Lib.hid (tdiv_exact he hl)
  clear he
  obtain ⟨X, hX⟩ : ∃ X, X = x * p := ⟨_, rfl⟩
  obtain ⟨Y, hY⟩ : ∃ Y, Y = y * z := ⟨_, rfl⟩
  rw [← hX] at p1 HT
  rw [← hY] at p2 HT
  have u1 : IntKind.i64.wrap (x * p) = X := by rw [hX]; exact Go.IntWalk.i64_in _ (by omega)
  have u2 : IntKind.i64.wrap (y * z) = Y := by rw [hY]; exact Go.IntWalk.i64_in _ (by omega)
  have u3 : IntKind.i64.wrap (X - Y) = X - Y := Go.IntWalk.i64_in _ (by omega)
  have u4 : (X - Y).tdiv last = q := HT.out
  have u5 : IntKind.i64.wrap q = q := Go.IntWalk.i64_in _ (by omega)
  have z1 : (last == 0) = false := beq_eq_false_iff_ne.2 hl
  clear hX hY HE HT p1 p2 bx bp by_ bz bq
  go_enter Try.func85, Try.ntmps85
  go_wp2
  go_quiet (fail)
  go_wp2
  go_ret
  exact ⟨rfl, _, rfl⟩

theorem detB9 {c : Nat} (h : c ≤ 5) : detB 9 c ≤ 7085880 := by
  rcases (show c = 0 ∨ c = 1 ∨ c = 2 ∨ c = 3 ∨ c = 4 ∨ c = 5 by omega) with rfl | rfl | rfl | rfl | rfl | rfl <;> decide
theorem swapL_comm {n : Nat} {M : List (List Int)} (h : M.length = n) {i k : Nat} (hi : i < n) (hk : k < n) : swapL M i k = swapL M k i :=
  rowOf_ext (by rw [swapL_len, swapL_len]) fun j _ => by
    rw [rowOf_swapL (by omega) (by omega), rowOf_swapL (by omega) (by omega)]
    by_cases e1 : j = k
    · by_cases e2 : j = i
      · rw [if_pos e1, if_pos e2, ← e1, ← e2]
      · rw [if_pos e1, if_neg e2, if_pos e1]
    · by_cases e2 : j = i
      · rw [if_neg e1, if_pos e2, if_pos e2]
      · rw [if_neg e1, if_neg e2, if_neg e2, if_neg e1]

/-- What is divided has no rest, and is not great. -/
theorem quotients {n c : Nat} {A : Mx} {M : List (List Int)} {s o : Int} (h : BInv n A c M s o) (hA : ∀ i j, i < n → j < n → -9 ≤ A i j ∧ A i j ≤ 9) (h5 : n ≤ 5) (hc : c + 1 < n) (hp : en M c c ≠ 0) :
    ∃ Q : Nat → Nat → Int, ∀ i j, c < i → i < n → c < j → j < n → en M i j * en M c c - en M i c * en M c j = o * Q i j ∧ -7085880 ≤ Q i j ∧ Q i j ≤ 7085880 := by
  obtain ⟨A', hA'⟩ := h.cross hc hp
  obtain ⟨Q, hQ⟩ : ∃ Q : Nat → Nat → Int, ∀ i j, c < i → i < n → c < j → j < n → en M i j * en M c c - en M i c * en M c j = o * Q i j := ⟨fun i j => det (c + 2) (fun a b => A' (pre (c + 1) (fun _ => i) a) (pre (c + 1) (fun _ => j) b)), hA'⟩
  refine ⟨Q, fun i j h1 h2 h3 h4 => ⟨hQ i j h1 h2 h3 h4, ?_⟩⟩
  have row : ∀ i, i < n → rowOf ((List.range n).map fun i => (List.range n).map fun j => Q i j) i = (List.range n).map fun j => Q i j := fun i hi => by
    rw [rowOf_lt (by simp; exact hi)]
    simp
  have eM : ∀ i j, i < n → j < n → en ((List.range n).map fun i => (List.range n).map fun j => Q i j) i j = Q i j := fun i j hi hj => by
    unfold en
    rw [row i hi, ix_lt (by simp; exact hj)]
    simp
  have hb := h.step (M2 := (List.range n).map fun i => (List.range n).map fun j => Q i j) hc hp ⟨by simp, fun i hi => by rw [row i hi]; simp⟩ (fun i j h1 h2 h3 h4 => by rw [eM i j h2 h4]; exact (hQ i j h1 h2 h3 h4).symm)
  have := hb.bound (b := 9) (by decide) hA (i := i) (j := j) (by omega) h2 (by omega) h4
  rw [eM i j h2 h4] at this
  have := detB9 (c := c + 1 + 1) (by omega)
  omega

/-- Rows change places. -/
theorem DSt.swap2 {w0 w : World} {Bm Bo g : Nat} {D C : Nat → Nat} {n cap : Nat} {M : List (List Int)} {o : Int} {i k : Nat} (h : DSt w0 w Bm Bo g D C n cap M o) (hi : i < n) (hk : k < n) :
    DSt w0 ((w.setCell ⟨g, i, none⟩ (.slice (some ⟨D k, 0, none⟩) (rowOf M k).length (C k))).setCell ⟨g, k, none⟩ (.slice (some ⟨D i, 0, none⟩) (rowOf M i).length (C i))) Bm Bo g (swapF D i k) (swapF C i k) n cap (swapL M i k) o := by
  have hg : w0.heap.size ≤ g := Nat.le_trans (Nat.le_succ _) h.own.lowO.1
  refine ⟨h.own.swap matTy.ne hi hk, ?_, ?_, by simp [h.fo], h.n1, h.n2, h.n3, fun j hj => ?_, fun j hj => ?_, h.lo, h.lm, (h.bel.setCell (p := ⟨g, i, none⟩) hg _).setCell (p := ⟨g, k, none⟩) hg _⟩
  · rw [World.cell?_setCell_other _ _ _ _ (by simp; exact fun e => absurd e.symm h.n1), World.cell?_setCell_other _ _ _ _ (by simp; exact fun e => absurd e.symm h.n1)]; exact h.m
  · rw [World.cell?_setCell_other _ _ _ _ (by simp; exact fun e => absurd e.symm h.n2), World.cell?_setCell_other _ _ _ _ (by simp; exact fun e => absurd e.symm h.n2)]; exact h.o
  · simp only [swapF]; (repeat' split) <;> first | exact h.n4 _ hi | exact h.n4 _ hk | exact h.n4 _ hj
  · simp only [swapF]; (repeat' split) <;> first | exact h.n5 _ hi | exact h.n5 _ hk | exact h.n5 _ hj

/-- What stands at a place while column c is worked. -/
def barP (M : List (List Int)) (c k m : Nat) (Q : Nat → Nat → Int) (i j : Nat) : Int := if (c < i ∧ i < k ∧ c < j) ∨ (i = k ∧ c < j ∧ j < m) then Q i j else en M i j

set_option maxHeartbeats 4000000 in
set_option maxRecDepth 100000 in
theorem bareiss_of_any {a : Option Addr} {n cap : Nat} {M : List (List Int)} {w : World} (h : RdM w a n cap M) (hd : Dim n M) (he : Ent (-9) 9 n M) (h1 : 1 ≤ n) (h5 : n ≤ 5) :
    Calls Try.prog 53 #[.slice a n cap] w fun e w' => e = .returned (.int .i64 (det n (mx M))) ∧ Below w.heap.size w w' := by
  have S0 := Lib.hid (BInv.start hd)
  have HE : Hid (∀ i j, i < n → j < n → -9 ≤ mx M i j ∧ mx M i j ≤ 9) := he
  have hR := Lib.hid (show RdM (w.alloc (.cells #[.slice a n cap] 37)) a n cap M from h.below ((Below.refl _ _).alloc (Nat.le_refl _) _))
  have HD := Lib.hid hd
  have hmf : ∀ (fn : Fn) (first cap : Array Value) (w : World), (Instr.makeFunc fn first cap).run Try.prog w = .ok (.func fn first cap) w := fun _ _ _ _ => rfl
  clear hd he
  go_enter Try.func53, Try.ntmps53
  go_wp2_with fail
  refine (Copy_any hR.out (by omega) (fun k hk => by rw [HD.out.2 k hk]; omega)).mono ?_
  rintro e w1 ⟨z, cz, rfl, ho1, hb1⟩
  have hBm : w1.cell? ⟨w.heap.size, 0, none⟩ = some (.slice a n cap) := hb1.keep (by simp) (by rw [World.cell?_alloc_at _ _ _ _ rfl]; rfl)
  have hfm : w1.frozen? ⟨w.heap.size, 0, none⟩ = false := by rw [hb1.frozen (by simp)]; exact World.frozen?_alloc_at _ _ _ _ rfl
  have hz1 : w.heap.size + 1 ≤ w1.heap.size := by have := hb1.size; simpa using this
  have hz2 : ¬ w1.heap.size = w.heap.size := by omega
  have hz3 : w.heap.size < w1.heap.size := by omega
  obtain ⟨g, D, C, hzz, hd1⟩ := ho1.named (by omega) fun i hi => by rw [HD.out.2 i hi]; omega
  subst hzz
  have g1 := hd1.lowO
  have hb0 : Below w.heap.size w w1 := ((Below.refl _ _).alloc (Nat.le_refl _) _).trans (hb1.mono (by simp))
  go_wp2
  have hst : DSt w ((w1.setCell ⟨w.heap.size, 0, none⟩ (.slice (some ⟨g, 0, none⟩) n cz)).alloc (.cells #[.int .i64 1] 3)) w.heap.size w1.heap.size g D C n cz M 1 := by
    simp at hd1 g1
    refine ⟨(hd1.setElse (p := ⟨w.heap.size, 0, none⟩) (by simp; omega) (fun i hi => by have := (hd1.lowI hi).1; simp; omega) _).alloc _, ?_, ?_, ?_, by omega, by omega, by omega, fun j hj => by have := (hd1.lowI hj).2; omega, fun j hj => by have := (hd1.lowI hj).1; omega, by omega, Nat.le_refl _, (hb0.setCell (Nat.le_refl _) _).alloc (by simp; omega) _⟩
    · rw [World.cell?_alloc_past _ _ _ (by simpa using hz3)]; exact World.cell?_setCell_same _ _ _ hBm
    · rw [World.cell?_alloc_at _ _ _ _ (by simp)]; rfl
    · exact World.frozen?_alloc_at _ _ _ _ (by simp)
  generalize ((w1.setCell ⟨w.heap.size, 0, none⟩ (.slice (some ⟨g, 0, none⟩) n cz)).alloc (.cells #[.int .i64 1] 3)) = w3 at *
  clear hBm hfm hz1 hz2 hz3 g1 hb0 hd1 ho1 hb1
  generalize w1.heap.size = Bo at *
  clear hmf
  go_loopw [3, 6] (fun s i wr => ∃ (c : Nat) (D C : Nat → Nat) (M' : List (List Int)) (sg_ o : Int), c + 1 ≤ n ∧ i = .int .i64 c ∧ s = .int .i64 sg_ ∧ (sg_ = 1 ∨ sg_ = -1) ∧ (-7085880 ≤ o ∧ o ≤ 7085880) ∧ DSt w wr w.heap.size Bo g D C n cz M' o ∧ Hid (BInv n (mx M) c M' sg_ o)) (fun _ i _ => n - (intOf i).toNat)
  case atStart => exact ⟨0, D, C, M, 1, 1, by omega, rfl, rfl, .inl rfl, by omega, hst, S0⟩
  case round =>
    clear hst S0
    obtain ⟨c, D, C, M', sg_, o, hc, rfl, rfl, hsg, hob, hs, hi⟩ := hrel
    have hcm := hs.m
    have hbd : Hid (∀ i j, c ≤ i → i < n → c ≤ j → j < n → -7085880 ≤ en M' i j ∧ en M' i j ≤ 7085880) := fun i j h1 h2 h3 h4 => by
      have := hi.out.bound (b := 9) (by decide) HE.out h1 h2 h3 h4
      have := detB9 (c := c + 1) (by omega)
      omega
    by_cases hlt : c + 1 < n
    · have i0 : (c : Int) + 1 < (n : Int) := by omega
      have i9 : (c : Int) < (n : Int) := by omega
      have hcn : c < n := by omega
      go_wp2
      go_loop [7] (fun i => ∃ k : Nat, c ≤ k ∧ k ≤ n ∧ i = .int .i64 k ∧ Hid (∀ r, c ≤ r → r < k → en M' r c = 0)) (fun i => n - (intOf i).toNat)
      case atStart => exact ⟨c, Nat.le_refl _, by omega, rfl, fun r h1 h2 => absurd h2 (by omega)⟩
      case round =>
        obtain ⟨k, hk1, hk2, rfl, hz⟩ := hrel
        by_cases hkn : k < n
        · have x1 := hs.own.cellO hkn
          rw [hi.out.dim.2 k hkn] at x1
          have x2 := hs.own.cellI hkn (j := c) (by rw [hi.out.dim.2 k hkn]; exact hcn)
          have i1 : (k : Int) < (n : Int) := by omega
          by_cases hp : en M' k c = 0
          · have hp' : (en M' k c == 0) = true := beq_iff_eq.2 hp
            have HP := Lib.hid hp
            clear hp
            go_wp2
            go_round
            case rel => exact ⟨k + 1, by omega, by omega, by go_num, zeros_succ hz.out HP.out⟩
            case measure => simp [intOf]; omega
          · have hp' : (en M' k c == 0) = false := beq_eq_false_iff_ne.2 hp
            have hkn' : ((k : Int) == (n : Int)) = false := beq_eq_false_iff_ne.2 (by omega)
            have HP := Lib.hid hp
            clear hp
            go_upto_if 43 with (fail)
            go_cut [3] (fun s wx => ∃ (D4 C4 : Nat → Nat) (M4 : List (List Int)) (s4 : Int), s = .int .i64 s4 ∧ (s4 = 1 ∨ s4 = -1) ∧ DSt w wx w.heap.size Bo g D4 C4 n cz M4 o ∧ Hid (BInv n (mx M) c M4 s4 o) ∧ Hid (en M4 c c ≠ 0))
            case first =>
              by_cases hck : c = k
              · subst hck
                have z3 : ((c : Int) != (c : Int)) = false := bne_eq_false_iff_eq.2 rfl
                go_wp2_with fail
                go_meet
                exact ⟨D, C, M', sg_, rfl, hsg, hs, hi, HP⟩
              · have z3 : ((k : Int) != (c : Int)) = true := bne_iff_ne.2 (by omega)
                have y1 := hs.own.cellO hcn
                rw [hi.out.dim.2 c hcn] at y1
                have f1 := hs.own.frozenO k
                have f2 := hs.own.frozenO c
                have hnk := hs.n1
                have y3 : (wr.setCell ⟨g, k, none⟩ (.slice (some ⟨D c, 0, none⟩) n (C c))).cell? ⟨g, c, none⟩ = some (.slice (some ⟨D c, 0, none⟩) n (C c)) := by
                  rw [World.cell?_setCell_other _ _ _ _ (by first | (simp; done) | (simp; omega))]; exact y1
                have y4 : (wr.setCell ⟨g, k, none⟩ (.slice (some ⟨D c, 0, none⟩) n (C c))).cell? ⟨w.heap.size, 0, none⟩ = some (.slice (some ⟨g, 0, none⟩) n cz) := by
                  rw [World.cell?_setCell_other _ _ _ _ (by first | (simp; done) | (simp; exact fun e => absurd e.symm hnk))]; exact hcm
                have hsw := (hs.swap2 hkn hcn).drew
                rw [hi.out.dim.2 c hcn, hi.out.dim.2 k hkn, swapL_comm hi.out.dim.1 hkn hcn] at hsw
                have hisw := hi.out.swap (k := k) (by omega) hkn
                have hpsw : en (swapL M' c k) c c ≠ 0 := by
                  rw [en_swapL hi.out.dim hcn hkn, if_neg hck, if_pos rfl]; exact HP.out
                have hsg4 : -sg_ = 1 ∨ -sg_ = -1 := by rcases hsg with rfl | rfl <;> simp
                have v8 : IntKind.i64.wrap (-sg_) = -sg_ := Go.IntWalk.i64_in _ (by omega)
                have HI2 := Lib.hid hisw
                have HP2 := Lib.hid hpsw
                clear hisw hpsw
                go_wp2
                go_region
                clear x1 x2 y1 y3 y4 f1 f2 hcm hp' HP hbd hz hs hi hnk
                generalize ((wr.setCell ⟨g, k, none⟩ (.slice (some ⟨D c, 0, none⟩) n (C c))).setCell ⟨g, c, none⟩ (.slice (some ⟨D k, 0, none⟩) n (C k))).drew = w4 at *
                go_wp2_with fail
                go_meet
                exact ⟨_, _, _, _, rfl, hsg4, hsw, HI2, HP2⟩
            case rest =>
              clear hs hi hz hcm x1 x2 hp' HP hbd hsg hkn' i1 hk1 hk2 hkn
              obtain ⟨D4, C4, M4, s4, rfl, hsg4, hs4, HI4_, HP4_⟩ := hcut
              have hi4 := HI4_.out
              have hpc := HP4_.out
              clear HI4_ HP4_
              have HQ := Lib.hid (quotients hi4 HE.out h5 hlt hpc)
              obtain ⟨Q, hQ⟩ := HQ.out
              have HQQ := Lib.hid hQ
              have HI4 := Lib.hid hi4
              have HPC := Lib.hid hpc
              have HB4 : Hid (∀ i j, c ≤ i → i < n → c ≤ j → j < n → -7085880 ≤ en M4 i j ∧ en M4 i j ≤ 7085880) := fun i j h1 h2 h3 h4 => by
                have := hi4.bound (b := 9) (by decide) HE.out h1 h2 h3 h4
                have := detB9 (c := c + 1) (by omega)
                omega
              clear hQ HQ hi4 hpc
              have hm4 := hs4.m
              have onz := HI4.out.nz
              go_wp2
              go_loopw [8] (fun i wr => ∃ (k : Nat) (M5 : List (List Int)), c + 1 ≤ k ∧ k ≤ n ∧ i = .int .i64 k ∧ DSt w wr w.heap.size Bo g D4 C4 n cz M5 o ∧ Hid (Is n M5 (barP M4 c k 0 Q))) (fun i _ => n - (intOf i).toNat)
              case atStart => exact ⟨c + 1, M4, Nat.le_refl _, by omega, by go_num, hs4, ⟨HI4.out.dim, fun i j _ _ => by unfold barP; rw [if_neg (by omega)]⟩⟩
              case round =>
                clear hs4 hm4
                obtain ⟨k2, M5, hk3, hk4, rfl, hs7, hi7⟩ := hrel
                have z2 := hs7.m
                by_cases hlt2 : k2 < n
                · have j1 : (k2 : Int) < (n : Int) := by omega
                  go_wp2
                  go_loopw [9] (fun i wr => ∃ (j : Nat) (M5 : List (List Int)), c + 1 ≤ j ∧ j ≤ n ∧ i = .int .i64 j ∧ DSt w wr w.heap.size Bo g D4 C4 n cz M5 o ∧ Hid (Is n M5 (barP M4 c k2 j Q))) (fun i _ => n - (intOf i).toNat)
                  case atStart => exact ⟨c + 1, M5, Nat.le_refl _, by omega, by go_num, hs7, hi7.out.congr fun i j _ _ => by
                    unfold barP
                    by_cases e : c < i ∧ i < k2 ∧ c < j
                    · rw [if_pos (.inl e), if_pos (.inl e)]
                    · rw [if_neg (by omega), if_neg (by omega)]⟩
                  case round =>
                    clear hs7 z2 hi7
                    obtain ⟨j, M6, hj0, hj1, rfl, hs8, hi8⟩ := hrel
                    have y1 := hs8.m
                    by_cases hlt3 : j < n
                    · have y7 := hs8.o
                      have y2 := hs8.own.cellO hlt2
                      have y3 := hs8.own.cellO hcn
                      have y4 := hs8.own.cellI hlt2 (j := j) (by rw [hi8.out.1.2 k2 hlt2]; exact hlt3)
                      have y5 := hs8.own.cellI hcn (j := c) (by rw [hi8.out.1.2 c hcn]; exact hcn)
                      have y8 := hs8.own.cellI hlt2 (j := c) (by rw [hi8.out.1.2 k2 hlt2]; exact hcn)
                      have y9 := hs8.own.cellI hcn (j := j) (by rw [hi8.out.1.2 c hcn]; exact hlt3)
                      have y6 := hs8.own.frozenI hlt2 (by rw [hi8.out.1.2 k2 hlt2]; omega) j
                      rw [hi8.out.1.2 k2 hlt2] at y2
                      rw [hi8.out.1.2 c hcn] at y3
                      rw [hi8.out.2 k2 j hlt2 hlt3, show barP M4 c k2 j Q k2 j = en M4 k2 j by unfold barP; rw [if_neg (by omega)]] at y4
                      rw [hi8.out.2 c c hcn hcn, show barP M4 c k2 j Q c c = en M4 c c by unfold barP; rw [if_neg (by omega)]] at y5
                      rw [hi8.out.2 k2 c hlt2 hcn, show barP M4 c k2 j Q k2 c = en M4 k2 c by unfold barP; rw [if_neg (by omega)]] at y8
                      rw [hi8.out.2 c j hcn hlt3, show barP M4 c k2 j Q c j = en M4 c j by unfold barP; rw [if_neg (by omega)]] at y9
                      have q1 := HQQ.out k2 j (by omega) hlt2 (by omega) hlt3
                      have C := Lib.hid (fun w' (a1 : w'.cell? _ = _) (a2 : w'.cell? _ = _) (a3 : w'.cell? _ = _) (a4 : w'.cell? _ = _) (a5 : w'.cell? _ = _) (a6 : w'.cell? _ = _) (a7 : w'.cell? _ = _) (a8 : w'.cell? _ = _) => cross_any (w := w') (Bm := w.heap.size) (Bo := Bo) (g := g) (ba := D4 k2) (bc := D4 c) (cap := cz) (c1 := C4 k2) (c2 := C4 c) hlt2 hlt3 hcn a1 a2 a3 a4 a5 a6 a7 a8 (HB4.out k2 j (by omega) hlt2 (by omega) hlt3) (HB4.out c c (Nat.le_refl _) hcn (Nat.le_refl _) hcn) (HB4.out k2 c (by omega) hlt2 (Nat.le_refl _) hcn) (HB4.out c j (Nat.le_refl _) hcn (by omega) hlt3) q1.2 onz q1.1)
                      have hset : Hid (Is n (setE M6 k2 j (Q k2 j)) (barP M4 c k2 (j + 1) Q)) := by
                        refine Is.congr (hi8.out.set _) fun r s hr hs => ?_
                        unfold barP
                        by_cases e4 : k2 = r ∧ j = s
                        · obtain ⟨rfl, rfl⟩ := e4
                          rw [if_pos ⟨rfl, rfl⟩, if_pos (by omega)]
                        · rw [if_neg e4]
                          by_cases e5 : (c < r ∧ r < k2 ∧ c < s) ∨ (r = k2 ∧ c < s ∧ s < j)
                          · rw [if_pos e5, if_pos (by omega)]
                          · rw [if_neg e5, if_neg (by omega)]
                      have c1 : (c : Int) < (n : Int) := by omega
                      have c3 : (j : Int) < (n : Int) := by omega
                      generalize hqv : Q k2 j = qv at *
                      clear q1
                      go_wp2
                      go_region_with (first | (go_at_call 85; refine (C.out _ ?_ ?_ ?_ ?_ ?_ ?_ ?_ ?_).mono ?_; exact y1; exact y7; exact y2; exact y3; exact y4; exact y5; exact y8; exact y9; rintro e w9 ⟨rfl, m9, rfl⟩))
                      all_goals
                        have hs9 := (hs8.drewN (1 + m9)).setE (j := j) hlt2 qv
                        clear y1 y2 y3 y4 y5 y6 y7 y8 y9 C
                        go_wp2
                        go_roundw
                        case rel => exact ⟨j + 1, _, by omega, by omega, by go_num, hs9, hset⟩
                        case measure => simp [intOf]; omega
                    · obtain rfl : j = n := by omega
                      go_wp2
                      go_roundw
                      case rel => exact ⟨k2 + 1, M6, by omega, by omega, by go_num, hs8, hi8.out.congr fun i s hi hs => by
                        unfold barP
                        by_cases e : (c < i ∧ i < k2 ∧ c < s) ∨ (i = k2 ∧ c < s ∧ s < j)
                        · rw [if_pos e, if_pos (by omega)]
                        · rw [if_neg e, if_neg (by omega)]⟩
                      case measure => simp [intOf]; omega
                · obtain rfl : k2 = n := by omega
                  have x1 := hs7.own.cellO hcn
                  rw [hi7.out.1.2 c hcn] at x1
                  have x2 := hs7.own.cellI hcn (j := c) (by rw [hi7.out.1.2 c hcn]; exact hcn)
                  rw [hi7.out.2 c c hcn hcn, show barP M4 c k2 0 Q c c = en M4 c c by unfold barP; rw [if_neg (by omega)]] at x2
                  have y7 := hs7.o
                  have y8 := hs7.fo
                  have hst := hs7.setO (en M4 c c)
                  have HN : Hid (BInv k2 (mx M) (c + 1) M5 s4 (en M4 c c)) := HI4.out.step hlt HPC.out hi7.out.1 fun i j h1 h2 h3 h4 => by
                    rw [hi7.out.2 i j h2 h4, show barP M4 c k2 0 Q i j = Q i j by unfold barP; rw [if_pos (.inl ⟨h1, h2, h3⟩)]]
                    exact (HQQ.out i j h1 h2 h3 h4).1.symm
                  have ob := HB4.out c c (Nat.le_refl _) hcn (Nat.le_refl _) hcn
                  go_wp2
                  go_roundw
                  case rel => exact ⟨c + 1, D4, C4, M5, s4, _, by omega, by go_num, rfl, hsg4, ob, hst, HN⟩
                  case measure => simp [intOf]; omega
        · obtain rfl : k = n := by omega
          have hkn' : ((k : Int) == (k : Int)) = true := beq_iff_eq.2 rfl
          have HZ : Hid (det k (mx M) = 0) := hi.out.zero hcn hz.out
          go_wp2
          go_ret
          exact ⟨congrArg (fun x => Ending.returned (.int .i64 x)) HZ.out.symm, hs.bel⟩
    · obtain rfl : n = c + 1 := by omega
      have HF : Hid (sg_ * en M' c c = det (c + 1) (mx M)) := hi.out.done rfl
      have x1 := hs.own.cellO (i := c) (by omega)
      rw [hi.out.dim.2 c (by omega)] at x1
      have x2 := hs.own.cellI (i := c) (by omega) (j := c) (by rw [hi.out.dim.2 c (by omega)]; omega)
      have b1 := hbd.out c c (Nat.le_refl _) (by omega) (Nat.le_refl _) (by omega)
      have u1 : IntKind.i64.wrap (sg_ * en M' c c) = sg_ * en M' c c := Go.IntWalk.i64_in _ (by rcases hsg with rfl | rfl <;> omega)
      obtain ⟨N, hN⟩ : ∃ N, N = c + 1 := ⟨_, rfl⟩
      have HN := Lib.hid hN
      rw [← hN] at hcm x1 ⊢
      have i0 : ¬ (c : Int) + 1 < (N : Int) := by omega
      have u2 : IntKind.i64.wrap ((N : Int) - 1) = (c : Int) := by rw [Go.IntWalk.i64_in _ (by omega)]; omega
      have i1 : (c : Int) < (N : Int) := by omega
      clear hN
      go_wp2
      go_quiet (fail)
      go_wp2
      go_ret
      exact ⟨congrArg (fun x => Ending.returned (.int .i64 x)) HF.out, below_drewN hs.bel _⟩
end Go.Proofs.Ytfocfgddlnjfmaa
