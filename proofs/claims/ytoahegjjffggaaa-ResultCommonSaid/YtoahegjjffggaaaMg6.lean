/-
  Package result walked: the check, the matrix, its determinant.
  Rows moved about as a whole; the resultant the other way round. Plain Lean on the words of the walks.
  The closed fact of the statements on resultants.
  Steps of a matrix by the prime: how many there are, and that they are one form. No program in sight.
  The walk of det.Sign: an order's sign, by its cycles.
-/
import Derived.Test.YtoahegjjffggaaaRows
import Derived.Test.YtoahegjjffggaaaMg0
import Derived.Test.YtoahegjjffggaaaMg1
import Derived.Test.YtoahegjjffggaaaMg2
import Derived.Test.YtoahegjjffggaaaMg3
import Derived.Test.YtoahegjjffggaaaMg4
import Derived.Test.YtoahegjjffggaaaMg5
namespace Go.Proofs.Ytoahegjjffggaaa
open Go.RowKit Go.Rk

section
variable {a b : Option Addr} {p q ca cb : Nat} {f g : List Int} {w : World}
set_option maxHeartbeats 4000000 in
set_option maxRecDepth 100000 in
theorem result_Check_any (hf : RdI w a p ca f) (hg : RdI w b q cb g) :
    Calls Try.prog 43 #[.slice a p ca, .slice b q cb] w fun e w' => e = .returned (errV (twoR f g)) ∧ w = w' := by
  have lf := hf.len_max
  have lg := hg.len_max
  have B1 := Lib.hid hf.len_eq
  have B2 := Lib.hid hg.len_eq
  have A1 := any_any a p ca f 0 9972 w hf
  have A2 := any_any b q cb g 0 9972 w hg
  by_cases h1 : p = 0
  · have hs : twoR f g = some 5 := by unfold twoR; rw [B1.out, B2.out]; rw [if_pos (.inl h1)]
    rw [hs]
    clear hs
    have z1 : ((p : Int) == 0) = true := beq_iff_eq.2 (by omega)
    clear h1
    have A1 := Lib.hid A1
    have A2 := Lib.hid A2
    go_enter Try.func43, Try.ntmps43
    go_wp2
    go_ret
    exact ⟨rfl, rfl⟩
  have z1 : ((p : Int) == 0) = false := beq_eq_false_iff_ne.2 (by omega)
  by_cases h2 : q = 0
  · have hs : twoR f g = some 5 := by unfold twoR; rw [B1.out, B2.out]; rw [if_pos (.inr h2)]
    rw [hs]
    clear hs
    have z2 : ((q : Int) == 0) = true := beq_iff_eq.2 (by omega)
    clear h1 h2
    have A1 := Lib.hid A1
    have A2 := Lib.hid A2
    go_enter Try.func43, Try.ntmps43
    go_wp2
    go_ret
    exact ⟨rfl, rfl⟩
  have z2 : ((q : Int) == 0) = false := beq_eq_false_iff_ne.2 (by omega)
  rcases h3 : anyB 0 9972 f with _ | _
  · rcases h4 : anyB 0 9972 g with _ | _
    · rw [h3] at A1
      rw [h4] at A2
      obtain ⟨bf, of_, rfl, _, cf⟩ := hf.at (k := p - 1) (by omega)
      obtain ⟨bg, og, rfl, _, cg⟩ := hg.at (k := q - 1) (by omega)
      have y1 := cf (p - 1) (by omega)
      have y2 := cg (q - 1) (by omega)
      have t1 : ((p : Int) - 1).toNat = p - 1 := by omega
      have t2 : ((q : Int) - 1).toNat = q - 1 := by omega
      have i1 : (0 : Int) ≤ (p : Int) - 1 := by omega
      have i2 : (0 : Int) ≤ (q : Int) - 1 := by omega
      have i3 : (1 : Int) ≤ (p : Int) := by omega
      have i4 : (1 : Int) ≤ (q : Int) := by omega
      have i5 : (p : Int) - 1 < (p : Int) := by omega
      have i6 : (q : Int) - 1 < (q : Int) := by omega
      clear cf cg
      by_cases h5 : ix f (p - 1) = 0
      · have hs : twoR f g = some 3 := by unfold twoR; rw [B1.out, B2.out]; rw [if_neg (by omega), h3, h4, if_neg (by simp), if_pos (.inl h5)]
        rw [hs]
        clear hs
        have z3 : (ix f (p - 1) == 0) = true := beq_iff_eq.2 h5
        clear h1 h2 h3 h4 h5
        have A1 := Lib.hid A1
        have A2 := Lib.hid A2
        go_enter Try.func43, Try.ntmps43
        go_wp2_with (first | (go_at_call 68; first | ((with_reducible refine A1.out.mono ?_); rintro e w' ⟨rfl, rfl⟩) | ((with_reducible refine A2.out.mono ?_); rintro e w' ⟨rfl, rfl⟩)))
        go_ret
        exact ⟨rfl, rfl⟩
      have z3 : (ix f (p - 1) == 0) = false := beq_eq_false_iff_ne.2 h5
      by_cases h6 : ix g (q - 1) = 0
      · have hs : twoR f g = some 3 := by unfold twoR; rw [B1.out, B2.out]; rw [if_neg (by omega), h3, h4, if_neg (by simp), if_pos (.inr h6)]
        rw [hs]
        clear hs
        have z4 : (ix g (q - 1) == 0) = true := beq_iff_eq.2 h6
        clear h1 h2 h3 h4 h5 h6
        have A1 := Lib.hid A1
        have A2 := Lib.hid A2
        go_enter Try.func43, Try.ntmps43
        go_wp2_with (first | (go_at_call 68; first | ((with_reducible refine A1.out.mono ?_); rintro e w' ⟨rfl, rfl⟩) | ((with_reducible refine A2.out.mono ?_); rintro e w' ⟨rfl, rfl⟩)))
        go_ret
        exact ⟨rfl, rfl⟩
      have z4 : (ix g (q - 1) == 0) = false := beq_eq_false_iff_ne.2 h6
      have CO := fun w' => out_any (wrap64 (wrap64 ((p : Int) + (q : Int)) - 2)) 1 5 w'
      have HW := wrap_two (p := p) (q := q) (by omega) (by omega) (by omega) (by omega)
      rcases h7 : outB ((p : Int) + q - 2) 1 5 with _ | _
      · have hs : twoR f g = none := by unfold twoR; rw [B1.out, B2.out]; rw [if_neg (by omega), h3, h4, if_neg (by simp), if_neg (fun e => e.elim h5 h6), h7]; rfl
        rw [hs]
        clear hs
        simp only [HW, h7] at CO
        clear HW
        have CO := Lib.hid CO
        clear h1 h2 h3 h4 h5 h6 h7
        have A1 := Lib.hid A1
        have A2 := Lib.hid A2
        go_enter Try.func43, Try.ntmps43
        go_wp2_with (first | (go_at_call 68; first | ((with_reducible refine A1.out.mono ?_); rintro e w' ⟨rfl, rfl⟩) | ((with_reducible refine A2.out.mono ?_); rintro e w' ⟨rfl, rfl⟩)) | (go_at_call 50; (with_reducible refine (CO.out _).mono ?_); rintro e w' ⟨rfl, rfl⟩))
        go_ret
        exact ⟨rfl, rfl⟩
      · have hs : twoR f g = some 4 := by unfold twoR; rw [B1.out, B2.out]; rw [if_neg (by omega), h3, h4, if_neg (by simp), if_neg (fun e => e.elim h5 h6), h7]; rfl
        rw [hs]
        clear hs
        simp only [HW, h7] at CO
        clear HW
        have CO := Lib.hid CO
        clear h1 h2 h3 h4 h5 h6 h7
        have A1 := Lib.hid A1
        have A2 := Lib.hid A2
        go_enter Try.func43, Try.ntmps43
        go_wp2_with (first | (go_at_call 68; first | ((with_reducible refine A1.out.mono ?_); rintro e w' ⟨rfl, rfl⟩) | ((with_reducible refine A2.out.mono ?_); rintro e w' ⟨rfl, rfl⟩)) | (go_at_call 50; (with_reducible refine (CO.out _).mono ?_); rintro e w' ⟨rfl, rfl⟩))
        go_ret
        exact ⟨rfl, rfl⟩
    · rw [h3] at A1
      rw [h4] at A2
      have hs : twoR f g = some 1 := by unfold twoR; rw [B1.out, B2.out]; rw [if_neg (by omega), h3, h4, if_pos (by simp)]
      rw [hs]
      clear hs
      clear h1 h2 h3 h4
      have A1 := Lib.hid A1
      have A2 := Lib.hid A2
      go_enter Try.func43, Try.ntmps43
      go_wp2_with (first | (go_at_call 68; first | ((with_reducible refine A1.out.mono ?_); rintro e w' ⟨rfl, rfl⟩) | ((with_reducible refine A2.out.mono ?_); rintro e w' ⟨rfl, rfl⟩)))
      go_ret
      exact ⟨rfl, rfl⟩
  · rw [h3] at A1
    have hs : twoR f g = some 1 := by unfold twoR; rw [B1.out, B2.out]; rw [if_neg (by omega), h3, if_pos (by simp)]
    rw [hs]
    clear hs
    clear h1 h2 h3
    have A1 := Lib.hid A1
    have A2 := Lib.hid A2
    go_enter Try.func43, Try.ntmps43
    go_wp2_with (first | (go_at_call 68; first | ((with_reducible refine A1.out.mono ?_); rintro e w' ⟨rfl, rfl⟩) | ((with_reducible refine A2.out.mono ?_); rintro e w' ⟨rfl, rfl⟩)))
    go_ret
    exact ⟨rfl, rfl⟩
end

set_option maxHeartbeats 4000000 in
set_option maxRecDepth 100000 in
theorem put_any {B gg Bx fr mn n cap p cl : Nat} {D C : Nat → Nat} {P : List (List Int)} {l : List Int} {al : Option Addr} {w : World} (h : OwMD w B 22 3 gg D C n cap P) (dP : Dm n n P)
    (hx : w.cell? ⟨Bx, 0, none⟩ = some (.slice (some ⟨gg, 0, none⟩) n cap)) (hxl : Bx < w.heap.size) (hx2 : ∀ j, j < n → Bx ≠ D j) (hl : RdI w al p cl l) (hlB : ∀ b off, al = some ⟨b, off, none⟩ → b < B) (hp : 1 ≤ p) (hfm : fr + mn ≤ n) (hmp : mn + p ≤ n + 1) (hn : n ≤ 1000) :
    Calls Try.prog 81 #[.int .i64 fr, .int .i64 mn, .slice al p cl, .pointer (some ⟨Bx, 0, none⟩)] w fun e w' => e = .returned (.tuple #[]) ∧ ∃ P', OwMD w' B 22 3 gg D C n cap P' ∧ IsR n n P' (putQ l fr P mn 0) ∧ KeptBut n D w w' ∧ Below B w w' := by
  have HL := Lib.hid hl.len_eq
  have HX2 := Lib.hid hx2
  have HLB := Lib.hid hlB
  have h0 : Hid (IsR n n P (putQ l fr P 0 0)) := ⟨dP, fun r j hr hj => by
    unfold putQ
    rw [if_neg (by omega)]⟩
  obtain ⟨bl, ol, rfl, _, hc0⟩ := hl.at (k := 0) (by omega)
  have HC := Lib.hid hc0
  have hbl : bl < B := hlB bl ol rfl
  clear dP hx2 hlB hc0
  go_enter Try.func81, Try.ntmps81
  go_wp2
  go_loopw [11] (fun v wr => ∃ (i : Nat) (P2 : List (List Int)), i ≤ mn ∧ v = .int .i64 i ∧ OwMD wr B 22 3 gg D C n cap P2 ∧ Hid (IsR n n P2 (putQ l fr P i 0)) ∧ KeptBut n D w wr ∧ Below B w wr) (fun v _ => mn - (intOf v).toNat)
  case atStart => exact ⟨0, P, Nat.zero_le _, rfl, h, h0, KeptBut.refl _ _ _, Below.refl _ _⟩
  case round =>
    clear h h0
    obtain ⟨i, P2, hi, rfl, hd, hi2, kb, hb⟩ := hrel
    by_cases him : i < mn
    · have i1 : (i : Int) < (mn : Int) := by omega
      go_wp2
      go_loopw [16] (fun v wt => ∃ (k : Nat) (P3 : List (List Int)), k ≤ p ∧ v = .int .i64 k ∧ OwMD wt B 22 3 gg D C n cap P3 ∧ Hid (IsR n n P3 (putQ l fr P i k)) ∧ KeptBut n D w wt ∧ Below B w wt) (fun v _ => p - (intOf v).toNat)
      case atStart => exact ⟨0, P2, Nat.zero_le _, rfl, hd, hi2, kb, hb⟩
      case round =>
        clear hd hi2 kb hb
        obtain ⟨k, P3, hk, rfl, hd, hi3, kb, hb⟩ := hrel
        by_cases hkp : k < p
        · have i2 : (k : Int) < (p : Int) := by omega
          have hrn : fr + i < n := by omega
          have y0 : wr.cell? ⟨Bx, 0, none⟩ = some (.slice (some ⟨gg, 0, none⟩) n cap) := by
            have e1 := kb.2 Bx hxl fun j hj => HX2.out j hj
            exact (World.cell?_of_block (w := w) e1).trans hx
          have y1 := hb.keep hbl (HC.out k hkp)
          have x1 := hd.cellO hrn
          rw [hi3.out.1.2 _ hrn] at x1
          have hcol : i + p - 1 - k < n := by omega
          have x2 := hd.cellI hrn (j := i + p - 1 - k) (by rw [hi3.out.1.2 _ hrn]; exact hcol)
          have x3 := hd.frozenI hrn (by rw [hi3.out.1.2 _ hrn]; omega) (i + p - 1 - k)
          have t1 : ((fr : Int) + (i : Int)).toNat = fr + i := by omega
          have t2 : ((i : Int) + (p : Int) - 1 - (k : Int)).toNat = i + p - 1 - k := by omega
          have j1 : (fr : Int) + (i : Int) < (n : Int) := by omega
          have j2 : (0 : Int) ≤ (fr : Int) + (i : Int) := by omega
          have j3 : (0 : Int) ≤ (i : Int) + (p : Int) - 1 - (k : Int) := by omega
          have j4 : (i : Int) + (p : Int) - 1 - (k : Int) < (n : Int) := by omega
          have hlp := hl.len_max
          go_wp2
          go_roundw
          case rel => exact ⟨k + 1, _, by omega, by go_num, hd.set matTy.ne hrn _, ⟨hi3.out.1.setE _ _ _, fun r j hr hj => by
            rw [hi3.out.1.en_set _ hr hj]
            by_cases e : fr + i = r ∧ i + p - 1 - k = j
            · rw [if_pos e]
              unfold putQ
              rw [if_pos (by rw [HL.out]; omega), HL.out]
              congr 1
              omega
            · rw [if_neg e, hi3.out.2 r j hr hj]
              unfold putQ
              by_cases e2 : fr ≤ r ∧ ((r - fr < i ∧ r - fr ≤ j ∧ j < (r - fr) + l.length) ∨ (r - fr = i ∧ i + (l.length - k) ≤ j ∧ j < i + l.length))
              · rw [if_pos e2, if_pos (by rw [HL.out] at e2 ⊢; omega)]
              · rw [if_neg e2, if_neg (by rw [HL.out] at e2 ⊢; omega)]⟩, kb.set hrn _, hb.setCell (p := ⟨D (fr + i), i + p - 1 - k, none⟩) (hd.lowI hrn).1 _⟩
          case measure => simp [intOf]; omega
        · obtain rfl : p = k := by omega
          go_wp2
          go_roundw
          case rel => exact ⟨i + 1, P3, by omega, by go_num, hd, hi3.out.congr fun r j hr hj => by
            unfold putQ
            by_cases e2 : fr ≤ r ∧ ((r - fr < i ∧ r - fr ≤ j ∧ j < (r - fr) + l.length) ∨ (r - fr = i ∧ i + (l.length - p) ≤ j ∧ j < i + l.length))
            · rw [if_pos e2, if_pos (by rw [HL.out] at e2 ⊢; omega)]
            · rw [if_neg e2, if_neg (by rw [HL.out] at e2 ⊢; omega)], kb, hb⟩
          case measure => simp [intOf]; omega
    · obtain rfl : mn = i := by omega
      go_wp2
      go_end0
      exact ⟨by simp, P2, hd, hi2.out, kb, hb⟩

set_option maxHeartbeats 4000000 in
set_option maxRecDepth 100000 in
theorem full_any {a b : Option Addr} {p q ca cb : Nat} {f g : List Int} {w : World} (hf : RdI w a p ca f) (hg : RdI w b q cb g) (hp : 1 ≤ p) (hq : 1 ≤ q) (h3 : 3 ≤ p + q) (h7 : p + q ≤ 1000) :
    Calls Try.prog 45 #[.slice a p ca, .slice b q cb] w fun e w' => ∃ z cz, e = .returned (.slice z (p + q - 2) cz) ∧ OwM w' w.heap.size 22 3 z (p + q - 2) cz (rowsF (sylM f g) (p + q - 2) (p + q - 2)) ∧ Below w.heap.size w w' := by
  obtain ⟨n, hn⟩ : ∃ n, n = p + q - 2 := ⟨_, rfl⟩
  rw [← hn]
  have t0 : (p : Int) + (q : Int) - 2 = (n : Int) := by omega
  have HN : Hid (n + 2 = p + q) := by unfold Hid; omega
  have HF := Lib.hid hf.len_eq
  have HG := Lib.hid hg.len_eq
  have hmf : ∀ (fn : Fn) (first cap : Array Value) (w : World), (Instr.makeFunc fn first cap).run Try.prog w = .ok (.func fn first cap) w := fun _ _ _ _ => rfl
  have hn1 : 1 ≤ n := by omega
  have hn2 : n ≤ 1000 := by omega
  obtain ⟨bf, of_, rfl, hbf, _⟩ := hf.at (k := 0) (by omega)
  obtain ⟨bg, og, rfl, hbg, _⟩ := hg.at (k := 0) (by omega)
  have T0 := Lib.hid t0
  have u0 : IntKind.i64.wrap ((p : Int) + (q : Int) - 2) = (n : Int) := by rw [t0]; exact Go.IntWalk.i64_in _ (by omega)
  have u1 : IntKind.i64.wrap ((q : Int) - 1) = ((q - 1 : Nat) : Int) := by rw [show (q : Int) - 1 = ((q - 1 : Nat) : Int) from by omega]; exact Go.IntWalk.i64_in _ (by omega)
  have u2 : IntKind.i64.wrap ((p : Int) - 1) = ((p - 1 : Nat) : Int) := by rw [show (p : Int) - 1 = ((p - 1 : Nat) : Int) from by omega]; exact Go.IntWalk.i64_in _ (by omega)
  clear hn t0
  go_enter Try.func45, Try.ntmps45
  go_wp2_with fail
  refine (Grid_any n n _ hn2 hn2).mono ?_
  rintro e w1 ⟨z, cz, rfl, ho1, hb1⟩
  have hdm := Dm.replicate n n 0
  obtain ⟨gg, D, C, hzz, hd1⟩ := ho1.named (by omega) fun i hi => by rw [hdm.2 i hi]; omega
  subst hzz
  have HDM := Lib.hid hdm
  clear ho1 hdm
  go_wp2_with fail
  have hbx : (w1.alloc (.cells #[.slice (some ⟨gg, 0, none⟩) n cz] 43)).cell? ⟨w1.heap.size, 0, none⟩ = some (.slice (some ⟨gg, 0, none⟩) n cz) := by simp
  have hbl : w1.heap.size < (w1.alloc (.cells #[.slice (some ⟨gg, 0, none⟩) n cz] 43)).heap.size := by simp
  have hb2 := hb1.alloc hb1.size (.cells #[.slice (some ⟨gg, 0, none⟩) n cz] 43)
  have hd2 := hd1.alloc (.cells #[.slice (some ⟨gg, 0, none⟩) n cz] 43)
  have HDI : Hid (∀ j, j < n → w1.heap.size ≠ D j) := fun j hj => by have := (hd1.lowI hj).2; omega
  clear hd1 hb1
  generalize w1.alloc (.cells #[.slice (some ⟨gg, 0, none⟩) n cz] 43) = w2 at *
  generalize w1.heap.size = Bx at *
  have C := put_any (fr := 0) (mn := q - 1) hd2 HDM.out hbx hbl HDI.out (hf.below hb2) (fun b off e => by cases e; exact hbf) hp (by have := HN.out; omega) (by have := HN.out; omega) hn2
  rw [show (((0 : Nat) : Int)) = 0 from rfl] at C
  have C := Lib.hid C
  (with_reducible refine C.out.mono ?_)
  clear C
  rintro e w3 ⟨rfl, P1, hd3, hi1, kb1, hb3⟩
  have hbx3 : w3.cell? ⟨Bx, 0, none⟩ = some (.slice (some ⟨gg, 0, none⟩) n cz) := (World.cell?_of_block (w := w2) (kb1.2 Bx hbl HDI.out)).trans hbx
  have hbl3 : Bx < w3.heap.size := Nat.lt_of_lt_of_le hbl kb1.1
  have k3 := hb2.trans hb3
  have HI1 := Lib.hid hi1
  clear hbx hbl hb2 hd2 kb1 hb3 hi1
  go_wp2_with fail
  have C := Lib.hid (put_any (fr := q - 1) (mn := p - 1) hd3 HI1.out.1 hbx3 hbl3 HDI.out (hg.below k3) (fun b off e => by cases e; exact hbg) hq (by have := HN.out; omega) (by have := HN.out; omega) hn2)
  (with_reducible refine C.out.mono ?_)
  clear C
  rintro e w4 ⟨rfl, P2, hd4, hi2, kb2, hb4⟩
  have hbx4 : w4.cell? ⟨Bx, 0, none⟩ = some (.slice (some ⟨gg, 0, none⟩) n cz) := (World.cell?_of_block (w := w3) (kb2.2 Bx hbl3 HDI.out)).trans hbx3
  have k4 := k3.trans hb4
  have E : Hid (P2 = rowsF (sylM f g) n n) := by
    have l1 := HF.out
    have l2 := HG.out
    refine IsR.same (put_syl (P := List.replicate n (List.replicate n 0)) (by omega) (by omega) (by rw [l1, l2]; exact HN.out) ⟨HDM.out, fun i j hi hj => ?_⟩ (by rw [l2]; exact HI1.out) (by rw [l1, l2]; exact hi2)) (rowsF_is _ _ _)
    unfold en
    rw [rowOf_lt (by simp; exact hi)]
    simp
    rw [ix_lt (by simp; exact hj)]
    simp
  clear hbx3 hbl3 k3 hd3 HI1 hi2 kb2 hb4
  go_wp2
  go_ret
  exact ⟨_, cz, rfl, by rw [← E.out]; exact hd4.toM, k4⟩

section
variable {a b : Option Addr} {p q ca cb : Nat} {f g : List Int} {w : World}
theorem result_Check_is {o : Option Int} (hf : RdI w a p ca f) (hg : RdI w b q cb g) (h : twoR f g = o) :
    Calls Try.prog 43 #[.slice a p ca, .slice b q cb] w fun e w' => e = .returned (errV o) ∧ w = w' := by
  have := result_Check_any hf hg
  rw [h] at this
  exact this
/-- The resultant. -/
def resV (f g : List Int) : Int := det (f.length + g.length - 2) (sylM f g) % 9973
theorem result_Of_err {c : Int} (hf : RdI w a p ca f) (hg : RdI w b q cb g) (h : twoR f g = some c) :
    Calls Try.prog 14 #[.slice a p ca, .slice b q cb] w fun e w' => e = .returned (.tuple #[.int .i64 0, .iface 59 (.int .i64 c)]) ∧ w = w' := by
  have C := Lib.hid (result_Check_is hf hg h)
  clear h
  go_enter Try.func14, Try.ntmps14
  go_wp2_with (go_at_call 43; (with_reducible refine C.out.mono ?_); rintro e w' ⟨rfl, rfl⟩; simp only [errV])
  go_ret2
  exact ⟨rfl, rfl⟩
theorem syl_good {f g : List Int} (h : twoR f g = none) {n : Nat} (hn : n = f.length + g.length - 2) : Good n n (rowsF (sylM f g) n n) := by
  obtain ⟨g1, g2, g3, g4, _, _, g7, g8⟩ := twoR_none h
  exact ⟨by omega, by omega, (rowsF_is _ _ _).1, fun i j hi hj => by rw [(rowsF_is _ _ _).2 i j hi hj]; exact sylM_in g3 g4 i j⟩
theorem syl_det {f g : List Int} {n : Nat} (hn : n = f.length + g.length - 2) : det n (mx (rowsF (sylM f g) n n)) % 9973 = resV f g := by
  subst hn
  unfold resV
  exact congrArg (fun z => z % 9973) (det_congr fun i j hi hj => (rowsF_is _ _ _).2 i j hi hj)
theorem result_Of_ok (hf : RdI w a p ca f) (hg : RdI w b q cb g) (h : twoR f g = none) :
    Calls Try.prog 14 #[.slice a p ca, .slice b q cb] w fun e w' => e = .returned (.tuple #[.int .i64 (resV f g), .nilIface]) ∧ Below w.heap.size w w' := by
  have C := Lib.hid (result_Check_is hf hg h)
  have e1 := hf.len_eq
  have e2 := hg.len_eq
  have G := Lib.hid (syl_good h (n := p + q - 2) (by omega))
  have HV := Lib.hid (syl_det (f := f) (g := g) (n := p + q - 2) (by omega))
  obtain ⟨g1, g2, _, _, _, _, g7, g8⟩ := twoR_none h
  rw [hf.len_eq] at g1 g7 g8
  rw [hg.len_eq] at g2 g7 g8
  have C2 := Lib.hid (full_any hf hg g1 g2 g7 (by omega))
  clear h g1 g2 g7 g8 e1 e2
  go_enter Try.func14, Try.ntmps14
  go_wp2_with (first | (go_at_call 43; (with_reducible refine C.out.mono ?_); rintro e w' ⟨rfl, rfl⟩; simp only [errV]) | (go_at_call 45; (with_reducible refine C2.out.mono ?_); rintro e w' ⟨z, cz, rfl, ho, hb⟩) | (go_at_call 44; fail))
  have C3 := det_Of_ok ho.rd (squareR_of (lo := 0) (hi := 9972) (most := 5) G.out.n1.1 (by have := G.out.n1; omega) G.out.dm G.out.ent)
  rw [HV.out] at C3
  have C3 := Lib.hid C3
  (with_reducible refine C3.out.mono ?_)
  rintro e w2 ⟨rfl, hb2⟩
  go_wp2
  go_ret2
  exact ⟨rfl, below_tr hb hb2⟩
end
end Go.Proofs.Ytoahegjjffggaaa
namespace Go.Proofs.Ytoahegjjffggaaa
open Go.RowKit Go.Rk

/-- The last k of n rows put in front. -/
def rotM (A : Mx) (n k : Nat) : Mx := fun r => if r < k then A (n - k + r) else A (r - k)
def sgk (m : Nat) : Nat → Int
  | 0 => 1
  | k + 1 => sg m * sgk m k
theorem sgk_is (m k : Nat) : sgk m k = if k % 2 = 0 then 1 else sg m := by
  induction k with
  | zero => rfl
  | succ k ih =>
    rw [sgk, ih]
    by_cases h : k % 2 = 0
    · rw [if_pos h, if_neg (by omega), Int.mul_one]
    · rw [if_neg h, if_pos (by omega), sg_sq]
theorem det_rot {n : Nat} (A : Mx) : ∀ k, k ≤ n → det n (rotM A n k) = sgk (n - 1) k * det n A
  | 0, _ => by
    rw [sgk, Int.one_mul]
    exact det_congr fun i j _ _ => by unfold rotM; rw [if_neg (Nat.not_lt_zero _)]; rfl
  | k + 1, hk => by
    have e : det n (rotM A n (k + 1)) = det n (raise (rotM A n k) (n - 1)) := det_congr fun i j hi _ => by
      unfold raise rotM
      by_cases h0 : i = 0
      · subst h0
        rw [if_pos (show 0 < k + 1 by omega), if_pos rfl, if_neg (show ¬ n - 1 < k by omega)]
        congr 1
        omega
      · rw [if_neg h0, if_pos (show i ≤ n - 1 by omega)]
        by_cases h1 : i < k + 1
        · rw [if_pos h1, if_pos (show i - 1 < k by omega)]
          congr 1
          omega
        · rw [if_neg h1, if_neg (show ¬ i - 1 < k by omega)]
          congr 1
          omega
    rw [e, (det_alt n).raise_sign (n - 1) _ (by omega), det_rot A k (by omega), sgk, Int.mul_assoc]

theorem syl_turn {f g : List Int} (hf : 1 ≤ f.length) (hg : 1 ≤ g.length) (h3 : 3 ≤ f.length + g.length) :
    det (g.length + f.length - 2) (sylM g f) = (if (f.length - 1) % 2 = 1 ∧ (g.length - 1) % 2 = 1 then -1 else 1) * det (f.length + g.length - 2) (sylM f g) := by
  have en : g.length + f.length - 2 = f.length + g.length - 2 := by omega
  rw [en]
  have e : det (f.length + g.length - 2) (sylM g f) = det (f.length + g.length - 2) (rotM (sylM f g) (f.length + g.length - 2) (f.length - 1)) := det_congr fun i j hi _ => by
    unfold rotM sylM
    by_cases h : i < f.length - 1
    · rw [if_pos h, if_pos h, if_neg (show ¬ f.length + g.length - 2 - (f.length - 1) + i < g.length - 1 by omega)]
      congr 1
      omega
    · rw [if_neg h, if_neg h, if_pos (show i - (f.length - 1) < g.length - 1 by omega)]
  rw [e, det_rot _ _ (by omega), sgk_is]
  congr 1
  unfold sg
  by_cases h1 : (f.length - 1) % 2 = 0
  · rw [if_pos h1, if_neg (by omega)]
  · rw [if_neg h1]
    by_cases h2 : (g.length - 1) % 2 = 1
    · rw [if_neg (by omega), if_pos (by omega)]
    · rw [if_pos (by omega), if_neg (by omega)]
end Go.Proofs.Ytoahegjjffggaaa
namespace Go.Proofs.Ytoahegjjffggaaa
open Go.RowKit Go.Rk

theorem twoR_turn {f g : List Int} (h : twoR f g = none) : twoR g f = none := by
  obtain ⟨g1, g2, g3, g4, g5, g6, g7, g8⟩ := twoR_none h
  exact twoR_of g2 g1 g4 g3 g6 g5 (by omega) (by omega)
theorem resV_turn {f g : List Int} (h : twoR f g = none) : resV g f = (if (f.length - 1) % 2 = 1 ∧ (g.length - 1) % 2 = 1 then -resV f g else resV f g) % 9973 := by
  obtain ⟨g1, g2, _, _, _, _, g7, _⟩ := twoR_none h
  unfold resV
  rw [syl_turn g1 g2 g7]
  split
  · generalize det (f.length + g.length - 2) (sylM f g) = D
    omega
  · generalize det (f.length + g.length - 2) (sylM f g) = D
    omega
theorem resV_in (f g : List Int) : 0 ≤ resV f g ∧ resV f g ≤ 9972 := by unfold resV; omega

set_option maxHeartbeats 2000000 in
set_option maxRecDepth 100000 in
theorem resultFact_any (w : World) : Calls Try.prog 13 #[] w fun e w' => e = .returned (.bool true) ∧ Below w.heap.size w w' := by
  obtain ⟨a1, ha1⟩ : ∃ o : Obj, o = .cells #[.int .i64 1, .int .i64 1] 3 := ⟨_, rfl⟩
  obtain ⟨a2, ha2⟩ : ∃ o : Obj, o = .cells #[.int .i64 2, .int .i64 0, .int .i64 1] 3 := ⟨_, rfl⟩
  have R1 : Hid (RdI ((w.alloc a1).alloc a2) (some ⟨w.heap.size, 0, none⟩) 2 2 [1, 1]) := by rw [ha1]; exact (RdI.lit w [1, 1] 3 (by decide)).alloc _
  have R2 : Hid (RdI ((w.alloc a1).alloc a2) (some ⟨w.heap.size + 1, 0, none⟩) 3 3 [2, 0, 1]) := by have := RdI.lit' (w.alloc a1) (b := w.heap.size + 1) [2, 0, 1] 3 (by decide) (by simp); rw [ha2]; exact this
  have b0 : Below w.heap.size w ((w.alloc a1).alloc a2) := ((Below.refl _ _).alloc (Nat.le_refl _) _).alloc (by simp) _
  have C1 := result_Of_ok R1.out R2.out (by decide)
  rw [show resV [1, 1] [2, 0, 1] = 3 from by decide +kernel] at C1
  have C1 := Lib.hid C1
  subst ha1
  subst ha2
  go_enter Try.func13, Try.ntmps13
  go_wp2_with fail
  (with_reducible refine C1.out.mono ?_)
  rintro e w1 ⟨rfl, hb1⟩
  have b1 := b0.trans (hb1.mono b0.size)
  go_wp2
  go_ret
  exact ⟨rfl, b1⟩
end Go.Proofs.Ytoahegjjffggaaa
namespace Go.Rk
open Go.RowKit

/-- The rows of B are made of those of A. -/
def Made (n c : Nat) (A B : Mx) : Prop := ∃ K, EqM n c B (mulM n K A)
theorem Made.refl (n c : Nat) (A : Mx) : Made n c A A := ⟨oneM, fun _ _ hi _ => Eqm.of_eq (one_mulM A hi _).symm⟩
theorem Made.trans {n c : Nat} {A B C : Mx} (h : Made n c A B) (g : Made n c B C) : Made n c A C := by
  obtain ⟨K, hK⟩ := h
  obtain ⟨L, hL⟩ := g
  refine ⟨mulM n L K, hL.trans ?_⟩
  rw [mulM_go]
  exact EqM.mul (EqM.refl _ _ _) hK
theorem Made.cols {n c b : Nat} {A B : Mx} (h : Made n c A B) (hb : b ≤ c) : Made n b A B := by
  obtain ⟨K, hK⟩ := h
  exact ⟨K, fun i j hi hj => hK i j hi (by omega)⟩
theorem Made.eqm {n c : Nat} {A B : Mx} (h : EqM n c A B) : Made n c A B := ⟨oneM, h.symm.trans fun _ _ hi _ => Eqm.of_eq (one_mulM A hi _).symm⟩

/-- The product of one with s columns and one with s rows. -/
def Fac (n c s : Nat) (A : Mx) : Prop := ∃ X Y, EqM n c A (mulM s X Y)

theorem sumTo_split (g : Nat → Int) (s t : Nat) : sumTo g (s + t) = sumTo g s + sumTo (fun u => g (s + u)) t := by
  induction t with
  | zero => rw [Nat.add_zero, sumTo]; omega
  | succ t ih => rw [← Nat.add_assoc, sumTo, sumTo, ih]; omega
theorem sumTo_cut {g : Nat → Int} {r n : Nat} (h : r ≤ n) (e : ∀ t, r ≤ t → t < n → Eqm (g t) 0) : Eqm (sumTo g n) (sumTo g r) := by
  obtain ⟨d, rfl⟩ := Nat.le.dest h
  rw [sumTo_split]
  have : Eqm (sumTo (fun u => g (r + u)) d) (sumTo (fun _ => 0) d) := sumTo_eqm fun u hu => e (r + u) (by omega) (by omega)
  rw [sumTo_zero] at this
  have := Eqm.add (Eqm.refl (sumTo g r)) this
  rwa [Int.add_zero] at this

section
variable {n c s t k : Nat} {A B : Mx}
theorem Fac.congr (h : Fac n c s A) (e : EqM n c A B) : Fac n c s B := let ⟨X, Y, hx⟩ := h; ⟨X, Y, e.symm.trans hx⟩
theorem Fac.add (h : Fac n c s A) (g : Fac n c t B) : Fac n c (s + t) (fun i j => A i j + B i j) := by
  obtain ⟨X, Y, hx⟩ := h
  obtain ⟨Z, U, hz⟩ := g
  refine ⟨fun i u => if u < s then X i u else Z i (u - s), fun u j => if u < s then Y u j else U (u - s) j, fun i j hi hj => ?_⟩
  unfold mulM
  rw [sumTo_split]
  refine Eqm.add ((hx i j hi hj).trans (Eqm.of_eq (sumTo_congr fun u hu => by dsimp only; rw [if_pos hu, if_pos hu]))) ((hz i j hi hj).trans (Eqm.of_eq (sumTo_congr fun u _ => by dsimp only; rw [if_neg (by omega), if_neg (by omega), Nat.add_sub_cancel_left])))
theorem Fac.neg (h : Fac n c s A) : Fac n c s (fun i j => -A i j) := by
  obtain ⟨X, Y, hx⟩ := h
  refine ⟨fun i u => -X i u, Y, fun i j hi hj => (Eqm.neg (hx i j hi hj)).trans (Eqm.of_eq ?_)⟩
  unfold mulM
  rw [show -sumTo (fun k => X i k * Y k j) s = (-1) * sumTo (fun k => X i k * Y k j) s by omega, ← sumTo_mul]
  exact sumTo_congr fun u _ => by rw [Int.neg_mul, Int.neg_mul, Int.one_mul]
theorem Fac.mulL (h : Fac n k s A) (B : Mx) : Fac n c s (mulM k A B) := by
  obtain ⟨X, Y, hx⟩ := h
  refine ⟨X, mulM k Y B, (EqM.mul hx (EqM.refl k c B)).trans ?_⟩
  rw [mulM_go]
  exact EqM.refl _ _ _
theorem Fac.mulR (A : Mx) (h : Fac k c s B) : Fac n c s (mulM k A B) := by
  obtain ⟨X, Y, hx⟩ := h
  refine ⟨mulM k A X, Y, (EqM.mul (EqM.refl n k A) hx).trans ?_⟩
  rw [mulM_go]
  exact EqM.refl _ _ _
theorem Fac.tr (h : Fac n c s A) : Fac c n s (trM A) := by
  obtain ⟨X, Y, hx⟩ := h
  refine ⟨trM Y, trM X, fun i j hi hj => (hx j i hj hi).trans (Eqm.of_eq ?_)⟩
  exact congrFun (congrFun (mulM_tr s X Y) i) j
end

/-- Steps: r rows that begin with 1 further and further to the right, each alone in its column; then noughts. -/
structure Stairs (n c r : Nat) (R : Mx) (p : Nat → Nat) : Prop where
  le : r ≤ n
  lt : ∀ i, i < r → p i < c
  inc : ∀ i j, i < j → j < r → p i < p j
  one : ∀ i j, i < n → j < r → Eqm (R i (p j)) (if i = j then 1 else 0)
  low : ∀ i s, r ≤ i → i < n → s < c → Eqm (R i s) 0
  lead : ∀ i s, i < r → s < p i → Eqm (R i s) 0

section
variable {n c r r' s : Nat} {A B R R' : Mx} {p p' : Nat → Nat}
theorem Stairs.fac (h : Stairs n c r R p) (m : Made n c R A) : Fac n c r A := by
  obtain ⟨K, hK⟩ := m
  refine ⟨K, R, fun i j hi hj => (hK i j hi hj).trans ?_⟩
  refine sumTo_cut h.le fun t h1 h2 => ?_
  have := Eqm.mul (Eqm.refl (K i t)) (h.low t j h1 h2 hj)
  rwa [Int.mul_zero] at this

theorem det_narrow {r s : Nat} (hs : s < r) (P Q : Mx) : det r (mulM s P Q) = 0 := by
  have e : det r (mulM s P Q) = det r (mulM r (fun i t => if t < s then P i t else 0) Q) := by
    refine det_congr fun i j _ _ => ?_
    unfold mulM
    obtain ⟨d, rfl⟩ := Nat.le.dest (Nat.le_of_lt hs)
    rw [sumTo_split, sumTo_congr (g := fun u => (if s + u < s then P i (s + u) else 0) * Q (s + u) j) (h := fun _ => 0) fun u _ => by rw [if_neg (by omega), Int.zero_mul], sumTo_zero, Int.add_zero]
    exact sumTo_congr fun u hu => by dsimp only; rw [if_pos hu]
  rw [e, det_mul, ← det_tr, (det_alt r).zero_row _ hs fun c _ => by show (if s < s then _ else (0 : Int)) = 0; rw [if_neg (by omega)]]
  omega

theorem Stairs.no_less (h : Stairs n c r R p) (m : Made n c A R) (f : Fac n c s A) : r ≤ s := by
  rcases Nat.lt_or_ge s r with hs | hs
  · exfalso
    obtain ⟨K, hK⟩ := m
    obtain ⟨X, Y, hx⟩ := f
    have e : EqM n c R (mulM s (mulM n K X) Y) := by
      rw [mulM_go]
      exact hK.trans (EqM.mul (EqM.refl _ _ _) hx)
    have d : Eqm (det r (mulM s (mulM n K X) fun t j => Y t (p j))) (det r idM) := det_eqm fun i j hi hj => by
      have h1 := h.one i j (by have := h.le; omega) hj
      refine (e i (p j) (by have := h.le; omega) (h.lt j hj)).symm.trans (h1.trans (Eqm.of_eq ?_))
      unfold idM unit_
      by_cases e : i = j
      · rw [if_pos e, if_pos e.symm]
      · rw [if_neg e, if_neg fun x => e x.symm]
    rw [det_narrow hs, det_id] at d
    exact absurd d (by unfold Eqm; decide)
  · exact hs

/-- As many steps as the least such product has. -/
theorem Stairs.same_rank (h : Stairs n c r R p) (g : Stairs n c r' R' p') (m : Made n c R R') (m' : Made n c R' R) : r = r' :=
  Nat.le_antisymm (h.no_less m' (g.fac (Made.refl _ _ _))) (g.no_less m (h.fac (Made.refl _ _ _)))

theorem Stairs.cut (h : Stairs n c r R p) {b : Nat} (hb : b ≤ c) : ∃ m, m ≤ r ∧ (∀ i, i < m → p i < b) ∧ (∀ i, m ≤ i → i < r → b ≤ p i) ∧ Stairs n b m R p := by
  have key : ∀ q, q ≤ r → ∃ m, m ≤ q ∧ (∀ i, i < m → p i < b) ∧ (∀ i, m ≤ i → i < q → b ≤ p i) := by
    intro q
    induction q with
    | zero => intro _; exact ⟨0, Nat.le_refl _, fun i hi => absurd hi (Nat.not_lt_zero _), fun i _ hi => absurd hi (Nat.not_lt_zero _)⟩
    | succ q ih =>
      intro hq
      obtain ⟨m, m1, m2, m3⟩ := ih (by omega)
      by_cases e : p q < b
      · refine ⟨q + 1, Nat.le_refl _, fun i hi => ?_, fun i h1 h2 => absurd h1 (by omega)⟩
        rcases Nat.lt_or_ge i q with h1 | h1
        · have := h.inc i q h1 (by omega); omega
        · obtain rfl : i = q := by omega
          exact e
      · refine ⟨m, by omega, m2, fun i h1 h2 => ?_⟩
        rcases Nat.lt_or_ge i q with h3 | h3
        · exact m3 i h1 h3
        · obtain rfl : i = q := by omega
          omega
  obtain ⟨m, m1, m2, m3⟩ := key r (Nat.le_refl _)
  refine ⟨m, m1, m2, m3, Nat.le_trans m1 h.le, m2, fun i j hi hj => h.inc i j hi (by omega), fun i j hi hj => h.one i j hi (by omega), fun i s h1 h2 h3 => ?_, fun i s h1 h2 => h.lead i s (by omega) h2⟩
  rcases Nat.lt_or_ge i r with h4 | h4
  · exact h.lead i s h4 (by have := m3 i h1 h4; omega)
  · exact h.low i s h4 h2 (by omega)

/-- Steps are one form. -/
theorem Stairs.unique (h : Stairs n c r R p) (g : Stairs n c r' R' p') (m : Made n c R R') (m' : Made n c R' R) : r = r' ∧ (∀ i, i < r → p i = p' i) ∧ EqM n c R R' := by
  have er := h.same_rank g m m'
  subst er
  have le : ∀ {R R' : Mx} {p p' : Nat → Nat}, Stairs n c r R p → Stairs n c r R' p' → Made n c R R' → Made n c R' R → ∀ i, i < r → p' i ≤ p i := by
    intro R R' p p' h g m m' i hi
    have hb : p i + 1 ≤ c := h.lt i hi
    obtain ⟨q, q1, q2, q3, q4⟩ := h.cut hb
    obtain ⟨q', q1', q2', q3', q4'⟩ := g.cut hb
    have e := q4.same_rank q4' (m.cols hb) (m'.cols hb)
    subst e
    rcases Nat.lt_or_ge i q with h1 | h1
    · have := q2' i h1; omega
    · have := q3 i h1 hi; omega
  have ep : ∀ i, i < r → p i = p' i := fun i hi => Nat.le_antisymm (le g h m' m i hi) (le h g m m' i hi)
  refine ⟨rfl, ep, fun i j hi hj => ?_⟩
  rcases Nat.lt_or_ge i r with h1 | h1
  · obtain ⟨K, hK⟩ := m
    have kd : ∀ t, t < r → Eqm (K i t) (if i = t then 1 else 0) := fun t ht => by
      have a1 := g.one i t hi ht
      rw [← ep t ht] at a1
      have a2 := hK i (p t) hi (h.lt t ht)
      have a3 : Eqm (mulM n K R i (p t)) (K i t) := by
        refine (sumTo_eqm (h := fun u => (if t = u then 1 else 0) * K i u) fun u hu => ?_).trans (Eqm.of_eq (sumTo_pick (fun u => K i u) (by have := h.le; omega)))
        refine (Eqm.mul (Eqm.refl _) (h.one u t hu ht)).trans (Eqm.of_eq ?_)
        by_cases e : u = t
        · subst e; rw [if_pos rfl]; omega
        · rw [if_neg e, if_neg fun x => e x.symm]; omega
      exact a3.symm.trans (a2.symm.trans a1)
    refine Eqm.symm ((hK i j hi hj).trans ?_)
    refine (sumTo_cut h.le fun t h2 h3 => ?_).trans ?_
    · have := Eqm.mul (Eqm.refl (K i t)) (h.low t j h2 h3 hj)
      rwa [Int.mul_zero] at this
    · refine (sumTo_eqm (h := fun u => (if i = u then 1 else 0) * R u j) fun u hu => Eqm.mul (kd u hu) (Eqm.refl _)).trans (Eqm.of_eq (sumTo_pick (fun u => R u j) h1))
  · exact (h.low i j h1 hi hj).trans (g.low i j h1 hi hj).symm
end

/-- A sum over all, by those that are picked and those that are not. -/
theorem split_sum : ∀ (k r : Nat) (p : Nat → Nat), (∀ i j, i < j → j < r → p i < p j) → (∀ i, i < r → p i < k) → r ≤ k ∧ ∃ q : Nat → Nat, ∀ g : Nat → Int, sumTo g k = sumTo (fun t => g (p t)) r + sumTo (fun u => g (q u)) (k - r) := by
  intro k
  induction k with
  | zero =>
    intro r p _ lt
    rcases r with _ | r
    · exact ⟨Nat.le_refl _, id, fun g => rfl⟩
    · exact absurd (lt 0 (by omega)) (by omega)
  | succ k ih =>
    intro r p inc lt
    by_cases e : ∃ r', r = r' + 1 ∧ p r' = k
    · obtain ⟨r', rfl, e⟩ := e
      obtain ⟨h1, q, hq⟩ := ih r' p (fun i j hi hj => inc i j hi (by omega)) (fun i hi => by have := inc i r' hi (by omega); omega)
      refine ⟨by omega, q, fun g => ?_⟩
      rw [sumTo, hq g, sumTo, e, show k + 1 - (r' + 1) = k - r' by omega]
      omega
    · have lt' : ∀ i, i < r → p i < k := fun i hi => by
        have h1 := lt i hi
        have h2 : p i ≠ k := fun e2 => by
          rcases Nat.lt_or_ge (i + 1) r with h3 | h3
          · have := inc i (i + 1) (by omega) h3
            have := lt (i + 1) h3
            omega
          · exact e ⟨i, by omega, e2⟩
        omega
      obtain ⟨h1, q, hq⟩ := ih r p inc lt'
      refine ⟨by omega, fun u => if u < k - r then q u else k, fun g => ?_⟩
      dsimp only
      rw [sumTo, hq g, show k + 1 - r = (k - r) + 1 by omega, sumTo, if_neg (by omega), sumTo_congr (g := fun u => g (if u < k - r then q u else k)) (h := fun u => g (q u)) fun u hu => by rw [if_pos hu]]
      omega

/-- Sylvester's bound. -/
theorem Stairs.sylvester {n k c r s : Nat} {A B R : Mx} {p : Nat → Nat} (h : Stairs n k r R p) (m : Made n k A R) (f : Fac n c s (mulM k A B)) : r ≤ k ∧ Fac k c (s + (k - r)) B := by
  obtain ⟨hrk, q, hq⟩ := split_sum k r p h.inc h.lt
  refine ⟨hrk, ?_⟩
  obtain ⟨K, hK⟩ := m
  obtain ⟨X, Y, hx⟩ := f
  let S : Mx := fun i t => if i = p t then 1 else 0
  let N : Mx := fun i j => (if i = j then 1 else 0) - mulM r S R i j
  have hN : ∀ i t, i < k → t < r → Eqm (N i (p t)) 0 := fun i t _ ht => by
    have e : Eqm (mulM r S R i (p t)) (if i = p t then 1 else 0) := by
      refine (sumTo_eqm (h := fun u => (if t = u then 1 else 0) * S i u) fun u hu => ?_).trans (Eqm.of_eq (sumTo_pick (fun u => S i u) ht))
      refine (Eqm.mul (Eqm.refl _) (h.one u t (by have := h.le; omega) ht)).trans (Eqm.of_eq ?_)
      by_cases e : u = t
      · subst e; rw [if_pos rfl]; omega
      · rw [if_neg e, if_neg fun x => e x.symm]; omega
    have := Eqm.sub (Eqm.refl (if i = p t then (1 : Int) else 0)) e
    rwa [Int.sub_self] at this
  have f1 : Fac k c s (mulM r S (mulM k R B)) := by
    refine ⟨mulM r S (mulM n K X), Y, ?_⟩
    rw [mulM_go]
    refine EqM.mul (EqM.refl _ _ _) fun i j hi hj => ?_
    have hi' : i < n := by have := h.le; omega
    refine (EqM.mul hK (EqM.refl k c B) i j hi' hj).trans ?_
    rw [mulM_go, mulM_go]
    exact EqM.mul (EqM.refl n n K) hx i j hi' hj
  have f2 : Fac k c (k - r) (mulM k N B) := by
    refine ⟨fun i u => N i (q u), fun u j => B (q u) j, fun i j hi _ => ?_⟩
    unfold mulM
    rw [hq fun t => N i t * B t j]
    have : Eqm (sumTo (fun t => N i (p t) * B (p t) j) r) (sumTo (fun _ => 0) r) := sumTo_eqm fun t ht => by
      have := Eqm.mul (hN i t hi ht) (Eqm.refl (B (p t) j))
      rwa [Int.zero_mul] at this
    rw [sumTo_zero] at this
    have := Eqm.add this (Eqm.refl (sumTo (fun u => N i (q u) * B (q u) j) (k - r)))
    rwa [Int.zero_add] at this
  refine (f1.add f2).congr fun i j hi _ => Eqm.of_eq ?_
  rw [← mulM_go]
  show sumTo (fun t => mulM r S R i t * B t j) k + sumTo (fun t => N i t * B t j) k = B i j
  rw [← sumTo_add, sumTo_congr (h := fun t => (if i = t then 1 else 0) * B t j) fun t _ => ?_]
  · exact sumTo_pick (fun t => B t j) hi
  · show mulM r S R i t * B t j + ((if i = t then 1 else 0) - mulM r S R i t) * B t j = _
    rw [← Int.add_mul]
    congr 1
    omega

/-- A square matrix has as many steps as rows just if its determinant is not 0 by the prime. -/
theorem Stairs.full {n r : Nat} {A R : Mx} {p : Nat → Nat} (h : Stairs n n r R p) (m : Made n n A R) (m' : Made n n R A) : r = n ↔ ¬ Eqm (det n A) 0 := by
  constructor
  · rintro rfl hd
    obtain ⟨K, hK⟩ := m
    have hp : ∀ d i, i + d = r → i < r → p i + d ≤ r := by
      intro d
      induction d with
      | zero => intro i h1 h2; omega
      | succ d ih =>
        intro i h1 h2
        rcases Nat.lt_or_ge (i + 1) r with h3 | h3
        · have := ih (i + 1) (by omega) h3
          have := h.inc i (i + 1) (by omega) h3
          omega
        · have := h.lt i h2; omega
    have hp2 : ∀ i, i < r → i ≤ p i := by
      intro i
      induction i with
      | zero => intro _; omega
      | succ i ih =>
        intro hi
        have := ih (by omega)
        have := h.inc i (i + 1) (by omega) hi
        omega
    have hpi : ∀ i, i < r → p i = i := fun i hi => by
      have := hp (r - i) i (by omega) hi
      have := hp2 i hi
      omega
    have d1 : Eqm (det r R) (det r idM) := det_eqm fun i j hi hj => by
      have := h.one i j hi hj
      rw [hpi j hj] at this
      refine this.trans (Eqm.of_eq ?_)
      unfold idM unit_
      by_cases e : i = j
      · rw [if_pos e, if_pos e.symm]
      · rw [if_neg e, if_neg fun x => e x.symm]
    have d2 : Eqm (det r R) (det r K * det r A) := by rw [← det_mul]; exact det_eqm hK
    have d3 := Eqm.mul (Eqm.refl (det r K)) hd
    rw [Int.mul_zero] at d3
    have := d1.symm.trans (d2.trans d3)
    rw [det_id] at this
    exact absurd this (by unfold Eqm; decide)
  · intro hd
    rcases Nat.lt_or_ge r n with h1 | h1
    · exfalso
      obtain ⟨X, Y, hx⟩ := h.fac m'
      refine hd ((det_eqm hx).trans ?_)
      rw [det_narrow h1]
      exact Eqm.refl _
    · have := h.le; omega

/-- What can be undone: the rows come back. -/
theorem Made.undo {n c : Nat} {K A : Mx} (hd : ¬ Eqm (det n K) 0) : Made n c (mulM n K A) A := by
  have h0 : det n K % 9973 ≠ 0 := fun e => hd (by unfold Eqm; rw [e]; rfl)
  have ho := over_mul (a := det n K % 9973) (by omega) (by omega) h0
  refine ⟨fun i j => powm (det n K % 9973) 9971 * adj n K i j, fun i j hi hj => ?_⟩
  have e : mulM n (fun i j => powm (det n K % 9973) 9971 * adj n K i j) (mulM n K A) i j = powm (det n K % 9973) 9971 * (det n K * A i j) := by
    rw [← mulM_go]
    have : ∀ t, t < n → mulM n (fun i j => powm (det n K % 9973) 9971 * adj n K i j) K i t * A t j = (if i = t then 1 else 0) * (powm (det n K % 9973) 9971 * det n K * A t j) := fun t ht => by
      have h1 : mulM n (fun i j => powm (det n K % 9973) 9971 * adj n K i j) K i t = powm (det n K % 9973) 9971 * mulM n (adj n K) K i t := by
        unfold mulM
        rw [← sumTo_mul]
        exact sumTo_congr fun s _ => Int.mul_assoc _ _ _
      rw [h1, adj_mul K hi ht]
      by_cases e : i = t
      · rw [if_pos e, if_pos e, Int.one_mul]
      · rw [if_neg e, if_neg e]; simp
    show sumTo (fun t => _ * A t j) n = _
    rw [sumTo_congr this, sumTo_pick (fun t => powm (det n K % 9973) 9971 * det n K * A t j) hi, Int.mul_assoc]
  rw [e, ← Int.mul_assoc]
  have e2 : Eqm (powm (det n K % 9973) 9971 * det n K) 1 := by
    refine (Eqm.mul (Eqm.refl _) (Eqm.mod (det n K)).symm).trans ?_
    unfold Eqm
    rw [ho]; rfl
  have := Eqm.mul e2 (Eqm.refl (A i j))
  rw [Int.one_mul] at this
  exact this.symm
end Go.Rk
namespace Go.Rk
open Go.RowKit

def bx (l : List Bool) (k : Nat) : Bool := l.getD k false
theorem bx_set (l : List Bool) (k j : Nat) (x : Bool) : bx (l.set k x) j = if k = j ∧ j < l.length then x else bx l j := by
  simp only [bx, List.getD, List.getElem?_set]
  by_cases h1 : k = j
  · subst h1
    by_cases h2 : k < l.length <;> simp [h2]
  · simp [h1]

/-- A slice of bools of the call's own. -/
structure OwB (w : World) (B E : Nat) (a : Option Addr) (n cap : Nat) (l : List Bool) : Prop where
  len_eq : l.length = n
  own : w.ownsRow B E 1 (.slice a n cap) n (l.map Value.bool)

structure BoolTy (P : Program) (T E : TypeId) : Prop where
  ht : P.underlying T = some (.slice E)
  hi : ∃ i, P.info? E = some i ∧ i.zero = some (.bool false) ∧ i.size = 1 ∧ i.bytes = 1

section
variable {w w' : World} {B E : Nat} {a : Option Addr} {n cap : Nat} {l : List Bool}
theorem OwB.at (h : OwB w B E a n cap l) (hn : 0 < n) :
    ∃ g, a = some ⟨g, 0, none⟩ ∧ B ≤ g ∧ g < w.heap.size ∧ (∀ i, i < n → w.cell? ⟨g, i, none⟩ = some (.bool (bx l i))) ∧ ∀ i, w.frozen? ⟨g, i, none⟩ = false := by
  obtain ⟨g, c, hv, hb, hlt⟩ := h.own.form hn
  injection hv with ha _ hc
  subst ha; subst hc
  refine ⟨g, rfl, hb, hlt, fun i hi => ?_, fun i => h.own.frozenAt i⟩
  rw [h.own.cellAt i (by omega), List.getElem?_map, List.getElem?_eq_getElem (by rw [h.len_eq]; exact hi)]
  simp [bx, List.getD, h.len_eq, hi]
theorem OwB.below (h : OwB w B E a n cap l) (hb : Below w.heap.size w w') : OwB w' B E a n cap l :=
  ⟨h.len_eq, h.own.kept (row := none) ⟨hb.os, hb.tape, hb.output, hb.size, fun k hk _ => hb.block k hk⟩ (by cases (Value.slice a n cap).ownBlock <;> simp)⟩
theorem OwB.set {g k : Nat} (h : OwB w B E (some ⟨g, 0, none⟩) n cap l) (x : Bool) : OwB (w.setCell ⟨g, k, none⟩ (.bool x)) B E (some ⟨g, 0, none⟩) n cap (l.set k x) :=
  ⟨by rw [List.length_set]; exact h.len_eq, by rw [List.map_set]; exact (h.own.stored k _).1⟩
end

theorem wpList_make_bools {P : Program} {T E : TypeId} {w : World} (hT : BoolTy P T E) {ops : Array Oper} {rest : List Oper} {o : Oper} {ac : Act} {Q : Exit → Act → World → Prop} (hgd : o.guard = none) (x y : Operand) (ho : o.op = .makeSlice T x y)
    {n : Nat} (hx : ac.eval x = .int .i64 n) (hy : ac.eval y = .int .i64 n) (hn : n ≤ 1000000)
    (h : ∀ w', OwB w' w.heap.size E (some ⟨w.heap.size, 0, none⟩) n n (List.replicate n false) → Below w.heap.size w w' → wpList P ops Q rest (ac.put o.dst (.slice (some ⟨w.heap.size, 0, none⟩) n n)) w') : wpList P ops Q (o :: rest) ac w := by
  obtain ⟨i, hi, hz, hs, hby⟩ := hT.hi
  refine wpList_make_full w hgd x y T ho w.heap.size E i (.bool false) 1 hT.ht hi hz hs .i64 .i64 n n n hx hy rfl rfl (by rw [hby]; omega) (by unfold maxLen; omega) (Nat.le_refl _) fun w' h1 h2 => h w' ⟨by simp, ?_⟩ (below_of_grown h2)
  have : (madeCells (Value.bool false).cells (n * 1)).toList = (List.replicate n false).map Value.bool := by
    rw [Nat.mul_one, List.map_replicate]
    exact toList_madeCells_one _ n
  rw [this] at h1
  exact h1

/-- Which numbers have been met in the first k places. -/
def metN (l : List Int) (n : Nat) : Nat → List Bool
  | 0 => List.replicate n false
  | k + 1 => (metN l n k).set (ix l k).toNat true
/-- Nothing is wrong in the first k places: each number a place, none of them twice. -/
def okN (l : List Int) (n : Nat) : Nat → Bool
  | 0 => true
  | k + 1 => okN l n k && !(decide (ix l k < 0) || decide ((n : Int) - 1 < ix l k)) && !bx (metN l n k) (ix l k).toNat

theorem metN_len (l : List Int) (n k : Nat) : (metN l n k).length = n := by
  induction k with
  | zero => simp [metN]
  | succ k ih => simp [metN, ih]

theorem okN_le {l : List Int} {n : Nat} : ∀ {k}, okN l n k = true → ∀ j, j < k → 0 ≤ ix l j ∧ ix l j ≤ (n : Int) - 1 := by
  intro k
  induction k with
  | zero => intro _ j hj; omega
  | succ k ih =>
    intro h j hj
    simp only [okN, Bool.and_eq_true, Bool.not_eq_true', Bool.or_eq_false_iff, decide_eq_false_iff_not] at h
    rcases Nat.lt_or_ge j k with h1 | h1
    · exact ih h.1.1 j h1
    · obtain rfl : j = k := by omega
      omega

theorem okN_false {l : List Int} {n k m : Nat} (h : okN l n k = false) (hkm : k ≤ m) : okN l n m = false := by
  induction m with
  | zero => obtain rfl : k = 0 := by omega
            exact h
  | succ m ih =>
    rcases Nat.lt_or_ge m k with h1 | h1
    · obtain rfl : k = m + 1 := by omega
      exact h
    · rw [okN, ih h1]; rfl

/-- One cycle from k on: what has been done, and how long it is. -/
def cycF (l : List Int) : Nat → List Bool → Nat → Nat → List Bool × Nat
  | 0, d, _, g => (d, g)
  | f + 1, d, k, g => if bx d k then (d, g) else cycF l f (d.set k true) (ix l k).toNat (g + 1)
def cycN (l : List Int) (n : Nat) : Nat → List Bool × Int
  | 0 => (List.replicate n false, 1)
  | i + 1 => ((cycF l (n + 1) (cycN l n i).1 i 0).1, if 0 < (cycF l (n + 1) (cycN l n i).1 i 0).2 ∧ (cycF l (n + 1) (cycN l n i).1 i 0).2 % 2 = 0 then -(cycN l n i).2 else (cycN l n i).2)
/-- An order's sign. -/
def signC (l : List Int) : Int := if okN l l.length l.length then (cycN l l.length l.length).2 else 0

def cntF (d : List Bool) : Nat := (d.filter fun b => !b).length
theorem cntF_set {d : List Bool} {k : Nat} (hk : k < d.length) (h : bx d k = false) : cntF (d.set k true) + 1 = cntF d := by
  induction d generalizing k with
  | nil => simp at hk
  | cons x d ih =>
    cases k with
    | zero =>
      have : x = false := by simpa [bx] using h
      subst this
      simp [cntF]
    | succ k =>
      have h2 : bx d k = false := by simpa [bx] using h
      have := ih (by simpa using hk) h2
      simp only [cntF, List.set_cons_succ, List.filter_cons] at *
      cases x <;> simp <;> omega
theorem cntF_le (d : List Bool) : cntF d ≤ d.length := List.length_filter_le _ _

theorem cycF_len (l : List Int) : ∀ (f : Nat) (d : List Bool) (k g : Nat), (cycF l f d k g).1.length = d.length ∧ (cycF l f d k g).2 ≤ g + f := by
  intro f
  induction f with
  | zero => intro d k g; exact ⟨rfl, Nat.le_refl _⟩
  | succ f ih =>
    intro d k g
    rw [cycF]
    split
    · exact ⟨rfl, by omega⟩
    · have := ih (d.set k true) (ix l k).toNat (g + 1)
      simp only [List.length_set] at this
      omega

theorem cycN_len (l : List Int) (n i : Nat) : (cycN l n i).1.length = n ∧ ((cycN l n i).2 = 1 ∨ (cycN l n i).2 = -1) := by
  induction i with
  | zero => simp [cycN]
  | succ i ih =>
    simp only [cycN]
    refine ⟨by rw [(cycF_len l _ _ _ _).1, ih.1], ?_⟩
    split <;> omega
end Go.Rk
namespace Go.Proofs.Ytoahegjjffggaaa
open Go.RowKit Go.Rk

theorem infoBool : (Try.prog.info? 4).map (fun i => (i.zero, i.size, i.bytes)) = some (some (.bool false), 1, 1) := by kernel_rfl
end Go.Proofs.Ytoahegjjffggaaa
