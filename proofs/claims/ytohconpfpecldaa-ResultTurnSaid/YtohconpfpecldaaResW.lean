/-
  Package result walked: the check, the matrix, its determinant.
-/
import Derived.Test.YtohconpfpecldaaRows
import Derived.Test.YtohconpfpecldaaLib
import Derived.Test.YtohconpfpecldaaNum
import Derived.Test.YtohconpfpecldaaMat
import Derived.Test.YtohconpfpecldaaMatD
import Derived.Test.YtohconpfpecldaaRect
import Derived.Test.YtohconpfpecldaaTr
import Derived.Test.YtohconpfpecldaaDetOf
import Derived.Test.YtohconpfpecldaaMx
import Derived.Test.YtohconpfpecldaaMatLaw
import Derived.Test.YtohconpfpecldaaSyl
namespace Go.Proofs.Ytohconpfpecldaa
open Go.RowKit Go.Rk

section
variable {a b : Option Addr} {p q ca cb : Nat} {f g : List Int} {w : World}
set_option maxHeartbeats 4000000 in
set_option maxRecDepth 100000 in
theorem result_Check_any (hf : RdI w a p ca f) (hg : RdI w b q cb g) :
    Calls Try.prog 51 #[.slice a p ca, .slice b q cb] w fun e w' => e = .returned (errV (twoR f g)) ∧ w = w' := by
  have lf := hf.len_max
  have lg := hg.len_max
  have B1 := Lib.hid hf.len_eq
  have B2 := Lib.hid hg.len_eq
  have A1 := any_any a p ca f 0 9972 w hf
  have A2 := any_any b q cb g 0 9972 w hg
  by_cases h1 : p = 0
  · have hs : twoR f g = some 5 := by unfold twoR; rw [B1.out, B2.out]; rw [if_pos (.inl h1)]
    rw [hs]
    clear hs
    have z1 : ((p : Int) == 0) = true := beq_iff_eq.2 (by omega)
    clear h1
    have A1 := Lib.hid A1
    have A2 := Lib.hid A2
    go_enter Try.func51, Try.ntmps51
    go_wp2
    go_ret
    exact ⟨rfl, rfl⟩
  have z1 : ((p : Int) == 0) = false := beq_eq_false_iff_ne.2 (by omega)
  by_cases h2 : q = 0
  · have hs : twoR f g = some 5 := by unfold twoR; rw [B1.out, B2.out]; rw [if_pos (.inr h2)]
    rw [hs]
    clear hs
    have z2 : ((q : Int) == 0) = true := beq_iff_eq.2 (by omega)
    clear h1 h2
    have A1 := Lib.hid A1
    have A2 := Lib.hid A2
    go_enter Try.func51, Try.ntmps51
    go_wp2
    go_ret
    exact ⟨rfl, rfl⟩
  have z2 : ((q : Int) == 0) = false := beq_eq_false_iff_ne.2 (by omega)
  rcases h3 : anyB 0 9972 f with _ | _
  · rcases h4 : anyB 0 9972 g with _ | _
    · rw [h3] at A1
      rw [h4] at A2
      obtain ⟨bf, of_, rfl, _, cf⟩ := hf.at (k := p - 1) (by omega)
      obtain ⟨bg, og, rfl, _, cg⟩ := hg.at (k := q - 1) (by omega)
      have y1 := cf (p - 1) (by omega)
      have y2 := cg (q - 1) (by omega)
      have t1 : ((p : Int) - 1).toNat = p - 1 := by omega
      have t2 : ((q : Int) - 1).toNat = q - 1 := by omega
      have i1 : (0 : Int) ≤ (p : Int) - 1 := by omega
      have i2 : (0 : Int) ≤ (q : Int) - 1 := by omega
      have i3 : (1 : Int) ≤ (p : Int) := by omega
      have i4 : (1 : Int) ≤ (q : Int) := by omega
      have i5 : (p : Int) - 1 < (p : Int) := by omega
      have i6 : (q : Int) - 1 < (q : Int) := by omega
      clear cf cg
      by_cases h5 : ix f (p - 1) = 0
      · have hs : twoR f g = some 3 := by unfold twoR; rw [B1.out, B2.out]; rw [if_neg (by omega), h3, h4, if_neg (by simp), if_pos (.inl h5)]
        rw [hs]
        clear hs
        have z3 : (ix f (p - 1) == 0) = true := beq_iff_eq.2 h5
        clear h1 h2 h3 h4 h5
        have A1 := Lib.hid A1
        have A2 := Lib.hid A2
        go_enter Try.func51, Try.ntmps51
        go_wp2_with (first | (go_at_call 72; first | ((with_reducible refine A1.out.mono ?_); rintro e w' ⟨rfl, rfl⟩) | ((with_reducible refine A2.out.mono ?_); rintro e w' ⟨rfl, rfl⟩)))
        go_ret
        exact ⟨rfl, rfl⟩
      have z3 : (ix f (p - 1) == 0) = false := beq_eq_false_iff_ne.2 h5
      by_cases h6 : ix g (q - 1) = 0
      · have hs : twoR f g = some 3 := by unfold twoR; rw [B1.out, B2.out]; rw [if_neg (by omega), h3, h4, if_neg (by simp), if_pos (.inr h6)]
        rw [hs]
        clear hs
        have z4 : (ix g (q - 1) == 0) = true := beq_iff_eq.2 h6
        clear h1 h2 h3 h4 h5 h6
        have A1 := Lib.hid A1
        have A2 := Lib.hid A2
        go_enter Try.func51, Try.ntmps51
        go_wp2_with (first | (go_at_call 72; first | ((with_reducible refine A1.out.mono ?_); rintro e w' ⟨rfl, rfl⟩) | ((with_reducible refine A2.out.mono ?_); rintro e w' ⟨rfl, rfl⟩)))
        go_ret
        exact ⟨rfl, rfl⟩
      have z4 : (ix g (q - 1) == 0) = false := beq_eq_false_iff_ne.2 h6
      have CO := fun w' => out_any (wrap64 (wrap64 ((p : Int) + (q : Int)) - 2)) 1 5 w'
      have HW := wrap_two (p := p) (q := q) (by omega) (by omega) (by omega) (by omega)
      rcases h7 : outB ((p : Int) + q - 2) 1 5 with _ | _
      · have hs : twoR f g = none := by unfold twoR; rw [B1.out, B2.out]; rw [if_neg (by omega), h3, h4, if_neg (by simp), if_neg (fun e => e.elim h5 h6), h7]; rfl
        rw [hs]
        clear hs
        simp only [HW, h7] at CO
        clear HW
        have CO := Lib.hid CO
        clear h1 h2 h3 h4 h5 h6 h7
        have A1 := Lib.hid A1
        have A2 := Lib.hid A2
        go_enter Try.func51, Try.ntmps51
        go_wp2_with (first | (go_at_call 72; first | ((with_reducible refine A1.out.mono ?_); rintro e w' ⟨rfl, rfl⟩) | ((with_reducible refine A2.out.mono ?_); rintro e w' ⟨rfl, rfl⟩)) | (go_at_call 57; (with_reducible refine (CO.out _).mono ?_); rintro e w' ⟨rfl, rfl⟩))
        go_ret
        exact ⟨rfl, rfl⟩
      · have hs : twoR f g = some 4 := by unfold twoR; rw [B1.out, B2.out]; rw [if_neg (by omega), h3, h4, if_neg (by simp), if_neg (fun e => e.elim h5 h6), h7]; rfl
        rw [hs]
        clear hs
        simp only [HW, h7] at CO
        clear HW
        have CO := Lib.hid CO
        clear h1 h2 h3 h4 h5 h6 h7
        have A1 := Lib.hid A1
        have A2 := Lib.hid A2
        go_enter Try.func51, Try.ntmps51
        go_wp2_with (first | (go_at_call 72; first | ((with_reducible refine A1.out.mono ?_); rintro e w' ⟨rfl, rfl⟩) | ((with_reducible refine A2.out.mono ?_); rintro e w' ⟨rfl, rfl⟩)) | (go_at_call 57; (with_reducible refine (CO.out _).mono ?_); rintro e w' ⟨rfl, rfl⟩))
        go_ret
        exact ⟨rfl, rfl⟩
    · rw [h3] at A1
      rw [h4] at A2
      have hs : twoR f g = some 1 := by unfold twoR; rw [B1.out, B2.out]; rw [if_neg (by omega), h3, h4, if_pos (by simp)]
      rw [hs]
      clear hs
      clear h1 h2 h3 h4
      have A1 := Lib.hid A1
      have A2 := Lib.hid A2
      go_enter Try.func51, Try.ntmps51
      go_wp2_with (first | (go_at_call 72; first | ((with_reducible refine A1.out.mono ?_); rintro e w' ⟨rfl, rfl⟩) | ((with_reducible refine A2.out.mono ?_); rintro e w' ⟨rfl, rfl⟩)))
      go_ret
      exact ⟨rfl, rfl⟩
  · rw [h3] at A1
    have hs : twoR f g = some 1 := by unfold twoR; rw [B1.out, B2.out]; rw [if_neg (by omega), h3, if_pos (by simp)]
    rw [hs]
    clear hs
    clear h1 h2 h3
    have A1 := Lib.hid A1
    have A2 := Lib.hid A2
    go_enter Try.func51, Try.ntmps51
    go_wp2_with (first | (go_at_call 72; first | ((with_reducible refine A1.out.mono ?_); rintro e w' ⟨rfl, rfl⟩) | ((with_reducible refine A2.out.mono ?_); rintro e w' ⟨rfl, rfl⟩)))
    go_ret
    exact ⟨rfl, rfl⟩
end

set_option maxHeartbeats 4000000 in
set_option maxRecDepth 100000 in
theorem put_any {B gg Bx fr mn n cap p cl : Nat} {D C : Nat → Nat} {P : List (List Int)} {l : List Int} {al : Option Addr} {w : World} (h : OwMD w B 22 3 gg D C n cap P) (dP : Dm n n P)
    (hx : w.cell? ⟨Bx, 0, none⟩ = some (.slice (some ⟨gg, 0, none⟩) n cap)) (hxl : Bx < w.heap.size) (hx2 : ∀ j, j < n → Bx ≠ D j) (hl : RdI w al p cl l) (hlB : ∀ b off, al = some ⟨b, off, none⟩ → b < B) (hp : 1 ≤ p) (hfm : fr + mn ≤ n) (hmp : mn + p ≤ n + 1) (hn : n ≤ 1000) :
    Calls Try.prog 82 #[.int .i64 fr, .int .i64 mn, .slice al p cl, .pointer (some ⟨Bx, 0, none⟩)] w fun e w' => e = .returned (.tuple #[]) ∧ ∃ P', OwMD w' B 22 3 gg D C n cap P' ∧ IsR n n P' (putQ l fr P mn 0) ∧ KeptBut n D w w' ∧ Below B w w' := by
  have HL := Lib.hid hl.len_eq
  have HX2 := Lib.hid hx2
  have HLB := Lib.hid hlB
  have h0 : Hid (IsR n n P (putQ l fr P 0 0)) := ⟨dP, fun r j hr hj => by
    unfold putQ
    rw [if_neg (by omega)]⟩
  obtain ⟨bl, ol, rfl, _, hc0⟩ := hl.at (k := 0) (by omega)
  have HC := Lib.hid hc0
  have hbl : bl < B := hlB bl ol rfl
  clear dP hx2 hlB hc0
  go_enter Try.func82, Try.ntmps82
  go_wp2
  go_loopw [11] (fun v wr => ∃ (i : Nat) (P2 : List (List Int)), i ≤ mn ∧ v = .int .i64 i ∧ OwMD wr B 22 3 gg D C n cap P2 ∧ Hid (IsR n n P2 (putQ l fr P i 0)) ∧ KeptBut n D w wr ∧ Below B w wr) (fun v _ => mn - (intOf v).toNat)
  case atStart => exact ⟨0, P, Nat.zero_le _, rfl, h, h0, KeptBut.refl _ _ _, Below.refl _ _⟩
  case round =>
    clear h h0
    obtain ⟨i, P2, hi, rfl, hd, hi2, kb, hb⟩ := hrel
    by_cases him : i < mn
    · have i1 : (i : Int) < (mn : Int) := by omega
      go_wp2
      go_loopw [16] (fun v wt => ∃ (k : Nat) (P3 : List (List Int)), k ≤ p ∧ v = .int .i64 k ∧ OwMD wt B 22 3 gg D C n cap P3 ∧ Hid (IsR n n P3 (putQ l fr P i k)) ∧ KeptBut n D w wt ∧ Below B w wt) (fun v _ => p - (intOf v).toNat)
      case atStart => exact ⟨0, P2, Nat.zero_le _, rfl, hd, hi2, kb, hb⟩
      case round =>
        clear hd hi2 kb hb
        obtain ⟨k, P3, hk, rfl, hd, hi3, kb, hb⟩ := hrel
        by_cases hkp : k < p
        · have i2 : (k : Int) < (p : Int) := by omega
          have hrn : fr + i < n := by omega
          have y0 : wr.cell? ⟨Bx, 0, none⟩ = some (.slice (some ⟨gg, 0, none⟩) n cap) := by
            have e1 := kb.2 Bx hxl fun j hj => HX2.out j hj
            exact (World.cell?_of_block (w := w) e1).trans hx
          have y1 := hb.keep hbl (HC.out k hkp)
          have x1 := hd.cellO hrn
          rw [hi3.out.1.2 _ hrn] at x1
          have hcol : i + p - 1 - k < n := by omega
          have x2 := hd.cellI hrn (j := i + p - 1 - k) (by rw [hi3.out.1.2 _ hrn]; exact hcol)
          have x3 := hd.frozenI hrn (by rw [hi3.out.1.2 _ hrn]; omega) (i + p - 1 - k)
          have t1 : ((fr : Int) + (i : Int)).toNat = fr + i := by omega
          have t2 : ((i : Int) + (p : Int) - 1 - (k : Int)).toNat = i + p - 1 - k := by omega
          have j1 : (fr : Int) + (i : Int) < (n : Int) := by omega
          have j2 : (0 : Int) ≤ (fr : Int) + (i : Int) := by omega
          have j3 : (0 : Int) ≤ (i : Int) + (p : Int) - 1 - (k : Int) := by omega
          have j4 : (i : Int) + (p : Int) - 1 - (k : Int) < (n : Int) := by omega
          have hlp := hl.len_max
          go_wp2
          go_roundw
          case rel => exact ⟨k + 1, _, by omega, by go_num, hd.set matTy.ne hrn _, ⟨hi3.out.1.setE _ _ _, fun r j hr hj => by
            rw [hi3.out.1.en_set _ hr hj]
            by_cases e : fr + i = r ∧ i + p - 1 - k = j
            · rw [if_pos e]
              unfold putQ
              rw [if_pos (by rw [HL.out]; omega), HL.out]
              congr 1
              omega
            · rw [if_neg e, hi3.out.2 r j hr hj]
              unfold putQ
              by_cases e2 : fr ≤ r ∧ ((r - fr < i ∧ r - fr ≤ j ∧ j < (r - fr) + l.length) ∨ (r - fr = i ∧ i + (l.length - k) ≤ j ∧ j < i + l.length))
              · rw [if_pos e2, if_pos (by rw [HL.out] at e2 ⊢; omega)]
              · rw [if_neg e2, if_neg (by rw [HL.out] at e2 ⊢; omega)]⟩, kb.set hrn _, hb.setCell (p := ⟨D (fr + i), i + p - 1 - k, none⟩) (hd.lowI hrn).1 _⟩
          case measure => simp [intOf]; omega
        · obtain rfl : p = k := by omega
          go_wp2
          go_roundw
          case rel => exact ⟨i + 1, P3, by omega, by go_num, hd, hi3.out.congr fun r j hr hj => by
            unfold putQ
            by_cases e2 : fr ≤ r ∧ ((r - fr < i ∧ r - fr ≤ j ∧ j < (r - fr) + l.length) ∨ (r - fr = i ∧ i + (l.length - p) ≤ j ∧ j < i + l.length))
            · rw [if_pos e2, if_pos (by rw [HL.out] at e2 ⊢; omega)]
            · rw [if_neg e2, if_neg (by rw [HL.out] at e2 ⊢; omega)], kb, hb⟩
          case measure => simp [intOf]; omega
    · obtain rfl : mn = i := by omega
      go_wp2
      go_end0
      exact ⟨by simp, P2, hd, hi2.out, kb, hb⟩

set_option maxHeartbeats 4000000 in
set_option maxRecDepth 100000 in
theorem full_any {a b : Option Addr} {p q ca cb : Nat} {f g : List Int} {w : World} (hf : RdI w a p ca f) (hg : RdI w b q cb g) (hp : 1 ≤ p) (hq : 1 ≤ q) (h3 : 3 ≤ p + q) (h7 : p + q ≤ 1000) :
    Calls Try.prog 52 #[.slice a p ca, .slice b q cb] w fun e w' => ∃ z cz, e = .returned (.slice z (p + q - 2) cz) ∧ OwM w' w.heap.size 22 3 z (p + q - 2) cz (rowsF (sylM f g) (p + q - 2) (p + q - 2)) ∧ Below w.heap.size w w' := by
  obtain ⟨n, hn⟩ : ∃ n, n = p + q - 2 := ⟨_, rfl⟩
  rw [← hn]
  have t0 : (p : Int) + (q : Int) - 2 = (n : Int) := by omega
  have HN : Hid (n + 2 = p + q) := by unfold Hid; omega
  have HF := Lib.hid hf.len_eq
  have HG := Lib.hid hg.len_eq
  have hmf : ∀ (fn : Fn) (first cap : Array Value) (w : World), (Instr.makeFunc fn first cap).run Try.prog w = .ok (.func fn first cap) w := fun _ _ _ _ => rfl
  have hn1 : 1 ≤ n := by omega
  have hn2 : n ≤ 1000 := by omega
  obtain ⟨bf, of_, rfl, hbf, _⟩ := hf.at (k := 0) (by omega)
  obtain ⟨bg, og, rfl, hbg, _⟩ := hg.at (k := 0) (by omega)
  have T0 := Lib.hid t0
  have u0 : IntKind.i64.wrap ((p : Int) + (q : Int) - 2) = (n : Int) := by rw [t0]; exact Go.IntWalk.i64_in _ (by omega)
  have u1 : IntKind.i64.wrap ((q : Int) - 1) = ((q - 1 : Nat) : Int) := by rw [show (q : Int) - 1 = ((q - 1 : Nat) : Int) from by omega]; exact Go.IntWalk.i64_in _ (by omega)
  have u2 : IntKind.i64.wrap ((p : Int) - 1) = ((p - 1 : Nat) : Int) := by rw [show (p : Int) - 1 = ((p - 1 : Nat) : Int) from by omega]; exact Go.IntWalk.i64_in _ (by omega)
  clear hn t0
  go_enter Try.func52, Try.ntmps52
  go_wp2_with fail
  refine (Grid_any n n _ hn2 hn2).mono ?_
  rintro e w1 ⟨z, cz, rfl, ho1, hb1⟩
  have hdm := Dm.replicate n n 0
  obtain ⟨gg, D, C, hzz, hd1⟩ := ho1.named (by omega) fun i hi => by rw [hdm.2 i hi]; omega
  subst hzz
  have HDM := Lib.hid hdm
  clear ho1 hdm
  go_wp2_with fail
  have hbx : (w1.alloc (.cells #[.slice (some ⟨gg, 0, none⟩) n cz] 36)).cell? ⟨w1.heap.size, 0, none⟩ = some (.slice (some ⟨gg, 0, none⟩) n cz) := by simp
  have hbl : w1.heap.size < (w1.alloc (.cells #[.slice (some ⟨gg, 0, none⟩) n cz] 36)).heap.size := by simp
  have hb2 := hb1.alloc hb1.size (.cells #[.slice (some ⟨gg, 0, none⟩) n cz] 36)
  have hd2 := hd1.alloc (.cells #[.slice (some ⟨gg, 0, none⟩) n cz] 36)
  have HDI : Hid (∀ j, j < n → w1.heap.size ≠ D j) := fun j hj => by have := (hd1.lowI hj).2; omega
  clear hd1 hb1
  generalize w1.alloc (.cells #[.slice (some ⟨gg, 0, none⟩) n cz] 36) = w2 at *
  generalize w1.heap.size = Bx at *
  have C := put_any (fr := 0) (mn := q - 1) hd2 HDM.out hbx hbl HDI.out (hf.below hb2) (fun b off e => by cases e; exact hbf) hp (by have := HN.out; omega) (by have := HN.out; omega) hn2
  rw [show (((0 : Nat) : Int)) = 0 from rfl] at C
  have C := Lib.hid C
  (with_reducible refine C.out.mono ?_)
  clear C
  rintro e w3 ⟨rfl, P1, hd3, hi1, kb1, hb3⟩
  have hbx3 : w3.cell? ⟨Bx, 0, none⟩ = some (.slice (some ⟨gg, 0, none⟩) n cz) := (World.cell?_of_block (w := w2) (kb1.2 Bx hbl HDI.out)).trans hbx
  have hbl3 : Bx < w3.heap.size := Nat.lt_of_lt_of_le hbl kb1.1
  have k3 := hb2.trans hb3
  have HI1 := Lib.hid hi1
  clear hbx hbl hb2 hd2 kb1 hb3 hi1
  go_wp2_with fail
  have C := Lib.hid (put_any (fr := q - 1) (mn := p - 1) hd3 HI1.out.1 hbx3 hbl3 HDI.out (hg.below k3) (fun b off e => by cases e; exact hbg) hq (by have := HN.out; omega) (by have := HN.out; omega) hn2)
  (with_reducible refine C.out.mono ?_)
  clear C
  rintro e w4 ⟨rfl, P2, hd4, hi2, kb2, hb4⟩
  have hbx4 : w4.cell? ⟨Bx, 0, none⟩ = some (.slice (some ⟨gg, 0, none⟩) n cz) := (World.cell?_of_block (w := w3) (kb2.2 Bx hbl3 HDI.out)).trans hbx3
  have k4 := k3.trans hb4
  have E : Hid (P2 = rowsF (sylM f g) n n) := by
    have l1 := HF.out
    have l2 := HG.out
    refine IsR.same (put_syl (P := List.replicate n (List.replicate n 0)) (by omega) (by omega) (by rw [l1, l2]; exact HN.out) ⟨HDM.out, fun i j hi hj => ?_⟩ (by rw [l2]; exact HI1.out) (by rw [l1, l2]; exact hi2)) (rowsF_is _ _ _)
    unfold en
    rw [rowOf_lt (by simp; exact hi)]
    simp
    rw [ix_lt (by simp; exact hj)]
    simp
  clear hbx3 hbl3 k3 hd3 HI1 hi2 kb2 hb4
  go_wp2
  go_ret
  exact ⟨_, cz, rfl, by rw [← E.out]; exact hd4.toM, k4⟩

section
variable {a b : Option Addr} {p q ca cb : Nat} {f g : List Int} {w : World}
theorem result_Check_is {o : Option Int} (hf : RdI w a p ca f) (hg : RdI w b q cb g) (h : twoR f g = o) :
    Calls Try.prog 51 #[.slice a p ca, .slice b q cb] w fun e w' => e = .returned (errV o) ∧ w = w' := by
  have := result_Check_any hf hg
  rw [h] at this
  exact this
/-- The resultant. -/
def resV (f g : List Int) : Int := det (f.length + g.length - 2) (sylM f g) % 9973
theorem result_Of_err {c : Int} (hf : RdI w a p ca f) (hg : RdI w b q cb g) (h : twoR f g = some c) :
    Calls Try.prog 16 #[.slice a p ca, .slice b q cb] w fun e w' => e = .returned (.tuple #[.int .i64 0, .iface 63 (.int .i64 c)]) ∧ w = w' := by
  have C := Lib.hid (result_Check_is hf hg h)
  clear h
  go_enter Try.func16, Try.ntmps16
  go_wp2_with (go_at_call 51; (with_reducible refine C.out.mono ?_); rintro e w' ⟨rfl, rfl⟩; simp only [errV])
  go_ret2
  exact ⟨rfl, rfl⟩
theorem syl_good {f g : List Int} (h : twoR f g = none) {n : Nat} (hn : n = f.length + g.length - 2) : Good n n (rowsF (sylM f g) n n) := by
  obtain ⟨g1, g2, g3, g4, _, _, g7, g8⟩ := twoR_none h
  exact ⟨by omega, by omega, (rowsF_is _ _ _).1, fun i j hi hj => by rw [(rowsF_is _ _ _).2 i j hi hj]; exact sylM_in g3 g4 i j⟩
theorem syl_det {f g : List Int} {n : Nat} (hn : n = f.length + g.length - 2) : det n (mx (rowsF (sylM f g) n n)) % 9973 = resV f g := by
  subst hn
  unfold resV
  exact congrArg (fun z => z % 9973) (det_congr fun i j hi hj => (rowsF_is _ _ _).2 i j hi hj)
theorem result_Of_ok (hf : RdI w a p ca f) (hg : RdI w b q cb g) (h : twoR f g = none) :
    Calls Try.prog 16 #[.slice a p ca, .slice b q cb] w fun e w' => e = .returned (.tuple #[.int .i64 (resV f g), .nilIface]) ∧ Below w.heap.size w w' := by
  have C := Lib.hid (result_Check_is hf hg h)
  have e1 := hf.len_eq
  have e2 := hg.len_eq
  have G := Lib.hid (syl_good h (n := p + q - 2) (by omega))
  have HV := Lib.hid (syl_det (f := f) (g := g) (n := p + q - 2) (by omega))
  obtain ⟨g1, g2, _, _, _, _, g7, g8⟩ := twoR_none h
  rw [hf.len_eq] at g1 g7 g8
  rw [hg.len_eq] at g2 g7 g8
  have C2 := Lib.hid (full_any hf hg g1 g2 g7 (by omega))
  clear h g1 g2 g7 g8 e1 e2
  go_enter Try.func16, Try.ntmps16
  go_wp2_with (first | (go_at_call 51; (with_reducible refine C.out.mono ?_); rintro e w' ⟨rfl, rfl⟩; simp only [errV]) | (go_at_call 52; (with_reducible refine C2.out.mono ?_); rintro e w' ⟨z, cz, rfl, ho, hb⟩) | (go_at_call 27; fail))
  have C3 := det_Of_ok ho.rd (squareR_of (lo := 0) (hi := 9972) (most := 5) G.out.n1.1 (by have := G.out.n1; omega) G.out.dm G.out.ent)
  rw [HV.out] at C3
  have C3 := Lib.hid C3
  (with_reducible refine C3.out.mono ?_)
  rintro e w2 ⟨rfl, hb2⟩
  go_wp2
  go_ret2
  exact ⟨rfl, below_tr hb hb2⟩
end
end Go.Proofs.Ytohconpfpecldaa
