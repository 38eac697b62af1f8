/-
  TopCompanion walked: a row's step is a matrix: what takes the matrix of a row that goes on by factors to noughts are those factors; and its powers tell the row.
-/
import Derived.Test.YtfocfgddlnjfmaaRows
import Derived.Test.YtfocfgddlnjfmaaLib
import Derived.Test.YtfocfgddlnjfmaaNum
import Derived.Test.YtfocfgddlnjfmaaRef
import Derived.Test.YtfocfgddlnjfmaaRDet
import Derived.Test.YtfocfgddlnjfmaaTr
import Derived.Test.YtfocfgddlnjfmaaOpen
import Derived.Test.YtfocfgddlnjfmaaMatOne
import Derived.Test.YtfocfgddlnjfmaaCharW
import Derived.Test.YtfocfgddlnjfmaaRecur
import Derived.Test.YtfocfgddlnjfmaaRecurTerm
import Derived.Test.YtfocfgddlnjfmaaCompan
import Derived.Test.YtfocfgddlnjfmaaRowIn
import Derived.Test.YtfocfgddlnjfmaaRowsF
import Derived.Deep.QuietTactic
import Derived.BigQuiet
namespace Go.Proofs.Ytfocfgddlnjfmaa
open Go.RowKit Go.Rk

theorem OwI.storeT {w : World} {B E g n cap : Nat} {l : List Int} (h : OwI w B E (some ⟨g, 0, none⟩) n cap l) {k : Nat} (hk : k < n) : w.cell? ⟨g, k, none⟩ = some (.int .i64 (ix l k)) ∧ w.frozen? ⟨g, k, none⟩ = false := by
  obtain ⟨g', hz, _, _, hc, hf⟩ := h.at (by omega)
  cases hz
  exact ⟨hc k hk, hf k⟩
theorem RdM.oneT {b : Nat} {a0 : Option Addr} {n0 c0 : Nat} {l0 : List Int} {w : World} (h0 : w.cell? ⟨b, 0, none⟩ = some (.slice a0 n0 c0)) (r0 : RdI w a0 n0 c0 l0) :
    RdM w (some ⟨b, 0, none⟩) 1 1 [l0] := by
  refine ⟨rfl, Nat.le_refl _, by decide, fun k hk => ?_⟩
  obtain rfl : k = 0 := by omega
  exact ⟨b, 0, a0, n0, c0, rfl, h0, r0⟩

theorem comp_row0 (f : List Int) : f = rowF (compM (ix f) 0) f.length := ix_ext (by rw [rowF_len]) fun j hj => by rw [rowF_ix hj]; rfl
theorem comp_rowS {f : List Int} {n i : Nat} (hi : 0 < i) (_ : i < n) : (List.replicate n (0 : Int)).set (i - 1) 1 = rowF (compM (ix f) i) n := by
  refine ix_ext (by rw [rowF_len]; simp) fun j hj => ?_
  have hj2 : j < n := by simpa using hj
  have e0 : compM (ix f) i j = if j + 1 = i then 1 else 0 := by unfold compM; rw [if_neg (show ¬ i = 0 by omega)]
  rw [rowF_ix hj2, ix_set, e0]
  by_cases e : i - 1 = j
  · rw [if_pos ⟨e, by simp; exact hj2⟩, if_pos (by omega)]
  · rw [if_neg fun x => e x.1, if_neg (by omega), ix_lt (by simp; exact hj2)]
    simp
theorem comp_good {f : List Int} {n : Nat} (h1 : 1 ≤ n) (h5 : n ≤ 5) (hi : In 0 9972 f) (hl : f.length = n) : Good n n (rowsF (compM (ix f)) n n) :=
  ⟨⟨h1, h5⟩, ⟨h1, h5⟩, (rowsF_is _ _ _).1, fun i j hi2 hj => by
    rw [(rowsF_is _ _ _).2 i j hi2 hj]
    unfold compM
    by_cases e : i = 0
    · rw [if_pos e]; exact hi j (by omega)
    · rw [if_neg e]; split <;> omega⟩

/-- The closed fact of TopCompanion. -/
theorem eight_any (w : World) : Calls Try.prog 24 #[.slice (some ⟨w.heap.size, 0, none⟩) 1 1, .slice (some ⟨w.heap.size + 1, 0, none⟩) 1 1, .int .i64 3] ((w.alloc (.cells #[.int .i64 2] 3)).alloc (.cells #[.int .i64 1] 3)) fun e w' => e = .returned (.tuple #[.int .i64 8, .nilIface]) ∧ Below w.heap.size w w' := by
  have R1 : RdI ((w.alloc (.cells #[.int .i64 2] 3)).alloc (.cells #[.int .i64 1] 3)) (some ⟨w.heap.size, 0, none⟩) 1 1 [2] := (RdI.lit w [2] 3 (by decide)).alloc _
  have R2 : RdI ((w.alloc (.cells #[.int .i64 2] 3)).alloc (.cells #[.int .i64 1] 3)) (some ⟨w.heap.size + 1, 0, none⟩) 1 1 [1] := RdI.lit' (w.alloc (.cells #[.int .i64 2] 3)) (b := w.heap.size + 1) [1] 3 (by decide) (by simp)
  have b0 := ((Below.refl w.heap.size w).alloc (Nat.le_refl _) (.cells #[.int .i64 2] 3)).alloc (by simp) (.cells #[.int .i64 1] 3)
  refine (Term_ok (many := 3) R1 R2 (by decide)).mono ?_
  rintro e w' ⟨rfl, hb⟩
  exact ⟨rfl, b0.trans (hb.mono b0.size)⟩

section
variable {a1 a2 : Option Addr} {n1 c1 n2 c2 : Nat} {f s : List Int} {w : World}
set_option maxHeartbeats 4000000 in
set_option maxRecDepth 100000 in
theorem topCompanion_err {at_ c : Int} (hf : RdI w a1 n1 c1 f) (hs : RdI w a2 n2 c2 s) (h : rowErr f s at_ = some c) :
    Calls Try.prog 8 #[.slice a1 n1 c1, .slice a2 n2 c2, .int .i64 at_] w fun e w' => e = .returned (.bool true) ∧ Below w.heap.size w w' := by
  have C0 := Lib.hid (Term_err hf hs h)
  clear h
  go_enter Try.func8, Try.ntmps8
  go_wp2_with (first | (go_at_call 24; first | ((with_reducible refine C0.out.mono ?_); rintro e w1 ⟨rfl, rfl⟩) | (refine (eight_any _).mono ?_; rintro e w2 ⟨rfl, k2⟩)))
  go_ret
  exact ⟨rfl, k2⟩

set_option maxHeartbeats 4000000 in
set_option maxRecDepth 100000 in
theorem topCompanion_far {at_ : Nat} (hf : RdI w a1 n1 c1 f) (hs : RdI w a2 n2 c2 s) (h : rowErr f s at_ = none) (hat : 60 < at_) :
    Calls Try.prog 8 #[.slice a1 n1 c1, .slice a2 n2 c2, .int .i64 at_] w fun e w' => e = .returned (.bool true) ∧ Below w.heap.size w w' := by
  have C0 := Lib.hid (Term_okN hf hs h)
  have i1 : (60 : Int) < (at_ : Int) := by omega
  clear h
  go_enter Try.func8, Try.ntmps8
  go_wp2_with (go_at_call 24; fail)
  (with_reducible refine C0.out.mono ?_)
  rintro e w1 ⟨rfl, k1⟩
  go_wp2_with (go_at_call 24; refine (eight_any _).mono ?_; rintro e w2 ⟨rfl, k2⟩)
  go_ret
  exact ⟨rfl, below_tr k1 k2⟩

set_option maxHeartbeats 4000000 in
set_option maxRecDepth 100000 in
theorem topCompanion_ok {n at_ : Nat} (hf : RdI w a1 n c1 f) (hs : RdI w a2 n c2 s) (h : rowErr f s at_ = none) (hat : at_ ≤ 60) :
    Calls Try.prog 8 #[.slice a1 n c1, .slice a2 n c2, .int .i64 at_] w fun e w' => e = .returned (.bool true) ∧ Below w.heap.size w w' := by
  have C0 := Term_okN hf hs h
  obtain ⟨h1, _, _⟩ := rowErr_none h
  obtain ⟨g1, g2, g3, g4, g5⟩ := checkR_none h1
  have e1 := hf.len_eq
  rw [e1] at g1 g2
  have HM := Lib.hid matTy
  have HT : Hid (∀ t i, i < n → Eqm (sumTo (fun k => powM n (compM (ix f)) t i k * ix s (n - 1 - k)) n) (tm f s (t + (n - 1 - i)))) := by
    have := comp_row (f := f) (s := s) (by omega) g3
    rw [e1] at this
    exact this
  have HG := Lib.hid (comp_good g1 g2 g4 e1)
  have HR0 : Hid (f = rowF (compM (ix f) 0) n) := by have := comp_row0 f; rw [e1] at this; exact this
  have HI := Lib.hid g4
  have HIs := Lib.hid g5
  have HF := Lib.hid e1
  have HS := Lib.hid hs.len_eq
  obtain ⟨X, hX⟩ : ∃ X, X = ix (rowN f s (at_ + 1)) at_ := ⟨_, rfl⟩
  have HX : Hid (X = tm f s at_) := hX
  have bX : 0 ≤ X ∧ X ≤ 9972 := by rw [HX.out]; exact tm_in f s g5 at_
  rw [← hX] at C0
  have C0 := Lib.hid C0
  have i1 : ¬ (60 : Int) < (at_ : Int) := by omega
  clear h h1 g3 g4 g5 e1 hX
  go_enter Try.func8, Try.ntmps8
  go_wp2_with (go_at_call 24; fail)
  (with_reducible refine C0.out.mono ?_)
  clear C0
  rintro e w1 ⟨rfl, k1⟩
  go_wp2_with (go_at_call 24; refine (eight_any _).mono ?_; rintro e w2 ⟨rfl, b2⟩)
  have k2 := below_tr k1 b2
  clear k1 b2
  go_loopw [12, 13] (fun v x wr => ∃ (i : Nat) (z : Option Addr) (cz : Nat), i ≤ n ∧ x = .int .i64 i ∧ v = .slice z i cz ∧ OwM wr w2.heap.size 22 3 z i cz (rowsF (compM (ix f)) n i) ∧ Below w2.heap.size w2 wr) (fun _ x _ => n - (intOf x).toNat)
  case atStart => exact ⟨0, none, 0, Nat.zero_le _, rfl, rfl, OwM.nil _ _ _ _, Below.refl _ _⟩
  case round =>
    obtain ⟨i, z, cz, hi, rfl, rfl, ho, hb⟩ := hrel
    obtain ⟨wo, rfl⟩ : ∃ x, x = wr := ⟨_, rfl⟩
    have hsz := hb.size
    by_cases hin : i < n
    · have i2 : (i : Int) < (n : Int) := by omega
      by_cases hi0 : 0 < i
      · have z1 : ((i : Int) == 0) = false := beq_eq_false_iff_ne.2 (by omega)
        have t1 : ((i : Int) - 1).toNat = i - 1 := by omega
        have i3 : (0 : Int) ≤ (i : Int) - 1 := by omega
        have i3' : (1 : Int) ≤ (i : Int) := by omega
        have i4 : (i : Int) - 1 < (n : Int) := by omega
        have HR := Lib.hid (comp_rowS (f := f) hi0 hin)
        go_wp2_with (first | (at_builtin; refine wpList_push_row HM.out rfl (.tmp 73) (.tmp 75) rfl rfl rfl ho (hb5.alloc hb5.size _) (ho5.below ((Below.refl _ _).alloc (Nat.le_refl _) _)) (by rw [World.cell?_alloc_at _ _ _ _ (by simp)]; rfl) (by omega) hsz ?_; intro a9 cap9 w9 ho9 hb9) | (refine wpList_make_ints HM.out.int rfl (.tmp 60) (.tmp 60) rfl rfl rfl (by omega) ?_; intro w4 ho4 hb4; obtain ⟨y1, f1⟩ := OwI.storeT ho4 (k := i - 1) (by omega); have ho5 := ho4.set (k := i - 1) 1; have hb5 := hb4.setCell (p := ⟨wo.heap.size, i - 1, none⟩) (Nat.le_refl _) (.int .i64 1)))
        have hb10 := ((hb.trans (hb5.mono hsz)).alloc (by have := hb5.size; omega) _).trans hb9
        go_roundw
        case rel => exact ⟨i + 1, a9, cap9, by omega, by go_num, rfl, by rw [rowsF_succ, ← HR.out]; exact ho9, hb10⟩
        case measure => simp [intOf]; omega
      · have z1 : ((i : Int) == 0) = true := beq_iff_eq.2 (by omega)
        have HZ : Hid (i = 0) := by unfold Hid; omega
        have i5 : (0 : Int) < (1 : Int) := by omega
        clear hi0
        go_wp2_with (first
          | (refine wpList_make_ints HM.out.int rfl (.tmp 60) (.tmp 60) rfl rfl rfl (by omega) ?_; intro w4 ho4 hb4)
          | (go_at_call 25; fail))
        have hfw := (hf.below (below_tr k2 hb)).below hb4
        have hR := RdM.oneT (b := w4.heap.size) (w := w4.alloc (.cells #[.slice a1 n c1] 22)) (by rw [World.cell?_alloc_at _ _ _ _ rfl]; rfl) (hfw.alloc _)
        have C := Lib.hid (R_Copy_any hR (by omega) (fun k hk => by
          obtain rfl : k = 0 := by omega
          show f.length ≤ 1000
          rw [HF.out]; omega))
        have hb5 := hb4.alloc hb4.size (.cells #[.slice a1 n c1] 22)
        (with_reducible refine C.out.mono ?_)
        clear C hR hfw
        rintro e w6 ⟨a6, c6, rfl, ho6, hb6⟩
        have hb7 := hb5.trans (hb6.mono hb5.size)
        obtain ⟨g6, hz6, hg61, hg62, _, hr6⟩ := ho6.at (k := 0) (by omega)
        subst hz6
        obtain ⟨ar, cr, y6, ho7⟩ := hr6 0 (by omega)
        rw [show rowOf [f] 0 = f from rfl] at y6 ho7
        rw [HF.out] at y6 ho7
        have ho8 := ho7.mono hb5.size
        have HR := HR0.out
        clear ho6 ho4 hb4 hb6 hr6 ho7
        go_wp2_with (first | (at_builtin; refine wpList_push_row HM.out rfl (.tmp 73) (.tmp 75) rfl rfl rfl ho (hb7.alloc hb7.size _) (ho8.below ((Below.refl _ _).alloc (Nat.le_refl _) _)) (by rw [World.cell?_alloc_at _ _ _ _ (by simp)]; rfl) (by omega) hsz ?_; intro a9 cap9 w9 ho9 hb9))
        have hb10 := ((hb.trans (hb7.mono hsz)).alloc (by have := hb7.size; omega) _).trans hb9
        go_roundw
        case rel => exact ⟨i + 1, a9, cap9, by omega, by go_num, rfl, by
          rw [rowsF_succ, show compM (ix f) i = compM (ix f) 0 from by rw [HZ.out], ← HR]; exact ho9, hb10⟩
        case measure => simp [intOf]; omega
    · obtain rfl : n = i := by omega
      have k3 := below_tr k2 hb
      have hP := ho.rd
      clear ho hb k2
      obtain ⟨eF, bF, F⟩ := FL.ex (n := n) g1 (mx (rowsF (compM (ix f)) n n))
      have HE := Lib.hid (comp_char g1 (fun i j hi hj => (rowsF_is (compM (ix f)) n n).2 i j hi hj) F)
      have C := char_Of_ok hP HG.out F
      obtain ⟨N, hN⟩ : ∃ N, N = n + 1 := ⟨_, rfl⟩
      rw [← hN] at C
      have C := Lib.hid C
      have z3 : ((N : Int) != (n : Int) + 1) = false := bne_eq_false_iff_eq.2 (by omega)
      have z4 : ((n : Int) != (n : Int)) = false := bne_eq_false_iff_eq.2 rfl
      have HN := Lib.hid hN
      clear F hN
      go_wp2_with (go_at_call 26; fail)
      (with_reducible refine C.out.mono ?_)
      clear C
      rintro e w4 ⟨aL, cL, l, rfl, hLO, hl, b4⟩
      have k4 := below_tr k3 b4
      have hL := hLO.rd
      have HL : Hid (∀ t, t < n → ix l (n - 1 - t) = -ix f t % 9973) := fun t ht => by rw [hl (n - 1 - t) (by omega), HE.out t ht]
      have C := Lib.hid (Pow_ok (e := at_) (hP.below b4) (squareR_of (lo := 0) (hi := 9972) (most := 5) g1 (by omega) HG.out.dm HG.out.ent) (by omega))
      clear hLO hl b4 k3 hP HE
      go_wp2_with (go_at_call 27; fail)
      (with_reducible refine C.out.mono ?_)
      clear C
      rintro e w5 ⟨aP, cP, P, rfl, hPO, hPi, b5⟩
      have k5 := below_tr k4 b5
      have hL := hL.below b5
      have hP := hPO.rd
      have HPI := Lib.hid hPi
      clear hPO hPi b5 k4
      go_wp2
      go_loopw [19] (fun x wr => ∃ (t z q : Nat), Hid (z = t + 1) ∧ t ≤ n ∧ 1 ≤ z ∧ z ≤ n + 1 ∧ x = .int .i64 z ∧ Hid (wr = w5.drewN q)) (fun x _ => n + 1 - (intOf x).toNat)
      case atStart => exact ⟨0, 1, 0, rfl, by omega, by omega, by omega, rfl, (World.drewN_zero _).symm⟩
      case round =>
        obtain ⟨t, z, q, hzt, htn, hz1, hz2, rfl, HQ⟩ := hrel
        have kb : Below w5.heap.size w5 wr := by rw [HQ.out]; exact below_drewN (Below.refl _ _) q
        by_cases hzn : z ≤ n
        · have i4 : (z : Int) ≤ (n : Int) := by omega
          have htn2 : t < n := by have := hzt.out; omega
          obtain ⟨bl, ol, rfl, _, hlc⟩ := (hL.below kb).at (k := n - z) (by have := HN.out; omega)
          have y1 := hlc (n - z) (by have := HN.out; omega)
          rw [show n - z = n - 1 - t by have := hzt.out; omega, HL.out t htn2] at y1
          obtain ⟨bf, of_, rfl, _, hfc⟩ := (hf.below (below_tr k5 kb)).at (k := t) htn2
          have y2 := hfc t htn2
          have bf1 := HI.out t (by rw [HF.out]; exact htn2)
          have t1 : ((n : Int) - (z : Int)).toNat = n - 1 - t := by have := hzt.out; omega
          have t2 : ((z : Int) - 1).toNat = t := by have := hzt.out; omega
          have i5 : (0 : Int) ≤ (n : Int) - (z : Int) := by omega
          have i6 : (n : Int) - (z : Int) < (N : Int) := by have := HN.out; omega
          have i7 : (0 : Int) ≤ (z : Int) - 1 := by omega
          have i7' : (1 : Int) ≤ (z : Int) := by omega
          have i8 : (z : Int) - 1 < (n : Int) := by omega
          obtain ⟨y, hy⟩ : ∃ y, y = ix f t := ⟨_, rfl⟩
          rw [← hy] at y1 y2 bf1
          have u1 : IntKind.i64.wrap ((n : Int) - (z : Int)) = (n : Int) - z := Go.IntWalk.i64_in _ (by omega)
          have u2 : IntKind.i64.wrap ((z : Int) - 1) = (z : Int) - 1 := Go.IntWalk.i64_in _ (by omega)
          have u3 : IntKind.i64.wrap (-y) = -y := Go.IntWalk.i64_in _ (by omega)
          have z5 : (-y % 9973 != -y % 9973) = false := bne_eq_false_iff_eq.2 rfl
          clear hlc hfc hy
          go_wp2
          go_quiet ((go_at_call 28; exact quietW (R_Mod_any _ _ (by omega) (by omega))))
          clear u1 u2 u3
          go_wp2
          go_roundw
          case rel => exact ⟨t + 1, z + 1, q + nq, congrArg (· + 1) hzt.out, by omega, by omega, by omega, by go_num, by unfold Hid; rw [HQ.out, World.drewN_drewN]⟩
          case measure => simp [intOf]; omega
        · have i4 : ¬ (z : Int) ≤ (n : Int) := by omega
          have k6 := below_tr k5 kb
          have hP6 := hP.below kb
          have hn1 : n - 1 < n := by omega
          have t1 : ((n : Int) - 1).toNat = n - 1 := by omega
          have i5 : (0 : Int) ≤ (n : Int) - 1 := by omega
          have i5' : (1 : Int) ≤ (n : Int) := by omega
          have i6 : (n : Int) - 1 < (n : Int) := by omega
          obtain ⟨bP, oP, rfl, ar, cr, y1, hrd⟩ := hP6.rowIn HPI.out.1 hn1
          have hpin : In 0 9972 (rowOf P (n - 1)) := fun k hk => by
            rw [HPI.out.1.2 _ hn1] at hk
            have e5 := HPI.out.2 (n - 1) k hn1 hk
            show 0 ≤ en P (n - 1) k ∧ en P (n - 1) k ≤ 9972
            dsimp only at e5
            omega
          have C := R_All_any 0 9972 hrd
          rw [allB_any, any_of_in hpin] at C
          have C := Lib.hid C
          clear hpin
          go_wp2_with (first | (go_at_call 14; (with_reducible refine C.out.mono ?_); rintro e w' ⟨rfl, rfl⟩))
          clear C
          go_loopw [20, 21] (fun v x wt => ∃ (k q : Nat) (V : Int), k ≤ n ∧ x = .int .i64 k ∧ v = .int .i64 V ∧ Hid (V = sumTo (fun k => en P (n - 1) k * ix s (n - 1 - k)) k % 9973) ∧ Hid (wt = w5.drewN q)) (fun _ x _ => n - (intOf x).toNat)
          case atStart => exact ⟨0, q, 0, Nat.zero_le _, rfl, rfl, by unfold Hid; simp [sumTo], HQ⟩
          case round =>
            clear HQ kb hP6 y1 hrd k6
            obtain ⟨k, q, V, hk, rfl, rfl, HV, HQ⟩ := hrel
            have kb : Below w5.heap.size w5 wr := by rw [HQ.out]; exact below_drewN (Below.refl _ _) q
            have k6 := below_tr k5 kb
            have bV : 0 ≤ V ∧ V ≤ 9972 := by have := HV.out; omega
            by_cases hkn : k < n
            · have i8 : (k : Int) < (n : Int) := by omega
              obtain ⟨bP2, oP2, hz2, ar, cr, y1, hrd⟩ := (hP.below kb).rowIn HPI.out.1 hn1
              cases hz2
              obtain ⟨br, or_, rfl, _, hce⟩ := hrd.at hkn
              have y2 : wr.cell? ⟨br, or_ + k, none⟩ = some (.int .i64 (en P (n - 1) k)) := hce k hkn
              obtain ⟨bs, os, rfl, _, hsc⟩ := (hs.below k6).at (k := n - 1 - k) (by omega)
              have y3 := hsc (n - 1 - k) (by omega)
              have m1 : 0 ≤ en P (n - 1) k ∧ en P (n - 1) k ≤ 9972 := by have e5 := HPI.out.2 (n - 1) k hn1 hkn; dsimp only at e5; omega
              have m2 := HIs.out (n - 1 - k) (by rw [HS.out]; omega)
              have HE2 : Hid ((V + en P (n - 1) k * ix s (n - 1 - k)) % 9973 = sumTo (fun k => en P (n - 1) k * ix s (n - 1 - k)) (k + 1) % 9973) := by
                unfold Hid
                rw [sumTo, HV.out, Int.emod_add_emod]
              obtain ⟨x, hx⟩ : ∃ x, x = en P (n - 1) k := ⟨_, rfl⟩
              obtain ⟨y, hy⟩ : ∃ y, y = ix s (n - 1 - k) := ⟨_, rfl⟩
              rw [← hx] at y2 m1 HE2
              rw [← hy] at y3 m2 HE2
              have p1 := mul_bd m1 m2
              have t2 : ((n : Int) - 1 - (k : Int)).toNat = n - 1 - k := by omega
              have i9 : (0 : Int) ≤ (n : Int) - 1 - (k : Int) := by omega
              have i10 : (n : Int) - 1 - (k : Int) < (n : Int) := by omega
              have u1 : IntKind.i64.wrap ((n : Int) - 1) = (n : Int) - 1 := Go.IntWalk.i64_in _ (by omega)
              have u2 : IntKind.i64.wrap ((n : Int) - 1 - (k : Int)) = (n : Int) - 1 - k := Go.IntWalk.i64_in _ (by omega)
              have u3 : IntKind.i64.wrap (x * y) = x * y := Go.IntWalk.i64_in _ (by omega)
              have u4 : IntKind.i64.wrap (V + x * y) = V + x * y := Go.IntWalk.i64_in _ (by omega)
              clear hx hy hce hsc hrd
              go_wp2
              go_quiet ((go_at_call 28; exact quietW (R_Mod_any _ _ (by omega) (by omega))))
              clear u1 u2 u3 u4
              go_wp2
              go_roundw
              case rel => exact ⟨k + 1, q + nq, _, by omega, by go_num, rfl, HE2, by unfold Hid; rw [HQ.out, World.drewN_drewN]⟩
              case measure => simp [intOf]; omega
            · obtain rfl : n = k := by omega
              have hVX : V = X := by
                have a1 : Eqm (sumTo (fun k => en P (n - 1) k * ix s (n - 1 - k)) n) (sumTo (fun k => powM n (compM (ix f)) at_ (n - 1) k * ix s (n - 1 - k)) n) := sumTo_eqm fun k hk => by
                  refine Eqm.mul ?_ (Eqm.refl _)
                  rw [HPI.out.2 (n - 1) k hn1 hk]
                  refine (Eqm.mod _).trans ?_
                  exact powM_congr (fun i j hi hj => Eqm.of_eq ((rowsF_is (compM (ix f)) n n).2 i j hi hj)) at_ (n - 1) k hn1 hk
                have a2 := a1.trans (HT.out at_ (n - 1) hn1)
                rw [show at_ + (n - 1 - (n - 1)) = at_ by omega, ← HX.out] at a2
                have a3 := HV.out
                unfold Eqm at a2
                omega
              subst hVX
              have zV : (V == V) = true := beq_iff_eq.2 rfl
              go_wp2
              go_ret
              exact ⟨rfl, k6⟩

theorem topCompanion_walk {at_ : Int} (hf : RdI w a1 n1 c1 f) (_ : Fit f) (hs : RdI w a2 n2 c2 s) (_ : Fit s) (_ : (Lit.int .i64 at_).wf = true) :
    Calls Try.prog 8 #[.slice a1 n1 c1, .slice a2 n2 c2, .int .i64 at_] w fun e w' => e = .returned (.bool true) ∧ Below w.heap.size w w' := by
  rcases h : rowErr f s at_ with _ | c
  · obtain ⟨h1, h2, _⟩ := rowErr_none h
    obtain ⟨t, rfl⟩ := Int.eq_ofNat_of_zero_le h2
    obtain ⟨_, _, g3, _, _⟩ := checkR_none h1
    rw [hs.len_eq, hf.len_eq] at g3
    subst g3
    rcases Nat.lt_or_ge 60 t with h5 | h5
    · exact topCompanion_far hf hs h h5
    · exact topCompanion_ok hf hs h h5
  · exact topCompanion_err hf hs h
end
end Go.Proofs.Ytfocfgddlnjfmaa
