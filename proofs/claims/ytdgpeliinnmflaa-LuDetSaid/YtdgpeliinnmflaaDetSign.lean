/-
  DetSign walked: two that change places turn an order's sign; the matrix of an order has its sign as its determinant.
-/
import Derived.Test.YtdgpeliinnmflaaRows
import Derived.Test.YtdgpeliinnmflaaLib
import Derived.Test.YtdgpeliinnmflaaRef
import Derived.Test.YtdgpeliinnmflaaDetOf
import Derived.Test.YtdgpeliinnmflaaDetFact
import Derived.Test.YtdgpeliinnmflaaDetLaw
import Derived.Test.YtdgpeliinnmflaaSignLaw
import Derived.StillTailTactics
namespace Go.Proofs.Ytdgpeliinnmflaa
open Go.RowKit Go.Rk

theorem R_Sign_is {a : Option Addr} {len cap : Nat} {l : List Int} {w : World} (h : RdI w a len cap l) :
    Calls Try.prog 29 #[.slice a len cap] w fun e w' => e = .returned (.int .i64 (signC l)) ∧ ∃ m, w' = w.drewN m := by
  have e := h.len_eq
  have := R_Sign_any h
  rw [sign_is e] at this
  exact this

theorem wpbelow_drewN {w w' : World} (h : ∃ m, w' = w.drewN m) : Below w.heap.size w w' := by
  obtain ⟨m, rfl⟩ := h
  exact below_drewN (Below.refl _ _) m

/-- Row r of an order's matrix. -/
def rowO (l : List Int) (n r : Nat) : List Int := (List.replicate n 0).set (natsOf l r) 1
theorem matO_row {l : List Int} {n r : Nat} (h : r < n) : rowOf (matO l n) r = rowO l n r := by
  rw [rowOf_lt (by simp [matO]; exact h)]
  simp [matO, rowO]
theorem matO_take {l : List Int} {n r : Nat} (h : r < n) : (matO l n).take (r + 1) = (matO l n).take r ++ [rowO l n r] := by
  rw [take_succ_row (by simp [matO]; exact h), matO_row h]
theorem matO_en {l : List Int} {n r c : Nat} (h : r < n) (hc : c < n) : en (matO l n) r c = pm (natsOf l) r c := by
  unfold en
  rw [matO_row h, rowO, ix_set]
  unfold pm unit_
  by_cases e : natsOf l r = c
  · rw [if_pos ⟨e, by simp; exact hc⟩, if_pos (by first | exact e.symm | exact e)]
  · rw [if_neg fun h => e h.1, if_neg (fun h => e (by first | exact h.symm | exact h))]
    rw [ix_lt (by simp; exact hc)]
    simp
theorem matO_sq (l : List Int) {n : Nat} (h0 : 1 ≤ n) (h5 : n ≤ 5) : squareR 5 0 9972 (matO l n) = none := by
  have hl : (matO l n).length = n := by simp [matO]
  have hd : Dim n (matO l n) := ⟨hl, fun i hi => by rw [matO_row hi]; simp [rowO]⟩
  refine squareR_of h0 (by omega) hd fun r c hr hc => ?_
  rw [matO_en hr hc]
  unfold pm unit_
  split <;> omega
theorem matO_det (l : List Int) (n : Nat) : det n (mx (matO l n)) = det n (pm (natsOf l)) :=
  det_congr fun _ _ hr hc => matO_en hr hc

set_option maxHeartbeats 2000000 in
theorem detSign_early {a0 : Option Addr} {n cap : Nat} {l : List Int} {i j : Int} {w : World} (hl : RdI w a0 n cap l) (h : 8 < n ∨ (n ≤ 8 ∧ signC l = 0)) :
    Calls Try.prog 8 #[.slice a0 n cap, .int .i64 i, .int .i64 j] w fun e w' => e = .returned (.bool true) ∧ Below w.heap.size w w' := by
  have hm := hl.len_max
  rcases h with h | ⟨h, h0⟩
  · go_enter Try.func8, Try.ntmps8
    go_wp2_with (first | (go_at_call 23; refine (detFact_any _).mono ?_; rintro e w1 ⟨rfl, hb1⟩))
    go_ret
    exact ⟨rfl, hb1⟩
  · have H0 := Lib.hid h0
    clear h0
    go_enter Try.func8, Try.ntmps8
    go_wp2_with (first | (go_at_call 23; refine (detFact_any _).mono ?_; rintro e w1 ⟨rfl, hb1⟩) | (go_at_call 28; refine (Sign_any (hl.below hb1) (by omega)).mono ?_; rintro e w2 ⟨rfl, hb2⟩; rw [H0.out]; have k2 := hb1.trans (hb2.mono hb1.size)) | (go_at_call 29; fail))
    have C3 := Lib.hid (R_Sign_is (hl.below k2))
    (with_reducible refine C3.out.mono ?_)
    clear C3
    rintro e w3 ⟨rfl, hb3⟩
    have hb3 := wpbelow_drewN hb3
    have k3 := k2.trans (hb3.mono k2.size)
    rw [H0.out]
    go_wp2_with (go_at_call 29; fail)
    have C4 := Lib.hid (R_Sign_is (hl.below k3))
    (with_reducible refine C4.out.mono ?_)
    clear C4
    rintro e w4 ⟨rfl, hb4⟩
    have hb4 := wpbelow_drewN hb4
    have k4 := k3.trans (hb4.mono k3.size)
    rw [H0.out]
    go_wp2
    go_ret
    exact ⟨rfl, k4⟩

theorem RdM.one {b : Nat} {a0 : Option Addr} {n0 c0 : Nat} {l0 : List Int} {w : World} (h0 : w.cell? ⟨b, 0, none⟩ = some (.slice a0 n0 c0)) (r0 : RdI w a0 n0 c0 l0) :
    RdM w (some ⟨b, 0, none⟩) 1 1 [l0] := by
  refine ⟨rfl, Nat.le_refl _, by decide, fun k hk => ?_⟩
  obtain rfl : k = 0 := by omega
  exact ⟨b, 0, a0, n0, c0, rfl, h0, r0⟩

set_option maxHeartbeats 2000000 in
set_option maxRecDepth 100000 in
theorem detSign_some {a0 : Option Addr} {n cap : Nat} {l : List Int} {i j : Int} {w : World} (hl : RdI w a0 n cap l) (h : n ≤ 8) (h0 : signC l ≠ 0) (wi : (Lit.int .i64 i).wf = true) (wj : (Lit.int .i64 j).wf = true) :
    Calls Try.prog 8 #[.slice a0 n cap, .int .i64 i, .int .i64 j] w fun e w' => e = .returned (.bool true) ∧ Below w.heap.size w w' := by
  have hm := hl.len_max
  have e1 := hl.len_eq
  have HE := Lib.hid e1
  have HN := Lib.hid h0
  have hs1 : signC l = 1 ∨ signC l = -1 := by
    rcases signC_pm l with e | e | e
    · exact absurd e h0
    · exact .inl e
    · exact .inr e
  obtain ⟨S, hS⟩ : ∃ S, signC l = S := ⟨_, rfl⟩
  rw [hS] at hs1
  have HS := Lib.hid hS
  have z0 : (S == 0) = false := beq_eq_false_iff_ne.2 (by omega)
  clear hS h0 e1
  have z1 : (S != S) = false := bne_eq_false_iff_eq.2 rfl
  go_enter Try.func8, Try.ntmps8
  go_wp2_with (first | (go_at_call 23; refine (detFact_any _).mono ?_; rintro e w1 ⟨rfl, hb1⟩) | (go_at_call 28; refine (Sign_any (hl.below hb1) (by omega)).mono ?_; rintro e w2 ⟨rfl, hb2⟩; rw [HS.out]; have k2 := hb1.trans (hb2.mono hb1.size)) | (go_at_call 29; fail))
  have C3 := Lib.hid (R_Sign_is (hl.below k2))
  (with_reducible refine C3.out.mono ?_)
  clear C3
  rintro e w3 ⟨rfl, hb3⟩
  have hb3 := wpbelow_drewN hb3
  have k3 := k2.trans (hb3.mono k2.size)
  clear hb1 hb2 hb3 k2
  rw [HS.out]
  go_wp2_with (go_at_call 16; refine (L2_in_any _ _ _ _).mono ?_; rintro e w' ⟨rfl, rfl⟩)
  focus
    rename_i ha hb hc _ _ _ _
    replace ha := inB_true ha
    replace hb := inB_true hb
    have hij : i ≠ j := bne_iff_ne.1 hc
    clear hc
    obtain ⟨i', rfl⟩ := Int.eq_ofNat_of_zero_le ha.1
    obtain ⟨j', rfl⟩ := Int.eq_ofNat_of_zero_le hb.1
    have hi : i' < n := by omega
    have hj : j' < n := by omega
    have hij2 : i' ≠ j' := by omega
    have HSW := Lib.hid (signC_swap (l := l) HN.out (by rw [HE.out]; exact hi) (by rw [HE.out]; exact hj) hij2)
    have ka := k3.alloc k3.size (.cells #[.slice a0 n cap] 38)
    have hL1 : ∀ k, k < 1 → (rowOf [l] k).length ≤ 1000 := fun k hk => by
      obtain rfl : k = 0 := by omega
      show l.length ≤ 1000
      have := HE.out
      omega
    have C4 := Lib.hid (R_Copy_any (RdM.one (b := w3.heap.size) (l0 := l) (w := w3.alloc (.cells #[.slice a0 n cap] 38)) (by simp) (hl.below ka)) (by omega) hL1)
    (with_reducible refine C4.out.mono ?_)
    clear C4
    rintro e w4 ⟨pa, ca, rfl, ho4, hb4⟩
    have k4 := ka.trans (hb4.mono ka.size)
    obtain ⟨g, rfl, hg1, hg2, hfz, hrow⟩ := ho4.at (k := 0) (by omega)
    obtain ⟨ar, cr, hc0, hoi⟩ := hrow 0 (by omega)
    rw [show rowOf [l] 0 = l from rfl, HE.out] at hc0 hoi
    obtain ⟨g2, rfl, hg3, hg4, hcs, hfs⟩ := hoi.at (by omega)
    have y1 := hcs i' hi
    have y2 := hcs j' hj
    have f1 := hfs i'
    have f2 := hfs j'
    obtain ⟨b, off, rfl, hbl, hco⟩ := (hl.below k4).at hi
    have y3 := hco j' hj
    have ho5 := hoi.set (k := i') (ix l j')
    have ho6 := ho5.set (k := j') (ix l i')
    have hge : w.heap.size ≤ g2 := by have := ka.size; omega
    have k5 := k4.setCell (p := ⟨g2, i', none⟩) hge (.int .i64 (ix l j'))
    have k6 := k5.setCell (p := ⟨g2, j', none⟩) hge (.int .i64 (ix l i'))
    obtain ⟨b1, off1, hz, _, hco2⟩ := (hl.below k5).at hi
    cases hz
    have y4 := hco2 i' hi
    have y5 : (w4.setCell ⟨g2, i', none⟩ (.int .i64 (ix l j'))).cell? ⟨g2, j', none⟩ = some (.int .i64 (ix l j')) := by rw [World.cell?_setCell_other _ _ _ _ (by simp <;> omega)]; exact y2
    have b1 : (i' : Int) < (n : Int) := by omega
    have b2 : (j' : Int) < (n : Int) := by omega
    clear hrow hfz hcs hfs hco hco2
    go_wp2_with (go_at_call 28; fail)
    have C5 := Lib.hid (Sign_any ho6.rd (by omega))
    (with_reducible refine C5.out.mono ?_)
    clear C5
    rintro e w5 ⟨rfl, hb5⟩
    have k7 := k6.trans (hb5.mono k6.size)
    rw [HSW.out, HS.out]
    have z2 : (-S != -S) = false := bne_eq_false_iff_eq.2 rfl
    have u1 : IntKind.i64.wrap (-S) = -S := Go.IntWalk.i64_in _ (by omega)
    clear k3 ka k4 k5 k6 hb4 hb5 ho5 ho6 hoi ho4 y1 y2 y3 y4 y5 f1 f2 hc0
    revert k7
    generalize w5 = w3
    intro k3
    go_wp2
  any_goals (go_ret; exact ⟨rfl, k3⟩)
  all_goals
    have hn1 : 1 ≤ n := by omega
    have hn5 : n ≤ 5 := by omega
    have hOK : okN l n n = true := signC_ok HE.out HN.out
    have HOK := Lib.hid hOK
    clear hOK
    have HM := Lib.hid matTy
    go_loopw [11, 12] (fun v r wr => ∃ (k : Nat) (q : Option Addr) (cq : Nat), k ≤ n ∧ r = .int .i64 k ∧ v = .slice q k cq ∧ OwM wr w3.heap.size 38 3 q k cq ((matO l n).take k) ∧ Below w3.heap.size w3 wr) (fun _ r _ => n - (intOf r).toNat)
    case atStart => exact ⟨0, none, 0, Nat.zero_le _, rfl, rfl, OwM.nil _ _ _ _, Below.refl _ _⟩
    case round =>
      obtain ⟨k, q, cq, hk, rfl, rfl, ho, hb⟩ := hrel
      have k4 := k3.trans (hb.mono k3.size)
      by_cases hlt : k < n
      · obtain ⟨b, off, hz, hbl, hco⟩ := (hl.below k4).at hlt
        cases hz
        have y1 := hco k hlt
        have x1 := (okN_ord HOK.out).2 k hlt
        have x2 := (okN_ord HOK.out).1.lt k hlt
        obtain ⟨p, hp⟩ : ∃ p : Nat, ix l k = p := ⟨(ix l k).toNat, by omega⟩
        have HP := Lib.hid (show natsOf l k = p by unfold natsOf; rw [hp]; rfl)
        have hpn : p < n := by have := HP.out; unfold natsOf at this; omega
        rw [hp] at y1
        have p1 : (p : Int) < (n : Int) := by omega
        clear x1 x2 hp hco
        have hsz := hb.size
        go_wp2_with (first
          | (at_builtin; refine wpList_push_row HM.out rfl (.tmp 96) (.tmp 98) rfl rfl rfl ho (hb5.alloc hb5.size _) ((ho4.set (k := p) 1).below ((Below.refl _ _).alloc (Nat.le_refl _) _)) (by rw [World.cell?_alloc_at _ _ _ _ (by simp)]; rfl) (by omega) hsz ?_; intro a5 cap5 w5 ho5 hb6)
          | (refine wpList_make_ints HM.out.int rfl (.tmp 88) (.tmp 88) rfl rfl rfl (by omega) ?_; intro w4 ho4 hb4; obtain ⟨g4, hz, hg41, hg42, hc4, hf4⟩ := ho4.at (by omega); cases hz; have y2 := hb4.keep hbl y1; have y3 := hc4 p hpn; have y4 := hf4 p; have hb5 := hb4.setCell (p := ⟨wr.heap.size, p, none⟩) (Nat.le_refl _) (.int .i64 1); clear hc4 hf4))
        have hb7 := ((hb.trans (hb5.mono hsz)).alloc (by have := hb5.size; omega) _).trans hb6
        go_roundw
        case rel => exact ⟨k + 1, a5, cap5, by omega, by go_num, rfl, by rw [matO_take hlt]; unfold rowO; rw [HP.out]; exact ho5, hb7⟩
        case measure => simp [intOf]; omega
      · obtain rfl : k = n := by omega
        rw [List.take_of_length_le (by simp [matO])] at ho
        have HQ := Lib.hid (matO_sq l hn1 hn5)
        have HD := Lib.hid ((matO_det l k).trans (signC_ord HE.out HOK.out).symm)
        go_wp2_with (first | (go_at_call 24; refine (det_Of_ok ho.rd HQ.out).mono ?_; rw [HD.out, HS.out]; rintro e w6 ⟨rfl, hb6⟩; have k6 := k4.trans (hb6.mono k4.size)) | (go_at_call 26; refine (R_Mod_any _ _ (by omega) (by omega)).mono ?_; rintro e w' ⟨rfl, rfl⟩))
        go_ret
        exact ⟨rfl, k6⟩

theorem detSign_walk {a0 : Option Addr} {n cap : Nat} {l : List Int} {i j : Int} {w : World} (hl : RdI w a0 n cap l) (_ : Fit l) (wi : (Lit.int .i64 i).wf = true) (wj : (Lit.int .i64 j).wf = true) :
    Calls Try.prog 8 #[.slice a0 n cap, .int .i64 i, .int .i64 j] w fun e w' => e = .returned (.bool true) ∧ Below w.heap.size w w' := by
  rcases Nat.lt_or_ge 8 n with h | h
  · exact detSign_early hl (.inl h)
  · by_cases h0 : signC l = 0
    · exact detSign_early hl (.inr ⟨h, h0⟩)
    · exact detSign_some hl h h0 wi wj
end Go.Proofs.Ytdgpeliinnmflaa
