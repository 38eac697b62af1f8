/-
  The reference's Band and Full walked: what is wrong with a band, and its matrix.
-/
import Derived.Test.YtefmllkimdaimaaDoorRows
import Derived.Test.YtefmllkimdaimaaDoorLib
import Derived.Test.YtefmllkimdaimaaDoorNum
import Derived.Test.YtefmllkimdaimaaDoorMat
import Derived.Test.YtefmllkimdaimaaDoorRect
import Derived.Test.YtefmllkimdaimaaDoorRowsF
import Derived.Test.YtefmllkimdaimaaDoorRef
import Derived.Test.YtefmllkimdaimaaDoorRDet
import Derived.Test.YtefmllkimdaimaaDoorTri
import Derived.Test.YtefmllkimdaimaaDoorBand
import Derived.Test.YtefmllkimdaimaaDoorBandP
namespace Go.Proofs.YtefmllkimdaimaaDoor
open Go.RowKit Go.Rk

theorem checkB_nz {m a b : List Int} {c : Int} (h : checkB m a b = some c) : c ≠ 0 := by
  unfold checkB at h
  (repeat' split at h) <;> first | (injection h with h; subst h; decide) | cases h

theorem _root_.Go.Rk.OwI.store_at {w : World} {B E g n cap k : Nat} {l : List Int} (h : OwI w B E (some ⟨g, 0, none⟩) n cap l) (hk : k < n) : w.cell? ⟨g, k, none⟩ = some (.int .i64 (ix l k)) ∧ w.frozen? ⟨g, k, none⟩ = false := by
  obtain ⟨g', hz, _, _, hc, hf⟩ := h.at (by omega)
  cases hz
  exact ⟨hc k hk, hf k⟩

section
variable {p q r : Option Addr} {n1 c1 n2 c2 n3 c3 : Nat} {m a b : List Int} {w : World}
set_option maxHeartbeats 1000000 in
theorem M_Band_any (hm : RdI w p n1 c1 m) (ha : RdI w q n2 c2 a) (hb : RdI w r n3 c3 b) :
    Calls Tryd.prog 13 #[.slice p n1 c1, .slice q n2 c2, .slice r n3 c3] w fun e w' => e = .returned (numV (checkB m a b)) ∧ w = w' := by
  have l1 := hm.len_max
  have l2 := ha.len_max
  have l3 := hb.len_max
  have A1 := R_All_any 0 9972 hm
  have A2 := R_All_any 0 9972 ha
  have A3 := R_All_any 0 9972 hb
  have B1 := Lib.hid hm.len_eq
  have B2 := Lib.hid ha.len_eq
  have B3 := Lib.hid hb.len_eq
  rw [allB_any] at A1 A2 A3
  rcases h1 : anyB 0 9972 m <;> rcases h2 : anyB 0 9972 a <;> rcases h3 : anyB 0 9972 b
  all_goals
    rw [h1] at A1
    rw [h2] at A2
    rw [h3] at A3
    have H1 := Lib.hid h1
    have H2 := Lib.hid h2
    have H3 := Lib.hid h3
    clear h1 h2 h3
    have A1' := Lib.hid A1
    have A2' := Lib.hid A2
    have A3' := Lib.hid A3
    clear A1 A2 A3
    go_enter Tryd.func13, Tryd.ntmps13
    go_wp2_with (go_at_call 19; first | ((with_reducible refine A1'.out.mono ?_); rintro e w' ⟨rfl, rfl⟩) | ((with_reducible refine A2'.out.mono ?_); rintro e w' ⟨rfl, rfl⟩) | ((with_reducible refine A3'.out.mono ?_); rintro e w' ⟨rfl, rfl⟩))
  all_goals
    go_ret
    refine ⟨?_, rfl⟩
    unfold checkB
    rw [B1.out, B2.out, B3.out, H1.out, H2.out, H3.out]
    (try simp only [beq_iff_eq, bne_iff_ne, beq_eq_false_iff_ne, bne_eq_false_iff_eq, ne_eq] at *)
    (repeat' split) <;> first | rfl | (exfalso; omega) | (exfalso; simp_all; done) | (exfalso; contradiction)

theorem band_row {m a b : List Int} {n k : Nat} (hk : k < n) : rowF (triM (ix m) (ix a) (ix b) k) n = (if k + 1 < n then (fun l : List Int => l.set (k + 1) (ix a k)) else id) ((if 0 < k then (fun l : List Int => l.set (k - 1) (ix b (k - 1))) else id) ((List.replicate n 0).set k (ix m k))) := by
  apply ix_ext
  · (repeat' split) <;> simp [rowF]
  · intro j hj
    rw [rowF_len] at hj
    rw [rowF_ix hj]
    unfold triM
    have e0 : ix ((List.replicate n 0).set k (ix m k)) j = if k = j then ix m k else 0 := by
      rw [ix_set]
      by_cases e : k = j
      · rw [if_pos ⟨e, by simp; exact hj⟩, if_pos e]
      · rw [if_neg fun h => e h.1, if_neg e, ix_lt (by simp; exact hj)]; simp
    have e1 : ix ((if 0 < k then (fun l : List Int => l.set (k - 1) (ix b (k - 1))) else id) ((List.replicate n 0).set k (ix m k))) j = if 0 < k ∧ k - 1 = j then ix b (k - 1) else if k = j then ix m k else 0 := by
      by_cases h : 0 < k
      · rw [if_pos h]
        show ix (List.set _ _ _) j = _
        rw [ix_set, e0]
        by_cases e : k - 1 = j
        · rw [if_pos ⟨e, by simp; exact hj⟩, if_pos ⟨h, e⟩]
        · rw [if_neg (fun h : k - 1 = j ∧ _ => e h.1), if_neg (fun h : 0 < k ∧ k - 1 = j => e h.2)]
      · rw [if_neg h, if_neg fun x => h x.1]
        exact e0
    have hl : ((if 0 < k then (fun l : List Int => l.set (k - 1) (ix b (k - 1))) else id) ((List.replicate n 0).set k (ix m k))).length = n := by split <;> simp
    by_cases h : k + 1 < n
    · rw [if_pos h]
      show _ = ix (List.set _ _ _) j
      rw [ix_set, e1, hl]
      by_cases c1 : k = j
      · subst c1; rw [if_pos rfl, if_neg (by omega), if_neg (by omega), if_pos rfl]
      · by_cases c2 : j = k + 1
        · subst c2; rw [if_neg c1, if_pos rfl, if_pos ⟨rfl, hj⟩]
        · by_cases c3 : k = j + 1
          · subst c3; rw [if_neg c1, if_neg c2, if_pos rfl, if_neg (by omega), if_pos (by omega)]; simp
          · rw [if_neg c1, if_neg c2, if_neg c3, if_neg (by omega), if_neg (by omega), if_neg c1]
    · rw [if_neg h]
      show _ = ix _ j
      rw [show ∀ l : List Int, id l = l from fun _ => rfl, e1]
      by_cases c1 : k = j
      · subst c1; rw [if_pos rfl, if_neg (by omega), if_pos rfl]
      · by_cases c2 : j = k + 1
        · omega
        · by_cases c3 : k = j + 1
          · subst c3; rw [if_neg c1, if_neg c2, if_pos rfl, if_pos (by omega)]; simp
          · rw [if_neg c1, if_neg c2, if_neg c3, if_neg (by omega), if_neg c1]

set_option maxHeartbeats 4000000 in
set_option maxRecDepth 100000 in
theorem M_Full_any (hm : RdI w p n1 c1 m) (ha : RdI w q n2 c2 a) (hb : RdI w r n3 c3 b) (h1 : n1 ≤ 100) (h2 : n2 = n1 - 1) (h3 : n3 = n1 - 1) :
    Calls Tryd.prog 16 #[.slice p n1 c1, .slice q n2 c2, .slice r n3 c3] w fun e w' => ∃ z cz, e = .returned (.slice z n1 cz) ∧ OwM w' w.heap.size 22 3 z n1 cz (rowsF (triM (ix m) (ix a) (ix b)) n1 n1) ∧ Below w.heap.size w w' := by
  have HM := Lib.hid matTy
  have E2 : n1 ≤ n2 + 1 := by omega
  have E3 : n1 ≤ n3 + 1 := by omega
  clear h2 h3
  go_enter Tryd.func16, Tryd.ntmps16
  go_wp2
  go_loopw [8, 9] (fun v x wr => ∃ (k : Nat) (q : Option Addr) (cq : Nat), k ≤ n1 ∧ x = .int .i64 k ∧ v = .slice q k cq ∧ OwM wr w.heap.size 22 3 q k cq (rowsF (triM (ix m) (ix a) (ix b)) n1 k) ∧ Below w.heap.size w wr) (fun _ x _ => n1 - (intOf x).toNat)
  case atStart => exact ⟨0, none, 0, Nat.zero_le _, rfl, rfl, OwM.nil _ _ _ _, Below.refl _ _⟩
  case round =>
    obtain ⟨k, q0, cq, hk, rfl, rfl, ho, hbw⟩ := hrel
    by_cases hlt : k < n1
    · have hlt' : (k : Int) < (n1 : Int) := by omega
      have hsz := hbw.size
      have HR := Lib.hid (band_row (m := m) (a := a) (b := b) hlt)
      obtain ⟨bm, om, rfl, hbm, hcm⟩ := hm.at hlt
      have xm := hbw.keep hbm (hcm k hlt)
      have hbm2 : bm < wr.heap.size := by omega
      clear hcm
      by_cases c0 : 0 < k
      · by_cases c9 : k + 1 < n1
        · skip
          have t1 : ((k : Int) - 1).toNat = k - 1 := by omega
          have i2 : (1 : Int) ≤ (k : Int) := by omega
          have i2' : (0 : Int) < (k : Int) := by omega
          have i5 : (k : Int) - 1 < (n1 : Int) := by omega
          have i6 : (k : Int) - 1 < (n3 : Int) := by omega
          obtain ⟨bb, ob, rfl, hbb, hcb⟩ := hb.at (k := k - 1) (by omega)
          have xb := hbw.keep hbb (hcb (k - 1) (by omega))
          have hbb2 : bb < wr.heap.size := by omega
          clear hcb
          have t2 : ((k : Int) + 1).toNat = k + 1 := by omega
          have i3 : (k : Int) + 1 < (n1 : Int) := by omega
          have i4 : (k : Int) < (n2 : Int) := by omega
          obtain ⟨bq, oq, rfl, hbq, hcq⟩ := ha.at (k := k) (by omega)
          have xa := hbw.keep hbq (hcq k (by omega))
          have hbq2 : bq < wr.heap.size := by omega
          clear hcq
          go_wp2_with (first | (at_builtin; refine wpList_push_row HM.out rfl (.tmp 50) (.tmp 52) rfl rfl rfl ho (hb7.alloc hb7.size _) (ho7.below ((Below.refl _ _).alloc (Nat.le_refl _) _)) (by rw [World.cell?_alloc_at _ _ _ _ (by simp)]; rfl) (by omega) hsz ?_; intro a9 cap9 w9 ho9 hb9) | (refine wpList_make_ints HM.out.int rfl (.tmp 18) (.tmp 18) rfl rfl rfl (by omega) ?_; intro w4 ho4 hb4; have hs4 : wr.heap.size < w4.heap.size := (ho4.own.lt _ rfl).2; obtain ⟨y1, f1⟩ := ho4.store_at (k := k) hlt; have xm4 := hb4.keep hbm2 xm; have ho5 := ho4.set (k := k) (ix m k); have hb5 := hb4.setCell (p := ⟨wr.heap.size, k, none⟩) (Nat.le_refl _) (.int .i64 (ix m k)); obtain ⟨y2, f2⟩ := ho5.store_at (k := k - 1) (by omega); have xb5 := hb5.keep hbb2 xb; have ho6 := ho5.set (k := k - 1) (ix b (k - 1)); have hb6 := hb5.setCell (p := ⟨wr.heap.size, k - 1, none⟩) (Nat.le_refl _) (.int .i64 (ix b (k - 1))); obtain ⟨y3, f3⟩ := ho6.store_at (k := k + 1) (by omega); have xa6 := hb6.keep hbq2 xa; have ho7 := ho6.set (k := k + 1) (ix a k); have hb7 := hb6.setCell (p := ⟨wr.heap.size, k + 1, none⟩) (Nat.le_refl _) (.int .i64 (ix a k))))
          have hb10 := ((hbw.trans (hb7.mono hsz)).alloc (by have := hb7.size; omega) _).trans hb9
          go_roundw
          case rel => exact ⟨k + 1, a9, cap9, by omega, by go_num, rfl, by rw [rowsF_succ, HR.out, if_pos (by omega), if_pos (by omega)]; exact ho9, hb10⟩
          case measure => simp [intOf]; omega
        · skip
          have t1 : ((k : Int) - 1).toNat = k - 1 := by omega
          have i2 : (1 : Int) ≤ (k : Int) := by omega
          have i2' : (0 : Int) < (k : Int) := by omega
          have i5 : (k : Int) - 1 < (n1 : Int) := by omega
          have i6 : (k : Int) - 1 < (n3 : Int) := by omega
          obtain ⟨bb, ob, rfl, hbb, hcb⟩ := hb.at (k := k - 1) (by omega)
          have xb := hbw.keep hbb (hcb (k - 1) (by omega))
          have hbb2 : bb < wr.heap.size := by omega
          clear hcb
          have i3 : ¬ (k : Int) + 1 < (n1 : Int) := by omega
          go_wp2_with (first | (at_builtin; refine wpList_push_row HM.out rfl (.tmp 50) (.tmp 52) rfl rfl rfl ho (hb6.alloc hb6.size _) (ho6.below ((Below.refl _ _).alloc (Nat.le_refl _) _)) (by rw [World.cell?_alloc_at _ _ _ _ (by simp)]; rfl) (by omega) hsz ?_; intro a9 cap9 w9 ho9 hb9) | (refine wpList_make_ints HM.out.int rfl (.tmp 18) (.tmp 18) rfl rfl rfl (by omega) ?_; intro w4 ho4 hb4; have hs4 : wr.heap.size < w4.heap.size := (ho4.own.lt _ rfl).2; obtain ⟨y1, f1⟩ := ho4.store_at (k := k) hlt; have xm4 := hb4.keep hbm2 xm; have ho5 := ho4.set (k := k) (ix m k); have hb5 := hb4.setCell (p := ⟨wr.heap.size, k, none⟩) (Nat.le_refl _) (.int .i64 (ix m k)); obtain ⟨y2, f2⟩ := ho5.store_at (k := k - 1) (by omega); have xb5 := hb5.keep hbb2 xb; have ho6 := ho5.set (k := k - 1) (ix b (k - 1)); have hb6 := hb5.setCell (p := ⟨wr.heap.size, k - 1, none⟩) (Nat.le_refl _) (.int .i64 (ix b (k - 1)))))
          have hb10 := ((hbw.trans (hb6.mono hsz)).alloc (by have := hb6.size; omega) _).trans hb9
          go_roundw
          case rel => exact ⟨k + 1, a9, cap9, by omega, by go_num, rfl, by rw [rowsF_succ, HR.out, if_neg (by omega), if_pos (by omega)]; exact ho9, hb10⟩
          case measure => simp [intOf]; omega
      · by_cases c9 : k + 1 < n1
        · skip
          have i2 : ¬ (1 : Int) ≤ (k : Int) := by omega
          have i2' : ¬ (0 : Int) < (k : Int) := by omega
          have t2 : ((k : Int) + 1).toNat = k + 1 := by omega
          have i3 : (k : Int) + 1 < (n1 : Int) := by omega
          have i4 : (k : Int) < (n2 : Int) := by omega
          obtain ⟨bq, oq, rfl, hbq, hcq⟩ := ha.at (k := k) (by omega)
          have xa := hbw.keep hbq (hcq k (by omega))
          have hbq2 : bq < wr.heap.size := by omega
          clear hcq
          go_wp2_with (first | (at_builtin; refine wpList_push_row HM.out rfl (.tmp 50) (.tmp 52) rfl rfl rfl ho (hb7.alloc hb7.size _) (ho7.below ((Below.refl _ _).alloc (Nat.le_refl _) _)) (by rw [World.cell?_alloc_at _ _ _ _ (by simp)]; rfl) (by omega) hsz ?_; intro a9 cap9 w9 ho9 hb9) | (refine wpList_make_ints HM.out.int rfl (.tmp 18) (.tmp 18) rfl rfl rfl (by omega) ?_; intro w4 ho4 hb4; have hs4 : wr.heap.size < w4.heap.size := (ho4.own.lt _ rfl).2; obtain ⟨y1, f1⟩ := ho4.store_at (k := k) hlt; have xm4 := hb4.keep hbm2 xm; have ho5 := ho4.set (k := k) (ix m k); have hb5 := hb4.setCell (p := ⟨wr.heap.size, k, none⟩) (Nat.le_refl _) (.int .i64 (ix m k)); obtain ⟨y3, f3⟩ := ho5.store_at (k := k + 1) (by omega); have xa6 := hb5.keep hbq2 xa; have ho7 := ho5.set (k := k + 1) (ix a k); have hb7 := hb5.setCell (p := ⟨wr.heap.size, k + 1, none⟩) (Nat.le_refl _) (.int .i64 (ix a k))))
          have hb10 := ((hbw.trans (hb7.mono hsz)).alloc (by have := hb7.size; omega) _).trans hb9
          go_roundw
          case rel => exact ⟨k + 1, a9, cap9, by omega, by go_num, rfl, by rw [rowsF_succ, HR.out, if_pos (by omega), if_neg (by omega)]; exact ho9, hb10⟩
          case measure => simp [intOf]; omega
        · skip
          have i2 : ¬ (1 : Int) ≤ (k : Int) := by omega
          have i2' : ¬ (0 : Int) < (k : Int) := by omega
          have i3 : ¬ (k : Int) + 1 < (n1 : Int) := by omega
          go_wp2_with (first | (at_builtin; refine wpList_push_row HM.out rfl (.tmp 50) (.tmp 52) rfl rfl rfl ho (hb5.alloc hb5.size _) (ho5.below ((Below.refl _ _).alloc (Nat.le_refl _) _)) (by rw [World.cell?_alloc_at _ _ _ _ (by simp)]; rfl) (by omega) hsz ?_; intro a9 cap9 w9 ho9 hb9) | (refine wpList_make_ints HM.out.int rfl (.tmp 18) (.tmp 18) rfl rfl rfl (by omega) ?_; intro w4 ho4 hb4; have hs4 : wr.heap.size < w4.heap.size := (ho4.own.lt _ rfl).2; obtain ⟨y1, f1⟩ := ho4.store_at (k := k) hlt; have xm4 := hb4.keep hbm2 xm; have ho5 := ho4.set (k := k) (ix m k); have hb5 := hb4.setCell (p := ⟨wr.heap.size, k, none⟩) (Nat.le_refl _) (.int .i64 (ix m k))))
          have hb10 := ((hbw.trans (hb5.mono hsz)).alloc (by have := hb5.size; omega) _).trans hb9
          go_roundw
          case rel => exact ⟨k + 1, a9, cap9, by omega, by go_num, rfl, by rw [rowsF_succ, HR.out, if_neg (by omega), if_neg (by omega)]; exact ho9, hb10⟩
          case measure => simp [intOf]; omega
    · obtain rfl : k = n1 := by omega
      go_wp2
      go_ret
      exact ⟨_, _, rfl, ho, hbw⟩
end
end Go.Proofs.YtefmllkimdaimaaDoor
