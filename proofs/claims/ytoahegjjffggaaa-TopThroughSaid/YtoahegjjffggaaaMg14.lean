/-
  solve.reduced walked: the steps of a matrix with its right side.
  solve.One walked.
  The closed fact of the statements on solving.
  The closed fact of the statements on what takes a matrix to noughts; its ends.
  What undoes a matrix is made of its powers, with the factors that take it to noughts (Cayley, Hamilton). No program in sight.
-/
import Derived.Test.YtoahegjjffggaaaRows
import Derived.StillTailTactics
import Derived.Test.YtoahegjjffggaaaMg0
import Derived.Test.YtoahegjjffggaaaMg2
import Derived.Test.YtoahegjjffggaaaMg3
import Derived.Test.YtoahegjjffggaaaMg4
import Derived.Test.YtoahegjjffggaaaMg10
import Derived.Test.YtoahegjjffggaaaMg11
import Derived.Test.YtoahegjjffggaaaMg12
import Derived.Test.YtoahegjjffggaaaMg13
namespace Go.Proofs.Ytoahegjjffggaaa
open Go.RowKit Go.Rk

theorem _root_.Go.Rk.OwI.setLow {w : World} {B E : Nat} {a : Option Addr} {n cap : Nat} {l : List Int} {p : Addr} (h : OwI w B E a n cap l) (hp : p.block < B) (u : Value) : OwI (w.setCell p u) B E a n cap l :=
  ⟨h.len_eq, ownsRow_same h.own fun b hb => Below.heap_setCell _ _ _ _ (by have := (h.own.lt b hb).1; omega)⟩

/-- The right side when the rows ahead of k are cleared. -/
def clearQ (P : List (List Int)) (T : List Int) (r q : Nat) (ov : Int) (k i : Nat) : Int :=
  if i = r then ix T r * ov % 9973 else if i < k then (ix T i - en P i q * (ix T r * ov % 9973)) % 9973 else ix T i

set_option maxHeartbeats 8000000 in
set_option maxRecDepth 100000 in
theorem reduced_any {a b : Option Addr} {n c ca cb : Nat} {M : List (List Int)} {t : List Int} {w : World} (hM : RdM w a n ca M) (G : Good n c M) (ht : RdI w b n cb t) (it : In 0 9972 t) :
    Calls Try.prog 69 #[.slice a n ca, .slice b n cb] w fun e w' => ∃ aT cT ap cp P T ps, e = .returned (.tuple #[.slice aT n cT, .slice ap ps.length cp]) ∧ OwI w' w.heap.size 3 aT n cT T ∧ OwI w' w.heap.size 3 ap ps.length cp ps ∧ RInv n c (mx (augL n M t)) c P T ps ∧ Below w.heap.size w w' := by
  have n1 := G.n1
  have c1 := G.c1
  have S0 := Lib.hid (RInv.start G.dm G.ent ht.len_eq it)
  have HM := Lib.hid matTy
  have C1 := Lib.hid (Copy_any hM (by omega) fun r hr => by rw [G.dm.2 r hr]; omega)
  obtain ⟨ba, oa, rfl, ai, ci, hc0, _⟩ := hM.rowIn G.dm (k := 0) (by omega)
  obtain ⟨bt, ot, rfl, _, _⟩ := ht.at (k := 0) (by omega)
  rw [Nat.add_zero] at hc0
  have HG := Lib.hid G
  clear G it
  go_enter Try.func69, Try.ntmps69
  go_wp2_with (go_at_call 78; fail)
  (with_reducible refine C1.out.mono ?_)
  clear C1
  rintro e w3 ⟨a3, cap3, rfl, ho3, hb3⟩
  obtain ⟨g, D, C, hz, hd3⟩ := ho3.named (by omega) fun r hr => by rw [HG.out.dm.2 r hr]; omega
  subst hz
  clear ho3
  have C2 := Lib.hid (Clone_any (ht.below hb3) (by omega))
  go_wp2_with (go_at_call 90; fail)
  (with_reducible refine C2.out.mono ?_)
  clear C2
  rintro e w4 ⟨aT, cT, rfl, hT, hb4⟩
  obtain ⟨gT, rfl, hgT1, hgT2, _, _⟩ := hT.at (by omega)
  have hb5 := below_tr hb3 hb4
  have hc0 := hb5.keep (World.block_lt_of_cell? _ _ hc0) hc0
  have hlt : Hid (g < w3.heap.size ∧ ∀ i, i < n → D i < w3.heap.size) := ⟨hd3.lowO.2, fun i hi => (hd3.lowI hi).2⟩
  have hd4 := hd3.below hb4
  have h34 := hb4.size
  have h03 := hb3.size
  have b1 : (0 : Int) < (n : Int) := by omega
  have b2 : (1 : Int) ≤ (n : Int) := by omega
  clear hd3
  go_wp2
  clear hc0
  go_loopw [8, 24] (fun vp v wr => ∃ (q : Nat) (D C : Nat → Nat) (P : List (List Int)) (T ps : List Int) (ap : Option Addr) (cp : Nat), q ≤ c ∧ v = .int .i64 q ∧ vp = .slice ap ps.length cp ∧ OwMD wr w.heap.size 22 3 g D C n cap3 P ∧ OwI wr w3.heap.size 3 (some ⟨gT, 0, none⟩) n cT T ∧ OwI wr w4.heap.size 3 ap ps.length cp ps ∧ Hid (g < w3.heap.size ∧ ∀ i, i < n → D i < w3.heap.size) ∧ Hid (RInv n c (mx (augL n M t)) q P T ps) ∧ w4.heap.size ≤ wr.heap.size ∧ Below w.heap.size w wr) (fun _ v _ => c - (intOf v).toNat)
  case atStart => exact ⟨0, D, C, M, t, [], none, 0, Nat.zero_le _, rfl, rfl, hd4, hT, OwI.nil _ _ _, hlt, S0, Nat.le_refl _, hb5⟩
  case round =>
    clear hd4 hlt S0 hT
    obtain ⟨q, D, C, P, T, ps, ap, cp, hq, rfl, rfl, hd, hT, hp, hl, hi, hs, hb⟩ := hrel
    have hle := hi.out.inv.st.le
    by_cases hqc : q < c
    · go_wp2
      go_loop [11] (fun v => ∃ k : Nat, ps.length ≤ k ∧ k ≤ n ∧ v = .int .i64 k ∧ Hid (∀ i, ps.length ≤ i → i < k → en P i q = 0)) (fun v => n - (intOf v).toNat)
      case atStart => exact ⟨ps.length, Nat.le_refl _, hle, rfl, fun i h1 h2 => absurd h2 (by omega)⟩
      case round =>
        obtain ⟨k, hk1, hk2, rfl, hz⟩ := hrel
        by_cases hkn : k < n
        · have x1 := hd.cellO hkn
          rw [hi.out.dP.2 k hkn] at x1
          have x2 := hd.cellI hkn (j := q) (by rw [hi.out.dP.2 k hkn]; exact hqc)
          have b3 : (k : Int) < (n : Int) := by omega
          have b4 : (q : Int) < (c : Int) := by omega
          by_cases hp0 : en P k q = 0
          · have z1 : (en P k q == 0) = true := beq_iff_eq.2 hp0
            have HP := Lib.hid hp0
            clear hp0
            go_wp2
            go_round
            case rel => exact ⟨k + 1, by omega, by omega, by go_num, fun i h1 h2 => by
              rcases Nat.lt_or_ge i k with h3 | h3
              · exact hz.out i h1 h3
              · obtain rfl : i = k := by omega
                exact HP.out⟩
            case measure => simp [intOf]; omega
          · have z1 : (en P k q == 0) = false := beq_eq_false_iff_ne.2 hp0
            have z2 : ((k : Int) == (n : Int)) = false := beq_eq_false_iff_ne.2 (by omega)
            have HP := Lib.hid hp0
            clear hp0
            have hrn : ps.length < n := by omega
            obtain ⟨r, hr⟩ : ∃ r, ps.length = r := ⟨_, rfl⟩
            have HR := Lib.hid hr
            rw [hr] at hrn hk1
            have b5 : (r : Int) < (n : Int) := by omega
            have y1 := hd.cellO hrn
            rw [hi.out.dP.2 _ hrn] at y1
            have f1 := hd.frozenO k
            have f2 := hd.frozenO r
            have hsw := (hd.swap HM.out.ne hrn hkn).drew
            rw [hi.out.dP.2 k hkn, hi.out.dP.2 _ hrn] at hsw
            have y3 : (wr.setCell ⟨g, r, none⟩ (.slice (some ⟨D k, 0, none⟩) c (C k))).cell? ⟨g, k, none⟩ = some (.slice (some ⟨D k, 0, none⟩) c (C k)) := by
              by_cases e : k = r
              · subst e; exact World.cell?_setCell_same _ _ _ y1
              · rw [World.cell?_setCell_other _ _ _ _ (by first | (simp; done) | (simp; exact fun h => e h.symm))]; exact x1
            have hisw := hi.out.swap (by rw [hr]; exact hk1) hkn
            rw [hr] at hisw
            have hpne : en (swapL P r k) r q ≠ 0 := by
              rw [en_swap hi.out.dP hrn hkn]
              by_cases e : r = k
              · rw [if_pos e, e]; exact HP.out
              · rw [if_neg e, if_pos rfl]; exact HP.out
            have HI := Lib.hid hisw
            have HPN := Lib.hid hpne
            have gl := hl.out.1
            have hbs := ((hb.setCell (p := ⟨g, r, none⟩) hd.lowO.1 (.slice (some ⟨D k, 0, none⟩) c (C k))).setCell (p := ⟨g, k, none⟩) hd.lowO.1 (.slice (some ⟨D r, 0, none⟩) c (C r))).drew
            have hp2 := ((OwI.setLow (p := ⟨g, r, none⟩) hp (by simp; omega) (.slice (some ⟨D k, 0, none⟩) c (C k))).setLow (p := ⟨g, k, none⟩) (by simp; omega) (.slice (some ⟨D r, 0, none⟩) c (C r))).drew
            have hT2 := ((hT.setElse (p := ⟨g, r, none⟩) (by simp; omega) (.slice (some ⟨D k, 0, none⟩) c (C k))).setElse (p := ⟨g, k, none⟩) (by simp; omega) (.slice (some ⟨D r, 0, none⟩) c (C r))).drew
            have hl2 : Hid (g < w3.heap.size ∧ ∀ i, i < n → swapF D r k i < w3.heap.size) := ⟨hl.out.1, fun i hi => by
              unfold swapF
              (repeat' split) <;> exact hl.out.2 _ (by assumption)⟩
            have hss : w4.heap.size ≤ (((wr.setCell ⟨g, r, none⟩ (.slice (some ⟨D k, 0, none⟩) c (C k))).setCell ⟨g, k, none⟩ (.slice (some ⟨D r, 0, none⟩) c (C r))).drew).heap.size := by simpa using hs
            clear hisw hpne
            go_wp2
            go_region
            clear x1 x2 y1 y3 f1 f2 hd hp hT hl hi hb hz HP
            generalize ((wr.setCell ⟨g, r, none⟩ (.slice (some ⟨D k, 0, none⟩) c (C k))).setCell ⟨g, k, none⟩ (.slice (some ⟨D r, 0, none⟩) c (C r))).drew = w5 at *
            generalize swapF D r k = D4 at *
            generalize swapF C r k = C4 at *
            generalize swapL P r k = P4 at *
            have gT3 : gT < w4.heap.size := hgT2
            have hlO := hsw.lowO
            have hlD := fun i (hi : i < n) => hsw.lowI hi
            obtain ⟨gz, hz2, _, _, hco, hfo⟩ := hT2.at (by omega)
            cases hz2
            have x1 := hco k hkn
            have y1 := hco r hrn
            have f1 := hfo r
            have f2 := hfo k
            have y3 : (w5.setCell ⟨gT, r, none⟩ (.int .i64 (ix T k))).cell? ⟨gT, k, none⟩ = some (.int .i64 (ix T k)) := by
              by_cases e : k = r
              · subst e; exact World.cell?_setCell_same _ _ _ y1
              · rw [World.cell?_setCell_other _ _ _ _ (by first | (simp; done) | (simp; exact fun h => e h.symm))]; exact x1
            have hT4 := ((hT2.set (k := r) (ix T k)).set (k := k) (ix T r)).drew
            have hd4 := ((hsw.setElse (p := ⟨gT, r, none⟩) (by have := hl2.out.1; simp; omega) (fun i hi => by have := hl2.out.2 i hi; simp; omega) (.int .i64 (ix T k))).setElse (p := ⟨gT, k, none⟩) (by have := hl2.out.1; simp; omega) (fun i hi => by have := hl2.out.2 i hi; simp; omega) (.int .i64 (ix T r))).drew
            have hp4 := ((OwI.setLow (p := ⟨gT, r, none⟩) hp2 (by simp; omega) (.int .i64 (ix T k))).setLow (p := ⟨gT, k, none⟩) (by simp; omega) (.int .i64 (ix T r))).drew
            have hb4' := ((hbs.setCell (p := ⟨gT, r, none⟩) (by simp; omega) (.int .i64 (ix T k))).setCell (p := ⟨gT, k, none⟩) (by simp; omega) (.int .i64 (ix T r))).drew
            have hs4 : w4.heap.size ≤ (((w5.setCell ⟨gT, r, none⟩ (.int .i64 (ix T k))).setCell ⟨gT, k, none⟩ (.int .i64 (ix T r))).drew).heap.size := by simpa using hss
            clear hco hfo
            go_wp2
            go_region
            clear x1 y1 y3 f1 f2 hsw hT2 hp2 hbs hss
            generalize ((w5.setCell ⟨gT, r, none⟩ (.int .i64 (ix T k))).setCell ⟨gT, k, none⟩ (.int .i64 (ix T r))).drew = w6 at *
            generalize (T.set r (ix T k)).set k (ix T r) = T4 at *
            have y1 := hd4.cellO hrn
            rw [HI.out.dP.2 r hrn] at y1
            have y2 := hd4.cellI hrn (j := q) (by rw [HI.out.dP.2 r hrn]; exact hqc)
            have m0 := HI.out.eP r q hrn hqc
            go_wp2_with (first | (go_at_call 52; refine (Over_any _ _ m0.1 m0.2).mono ?_; rintro e w' ⟨rfl, rfl⟩) | (go_at_call 91; fail))
            have hov := powm_in (en P4 r q) 9971
            obtain ⟨ov, hO⟩ : ∃ ov, ov = powm (en P4 r q) 9971 := ⟨_, rfl⟩
            rw [← hO] at hov ⊢
            have HOV := Lib.hid hO
            have C5 := Lib.hid (scale_any hd4 HI.out.dP HI.out.eP hrn hov (by omega))
            clear hO y1 y2 m0
            (with_reducible refine C5.out.mono ?_)
            clear C5
            rintro e w7 ⟨rfl, P7, hd7, hi7, hk7, hb7⟩
            have hT7 := hT4.keptBut hk7 hl2.out.2
            have hp7 := hp4.keptBut hk7 (fun i hi => Nat.lt_of_lt_of_le (hl2.out.2 i hi) h34)
            have hb8 := hb4'.trans hb7
            have hs7 := Nat.le_trans hs4 hk7.1
            have HI7 := Lib.hid hi7
            clear hd4 hT4 hp4 hb4' hs4 hk7 hb7 hi7
            obtain ⟨gz, hz2, _, _, hco, hfo⟩ := hT7.at (by omega)
            cases hz2
            have y1 := hco r hrn
            have f1 := hfo r
            have m1 := HI.out.eT r (by rw [HI.out.lT]; exact hrn)
            have p1 := mul_bd m1 hov
            obtain ⟨Z, hZ⟩ : ∃ Z, Z = ix T4 r * ov := ⟨_, rfl⟩
            rw [← hZ] at p1
            have u1 : IntKind.i64.wrap (ix T4 r * ov) = Z := by rw [hZ]; exact Go.IntWalk.i64_in _ (by omega)
            have u2 : Z.tmod 9973 = Z % 9973 := Int.tmod_eq_emod_of_nonneg (by omega)
            have u3 : IntKind.i64.wrap (Z % 9973) = Z % 9973 := Go.IntWalk.i64_in _ (by omega)
            have HZ := Lib.hid hZ
            clear hZ hco hfo
            go_wp2
            clear y1 f1 u1 u2 u3
            have hd8 := hd7.setElse (p := ⟨gT, r, none⟩) (by have := hl2.out.1; simp; omega) (fun i hi => by have := hl2.out.2 i hi; simp; omega) (.int .i64 (Z % 9973))
            have hT8 := hT7.set (k := r) (Z % 9973)
            have hp8 := OwI.setLow (p := ⟨gT, r, none⟩) hp7 (by simp; omega) (.int .i64 (Z % 9973))
            have hb9 := hb8.setCell (p := ⟨gT, r, none⟩) (by simp; omega) (.int .i64 (Z % 9973))
            have hs8 : w4.heap.size ≤ (w7.setCell ⟨gT, r, none⟩ (.int .i64 (Z % 9973))).heap.size := by simpa using hs7
            have HQ8 : Hid ((T4.set r (Z % 9973)).length = n ∧ ∀ i, i < n → ix (T4.set r (Z % 9973)) i = clearQ P4 T4 r q ov 0 i) := by
              refine ⟨by rw [List.length_set]; exact HI.out.lT, fun i hi => ?_⟩
              unfold clearQ
              rw [ix_set]
              by_cases e : i = r
              · rw [if_pos e, if_pos ⟨e.symm, by rw [HI.out.lT]; exact hi⟩, HZ.out]
              · rw [if_neg e, if_neg fun x => e x.1.symm, if_neg (Nat.not_lt_zero i)]
            have HI8 : Hid (IsR n c P7 (clearP P4 r q ov 0 0)) := HI7.out.congr fun i j _ _ => by unfold clearP; rw [if_neg (by omega)]
            rw [HR.out] at hp8
            clear hd7 hT7 hp7 hb8 hs7 HZ HI7
            generalize w7.setCell ⟨gT, r, none⟩ (.int .i64 (Z % 9973)) = w8 at *
            generalize T4.set r (Z % 9973) = T8 at *
            go_loopw [104] (fun v wt => ∃ (k : Nat) (P9 : List (List Int)) (T9 : List Int), k ≤ n ∧ v = .int .i64 k ∧ OwMD wt w.heap.size 22 3 g D4 C4 n cap3 P9 ∧ OwI wt w3.heap.size 3 (some ⟨gT, 0, none⟩) n cT T9 ∧ OwI wt w4.heap.size 3 ap r cp ps ∧ Hid (IsR n c P9 (clearP P4 r q ov k 0)) ∧ Hid (T9.length = n ∧ ∀ i, i < n → ix T9 i = clearQ P4 T4 r q ov k i) ∧ w4.heap.size ≤ wt.heap.size ∧ Below w.heap.size w wt) (fun v _ => n - (intOf v).toNat)
            case atStart => exact ⟨0, P7, T8, Nat.zero_le _, rfl, hd8, hT8, hp8, HI8, HQ8, hs8, hb9⟩
            case round =>
              clear hd8 hT8 hp8 HI8 HQ8 hs8 hb9
              obtain ⟨k2, P9, T9, hk3, rfl, hd, hT, hp, hi, hQ, hs, hb⟩ := hrel
              by_cases hkn2 : k2 < n
              · have x1 := hd.cellO hkn2
                rw [hi.out.1.2 k2 hkn2] at x1
                have x2 := hd.cellI hkn2 (j := q) (by rw [hi.out.1.2 k2 hkn2]; exact hqc)
                have b6 : (k2 : Int) < (n : Int) := by omega
                have nx : ∀ {P : List (List Int)}, IsR n c P (clearP P4 r q ov k2 c) → IsR n c P (clearP P4 r q ov (k2 + 1) 0) := fun h => h.congr fun i j _ h4 => by
                  unfold clearP
                  by_cases e : i < k2 ∨ (i = k2 ∧ j < c)
                  · rw [if_pos e, if_pos (by omega)]
                  · rw [if_neg e, if_neg (by omega)]
                by_cases hkr : k2 = r
                · have z3 : ((k2 : Int) != (r : Int)) = false := bne_eq_false_iff_eq.2 (by omega)
                  have HK := Lib.hid hkr
                  clear hkr
                  go_wp2
                  go_roundw
                  case rel => exact ⟨k2 + 1, P9, T9, by omega, by go_num, hd, hT, hp, nx (hi.out.congr fun i j h3 h4 => by
                    unfold clearP
                    by_cases e : i < k2
                    · rw [if_pos (by omega), if_pos (by omega)]
                    · by_cases e2 : i = k2
                      · rw [if_neg (by omega), if_pos (by omega)]
                        exact (clearO_same HI.out.eP h3 h4 (.inl (by rw [e2, HK.out]))).symm
                      · rw [if_neg (by omega), if_neg (by omega)]), ⟨hQ.out.1, fun i h3 => by
                    rw [hQ.out.2 i h3]
                    unfold clearQ
                    by_cases e : i = r
                    · rw [if_pos e, if_pos e]
                    · rw [if_neg e, if_neg e]
                      by_cases e2 : i < k2
                      · rw [if_pos e2, if_pos (by omega)]
                      · rw [if_neg e2, if_neg (by have := HK.out; omega)]⟩, hs, hb⟩
                  case measure => simp [intOf]; omega
                · have z3 : ((k2 : Int) != (r : Int)) = true := bne_iff_ne.2 (by omega)
                  have e1 : en P9 k2 q = en P4 k2 q := by
                    rw [hi.out.2 k2 q hkn2 hqc]
                    unfold clearP scaleE
                    rw [if_neg (by omega), if_neg hkr]
                  rw [e1] at x2
                  have HK := Lib.hid hkr
                  clear hkr e1
                  have m3 := HI.out.eP k2 q hkn2 hqc
                  obtain ⟨by_, hBy⟩ : ∃ by_, by_ = en P4 k2 q := ⟨_, rfl⟩
                  rw [← hBy] at m3 x2
                  have HBY := Lib.hid hBy
                  clear hBy
                  go_wp2
                  clear x1 x2
                  go_loopw [122] (fun v wt => ∃ (s : Nat) (P9 : List (List Int)), s ≤ c ∧ v = .int .i64 s ∧ OwMD wt w.heap.size 22 3 g D4 C4 n cap3 P9 ∧ OwI wt w3.heap.size 3 (some ⟨gT, 0, none⟩) n cT T9 ∧ OwI wt w4.heap.size 3 ap r cp ps ∧ Hid (IsR n c P9 (clearP P4 r q ov k2 s)) ∧ w4.heap.size ≤ wt.heap.size ∧ Below w.heap.size w wt) (fun v _ => c - (intOf v).toNat)
                  case atStart => exact ⟨0, P9, Nat.zero_le _, rfl, hd, hT, hp, hi, hs, hb⟩
                  case round =>
                    clear hd hT hp hi hs hb
                    obtain ⟨s, P9, hsc, rfl, hd, hT, hp, hi, hs, hb⟩ := hrel
                    by_cases hsk : s < c
                    · have x1 := hd.cellO hkn2
                      have x4 := hd.cellO hrn
                      rw [hi.out.1.2 k2 hkn2] at x1
                      rw [hi.out.1.2 r hrn] at x4
                      have x2 := hd.cellI hkn2 (j := s) (by rw [hi.out.1.2 k2 hkn2]; exact hsk)
                      have x5 := hd.cellI hrn (j := s) (by rw [hi.out.1.2 r hrn]; exact hsk)
                      have x3 := hd.frozenI hkn2 (by rw [hi.out.1.2 k2 hkn2]; omega) s
                      have e1 : en P9 k2 s = en P4 k2 s := by
                        rw [hi.out.2 k2 s hkn2 hsk]
                        unfold clearP scaleE
                        rw [if_neg (by omega), if_neg HK.out]
                      have e2 : en P9 r s = en P4 r s * ov % 9973 := by
                        rw [hi.out.2 r s hrn hsk]
                        unfold clearP clearO scaleE
                        rw [if_pos rfl, if_pos rfl]
                        split <;> rfl
                      rw [e1] at x2
                      rw [e2] at x5
                      obtain ⟨V, hV⟩ : ∃ V, V = en P4 r s * ov % 9973 := ⟨_, rfl⟩
                      rw [← hV] at x5
                      have hv : 0 ≤ V ∧ V ≤ 9972 := by omega
                      have m2 := HI.out.eP k2 s hkn2 hsk
                      have p2 := mul_bd m3 hv
                      obtain ⟨Y, hY⟩ : ∃ Y, Y = by_ * V := ⟨_, rfl⟩
                      rw [← hY] at p2
                      have u1 : IntKind.i64.wrap (by_ * V) = Y := by rw [hY]; exact Go.IntWalk.i64_in _ (by omega)
                      have u2 : IntKind.i64.wrap (en P4 k2 s - Y) = en P4 k2 s - Y := Go.IntWalk.i64_in _ (by omega)
                      have b7 : (s : Int) < (c : Int) := by omega
                      have HY := Lib.hid hY
                      have HV := Lib.hid hV
                      have hDl := hl2.out.2 k2 hkn2
                      have hTn := (hT.setElse (p := ⟨D4 k2, s, none⟩) (by simp; omega) (.int .i64 ((en P4 k2 s - Y) % 9973))).drew
                      have hpn := (OwI.setLow (p := ⟨D4 k2, s, none⟩) hp (by simp; omega) (.int .i64 ((en P4 k2 s - Y) % 9973))).drew
                      clear hY hV e1 e2
                      go_wp2
                      go_still_tail 24, (by kernel_rfl)
                      still_call (stillW (Field_any _ _))
                      repeat still_step
                      refine wpStill_nil ?_
                      change wpList _ _ _ _ _ wr.drew
                      clear u1 u2
                      go_wp2
                      go_roundw
                      case rel => exact ⟨s + 1, _, by omega, by go_num, (hd.set matTy.ne hkn2 _).drew, hTn, hpn, ⟨hi.out.1.setE _ _ _, fun i j h3 h4 => by
                        rw [hi.out.1.en_set _ h3 h4]
                        by_cases e : k2 = i ∧ s = j
                        · rw [if_pos e]
                          unfold clearP clearO
                          rw [if_pos (by omega), ← e.1, ← e.2, if_neg HK.out, HY.out, HV.out, HBY.out]
                        · rw [if_neg e, hi.out.2 i j h3 h4]
                          unfold clearP
                          by_cases e2 : i < k2 ∨ (i = k2 ∧ j < s)
                          · rw [if_pos e2, if_pos (by omega)]
                          · rw [if_neg e2, if_neg (by omega)]⟩, by simpa using hs, (hb.setCell (p := ⟨D4 k2, s, none⟩) (hd.lowI hkn2).1 _).drew⟩
                      case measure => simp [intOf]; omega
                    · obtain rfl : s = c := by omega
                      obtain ⟨gz, hz2, _, _, hco, hfo⟩ := hT.at (by omega)
                      cases hz2
                      have y1 := hco r hrn
                      have y2 := hco k2 hkn2
                      have f1 := hfo k2
                      have eR : ix T9 r = ix T4 r * ov % 9973 := by rw [hQ.out.2 r hrn]; unfold clearQ; rw [if_pos rfl]
                      have eK : ix T9 k2 = ix T4 k2 := by rw [hQ.out.2 k2 hkn2]; unfold clearQ; rw [if_neg HK.out, if_neg (by omega)]
                      rw [eR] at y1
                      rw [eK] at y2
                      obtain ⟨V, hV⟩ : ∃ V, V = ix T4 r * ov % 9973 := ⟨_, rfl⟩
                      rw [← hV] at y1
                      have hv : 0 ≤ V ∧ V ≤ 9972 := by omega
                      have m2 := HI.out.eT k2 (by rw [HI.out.lT]; exact hkn2)
                      have p2 := mul_bd m3 hv
                      obtain ⟨Y, hY⟩ : ∃ Y, Y = by_ * V := ⟨_, rfl⟩
                      rw [← hY] at p2
                      have u1 : IntKind.i64.wrap (by_ * V) = Y := by rw [hY]; exact Go.IntWalk.i64_in _ (by omega)
                      have u2 : IntKind.i64.wrap (ix T4 k2 - Y) = ix T4 k2 - Y := Go.IntWalk.i64_in _ (by omega)
                      have HY := Lib.hid hY
                      have HV := Lib.hid hV
                      have hTn := (hT.set (k := k2) ((ix T4 k2 - Y) % 9973)).drew
                      have hdn := (hd.setElse (p := ⟨gT, k2, none⟩) (by have := hl2.out.1; simp; omega) (fun i hi => by have := hl2.out.2 i hi; simp; omega) (.int .i64 ((ix T4 k2 - Y) % 9973))).drew
                      have hpn := (OwI.setLow (p := ⟨gT, k2, none⟩) hp (by simp; omega) (.int .i64 ((ix T4 k2 - Y) % 9973))).drew
                      clear hY hV eR eK hco hfo
                      go_wp2
                      go_still_tail 15, (by kernel_rfl)
                      still_call (stillW (Field_any _ _))
                      repeat still_step
                      refine wpStill_nil ?_
                      change wpList _ _ _ _ _ wr.drew
                      clear u1 u2
                      go_wp2
                      go_roundw
                      case rel => exact ⟨k2 + 1, P9, _, by omega, by go_num, hdn, hTn, hpn, nx hi.out, ⟨by rw [List.length_set]; exact hQ.out.1, fun i h3 => by
                        rw [ix_set]
                        by_cases e : k2 = i
                        · subst e
                          rw [if_pos ⟨rfl, by rw [hQ.out.1]; exact h3⟩]
                          unfold clearQ
                          rw [if_neg HK.out, if_pos (by omega), HY.out, HV.out, HBY.out]
                        · rw [if_neg fun x => e x.1, hQ.out.2 i h3]
                          unfold clearQ
                          by_cases e1 : i = r
                          · rw [if_pos e1, if_pos e1]
                          · rw [if_neg e1, if_neg e1]
                            by_cases e2 : i < k2
                            · rw [if_pos e2, if_pos (by omega)]
                            · rw [if_neg e2, if_neg (by omega)]⟩, by simpa using hs, (hb.setCell (p := ⟨gT, k2, none⟩) (by simp; omega) _).drew⟩
                      case measure => simp [intOf]; omega
              · obtain rfl : k2 = n := by omega
                have e1 := HR.out
                have HC : Hid (RInv k2 c (mx (augL k2 M t)) (q + 1) P9 T9 (ps ++ [(q : Int)])) := by
                  refine HI.out.clear (by rw [e1]; exact hrn) hqc (by rw [e1]; exact HPN.out) (hi.out.congr fun i j h3 _ => ?_) hQ.out.1 fun i h3 => ?_
                  · unfold clearP clearO clearE
                    rw [if_pos (.inl h3), e1, ← HOV.out]
                  · rw [hQ.out.2 i h3, e1]
                    unfold clearQ clearT
                    rw [← HOV.out, if_pos h3]
                have hle6 : (ps ++ [(q : Int)]).length = r + 1 := by simp [e1]
                go_wp2_with (at_builtin; refine wpList_push_int HM.out.int rfl (.tmp 166) (.tmp 168) rfl rfl rfl (hp.alloc _) (z := (q : Int)) (by simp) (by decide) (by decide) (by omega) (by simp; omega) ?_; intro a6 cap6 w9 ho6 hg6)
                have hd9 := (hd.alloc (.cells #[.int .i64 (q : Int)] 3)).grownPast hg6 (fun r e => (hp.own.lt r e).1) (Nat.lt_of_lt_of_le hl2.out.1 h34) (fun i hi => Nat.lt_of_lt_of_le (hl2.out.2 i hi) h34)
                have hT9 := (hT.alloc (.cells #[.int .i64 (q : Int)] 3)).grown hg6 (.inr fun e => by have := (hp.own.lt gT (by rw [← e]; rfl)).1; omega)
                have hb10 := (hb.alloc hb.size (.cells #[.int .i64 (q : Int)] 3)).grown hg6 (by have := hb.size; simp; omega) (fun r e => Nat.le_trans hb5.size (hp.own.lt r e).1)
                have hs9 : w4.heap.size ≤ w9.heap.size := by have := hg6.size; simp at this; omega
                rw [← hle6] at ho6
                go_roundw
                case rel => exact ⟨q + 1, D4, C4, P9, T9, ps ++ [(q : Int)], a6, cap6, by omega, by go_num, by rw [hle6], hd9, hT9, ho6, hl2, HC.out, hs9, hb10⟩
                case measure => simp [intOf]; omega
        · obtain rfl : k = n := by omega
          go_wp2
          go_roundw
          case rel => exact ⟨q + 1, D, C, P, T, ps, ap, cp, by omega, by go_num, rfl, hd, hT, hp, hl, hi.out.pass hqc hz.out, hs, hb⟩
          case measure => simp [intOf]; omega
    · obtain rfl : q = c := by omega
      go_wp2
      go_ret2
      exact ⟨_, cT, ap, cp, P, T, ps, rfl, hT.mono h03, hp.mono hb5.size, hi.out, hb⟩
end Go.Proofs.Ytoahegjjffggaaa
namespace Go.Proofs.Ytoahegjjffggaaa
open Go.RowKit Go.Rk

/-- What is told, of its first i steps. -/
structure XPart (c : Nat) (T ps : List Int) (i : Nat) (x : List Int) : Prop where
  len : x.length = c
  piv : ∀ k, k < i → ix x (natsOf ps k) = ix T k
  zer : ∀ j, j < c → hasB (j : Int) ps = false → ix x j = 0
theorem XPart.start (c : Nat) (T ps : List Int) : XPart c T ps 0 (List.replicate c 0) :=
  ⟨by simp, fun _ h => absurd h (Nat.not_lt_zero _), fun j hj _ => by rw [ix_lt (by simp; exact hj)]; simp⟩
theorem XPart.step {n c i : Nat} {T ps x : List Int} {R : Mx} (h : XPart c T ps i x) (st : Stairs n c ps.length R (natsOf ps)) (hp : ∀ i, i < ps.length → 0 ≤ ix ps i) (hi : i < ps.length) : XPart c T ps (i + 1) (x.set (natsOf ps i) (ix T i)) := by
  have hl := st.lt i hi
  have hb : hasB (natsOf ps i : Int) ps = true := (hasB_pos hp).2 ⟨i, hi, rfl⟩
  refine ⟨by rw [List.length_set]; exact h.len, fun k hk => ?_, fun j hj hz => ?_⟩
  · rw [ix_set]
    rcases Nat.lt_or_ge k i with h1 | h1
    · rw [if_neg fun e => by have := st.inc k i h1 hi; omega]
      exact h.piv k h1
    · obtain rfl : k = i := by omega
      rw [if_pos ⟨rfl, by rw [h.len]; exact hl⟩]
  · rw [ix_set, if_neg fun e => by rw [e.1, hz] at hb; cases hb]
    exact h.zer j hj hz

theorem One_gr {a : Option Addr} {n m ca cb : Nat} {b : Option Addr} {M : List (List Int)} {w : World} {x : Int} (hM : RdM w a n ca M) (hq : groundsR 5 0 9972 M = some x) :
    Calls Try.prog 33 #[.slice a n ca, .slice b m cb] w fun e w' => e = .returned (.tuple #[.slice none 0 0, .iface 59 (.int .i64 x)]) ∧ w = w' := by
  have C := Lib.hid (mat_Check_is hM hq)
  clear hq
  go_enter Try.func33, Try.ntmps33
  go_wp2_with (go_at_call 67; refine C.out.mono ?_; rintro e w' ⟨rfl, rfl⟩; simp only [errV])
  go_ret2
  exact ⟨rfl, rfl⟩

set_option maxHeartbeats 4000000 in
set_option maxRecDepth 100000 in
theorem One_ok {a b : Option Addr} {n c ca cb : Nat} {M : List (List Int)} {t : List Int} {w : World} (hM : RdM w a n ca M) (G : Good n c M) (ht : RdI w b n cb t) (it : In 0 9972 t) :
    Calls Try.prog 33 #[.slice a n ca, .slice b n cb] w fun e w' => ∃ P T ps x, RInv n c (mx (augL n M t)) c P T ps ∧ XRow c T ps x ∧
      ((toN M x c n = t ∧ ∃ ax cx, e = .returned (.tuple #[.slice ax c cx, .nilIface]) ∧ OwI w' w.heap.size 3 ax c cx x) ∨ (toN M x c n ≠ t ∧ e = .returned (.tuple #[.slice none 0 0, .iface 59 (.int .i64 5)]))) ∧ Below w.heap.size w w' := by
  have HM := Lib.hid matTy
  have n1 := G.n1
  have c1 := G.c1
  have HG := Lib.hid G
  have HT := Lib.hid it
  have C := Lib.hid (mat_Check_is hM G.gr)
  have C2 := any_any b n cb t 0 9972 w ht
  rw [any_of_in it] at C2
  have C2 := Lib.hid C2
  have C3 := Lib.hid (reduced_any hM G ht it)
  have z0 : ((n : Int) != (n : Int)) = false := bne_eq_false_iff_eq.2 rfl
  clear G it
  go_enter Try.func33, Try.ntmps33
  go_wp2_with (first | (go_at_call 67; refine C.out.mono ?_; rintro e w' ⟨rfl, rfl⟩; simp only [errV]) | (go_at_call 68; refine C2.out.mono ?_; rintro e w' ⟨rfl, rfl⟩) | (go_at_call 69; fail))
  (with_reducible refine C3.out.mono ?_)
  clear C C2 C3
  rintro e w3 ⟨aT, cT, ap, cp, P, T, ps, rfl, hT, hps, hi, hb3⟩
  have HI := Lib.hid hi
  have HTt := hT.rd
  have hps := hps.rd
  have hTl := hi.lT
  have hle := hi.inv.st.le
  clear hi hT
  obtain ⟨bm, om, rfl, am, cm, hm0, _⟩ := (hM.below hb3).rowIn HG.out.dm (k := 0) (by omega)
  rw [Nat.add_zero] at hm0
  have b1 : (0 : Int) < (n : Int) := by omega
  have b2 : (1 : Int) ≤ (n : Int) := by omega
  go_wp2_with (refine wpList_make_ints HM.out.int rfl (.tmp 37) (.tmp 37) rfl rfl rfl (by omega) ?_; intro w4 ho4 hb4)
  clear hm0
  go_loopw [41] (fun v wt => ∃ (i : Nat) (xs : List Int), i ≤ ps.length ∧ v = .int .i64 i ∧ OwI wt w3.heap.size 3 (some ⟨w3.heap.size, 0, none⟩) c c xs ∧ Hid (XPart c T ps i xs) ∧ Below w3.heap.size w3 wt) (fun v _ => ps.length - (intOf v).toNat)
  case atStart => exact ⟨0, _, Nat.zero_le _, rfl, ho4, XPart.start _ _ _, hb4⟩
  case round =>
    clear ho4 hb4
    obtain ⟨i, xs, hi, rfl, hx, hX, hbt⟩ := hrel
    by_cases hir : i < ps.length
    · have hir' : (i : Int) < (ps.length : Int) := by omega
      have hin : i < n := by omega
      have hin' : (i : Int) < (n : Int) := by omega
      obtain ⟨bp, op, rfl, _, hcp⟩ := (hps.below hbt).at hir
      replace hcp := hcp i hir
      have hpi : ix ps i = (natsOf ps i : Int) := by unfold natsOf; have := HI.out.inv.pos i hir; omega
      have st := (HI.out.left HG.out.dm).st
      have hpc : natsOf ps i < c := st.lt i hir
      rw [hpi] at hcp
      have HS := Lib.hid (hX.out.step st HI.out.inv.pos hir)
      clear hpi st
      generalize natsOf ps i = p at hcp hpc HS
      have hpc' : (p : Int) < (c : Int) := by omega
      obtain ⟨bT, oT, rfl, _, hce⟩ := (HTt.below hbt).at hin
      replace hce := hce i hin
      generalize ix T i = E at hce HS
      obtain ⟨g5, hz, _, _, hcx, hfx⟩ := hx.at (by omega)
      cases hz
      replace hcx := hcx p hpc
      replace hfx := hfx p
      go_wp2
      go_roundw
      case rel => exact ⟨i + 1, _, by omega, by go_num, hx.set _, HS, hbt.setCell (p := ⟨w3.heap.size, p, none⟩) (Nat.le_refl _) _⟩
      case measure => simp [intOf]; omega
    · obtain rfl : i = ps.length := by omega
      have hXR : XRow c T ps xs := ⟨hX.out.len, hX.out.piv, hX.out.zer⟩
      have HXR := Lib.hid hXR
      have k5 := below_tr hb3 hbt
      have hin := hXR.range HI.out.eT (by omega) HI.out.inv.pos
      have C4 := Lib.hid (product_any (hM.below k5) HG.out.dm HG.out.ent hx.rd hin (by omega) (by omega))
      clear hXR hin
      go_wp2_with (first | (go_at_call 71; fail))
      (with_reducible refine C4.out.mono ?_)
      clear C4
      rintro e w6 ⟨a6, c6, rfl, ho6, hb6⟩
      have k6 := below_tr k5 hb6
      have C5 := Lib.hid (Equal_q ho6.rd (ht.below k6))
      have hx6 := (hx.below hb6).mono hb3.size
      by_cases he : toN M xs c n = t
      · rw [decide_eq_true he] at C5
        have HE := Lib.hid he
        clear he
        go_wp2_with (first | (go_at_call 70; (with_reducible refine C5.out.mono ?_); rintro e w7 ⟨rfl, nq, rfl⟩))
        go_ret2
        exact ⟨P, T, ps, xs, HI.out, HXR.out, .inl ⟨HE.out, _, _, rfl, hx6.drewN nq⟩, below_drewN k6 nq⟩
      · rw [decide_eq_false he] at C5
        have HE := Lib.hid he
        clear he
        go_wp2_with (first | (go_at_call 70; (with_reducible refine C5.out.mono ?_); rintro e w7 ⟨rfl, nq, rfl⟩))
        go_ret2
        exact ⟨P, T, ps, xs, HI.out, HXR.out, .inr ⟨HE.out, rfl⟩, below_drewN k6 nq⟩
end Go.Proofs.Ytoahegjjffggaaa
namespace Go.Proofs.Ytoahegjjffggaaa
open Go.RowKit Go.Rk

/-- If anything is taken to the right side, what is told is. -/
theorem told {n c : Nat} {M P : List (List Int)} {t T ps x : List Int} (hd : Dm n c M) (h : RInv n c (mx (augL n M t)) c P T ps) (hx : XRow c T ps x) (hl : t.length = n) (it : In 0 9972 t) (y : Nat → Int) (hy : ∀ i, i < n → Eqm (sumTo (fun j => en M i j * y j) c) (ix t i)) : toN M x c n = t := by
  refine ix_ext (by rw [toN_len, hl]) fun i hi => ?_
  rw [toN_len] at hi
  rw [toN_ix hi]
  have e := solves hd h hx hy hi
  have b := it i (by rw [hl]; exact hi)
  unfold toV
  unfold Eqm at e
  omega

theorem two_half {x : Int} (h : (x * 2) % 9973 = 4) (b : 0 ≤ x ∧ x ≤ 9972) : x = 2 := by
  have h3 : x * 2 * 4987 % 9973 = 4 * 4987 % 9973 := by rw [Int.mul_emod, h]; rfl
  rw [show x * 2 * 4987 = x + 9973 * x by omega, Int.add_mul_emod_self_left, Int.emod_eq_of_lt b.1 (by omega)] at h3
  rw [h3]
  rfl

theorem nullLit : GInv 1 2 (mx [[1, 2]]) 2 [[1, 2]] [0] := by
  refine ⟨⟨rfl, fun i hi => (by obtain rfl : i = 0 := (by omega); rfl)⟩, fun i j hi hj => ?_, Made.refl _ _ _, Made.refl _ _ _, ⟨by decide, fun i hi => ?_, fun i j h1 h2 => ?_, fun i j h1 h2 => ?_, fun i s h1 h2 h3 => ?_, fun i s h1 h2 => ?_⟩, fun i hi => ?_⟩
  · obtain rfl : i = 0 := by omega
    rcases (show j = 0 ∨ j = 1 by omega) with rfl | rfl <;> decide
  · obtain rfl : i = 0 := by simp at hi; omega
    decide
  · simp at h2; omega
  · obtain rfl : j = 0 := by simp at h2; omega
    obtain rfl : i = 0 := by omega
    unfold Eqm; decide
  · simp at h1; omega
  · obtain rfl : i = 0 := by simp at h1; omega
    have : (ix [0] 0).toNat = 0 := by decide
    rw [this] at h2
    omega
  · obtain rfl : i = 0 := by simp at hi; omega
    decide
theorem nullIs {L : List (List Int)} (h : Nul 2 2 [[1, 2]] [0] L) : L = [[9971, 1]] := by
  have hl : L.length = 1 := h.len
  have hr := h.row 0 (by omega)
  rw [show freeAt [0] 2 0 = 1 by decide] at hr
  have h0 : ix (rowOf L 0) 0 = 9971 := (hr.piv 0 (by decide)).trans (by decide)
  have hd : Dm 1 2 L := ⟨hl, fun i hi => (by obtain rfl : i = 0 := (by omega); exact hr.len)⟩
  refine hd.ext (n := 1) (c := 2) ⟨rfl, fun i hi => (by obtain rfl : i = 0 := (by omega); rfl)⟩ fun i j hi hj => ?_
  obtain rfl : i = 0 := by omega
  rcases (show j = 0 ∨ j = 1 by omega) with rfl | rfl
  · exact h0
  · exact hr.one

theorem rd12 {w : World} {b p : Nat} {x y : Int} (h0 : w.cell? ⟨b, 0, none⟩ = some (.slice (some ⟨p, 0, none⟩) 2 2)) (h1 : w.cell? ⟨p, 0, none⟩ = some (.int .i64 x)) (h2 : w.cell? ⟨p, 1, none⟩ = some (.int .i64 y)) : RdM w (some ⟨b, 0, none⟩) 1 1 [[x, y]] := by
  refine ⟨rfl, Nat.le_refl _, by decide, fun k hk => ?_⟩
  obtain rfl : k = 0 := by omega
  exact ⟨b, 0, some ⟨p, 0, none⟩, 2, 2, rfl, h0, rd2 h1 h2⟩

theorem oneIs {P : List (List Int)} {T ps x : List Int} (h : RInv 2 2 (mx (augL 2 [[1, 1], [0, 2]] [3, 4])) 2 P T ps) (hx : XRow 2 T ps x) : toN [[1, 1], [0, 2]] x 2 2 = [3, 4] ∧ x = [1, 2] := by
  have hd : Dm 2 2 [[1, 1], [0, 2]] := ⟨rfl, fun i hi => by rcases (show i = 0 ∨ i = 1 by omega) with rfl | rfl <;> rfl⟩
  have ht := told hd h hx rfl (by intro i hi; simp at hi; rcases (show i = 0 ∨ i = 1 by omega) with rfl | rfl <;> decide) (fun j => if j = 0 then 1 else 2) fun i hi => by
    rcases (show i = 0 ∨ i = 1 by omega) with rfl | rfl <;> (unfold Eqm; decide)
  refine ⟨ht, ?_⟩
  have e0 : toV [[1, 1], [0, 2]] x 2 0 = 3 := by rw [← toN_ix (n := 2) (by omega), ht]; rfl
  have e1 : toV [[1, 1], [0, 2]] x 2 1 = 4 := by rw [← toN_ix (n := 2) (by omega), ht]; rfl
  have hr := hx.range h.eT (by rw [h.lT]; exact h.inv.st.le) h.inv.pos
  have b0 := hr 0 (by rw [hx.len]; omega)
  have b1 := hr 1 (by rw [hx.len]; omega)
  have t0 : ∀ f : Nat → Int, sumTo (fun j => en [[1, 1], [0, 2]] 0 j * f j) 2 = f 0 + f 1 := fun f => by simp [sumTo, en, rowOf, ix]
  have t1 : ∀ f : Nat → Int, sumTo (fun j => en [[1, 1], [0, 2]] 1 j * f j) 2 = f 1 * 2 := fun f => by simp [sumTo, en, rowOf, ix]; omega
  unfold toV at e0 e1
  rw [t0 (ix x)] at e0
  rw [t1 (ix x)] at e1
  have x1 : ix x 1 = 2 := two_half e1 b1
  have x0 : ix x 0 = 1 := by omega
  refine ix_ext (by rw [hx.len]; rfl) fun k hk => ?_
  rw [hx.len] at hk
  rcases (show k = 0 ∨ k = 1 by omega) with rfl | rfl
  · exact x0
  · exact x1

end Go.Proofs.Ytoahegjjffggaaa
namespace Go.Rk

theorem det_scale (n : Nat) : ∀ (a : Int) (A : Mx), det n (fun i j => a * A i j) = a ^ n * det n A := by
  induction n with
  | zero => intro a A; simp [det]
  | succ n ih =>
    intro a A
    show sumTo (fun j => sg j * (a * A 0 j) * det n (minor (fun i j => a * A i j) 0 j)) (n + 1) = a ^ (n + 1) * sumTo (fun j => sg j * A 0 j * det n (minor A 0 j)) (n + 1)
    rw [← sumTo_mul]
    refine sumTo_congr fun j _ => ?_
    have : det n (minor (fun i j => a * A i j) 0 j) = a ^ n * det n (minor A 0 j) := ih a (minor A 0 j)
    rw [this, Int.pow_succ]
    grind
theorem neg_one_pow (n : Nat) : (-1 : Int) ^ n = sg n := by
  induction n with
  | zero => rfl
  | succ n ih => rw [Int.pow_succ, ih, sg_succ]; omega
theorem FL.end0 {n : Nat} {A : Mx} {e : Nat → Int} {b : Nat → Mx} (h : FL n A e b) : e 0 = sg n * det n A := by
  have h1 := h.chi 0
  rw [pv_zero_at] at h1
  rw [← h1, ← neg_one_pow, ← det_scale]
  exact det_congr fun i j _ _ => by show 0 * idM i j + -A i j = _; omega
theorem FL.end1 {n : Nat} {A : Mx} {e : Nat → Int} {b : Nat → Mx} (h : FL n A e b) (hn : 1 ≤ n) : e (n - 1) = -sumTo (fun i => A i i) n := by
  have h1 := h.mid (j := n - 1) (by omega)
  rw [sumTo_congr (h := fun i => A i i) fun i hi => by
    have : mulM n A (b (n - 1)) i i = mulM n A oneM i i := sumTo_congr fun t ht => by rw [h.last t i ht hi]
    rw [this, mulM_one A i hi]] at h1
  have e1 : ((n - 1 : Nat) : Int) - n = -1 := by omega
  rw [e1] at h1
  omega
/-- Turned, it is the same. -/
theorem FL.turned {n : Nat} {A B : Mx} {e e' : Nat → Int} {b b' : Nat → Mx} (h : FL n A e b) (g : FL n B e' b') (hB : ∀ i j, i < n → j < n → B i j = A j i) : ∀ k, k ≤ n → e k = e' k := fun k hk =>
  pv_same 0 (fun x _ => by
    rw [← h.chi, ← g.chi, ← det_tr]
    exact det_congr fun i j hi hj => by
      show x * unit_ j i + -A j i = x * unit_ i j + -B i j
      rw [hB i j hi hj]
      unfold unit_
      by_cases e : i = j
      · rw [if_pos e, if_pos e.symm]
      · rw [if_neg e, if_neg fun x => e x.symm]) k (by omega)
end Go.Rk
namespace Go.Proofs.Ytoahegjjffggaaa
open Go.RowKit Go.Rk

theorem rd3 {w : World} {b : Nat} {x y z : Int} (h0 : w.cell? ⟨b, 0, none⟩ = some (.int .i64 x)) (h1 : w.cell? ⟨b, 1, none⟩ = some (.int .i64 y)) (h2 : w.cell? ⟨b, 2, none⟩ = some (.int .i64 z)) : RdI w (some ⟨b, 0, none⟩) 3 3 [x, y, z] := by
  refine ⟨rfl, Nat.le_refl _, by decide, fun k hk => ⟨b, 0, rfl, ?_⟩⟩
  rcases k with _ | k
  · exact h0
  · rcases k with _ | k
    · exact h1
    · obtain rfl : k = 0 := by omega
      exact h2

theorem charIs {e : Nat → Int} {b : Nat → Mx} {l : List Int} (F : FL 2 (mx [[1, 2], [3, 4]]) e b) (h : ∀ k, k ≤ 2 → ix l k = e k % 9973) (hl : l.length = 3) : l = [9971, 9968, 1] := by
  have d : det 2 (mx [[1, 2], [3, 4]]) = -2 := by decide
  have t : sumTo (fun i => mx [[1, 2], [3, 4]] i i) 2 = 5 := by decide
  have h0 := h 0 (by omega)
  have h1 := h 1 (by omega)
  have h2 := h 2 (by omega)
  rw [F.end0, d] at h0
  rw [show (1 : Nat) = 2 - 1 from rfl, F.end1 (by omega), t] at h1
  rw [F.top] at h2
  refine ix_ext hl fun k hk => ?_
  rw [hl] at hk
  rcases (show k = 0 ∨ k = 1 ∨ k = 2 by omega) with rfl | rfl | rfl
  · rw [h0]; rfl
  · exact h1.trans rfl
  · rw [h2]; rfl

end Go.Proofs.Ytoahegjjffggaaa
namespace Go.Proofs.Ytoahegjjffggaaa
open Go.RowKit Go.Rk

/-- The sum of the first m powers. -/
def undoS (n : Nat) (M : List (List Int)) (l : List Int) (c : Int) (m i j : Nat) : Int := sumTo (fun q => ix l (q + 1) * c % 9973 * (powM n (mx M) q i j % 9973)) m % 9973
theorem undoS_step (n : Nat) (M : List (List Int)) (l : List Int) (c : Int) (m i j : Nat) : (undoS n M l c m i j + ix l (m + 1) * c % 9973 * (powM n (mx M) m i j % 9973)) % 9973 = undoS n M l c (m + 1) i j := by
  unfold undoS; rw [sumTo, Int.emod_add_emod]
theorem undoS_in (n : Nat) (M : List (List Int)) (l : List Int) (c : Int) (m i j : Nat) : 0 ≤ undoS n M l c m i j ∧ undoS n M l c m i j ≤ 9972 := by unfold undoS; omega

section
variable {n : Nat} {M S : List (List Int)} {l : List Int} {c : Int} {e : Nat → Int} {b : Nat → Mx}
theorem undo_low (_ : 1 ≤ n) (F : FL n (mx M) e b) (hd : det n (mx M) % 9973 ≠ 0) (hl : ix l 0 = e 0 % 9973) : ix l 0 ≠ 0 := by
  rw [hl, F.end0]
  intro h
  have h1 : Eqm (sg n * det n (mx M)) 0 := h
  have h2 := (Eqm.refl (sg n)).mul h1
  rw [← Int.mul_assoc, sg_sq, Int.one_mul, Int.mul_zero] at h2
  exact hd h2
theorem undo_is (G : Good n n M) (F : FL n (mx M) e b) (_ : det n (mx M) % 9973 ≠ 0) (hl : ∀ k, k ≤ n → ix l k = e k % 9973) (hc : Eqm (c * ix l 0) (-1)) (hS : IsR n n S (undoS n M l c n)) : S = mkM n n (invE n M) := by
  have n1 := G.n1
  have GS : Good n n S := ⟨n1, n1, hS.1, fun i j hi hj => by rw [hS.2 i j hi hj]; exact undoS_in _ _ _ _ _ _ _⟩
  have e1 : EqM n n (mx S) (fun i j => c * sumTo (fun q => e (q + 1) * powM n (mx M) q i j) n) := fun i j hi hj => by
    show Eqm (en S i j) _
    rw [hS.2 i j hi hj]
    unfold undoS
    refine (Eqm.mod _).trans ?_
    show Eqm _ (c * sumTo (fun q => e (q + 1) * powM n (mx M) q i j) n)
    rw [← sumTo_mul]
    refine sumTo_eqm fun q hq => ?_
    rw [hl (q + 1) (by omega)]
    refine (Eqm.mul ((Eqm.mod _).trans ((Eqm.mod _).mul (Eqm.refl c))) (Eqm.mod _)).trans (Eqm.of_eq (by grind))
  have e2 : EqM n n (mulM n (mx M) (mx S)) oneM := fun i j hi hj => by
    refine ((EqM.mul (EqM.refl n n (mx M)) e1) i j hi hj).trans ?_
    have e3 : mulM n (mx M) (fun i j => c * sumTo (fun q => e (q + 1) * powM n (mx M) q i j) n) i j = c * sumTo (fun q => e (q + 1) * powM n (mx M) (q + 1) i j) n := by
      unfold mulM
      rw [sumTo_congr (h := fun t => sumTo (fun q => c * (e (q + 1) * (mx M i t * powM n (mx M) q t j))) n) fun t _ => by
        show mx M i t * (c * sumTo (fun q => e (q + 1) * powM n (mx M) q t j) n) = _
        rw [← sumTo_mul, ← sumTo_mul]
        exact sumTo_congr fun q _ => by grind, sumTo_swap, ← sumTo_mul]
      refine sumTo_congr fun q _ => ?_
      rw [sumTo_mul, sumTo_mul]
      rfl
    rw [e3]
    have e4 := F.cayley n1.1 hi hj
    rw [sumTo_succ_left] at e4
    have e5 : sumTo (fun q => e (q + 1) * powM n (mx M) (q + 1) i j) n = -(e 0 * oneM i j) := by
      have : powM n (mx M) 0 i j = oneM i j := rfl
      rw [this] at e4
      omega
    rw [e5]
    have h0 := hl 0 (Nat.zero_le _)
    have h1 : Eqm (c * e 0) (-1) := ((Eqm.refl c).mul (by rw [h0]; exact (Eqm.mod _).symm)).trans hc
    have h2 := h1.neg.mul (Eqm.refl (oneM i j))
    refine (Eqm.of_eq (by grind)).trans (h2.trans (Eqm.of_eq (by omega)))
  exact (G.inv_is GS e2).eq
end
end Go.Proofs.Ytoahegjjffggaaa
