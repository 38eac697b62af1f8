/-
  The reference's Null and Solve walked.
  SolveAll walked: one is taken there just if that makes no step more; and what is told is taken there.
-/
import Derived.Test.YtkielldinghmbaaDoorRows
import Derived.Deep.QuietTactic
import Derived.BigQuiet
import Derived.StillTailTactics
import Derived.Deep.RegionLaw
import Derived.Test.YtkielldinghmbaaDoorMg0
import Derived.Test.YtkielldinghmbaaDoorMg1
import Derived.Test.YtkielldinghmbaaDoorMg2
import Derived.Test.YtkielldinghmbaaDoorMg8
import Derived.Test.YtkielldinghmbaaDoorMg12
import Derived.Test.YtkielldinghmbaaDoorMg24
import Derived.Test.YtkielldinghmbaaDoorMg26
namespace Go.Proofs.YtkielldinghmbaaDoor
open Go.RowKit Go.Rk

set_option maxHeartbeats 4000000 in
set_option maxRecDepth 100000 in
theorem M_Null_any {a : Option Addr} {n c ca : Nat} {M : List (List Int)} {w : World} (hM : RdM w a n ca M) (d : Dm n c M) (he : EntR 0 9972 n c M) (n1 : 1 ≤ n ∧ n ≤ 100) (c1 : 1 ≤ c ∧ c ≤ 100) :
    Calls Tryd.prog 48 #[.slice a n ca] w fun e w' => ∃ al cl L P ps, e = .returned (.slice al L.length cl) ∧ OwM w' w.heap.size 32 3 al L.length cl L ∧ GInv n c (mx M) c P ps ∧ Nul c c P ps L ∧ Below w.heap.size w w' := by
  have HM := Lib.hid matTy
  have HDD := Lib.hid d
  have C := Lib.hid (R_Stairs_any (cols := c) hM d he (by omega) (by omega) (by omega) (Nat.le_refl _) (by omega))
  obtain ⟨bm0, om0, rfl, am0, cm0, hm00, _⟩ := hM.rowIn d (k := 0) (by omega)
  rw [Nat.add_zero] at hm00
  have b1 : (0 : Int) < (n : Int) := by omega
  have b2 : (1 : Int) ≤ (n : Int) := by omega
  clear d he
  go_enter Tryd.func48, Tryd.ntmps48
  go_wp2_with (go_at_call 30; fail)
  (with_reducible refine C.out.mono ?_)
  clear C
  rintro e w2 ⟨ao, co, ap, cp, P, ps, rfl, hP, hps, hi, hb2⟩
  have HI := Lib.hid hi
  have hm0 := hb2.keep (World.block_lt_of_cell? _ _ hm00) hm00
  clear hi hm00
  have hpl : ps.length ≤ n := HI.out.st.le
  have hMh := Lib.hid hm0
  clear hm0
  go_wp2
  go_loopw [5, 6] (fun v x wr => ∃ (q : Nat) (al : Option Addr) (cl : Nat) (L : List (List Int)), q ≤ c ∧ x = .int .i64 q ∧ v = .slice al L.length cl ∧ OwM wr w2.heap.size 32 3 al L.length cl L ∧ Hid (Nul c q P ps L) ∧ Below w2.heap.size w2 wr) (fun _ x _ => c - (intOf x).toNat)
  case atStart => exact ⟨0, none, 0, [], Nat.zero_le _, rfl, rfl, OwM.nil _ _ _ _, Nul.start _ _ _, Below.refl _ _⟩
  case round =>
    obtain ⟨q, al, cl, L, hq, rfl, rfl, ho, hN, hb⟩ := hrel
    obtain ⟨wo, hwo⟩ : ∃ wo, wo = wr := ⟨_, rfl⟩
    subst hwo
    have hm0 := hb.keep (World.block_lt_of_cell? _ _ hMh.out) hMh.out
    by_cases hqc : q < c
    · have hps := hps.below hb
      have i0 : (q : Int) < (c : Int) := by omega
      have hLl : L.length ≤ q := by
        rw [hN.out.len]
        have := List.length_filter_le (fun (j : Nat) => !hasB (j : Int) ps) (List.range q)
        simp at this
        exact this
      have C := Lib.hid (R_Has_any (q : Int) hps)
      have hsz := hb.size
      cases hbq : hasB (q : Int) ps
      · rw [hbq] at C
        have HB := Lib.hid hbq
        clear hbq
        go_wp2_with (first
          | (go_at_call 76; (with_reducible refine C.out.mono ?_); rintro e w' ⟨rfl, rfl⟩)
          | (refine wpList_make_ints HM.out.int rfl (.tmp 32) (.tmp 32) rfl rfl rfl (by omega) ?_; intro w4 ho4 hb4; obtain ⟨g4, hz, hg41, hg42, hc4, hf4⟩ := ho4.at (by omega); cases hz; have y3 := hc4 q hqc; have y4 := hf4 q; have hb5 := hb4.setCell (p := ⟨wo.heap.size, q, none⟩) (Nat.le_refl _) (.int .i64 1); clear hc4 hf4))
        clear C
        have ho5 := ho4.set (k := q) 1
        clear y3 y4 ho4 hb4
        generalize w4.setCell ⟨wo.heap.size, q, none⟩ (.int .i64 1) = w5 at *
        go_loopw [8] (fun v wt => ∃ (i : Nat) (xs : List Int), i ≤ ps.length ∧ v = .int .i64 i ∧ OwI wt wo.heap.size 3 (some ⟨wo.heap.size, 0, none⟩) c c xs ∧ Hid (NPart c P ps q i xs) ∧ Below wo.heap.size wo wt) (fun v _ => ps.length - (intOf v).toNat)
        case atStart => exact ⟨0, _, Nat.zero_le _, rfl, ho5, NPart.start P ps hqc, hb5⟩
        case round =>
          clear ho5 hb5 hm0
          obtain ⟨i, xs, hi, rfl, hx, hX, hbt⟩ := hrel
          by_cases hir : i < ps.length
          · have hir' : (i : Int) < (ps.length : Int) := by omega
            have hin : i < n := by omega
            have hin' : (i : Int) < (n : Int) := by omega
            have kt := hb.trans (hbt.mono hsz)
            obtain ⟨bp, op, rfl, _, hcp⟩ := (hps.below hbt).at hir
            replace hcp := hcp i hir
            have hpi : ix ps i = (natsOf ps i : Int) := by unfold natsOf; have := HI.out.pos i hir; omega
            have hpc : natsOf ps i < c := HI.out.st.lt i hir
            rw [hpi] at hcp
            have HS := Lib.hid (hX.out.step HI.out.st HI.out.pos HB.out hir)
            clear hpi
            generalize natsOf ps i = p at hcp hpc HS
            have hpc' : (p : Int) < (c : Int) := by omega
            obtain ⟨bP, oP, rfl, ar, cr, hcr, hrd⟩ := (hP.below kt).rowIn HI.out.dm hin
            obtain ⟨br, or_, rfl, _, hce⟩ := hrd.at hqc
            replace hce := hce q hqc
            rw [show ix (rowOf P i) q = en P i q from rfl] at hce
            have be := HI.out.ent i q hin hqc
            generalize en P i q = E at hce be HS
            obtain ⟨g5, hz, _, _, hcx, hfx⟩ := hx.at (by omega)
            cases hz
            replace hcx := hcx p hpc
            replace hfx := hfx p
            have u1 : IntKind.i64.wrap (-E) = -E := Go.IntWalk.i64_in _ (by omega)
            clear hrd
            go_wp2
            go_still_tail 15, (by kernel_rfl)
            still_call (stillW (R_Mod_any _ _ (by omega) (by omega)))
            repeat still_step
            refine wpStill_nil ?_
            change wpList _ _ _ _ _ wr.drew
            clear u1
            go_wp2
            go_roundw
            case rel => exact ⟨i + 1, _, by omega, by go_num, (hx.set _).drew, HS, (hbt.setCell (p := ⟨wo.heap.size, p, none⟩) (Nat.le_refl _) _).drew⟩
            case measure => simp [intOf]; omega
          · obtain rfl : i = ps.length := by omega
            go_wp2_with (at_builtin; refine wpList_push_row HM.out rfl (.tmp 58) (.tmp 60) rfl rfl rfl ho (hbt.alloc hbt.size _) (hx.below ((Below.refl _ _).alloc (Nat.le_refl _) _)) (by rw [World.cell?_alloc_at _ _ _ _ (by simp)]; rfl) (by omega) hsz ?_; intro a5 cap5 w5 ho5 hb6)
            have hb7 := ((hb.trans (hbt.mono hsz)).alloc (by have := hbt.size; omega) _).trans hb6
            have e1 : (L ++ [xs]).length = L.length + 1 := by simp
            go_roundw
            case rel => exact ⟨q + 1, a5, cap5, L ++ [xs], by omega, by go_num, by rw [e1], by rw [e1]; exact ho5, hN.out.push HB.out ⟨hX.out.len, hX.out.one, hX.out.piv, hX.out.zer⟩, hb7⟩
            case measure => simp [intOf]; omega
      · rw [hbq] at C
        have HB := Lib.hid hbq
        clear hbq
        go_wp2_with (first
          | (go_at_call 76; (with_reducible refine C.out.mono ?_); rintro e w' ⟨rfl, rfl⟩))
        clear C
        go_roundw
        case rel => exact ⟨q + 1, al, cl, L, by omega, by go_num, rfl, ho, hN.out.pass HB.out, hb⟩
        case measure => simp [intOf]; omega
    · obtain rfl : q = c := by omega
      go_wp2
      go_ret
      exact ⟨al, cl, L, rfl, ho.mono hb2.size, P, ps, HI.out, hN.out, below_tr hb2 hb⟩

theorem augL_succ (k : Nat) (M : List (List Int)) (t : List Int) : augL (k + 1) M t = augL k M t ++ [rowOf M k ++ [ix t k]] := by simp [augL, List.range_succ]

set_option maxHeartbeats 4000000 in
set_option maxRecDepth 100000 in
theorem M_Solve_any {a b : Option Addr} {n c ca cb : Nat} {M : List (List Int)} {t : List Int} {w : World} (hM : RdM w a n ca M) (d : Dm n c M) (he : EntR 0 9972 n c M) (n1 : 1 ≤ n ∧ n ≤ 100) (c1 : 1 ≤ c ∧ c ≤ 100) (ht : RdI w b n cb t) (it : In 0 9972 t) :
    Calls Tryd.prog 51 #[.slice a n ca, .slice b n cb] w fun e w' => ∃ Q qs, RInv n c (mx (augL n M t)) c (leftL Q c n) (colT Q c n) qs ∧
      (((∀ i, qs.length ≤ i → i < n → ix (colT Q c n) i = 0) ∧ ∃ x ax cx, e = .returned (.tuple #[.slice ax c cx, .bool true]) ∧ OwI w' w.heap.size 3 ax c cx x ∧ XRow c (colT Q c n) qs x) ∨
       ((∃ i, qs.length ≤ i ∧ i < n ∧ ix (colT Q c n) i ≠ 0) ∧ e = .returned (.tuple #[.slice none 0 0, .bool false]))) ∧ Below w.heap.size w w' := by
  have HM := Lib.hid matTy
  have HD := Lib.hid d
  have HA : Hid (Dm n (c + 1) (augL n M t)) := augL_dm d
  have HE : Hid (EntR 0 9972 n (c + 1) (augL n M t)) := fun i j hi hj => by
    rcases Nat.lt_or_ge j c with h1 | h1
    · rw [augL_l d hi h1]; exact he i j hi h1
    · obtain rfl : j = c := by omega
      rw [augL_r d hi]; exact it i (by rw [ht.len_eq]; exact hi)
  obtain ⟨bm, om, rfl, hbm, hr⟩ := hM.at (k := 0) (by omega)
  obtain ⟨bt, ot, rfl, hbt, hct⟩ := ht.at (k := 0) (by omega)
  have HR : Hid (∀ k, k < n → ∃ ar cr, w.cell? ⟨bm, om + k, none⟩ = some (.slice ar c cr) ∧ RdI w ar c cr (rowOf M k)) := fun k hk => by
    obtain ⟨ar, cr, e1, e2⟩ := hr k hk
    rw [d.2 k hk] at e1 e2
    exact ⟨ar, cr, e1, e2⟩
  have HCT := Lib.hid hct
  have b1 : (0 : Int) < (n : Int) := by omega
  have b2 : (1 : Int) ≤ (n : Int) := by omega
  clear hr hct d he it
  go_enter Tryd.func51, Tryd.ntmps51
  go_wp2
  go_loopw [6, 7] (fun v x wr => ∃ (k : Nat) (q : Option Addr) (cq : Nat), k ≤ n ∧ x = .int .i64 k ∧ v = .slice q k cq ∧ OwM wr w.heap.size 32 3 q k cq (augL k M t) ∧ Below w.heap.size w wr) (fun _ x _ => n - (intOf x).toNat)
  case atStart => exact ⟨0, none, 0, Nat.zero_le _, rfl, rfl, OwM.nil _ _ _ _, Below.refl _ _⟩
  case round =>
    obtain ⟨k, q, cq, hk, rfl, rfl, ho, hb⟩ := hrel
    obtain ⟨wo, rfl⟩ : ∃ x, x = wr := ⟨_, rfl⟩
    have hsz := hb.size
    by_cases hlt : k < n
    · have i1 : (k : Int) < (n : Int) := by omega
      obtain ⟨ar, cr, e1, e2⟩ := HR.out k hlt
      have y1 := hb.keep hbm e1
      have hrd := e2.below hb
      have y2 := hb.keep hbt (HCT.out k hlt)
      have hbt2 : bt < wo.heap.size := by omega
      clear e1 e2
      go_wp2_with (first
        | (at_builtin; refine wpList_append_ints HM.out.int rfl (.tmp 20) (.tmp 24) rfl rfl rfl (OwI.nil wo wo.heap.size _) hrd (by omega) (Nat.le_refl _) ?_; intro a3 cap3 w3 ho3 hg3; have hb3 := below_of_grown hg3; rw [Nat.zero_add, List.nil_append] at ho3; have y3 := hb3.keep hbt2 y2; have hs3 := hb3.size)
        | (at_builtin; refine wpList_push_int HM.out.int rfl (.tmp 27) (.tmp 32) rfl rfl rfl (ho3.alloc _) (z := ix t k) (by simp) (by decide) (by decide) (by omega) (by simp; omega) ?_; intro a4 cap4 w4 ho4 hg4; have hb4 := below_grown (hb3.alloc hs3 (.cells #[.int .i64 (ix t k)] 3)) (ho3.alloc _) (by simp; omega) hg4; have hs4 := hb4.size)
        | (at_builtin; refine wpList_push_row HM.out rfl (.tmp 26) (.tmp 34) rfl rfl rfl ho (hb4.alloc hs4 _) (ho4.alloc _) (by simp) (by omega) hsz ?_; intro a5 cap5 w5 ho5 hb5))
      have hb6 := (hb.trans ((hb4.alloc hs4 _).mono hsz)).trans hb5
      go_roundw
      case rel => exact ⟨k + 1, a5, cap5, by omega, by go_num, rfl, by rw [augL_succ]; exact ho5, hb6⟩
      case measure => simp [intOf]; omega
    · obtain rfl : n = k := by omega
      obtain ⟨ar, cr, e1, _⟩ := HR.out 0 (by omega)
      have y1 := hb.keep hbm e1
      rw [Nat.add_zero] at y1
      have C := Lib.hid (R_Stairs_any (cols := c) ho.rd HA.out HE.out (by omega) (by omega) (by omega) (by omega) (by omega))
      clear ho e1
      go_wp2_with (go_at_call 30; fail)
      (with_reducible refine C.out.mono ?_)
      clear C
      rintro e w2 ⟨ao, co, ap, cp, Q, qs, rfl, hQ, hqs, hi, hb2⟩
      have hb3 := below_tr hb hb2
      have HG := Lib.hid hi
      have HI := Lib.hid (GInv.cutR hi)
      have hql : qs.length ≤ n := hi.st.le
      have hs2 := hb3.size
      clear hi y1 hb2
      go_wp2_with (refine wpList_make_ints HM.out.int rfl (.tmp 46) (.tmp 46) rfl rfl rfl (by omega) ?_; intro w4 ho4 hb4)
      go_loopw [13] (fun v wr => ∃ (i : Nat) (xs : List Int), i ≤ n ∧ v = .int .i64 i ∧ OwI wr w2.heap.size 3 (some ⟨w2.heap.size, 0, none⟩) c c xs ∧ Hid (XPart c (colT Q c n) qs (min i qs.length) xs) ∧ Hid (∀ k, qs.length ≤ k → k < i → ix (colT Q c n) k = 0) ∧ Below w2.heap.size w2 wr) (fun v _ => n - (intOf v).toNat)
      case atStart => exact ⟨0, _, Nat.zero_le _, rfl, ho4, by unfold Hid; rw [Nat.zero_min]; exact XPart.start _ _ _, fun k _ h => absurd h (Nat.not_lt_zero _), hb4⟩
      case round =>
        clear ho4 hb4
        obtain ⟨i, xs, hin, rfl, hx, hX, hZ, hbw⟩ := hrel
        have kw := below_tr hb3 hbw
        by_cases hlt2 : i < n
        · have i2 : (i : Int) < (n : Int) := by omega
          obtain ⟨N, hN⟩ : ∃ N, N = c + 1 := ⟨_, rfl⟩
          have i3 : (c : Int) < (N : Int) := by omega
          obtain ⟨bQ, oQ, rfl, ar, cr, hcr, hrd⟩ := (hQ.below hbw).rowIn HG.out.dm hlt2
          rw [← hN] at hcr
          obtain ⟨br, or_, rfl, _, hce⟩ := hrd.at (k := c) (by omega)
          replace hce := hce c (by omega)
          rw [show ix (rowOf Q i) c = en Q i c from rfl, ← colT_ix (Q := Q) (c := c) hlt2] at hce
          clear hrd hN
          by_cases hiq : i < qs.length
          · have i4 : (i : Int) < (qs.length : Int) := by omega
            have HS := hX.out
            rw [show min i qs.length = i from Nat.min_eq_left (by omega)] at HS
            have HS := Lib.hid (HS.step HG.out.st HG.out.pos hiq)
            obtain ⟨bp, op, rfl, _, hcp⟩ := (hqs.below hbw).at hiq
            replace hcp := hcp i hiq
            have hpi : ix qs i = (natsOf qs i : Int) := by unfold natsOf; have := HG.out.pos i hiq; omega
            have hpc : natsOf qs i < c := HG.out.st.lt i hiq
            rw [hpi] at hcp
            clear hpi
            generalize natsOf qs i = p at hcp hpc HS
            have hpc' : (p : Int) < (c : Int) := by omega
            obtain ⟨V, hV⟩ : ∃ V, V = ix (colT Q c n) i := ⟨_, rfl⟩
            rw [← hV] at hce HS
            obtain ⟨g5, hz, _, _, hcx, hfx⟩ := hx.at (by omega)
            cases hz
            replace hcx := hcx p hpc
            replace hfx := hfx p
            clear hV
            go_wp2
            go_still_tail 13, (by kernel_rfl)
            (try repeat still_step)
            (try refine wpStill_nil ?_)
            change wpList _ _ _ _ _ wr.drew
            go_wp2
            go_roundw
            case rel => exact ⟨i + 1, _, by omega, by go_num, (hx.set _).drew, by unfold Hid; rw [show min (i + 1) qs.length = i + 1 from Nat.min_eq_left (by omega)]; exact HS.out, fun k h1 h2 => absurd h2 (by omega), (hbw.setCell (p := ⟨w2.heap.size, p, none⟩) (Nat.le_refl _) _).drew⟩
            case measure => simp [intOf]; omega
          · have i4 : ¬ (i : Int) < (qs.length : Int) := by omega
            by_cases hv : ix (colT Q c n) i = 0
            · have z1 : (ix (colT Q c n) i != 0) = false := bne_eq_false_iff_eq.2 hv
              have HV := Lib.hid hv
              clear hv
              go_wp2
              go_roundw
              case rel => exact ⟨i + 1, xs, by omega, by go_num, hx, by unfold Hid; rw [show min (i + 1) qs.length = min i qs.length from by omega]; exact hX.out, fun k h1 h2 => by
                rcases Nat.lt_or_ge k i with h3 | h3
                · exact hZ.out k h1 h3
                · obtain rfl : k = i := by omega
                  exact HV.out, hbw⟩
              case measure => simp [intOf]; omega
            · have z1 : (ix (colT Q c n) i != 0) = true := bne_iff_ne.2 hv
              have HV := Lib.hid hv
              clear hv
              go_wp2
              go_ret2
              exact ⟨Q, qs, HI.out, .inr ⟨⟨i, by omega, hlt2, HV.out⟩, rfl⟩, kw⟩
        · obtain rfl : n = i := by omega
          have HX := hX.out
          rw [show min n qs.length = qs.length from Nat.min_eq_right hql] at HX
          have HX := Lib.hid HX
          go_wp2
          go_ret2
          exact ⟨Q, qs, HI.out, .inl ⟨fun k h1 h2 => hZ.out k h1 h2, xs, _, _, rfl, hx.mono hs2, ⟨HX.out.len, HX.out.piv, HX.out.zer⟩⟩, kw⟩
end Go.Proofs.YtkielldinghmbaaDoor
namespace Go.Proofs.YtkielldinghmbaaDoor
open Go.RowKit Go.Rk

theorem flip_flip {M : List (List Int)} {n c : Nat} (d : Dm n c M) : flipL (flipL M n c) c n = M :=
  (flipL_is (flipL M n c) c n).1.ext d fun i j hi hj => by rw [(flipL_is (flipL M n c) c n).2 i j hi hj]; exact (flipL_is M n c).2 j i hj hi

section
variable {n c : Nat} {M P P' : List (List Int)} {t T ps ps' x : List Int}
theorem rank_same (h : RInv n c (mx (augL n M t)) c P T ps) (g : GInv n (c + 1) (mx (augL n M t)) (c + 1) P' ps') (hz : ∀ i, ps.length ≤ i → i < n → ix T i = 0) : ps'.length = ps.length := by
  have h1 := h.inv.pass fun i h1 h2 => by rw [augL_r h.dP h2]; exact hz i h1 h2
  exact g.st.same_rank h1.st (g.back.trans h1.made) (h1.back.trans g.made)
theorem rank_more (h : RInv n c (mx (augL n M t)) c P T ps) (g : GInv n (c + 1) (mx (augL n M t)) (c + 1) P' ps') {i : Nat} (h1 : ps.length ≤ i) (hi : i < n) (hz : ix T i ≠ 0) : ps'.length = ps.length + 1 := by
  have h2 := h.inv.swap h1 hi
  have hne : en (swapL (augL n P T) ps.length i) ps.length c ≠ 0 := by
    rw [en_swap h.inv.dm (by omega) hi]
    have : (if ps.length = i then ps.length else if ps.length = ps.length then i else ps.length) = i := by rw [if_pos (rfl : ps.length = ps.length)]; split <;> omega
    rw [this, augL_r h.dP hi]
    exact hz
  have h3 := h2.clear (by omega) (by omega) hne (mkM_is n (c + 1) _)
  have := g.st.same_rank h3.st (g.back.trans h3.made) (h3.back.trans g.made)
  rw [this]
  simp
theorem rank_left (hd : Dm n c M) (h : RInv n c (mx (augL n M t)) c P T ps) (g : GInv n c (mx M) c P' ps') : ps'.length = ps.length := by
  have h1 := h.left hd
  exact g.st.same_rank h1.st (g.back.trans h1.made) (h1.back.trans g.made)
/-- It is taken there just if there is no step more. -/
theorem rank_taken (hd : Dm n c M) (it : In 0 9972 t) (hl : t.length = n) (h : RInv n c (mx (augL n M t)) c P T ps) (hx : XRow c T ps x) (g : GInv n (c + 1) (mx (augL n M t)) (c + 1) P' ps') :
    (toN M x c n = t → ps'.length = ps.length) ∧ (toN M x c n ≠ t → ps'.length = ps.length + 1) := by
  refine ⟨fun e => rank_same h g fun i h1 h2 => ?_, fun e => ?_⟩
  · rcases Decidable.em (ix T i = 0) with h3 | h3
    · exact h3
    · exact absurd e (solve_none (x := x) hd h h1 h2 h3)
  · rcases Classical.em (∃ i, ps.length ≤ i ∧ i < n ∧ ix T i ≠ 0) with ⟨i, h1, h2, h3⟩ | h3
    · exact rank_more h g h1 h2 h3
    · exfalso
      refine e (told hd h hx hl it (ix x) fun i hi => solves0 hd h hx (fun i h1 h2 => ?_) hi)
      rcases Decidable.em (ix T i = 0) with h4 | h4
      · exact h4
      · exact absurd ⟨i, h1, h2, h4⟩ h3
theorem augL_set {k : Nat} {r : List Int} {z : Int} : (augL k M t ++ [r]).set k (r ++ [z]) = augL k M t ++ [r ++ [z]] := by
  have hl : (augL k M t).length = k := by simp [augL]
  rw [List.set_append_right _ _ (by omega), hl, Nat.sub_self]
  rfl
end

set_option maxHeartbeats 4000000 in
set_option maxRecDepth 100000 in
theorem solveAll_walk {a b : Option Addr} {n l ca cb : Nat} {M : List (List Int)} {t : List Int} {w : World} (hg : ErrT w) (hM : RdM w a n ca M) (_ : ∀ r ∈ M, Fit r) (ht : RdI w b l cb t) (_ : Fit t) :
    Calls Tryd.prog 10 #[.slice a n ca, .slice b l cb] w fun e w' => e = .returned (.bool true) ∧ Below w.heap.size w w' := by
  have HM := Lib.hid matTy
  have lm := hM.len_max
  have lt := ht.len_max
  go_enter Tryd.func10, Tryd.ntmps10
  go_wp2_with (first | (go_at_call 53; refine (solveFact_any _).mono ?_; rintro e w1 ⟨rfl, k1⟩) | (go_at_call 33; fail))
  rcases hq : groundsR 5 0 9972 M with _ | x0
  · have GA0 := Good.of hM.len_eq hq
    obtain ⟨c, hc⟩ : ∃ c, (rowOf M 0).length = c := ⟨_, rfl⟩
    rw [hc] at GA0
    have n1 := GA0.n1
    have c1 := GA0.c1
    have G := Lib.hid GA0
    clear hq GA0 hc
    refine (Rank_ok (hM.below k1) G.out).mono ?_
    rintro e w2 ⟨P0, ps0, rfl, hi0, b2⟩
    have kk := below_tr k1 b2
    have HI0 := Lib.hid hi0
    obtain ⟨r, hr⟩ : ∃ r, ps0.length = r := ⟨_, rfl⟩
    rw [hr]
    have HR := Lib.hid hr
    clear b2 k1 hi0 hr
    obtain ⟨bm, om, rfl, am, cm, hm0, _⟩ := hM.rowIn G.out.dm (k := 0) (by omega)
    rw [Nat.add_zero] at hm0
    have lM := World.block_lt_of_cell? _ _ hm0
    have b1 : (0 : Int) < (n : Int) := by omega
    have b2 : (1 : Int) ≤ (n : Int) := by omega
    by_cases hln : l = n
    · subst hln
      have z1 : ((l : Int) != (l : Int)) = false := bne_eq_false_iff_eq.2 rfl
      have C1 := R_All_any 0 9972 (ht.below kk)
      rcases hal : allB 0 9972 t with _ | _
      · rw [hal] at C1
        have C1 := Lib.hid C1
        clear hal
        go_wp2_with (first | (go_at_call 50; (with_reducible refine C1.out.mono ?_); rintro e w' ⟨rfl, rfl⟩))
        go_ret
        exact ⟨rfl, kk⟩
      rw [hal] at C1
      have C1 := Lib.hid C1
      have IT := Lib.hid (allB_in hal)
      have TL := Lib.hid ht.len_eq
      have y0 := kk.keep lM hm0
      clear hal
      by_cases hc5 : c = 5
      · subst hc5
        go_wp2_with (first | (go_at_call 50; (with_reducible refine C1.out.mono ?_); rintro e w' ⟨rfl, rfl⟩))
        go_ret
        exact ⟨rfl, kk⟩
      have z5 : ((c : Int) == 5) = false := beq_eq_false_iff_ne.2 (by omega)
      go_wp2_with (first | (go_at_call 50; (with_reducible refine C1.out.mono ?_); rintro e w' ⟨rfl, rfl⟩) | (go_at_call 52; fail))
      refine (One_ok (hM.below kk) G.out (ht.below kk) IT.out).mono ?_
      rintro e w3 ⟨P, T, ps, x, hR, hX, hor, b3⟩
      have k3 := below_tr kk b3
      have HRV := Lib.hid hR
      have HX := Lib.hid hX
      have htk : Hid (t.length = l) := TL
      clear C1 y0 b3 hR hX z1 z5 kk
      -- the loop that lays the rows, whatever was told
      rcases hor with ⟨hT, ax, cx, rfl, hx0⟩ | ⟨hT, rfl⟩
      · have hx := hx0.rd
        have HT := Lib.hid hT
        clear hx0 hT
        go_wp2_with fail
        go_loopw [9, 10] (fun v y wr => ∃ (k : Nat) (q : Option Addr) (cq : Nat), k ≤ l ∧ y = .int .i64 k ∧ v = .slice q k cq ∧ OwM wr w3.heap.size 32 3 q k cq (augL k M t) ∧ Below w3.heap.size w3 wr) (fun _ y _ => l - (intOf y).toNat)
        case atStart => exact ⟨0, none, 0, Nat.zero_le _, rfl, rfl, OwM.nil _ _ _ _, Below.refl _ _⟩
        case round =>
          obtain ⟨k, q, cq, hk, rfl, rfl, ho, hb⟩ := hrel
          obtain ⟨wo, rfl⟩ : ∃ y, y = wr := ⟨_, rfl⟩
          have hsz := hb.size
          have kb := below_tr k3 hb
          by_cases hkl : k < l
          · have i1 : (k : Int) < (l : Int) := by omega
            go_wp2_with (go_at_call 19; fail)
            refine (R_Flip_any (hM.below kb) G.out.dm (by omega) (by omega) (by omega)).mono ?_
            rintro e wF ⟨aF, cF, rfl, hF, bF⟩
            go_wp2_with (go_at_call 19; fail)
            refine (R_Flip_any hF.rd (flipL_is M l c).1 (by omega) (by omega) (by omega)).mono ?_
            rintro e wG ⟨aG, cG, rfl, hG, bG⟩
            rw [flip_flip G.out.dm] at hG
            obtain ⟨gG, DG, CG, hz, hdG⟩ := hG.named (by omega) (fun r hr => by rw [G.out.dm.2 r hr]; omega)
            cases hz
            have hFG := bF.size
            have bFG := below_tr bF bG
            have y1 := hdG.cellO hkl
            have hrow := (hdG.rows k hkl).mono (B' := wo.heap.size) hFG
            rw [G.out.dm.2 k hkl] at y1 hrow
            have hsFG := bFG.size
            clear hF bF bG hG hFG
            go_wp2_with (first | (at_builtin; refine wpList_push_row HM.out rfl (.tmp 60) (.tmp 67) rfl rfl rfl ho (bFG.alloc hsFG _) (hrow.alloc _) (by simp) (by omega) hsz ?_; intro a5 c5 w5 ho5 hb5))
            have k5 := ((hb.trans ((bFG.alloc hsFG (.cells #[.slice (some ⟨DG k, 0, none⟩) c (CG k)] 32)).mono hsz)).trans hb5)
            clear ho hb y1 hrow hdG bFG hsFG hb5
            have hAM : Hid (∀ i, i < k + 1 → (rowOf (augL k M t ++ [rowOf M k]) i).length = if i < k then c + 1 else c) := fun i hi => by
              have hl : (augL k M t).length = k := by simp [augL]
              by_cases e : i < k
              · rw [if_pos e, rowOf_append_left (by rw [hl]; exact e), augL_row e, List.length_append, G.out.dm.2 i (by omega)]; rfl
              · obtain rfl : k = i := by omega
                rw [if_neg e, rowOf_append_right (by omega), hl, Nat.sub_self]
                exact G.out.dm.2 k hkl
            have hRK : Hid (rowOf (augL k M t ++ [rowOf M k]) k = rowOf M k) := by
              have hl : (augL k M t).length = k := by simp [augL]
              unfold Hid
              rw [rowOf_append_right (by omega), hl, Nat.sub_self]; rfl
            obtain ⟨g, D, Cg, hz, hd⟩ := ho5.named (by omega) (fun i hi => by rw [hAM.out i hi]; split <;> omega)
            subst hz
            have x1 := hd.cellO (i := k) (by omega)
            rw [hAM.out k (by omega), if_neg (Nat.lt_irrefl k)] at x1
            have hrw := hd.rows k (by omega)
            rw [hAM.out k (by omega), if_neg (Nat.lt_irrefl k), hRK.out] at hrw
            have kw := below_tr k3 k5
            obtain ⟨bt, ot, rfl, hbt, hct⟩ := ht.at hkl
            have x2 := kw.keep hbt (hct k hkl)
            have i2 : (k : Int) < (k : Int) + 1 := by omega
            have hbt5 : bt < w3.heap.size := by have := k3.size; omega
            have hs5 := k5.size
            have hDk := hd.neO HM.out.ne (i := k) (by omega)
            have hlD := hd.lowI (i := k) (by omega)
            obtain ⟨N, hN⟩ : ∃ N, N = k + 1 := ⟨_, rfl⟩
            have i3 : (k : Int) < (N : Int) := by omega
            rw [← hN] at hd ⊢
            have HN := Lib.hid hN
            obtain ⟨z, hz⟩ : ∃ z, z = ix t k := ⟨_, rfl⟩
            rw [← hz] at x2
            have HZ := Lib.hid hz
            clear ho5 hct hN hz
            have hgl := hd.lowO.1
            go_wp2_with fail
            have x3 : (w5.alloc (.cells #[.int .i64 z] 3)).cell? ⟨g, k, none⟩ = some (.slice (some ⟨D k, 0, none⟩) c (Cg k)) := alloc_keep x1
            go_region_law ((first | (refine step_push_int2 HM.out.int rfl (.tmp 74) (.tmp 79) rfl rfl rfl (hrw.drew.alloc _) (z := z) (by simp) (by decide) (by decide) (by omega) (by simp; omega) ?_; intro a6 c6 w6 ho6 hg6 hn6; obtain ⟨hfin, m1, mf⟩ := (hd.drew.alloc (.cells #[.int .i64 z] 3)).regrow HM.out.ne (by omega) hg6 ho6 (by omega) hn6; rw [hAM.out k (by omega), if_neg (Nat.lt_irrefl k)] at m1; have m2 := (hrw.drew.alloc (.cells #[.int .i64 z] 3)).keepCell hg6 (by exact hbt5) (alloc_keep x2))))
            all_goals
              have hb4 := below_grown (k5.drew.alloc hs5 (.cells #[.int .i64 z] 3)) (hrw.drew.alloc _) (by simp; omega) hg6
              have hb7 := hb4.setCell (p := ⟨g, k, none⟩) hgl (.slice a6 (c + 1) c6)
              go_wp2
              go_roundw
              case rel => exact ⟨k + 1, _, c5, by omega, by go_num, by rw [HN.out], by have q := hfin; rw [HN.out, augL_set, HZ.out, ← augL_succ] at q; exact q, hb7⟩
              case measure => simp [intOf]; omega
          · obtain rfl : l = k := by omega
            have k4 := below_tr k3 hb
            have hAl := ho.rd
            have GA : Hid (Good l (c + 1) (augL l M t)) := ⟨n1, by omega, augL_dm G.out.dm, fun i j hi hj => by
              rcases Nat.lt_or_ge j c with h1 | h1
              · rw [augL_l G.out.dm hi h1]; exact G.out.ent i j hi h1
              · obtain rfl : j = c := by omega
                rw [augL_r G.out.dm hi]; exact IT.out i (by rw [TL.out]; exact hi)⟩
            have hx4 := hx.below hb
            clear ho hb hx
            go_wp2_with (go_at_call 33; fail)
            refine (Rank_ok hAl GA.out).mono ?_
            rintro e w6 ⟨P', ps', rfl, hi', b6⟩
            have k6 := below_tr k4 b6
            have hx6 := hx4.below b6
            have HL : Hid (ps'.length = r) := by
              unfold Hid
              rw [(rank_taken G.out.dm IT.out TL.out HRV.out HX.out hi').1 HT.out, ← HR.out]
              exact (rank_left G.out.dm HRV.out HI0.out).symm
            obtain ⟨r', hr'⟩ : ∃ r', ps'.length = r' := ⟨_, rfl⟩
            have HR' := Lib.hid hr'
            have z6 : ((r' : Int) == (r : Int)) = true := beq_iff_eq.2 (by have := HL.out; have := HR'.out; omega)
            have z7 : ((c : Int) == (c : Int)) = true := beq_iff_eq.2 rfl
            have y0 := k6.keep lM hm0
            rw [hr']
            clear hi' b6 k4 hx4 hAl hr'
            have hxi := HX.out.range HRV.out.eT (by rw [HRV.out.lT]; exact (HRV.out.left G.out.dm).st.le) HRV.out.inv.pos
            have HXI := Lib.hid hxi
            clear hxi
            go_wp2_with (go_at_call 54; fail)
            refine (To_any (hM.below k6) G.out.dm G.out.ent hx6 HXI.out (by omega)).mono ?_
            rintro e w7 ⟨a7, c7, rfl, ho7, b7⟩
            have k7 := below_tr k6 b7
            have ho8 := ho7.rd
            clear b7 ho7 y0 hx6 k6
            go_wp2_with (go_at_call 32; fail)
            refine (Ints_eq ho8 (ht.below k7) HT.out).mono ?_
            rintro e w8 ⟨rfl, b8⟩
            have k8 := below_tr k7 b8
            go_wp2
            go_ret
            exact ⟨rfl, k8⟩
      · have HT := Lib.hid hT
        clear hT
        go_wp2_with fail
        go_loopw [9, 10] (fun v y wr => ∃ (k : Nat) (q : Option Addr) (cq : Nat), k ≤ l ∧ y = .int .i64 k ∧ v = .slice q k cq ∧ OwM wr w3.heap.size 32 3 q k cq (augL k M t) ∧ Below w3.heap.size w3 wr) (fun _ y _ => l - (intOf y).toNat)
        case atStart => exact ⟨0, none, 0, Nat.zero_le _, rfl, rfl, OwM.nil _ _ _ _, Below.refl _ _⟩
        case round =>
          obtain ⟨k, q, cq, hk, rfl, rfl, ho, hb⟩ := hrel
          obtain ⟨wo, rfl⟩ : ∃ y, y = wr := ⟨_, rfl⟩
          have hsz := hb.size
          have kb := below_tr k3 hb
          by_cases hkl : k < l
          · have i1 : (k : Int) < (l : Int) := by omega
            go_wp2_with (go_at_call 19; fail)
            refine (R_Flip_any (hM.below kb) G.out.dm (by omega) (by omega) (by omega)).mono ?_
            rintro e wF ⟨aF, cF, rfl, hF, bF⟩
            go_wp2_with (go_at_call 19; fail)
            refine (R_Flip_any hF.rd (flipL_is M l c).1 (by omega) (by omega) (by omega)).mono ?_
            rintro e wG ⟨aG, cG, rfl, hG, bG⟩
            rw [flip_flip G.out.dm] at hG
            obtain ⟨gG, DG, CG, hz, hdG⟩ := hG.named (by omega) (fun r hr => by rw [G.out.dm.2 r hr]; omega)
            cases hz
            have hFG := bF.size
            have bFG := below_tr bF bG
            have y1 := hdG.cellO hkl
            have hrow := (hdG.rows k hkl).mono (B' := wo.heap.size) hFG
            rw [G.out.dm.2 k hkl] at y1 hrow
            have hsFG := bFG.size
            clear hF bF bG hG hFG
            go_wp2_with (first | (at_builtin; refine wpList_push_row HM.out rfl (.tmp 60) (.tmp 67) rfl rfl rfl ho (bFG.alloc hsFG _) (hrow.alloc _) (by simp) (by omega) hsz ?_; intro a5 c5 w5 ho5 hb5))
            have k5 := ((hb.trans ((bFG.alloc hsFG (.cells #[.slice (some ⟨DG k, 0, none⟩) c (CG k)] 32)).mono hsz)).trans hb5)
            clear ho hb y1 hrow hdG bFG hsFG hb5
            have hAM : Hid (∀ i, i < k + 1 → (rowOf (augL k M t ++ [rowOf M k]) i).length = if i < k then c + 1 else c) := fun i hi => by
              have hl : (augL k M t).length = k := by simp [augL]
              by_cases e : i < k
              · rw [if_pos e, rowOf_append_left (by rw [hl]; exact e), augL_row e, List.length_append, G.out.dm.2 i (by omega)]; rfl
              · obtain rfl : k = i := by omega
                rw [if_neg e, rowOf_append_right (by omega), hl, Nat.sub_self]
                exact G.out.dm.2 k hkl
            have hRK : Hid (rowOf (augL k M t ++ [rowOf M k]) k = rowOf M k) := by
              have hl : (augL k M t).length = k := by simp [augL]
              unfold Hid
              rw [rowOf_append_right (by omega), hl, Nat.sub_self]; rfl
            obtain ⟨g, D, Cg, hz, hd⟩ := ho5.named (by omega) (fun i hi => by rw [hAM.out i hi]; split <;> omega)
            subst hz
            have x1 := hd.cellO (i := k) (by omega)
            rw [hAM.out k (by omega), if_neg (Nat.lt_irrefl k)] at x1
            have hrw := hd.rows k (by omega)
            rw [hAM.out k (by omega), if_neg (Nat.lt_irrefl k), hRK.out] at hrw
            have kw := below_tr k3 k5
            obtain ⟨bt, ot, rfl, hbt, hct⟩ := ht.at hkl
            have x2 := kw.keep hbt (hct k hkl)
            have i2 : (k : Int) < (k : Int) + 1 := by omega
            have hbt5 : bt < w3.heap.size := by have := k3.size; omega
            have hs5 := k5.size
            have hDk := hd.neO HM.out.ne (i := k) (by omega)
            have hlD := hd.lowI (i := k) (by omega)
            obtain ⟨N, hN⟩ : ∃ N, N = k + 1 := ⟨_, rfl⟩
            have i3 : (k : Int) < (N : Int) := by omega
            rw [← hN] at hd ⊢
            have HN := Lib.hid hN
            obtain ⟨z, hz⟩ : ∃ z, z = ix t k := ⟨_, rfl⟩
            rw [← hz] at x2
            have HZ := Lib.hid hz
            clear ho5 hct hN hz
            have hgl := hd.lowO.1
            go_wp2_with fail
            have x3 : (w5.alloc (.cells #[.int .i64 z] 3)).cell? ⟨g, k, none⟩ = some (.slice (some ⟨D k, 0, none⟩) c (Cg k)) := alloc_keep x1
            go_region_law ((first | (refine step_push_int2 HM.out.int rfl (.tmp 74) (.tmp 79) rfl rfl rfl (hrw.drew.alloc _) (z := z) (by simp) (by decide) (by decide) (by omega) (by simp; omega) ?_; intro a6 c6 w6 ho6 hg6 hn6; obtain ⟨hfin, m1, mf⟩ := (hd.drew.alloc (.cells #[.int .i64 z] 3)).regrow HM.out.ne (by omega) hg6 ho6 (by omega) hn6; rw [hAM.out k (by omega), if_neg (Nat.lt_irrefl k)] at m1; have m2 := (hrw.drew.alloc (.cells #[.int .i64 z] 3)).keepCell hg6 (by exact hbt5) (alloc_keep x2))))
            all_goals
              have hb4 := below_grown (k5.drew.alloc hs5 (.cells #[.int .i64 z] 3)) (hrw.drew.alloc _) (by simp; omega) hg6
              have hb7 := hb4.setCell (p := ⟨g, k, none⟩) hgl (.slice a6 (c + 1) c6)
              go_wp2
              go_roundw
              case rel => exact ⟨k + 1, _, c5, by omega, by go_num, by rw [HN.out], by have q := hfin; rw [HN.out, augL_set, HZ.out, ← augL_succ] at q; exact q, hb7⟩
              case measure => simp [intOf]; omega
          · obtain rfl : l = k := by omega
            have k4 := below_tr k3 hb
            have hAl := ho.rd
            have GA : Hid (Good l (c + 1) (augL l M t)) := ⟨n1, by omega, augL_dm G.out.dm, fun i j hi hj => by
              rcases Nat.lt_or_ge j c with h1 | h1
              · rw [augL_l G.out.dm hi h1]; exact G.out.ent i j hi h1
              · obtain rfl : j = c := by omega
                rw [augL_r G.out.dm hi]; exact IT.out i (by rw [TL.out]; exact hi)⟩
            clear ho hb
            go_wp2_with (go_at_call 33; fail)
            refine (Rank_ok hAl GA.out).mono ?_
            rintro e w6 ⟨P', ps', rfl, hi', b6⟩
            have k6 := below_tr k4 b6
            have HL : Hid (ps'.length = r + 1) := by
              unfold Hid
              rw [(rank_taken G.out.dm IT.out TL.out HRV.out HX.out hi').2 HT.out, ← HR.out, rank_left G.out.dm HRV.out HI0.out]
            obtain ⟨r', hr'⟩ : ∃ r', ps'.length = r' := ⟨_, rfl⟩
            have HR' := Lib.hid hr'
            have br : r ≤ 5 := by have := HI0.out.st.le; have := HR.out; omega
            have z6 : ((r' : Int) == (r : Int) + 1) = true := beq_iff_eq.2 (by have := HL.out; have := HR'.out; omega)
            rw [hr']
            clear hi' b6 k4 hAl hr'
            go_wp2_with (go_at_call 17; fail)
            refine (E_same (hg.below k6)).mono ?_
            rintro e w7 ⟨rfl, b7⟩
            have k7 := below_tr k6 b7
            go_wp2
            go_ret
            exact ⟨rfl, k7⟩
    · have z1 : ((l : Int) != (n : Int)) = true := bne_iff_ne.2 (by omega)
      go_wp2
      go_ret
      exact ⟨rfl, kk⟩
  · refine (Rank_err (hM.below k1) hq).mono ?_
    rintro e w2 ⟨rfl, rfl⟩
    go_wp2
    go_ret
    exact ⟨rfl, k1⟩
end Go.Proofs.YtkielldinghmbaaDoor
