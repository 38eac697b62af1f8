/-
  solve.Null walked.
-/
import Derived.Test.YtohconpfpecldaaRows
import Derived.Test.YtohconpfpecldaaLib
import Derived.Test.YtohconpfpecldaaRef
import Derived.Test.YtohconpfpecldaaGaussS
import Derived.Test.YtohconpfpecldaaNull
import Derived.Test.YtohconpfpecldaaSlices
namespace Go.Proofs.Ytohconpfpecldaa
open Go.RowKit Go.Rk

/-- A row of a matrix, read at once. -/
theorem _root_.Go.Rk.RdM.rowIn {w : World} {a : Option Addr} {n c cap : Nat} {M : List (List Int)} (h : RdM w a n cap M) (d : Dm n c M) {k : Nat} (hk : k < n) :
    ∃ b off, a = some ⟨b, off, none⟩ ∧ ∃ ar cr, w.cell? ⟨b, off + k, none⟩ = some (.slice ar c cr) ∧ RdI w ar c cr (rowOf M k) := by
  obtain ⟨b, off, rfl, _, hr⟩ := h.at hk
  obtain ⟨ar, cr, hc, hrd⟩ := hr k hk
  rw [d.2 k hk] at hc hrd
  exact ⟨b, off, rfl, ar, cr, hc, hrd⟩

theorem Null_err {a : Option Addr} {n ca : Nat} {M : List (List Int)} {w : World} {x : Int} (hM : RdM w a n ca M) (hq : groundsR 5 0 9972 M = some x) :
    Calls Try.prog 46 #[.slice a n ca] w fun e w' => e = .returned (.tuple #[.slice none 0 0, .iface 63 (.int .i64 x)]) ∧ w = w' := by
  have C := Lib.hid (Steps_err hM hq)
  clear hq
  go_enter Try.func46, Try.ntmps46
  go_wp2_with (go_at_call 49; (with_reducible refine C.out.mono ?_); rintro e w' ⟨rfl, rfl⟩)
  go_ret2
  exact ⟨rfl, rfl⟩

/-- A row of a free column, of its first i steps. -/
structure NPart (c : Nat) (P : List (List Int)) (ps : List Int) (f i : Nat) (x : List Int) : Prop where
  len : x.length = c
  one : ix x f = 1
  piv : ∀ k, k < i → ix x (natsOf ps k) = -en P k f % 9973
  zer : ∀ j, j < c → j ≠ f → hasB (j : Int) ps = false → ix x j = 0

theorem NPart.start {c f : Nat} (P : List (List Int)) (ps : List Int) (hf : f < c) : NPart c P ps f 0 ((List.replicate c 0).set f 1) := by
  refine ⟨by simp, by rw [ix_set, if_pos ⟨rfl, by simp; exact hf⟩], fun _ h => absurd h (Nat.not_lt_zero _), fun j hj hne _ => ?_⟩
  rw [ix_set, if_neg fun e => hne e.1.symm, ix_lt (by simp; exact hj)]
  simp
theorem NPart.step {n c f i : Nat} {P : List (List Int)} {ps x : List Int} {R : Mx} (h : NPart c P ps f i x) (st : Stairs n c ps.length R (natsOf ps)) (hp : ∀ i, i < ps.length → 0 ≤ ix ps i) (hf : hasB (f : Int) ps = false) (hi : i < ps.length) : NPart c P ps f (i + 1) (x.set (natsOf ps i) (-en P i f % 9973)) := by
  have hl := st.lt i hi
  have hb : hasB (natsOf ps i : Int) ps = true := (hasB_pos hp).2 ⟨i, hi, rfl⟩
  refine ⟨by rw [List.length_set]; exact h.len, ?_, fun k hk => ?_, fun j hj hne hz => ?_⟩
  · rw [ix_set, if_neg fun e => by rw [e.1, hf] at hb; cases hb]
    exact h.one
  · rw [ix_set]
    rcases Nat.lt_or_ge k i with h1 | h1
    · rw [if_neg fun e => by have := st.inc k i h1 hi; omega]
      exact h.piv k h1
    · obtain rfl : k = i := by omega
      rw [if_pos ⟨rfl, by rw [h.len]; exact hl⟩]
  · rw [ix_set, if_neg fun e => by rw [e.1, hz] at hb; cases hb]
    exact h.zer j hj hne hz

set_option maxHeartbeats 4000000 in
set_option maxRecDepth 100000 in
theorem Null_ok {a : Option Addr} {n c ca : Nat} {M : List (List Int)} {w : World} (hM : RdM w a n ca M) (G : Good n c M) :
    Calls Try.prog 46 #[.slice a n ca] w fun e w' => ∃ al cl L P ps, e = .returned (.tuple #[.slice al L.length cl, .nilIface]) ∧ OwM w' w.heap.size 22 3 al L.length cl L ∧ GInv n c (mx M) c P ps ∧ Nul c c P ps L ∧ Below w.heap.size w w' := by
  have HM := Lib.hid matTy
  have n1 := G.n1
  have c1 := G.c1
  have HG := Lib.hid G
  have C := Lib.hid (Steps_ok hM G)
  clear G
  go_enter Try.func46, Try.ntmps46
  go_wp2_with (go_at_call 49; fail)
  (with_reducible refine C.out.mono ?_)
  clear C
  rintro e w2 ⟨ao, co, ap, cp, P, ps, rfl, ho, hp, hi, hb2⟩
  have HI := Lib.hid hi
  have hP := ho.rd
  have hps := hp.rd
  clear ho hp hi
  have hMw := hM.below hb2
  obtain ⟨bm, om, rfl, am, cm, hm0, _⟩ := hMw.rowIn HG.out.dm (k := 0) (by omega)
  rw [Nat.add_zero] at hm0
  have b1 : (0 : Int) < (n : Int) := by omega
  have b2 : (1 : Int) ≤ (n : Int) := by omega
  have hpl : ps.length ≤ 5 := by have := HI.out.st.le; omega
  have hMh := Lib.hid hm0
  go_wp2
  clear hm0
  go_loopw [7, 25] (fun v x wr => ∃ (q : Nat) (al : Option Addr) (cl : Nat) (L : List (List Int)), q ≤ c ∧ x = .int .i64 q ∧ v = .slice al L.length cl ∧ OwM wr w2.heap.size 22 3 al L.length cl L ∧ Hid (Nul c q P ps L) ∧ Below w2.heap.size w2 wr) (fun _ x _ => c - (intOf x).toNat)
  case atStart => exact ⟨0, none, 0, [], Nat.zero_le _, rfl, rfl, OwM.nil _ _ _ _, Nul.start _ _ _, Below.refl _ _⟩
  case round =>
    obtain ⟨q, al, cl, L, hq, rfl, rfl, ho, hN, hb⟩ := hrel
    obtain ⟨wo, hwo⟩ : ∃ wo, wo = wr := ⟨_, rfl⟩
    subst hwo
    by_cases hqc : q < c
    · have hps := hps.below hb
      have hm0 := hb.keep (World.block_lt_of_cell? _ _ hMh.out) hMh.out
      have hLl : L.length ≤ q := by
        rw [hN.out.len]
        have := List.length_filter_le (fun (j : Nat) => !hasB (j : Int) ps) (List.range q)
        simp at this
        exact this
      have C := Lib.hid (Contains_any (q : Int) hps)
      have hsz := hb.size
      cases hbq : hasB (q : Int) ps
      · rw [hbq] at C
        have HB := Lib.hid hbq
        clear hbq
        go_wp2_with (first
          | (go_at_call 78; (with_reducible refine C.out.mono ?_); rintro e w' ⟨rfl, rfl⟩)
          | (refine wpList_make_ints HM.out.int rfl (.tmp 34) (.tmp 34) rfl rfl rfl (by omega) ?_; intro w4 ho4 hb4; obtain ⟨g4, hz, hg41, hg42, hc4, hf4⟩ := ho4.at (by omega); cases hz; have y3 := hc4 q hqc; have y4 := hf4 q; have hb5 := hb4.setCell (p := ⟨wo.heap.size, q, none⟩) (Nat.le_refl _) (.int .i64 1); clear hc4 hf4))
        clear C
        have ho5 := ho4.set (k := q) 1
        clear y3 y4 ho4 hb4
        generalize w4.setCell ⟨wo.heap.size, q, none⟩ (.int .i64 1) = w5 at *
        go_loopw [41] (fun v wt => ∃ (i : Nat) (xs : List Int), i ≤ ps.length ∧ v = .int .i64 i ∧ OwI wt wo.heap.size 3 (some ⟨wo.heap.size, 0, none⟩) c c xs ∧ Hid (NPart c P ps q i xs) ∧ Below wo.heap.size wo wt) (fun v _ => ps.length - (intOf v).toNat)
        case atStart => exact ⟨0, _, Nat.zero_le _, rfl, ho5, NPart.start P ps hqc, hb5⟩
        case round =>
          clear ho5 hb5 hm0
          obtain ⟨i, xs, hi, rfl, hx, hX, hbt⟩ := hrel
          by_cases hir : i < ps.length
          · have hir' : (i : Int) < (ps.length : Int) := by omega
            have hin : i < n := by have := HI.out.st.le; omega
            have hin' : (i : Int) < (n : Int) := by omega
            have hqc' : (q : Int) < (c : Int) := by omega
            have kt := hb.trans (hbt.mono hsz)
            obtain ⟨bp, op, rfl, _, hcp⟩ := (hps.below hbt).at hir
            replace hcp := hcp i hir
            have hpi : ix ps i = (natsOf ps i : Int) := by unfold natsOf; have := HI.out.pos i hir; omega
            have hpc : natsOf ps i < c := HI.out.st.lt i hir
            rw [hpi] at hcp
            have HS := Lib.hid (hX.out.step HI.out.st HI.out.pos HB.out hir)
            clear hpi
            generalize natsOf ps i = p at hcp hpc HS
            have hpc' : (p : Int) < (c : Int) := by omega
            obtain ⟨bP, oP, rfl, ar, cr, hcr, hrd⟩ := (hP.below kt).rowIn HI.out.dm hin
            obtain ⟨br, or_, rfl, _, hce⟩ := hrd.at hqc
            replace hce := hce q hqc
            rw [show ix (rowOf P i) q = en P i q from rfl] at hce
            have be := HI.out.ent i q hin hqc
            generalize en P i q = E at hce be HS
            obtain ⟨g5, hz, _, _, hcx, hfx⟩ := hx.at (by omega)
            cases hz
            replace hcx := hcx p hpc
            replace hfx := hfx p
            have u1 : IntKind.i64.wrap (-E) = -E := Go.IntWalk.i64_in _ (by omega)
            clear hrd
            go_wp2_with (go_at_call 62; refine (Field_any _ _).mono ?_; rintro e w' ⟨rfl, rfl⟩)
            go_roundw
            case rel => exact ⟨i + 1, _, by omega, by go_num, hx.set _, HS, hbt.setCell (p := ⟨wo.heap.size, p, none⟩) (Nat.le_refl _) _⟩
            case measure => simp [intOf]; omega
          · obtain rfl : i = ps.length := by omega
            go_wp2_with (at_builtin; refine wpList_push_row HM.out rfl (.tmp 59) (.tmp 61) rfl rfl rfl ho (hbt.alloc hbt.size _) (hx.below ((Below.refl _ _).alloc (Nat.le_refl _) _)) (by rw [World.cell?_alloc_at _ _ _ _ (by simp)]; rfl) (by omega) hsz ?_; intro a5 cap5 w5 ho5 hb6)
            have hb7 := ((hb.trans (hbt.mono hsz)).alloc (by have := hbt.size; omega) _).trans hb6
            have e1 : (L ++ [xs]).length = L.length + 1 := by simp
            go_roundw
            case rel => exact ⟨q + 1, a5, cap5, L ++ [xs], by omega, by go_num, by rw [e1], by rw [e1]; exact ho5, hN.out.push HB.out ⟨hX.out.len, hX.out.one, hX.out.piv, hX.out.zer⟩, hb7⟩
            case measure => simp [intOf]; omega
      · rw [hbq] at C
        have HB := Lib.hid hbq
        clear hbq
        go_wp2_with (first
          | (go_at_call 78; (with_reducible refine C.out.mono ?_); rintro e w' ⟨rfl, rfl⟩))
        clear C
        go_roundw
        case rel => exact ⟨q + 1, al, cl, L, by omega, by go_num, rfl, ho, hN.out.pass HB.out, hb⟩
        case measure => simp [intOf]; omega
    · obtain rfl : q = c := by omega
      go_wp2
      go_ret2
      exact ⟨al, cl, L, P, ps, rfl, ho.mono hb2.size, HI.out, hN.out, below_tr hb2 hb⟩
end Go.Proofs.Ytohconpfpecldaa
