/-
  solve.One walked.
-/
import Derived.Test.YtohconpfpecldaaRows
import Derived.Test.YtohconpfpecldaaLib
import Derived.Test.YtohconpfpecldaaNum
import Derived.Test.YtohconpfpecldaaDetW
import Derived.Test.YtohconpfpecldaaMatFact
import Derived.Test.YtohconpfpecldaaReduced
namespace Go.Proofs.Ytohconpfpecldaa
open Go.RowKit Go.Rk

/-- What is told, of its first i steps. -/
structure XPart (c : Nat) (T ps : List Int) (i : Nat) (x : List Int) : Prop where
  len : x.length = c
  piv : ∀ k, k < i → ix x (natsOf ps k) = ix T k
  zer : ∀ j, j < c → hasB (j : Int) ps = false → ix x j = 0
theorem XPart.start (c : Nat) (T ps : List Int) : XPart c T ps 0 (List.replicate c 0) :=
  ⟨by simp, fun _ h => absurd h (Nat.not_lt_zero _), fun j hj _ => by rw [ix_lt (by simp; exact hj)]; simp⟩
theorem XPart.step {n c i : Nat} {T ps x : List Int} {R : Mx} (h : XPart c T ps i x) (st : Stairs n c ps.length R (natsOf ps)) (hp : ∀ i, i < ps.length → 0 ≤ ix ps i) (hi : i < ps.length) : XPart c T ps (i + 1) (x.set (natsOf ps i) (ix T i)) := by
  have hl := st.lt i hi
  have hb : hasB (natsOf ps i : Int) ps = true := (hasB_pos hp).2 ⟨i, hi, rfl⟩
  refine ⟨by rw [List.length_set]; exact h.len, fun k hk => ?_, fun j hj hz => ?_⟩
  · rw [ix_set]
    rcases Nat.lt_or_ge k i with h1 | h1
    · rw [if_neg fun e => by have := st.inc k i h1 hi; omega]
      exact h.piv k h1
    · obtain rfl : k = i := by omega
      rw [if_pos ⟨rfl, by rw [h.len]; exact hl⟩]
  · rw [ix_set, if_neg fun e => by rw [e.1, hz] at hb; cases hb]
    exact h.zer j hj hz

theorem One_gr {a : Option Addr} {n m ca cb : Nat} {b : Option Addr} {M : List (List Int)} {w : World} {x : Int} (hM : RdM w a n ca M) (hq : groundsR 5 0 9972 M = some x) :
    Calls Try.prog 48 #[.slice a n ca, .slice b m cb] w fun e w' => e = .returned (.tuple #[.slice none 0 0, .iface 63 (.int .i64 x)]) ∧ w = w' := by
  have C := Lib.hid (mat_Check_is hM hq)
  clear hq
  go_enter Try.func48, Try.ntmps48
  go_wp2_with (go_at_call 64; refine C.out.mono ?_; rintro e w' ⟨rfl, rfl⟩; simp only [errV])
  go_ret2
  exact ⟨rfl, rfl⟩

set_option maxHeartbeats 4000000 in
set_option maxRecDepth 100000 in
theorem One_ok {a b : Option Addr} {n c ca cb : Nat} {M : List (List Int)} {t : List Int} {w : World} (hM : RdM w a n ca M) (G : Good n c M) (ht : RdI w b n cb t) (it : In 0 9972 t) :
    Calls Try.prog 48 #[.slice a n ca, .slice b n cb] w fun e w' => ∃ P T ps x, RInv n c (mx (augL n M t)) c P T ps ∧ XRow c T ps x ∧
      ((toN M x c n = t ∧ ∃ ax cx, e = .returned (.tuple #[.slice ax c cx, .nilIface]) ∧ OwI w' w.heap.size 3 ax c cx x) ∨ (toN M x c n ≠ t ∧ e = .returned (.tuple #[.slice none 0 0, .iface 63 (.int .i64 5)]))) ∧ Below w.heap.size w w' := by
  have HM := Lib.hid matTy
  have n1 := G.n1
  have c1 := G.c1
  have HG := Lib.hid G
  have HT := Lib.hid it
  have C := Lib.hid (mat_Check_is hM G.gr)
  have C2 := any_any b n cb t 0 9972 w ht
  rw [any_of_in it] at C2
  have C2 := Lib.hid C2
  have C3 := Lib.hid (reduced_any hM G ht it)
  have z0 : ((n : Int) != (n : Int)) = false := bne_eq_false_iff_eq.2 rfl
  clear G it
  go_enter Try.func48, Try.ntmps48
  go_wp2_with (first | (go_at_call 64; refine C.out.mono ?_; rintro e w' ⟨rfl, rfl⟩; simp only [errV]) | (go_at_call 72; refine C2.out.mono ?_; rintro e w' ⟨rfl, rfl⟩) | (go_at_call 79; fail))
  (with_reducible refine C3.out.mono ?_)
  clear C C2 C3
  rintro e w3 ⟨aT, cT, ap, cp, P, T, ps, rfl, hT, hps, hi, hb3⟩
  have HI := Lib.hid hi
  have HTt := hT.rd
  have hps := hps.rd
  have hTl := hi.lT
  have hle := hi.inv.st.le
  clear hi hT
  obtain ⟨bm, om, rfl, am, cm, hm0, _⟩ := (hM.below hb3).rowIn HG.out.dm (k := 0) (by omega)
  rw [Nat.add_zero] at hm0
  have b1 : (0 : Int) < (n : Int) := by omega
  have b2 : (1 : Int) ≤ (n : Int) := by omega
  go_wp2_with (refine wpList_make_ints HM.out.int rfl (.tmp 37) (.tmp 37) rfl rfl rfl (by omega) ?_; intro w4 ho4 hb4)
  clear hm0
  go_loopw [41] (fun v wt => ∃ (i : Nat) (xs : List Int), i ≤ ps.length ∧ v = .int .i64 i ∧ OwI wt w3.heap.size 3 (some ⟨w3.heap.size, 0, none⟩) c c xs ∧ Hid (XPart c T ps i xs) ∧ Below w3.heap.size w3 wt) (fun v _ => ps.length - (intOf v).toNat)
  case atStart => exact ⟨0, _, Nat.zero_le _, rfl, ho4, XPart.start _ _ _, hb4⟩
  case round =>
    clear ho4 hb4
    obtain ⟨i, xs, hi, rfl, hx, hX, hbt⟩ := hrel
    by_cases hir : i < ps.length
    · have hir' : (i : Int) < (ps.length : Int) := by omega
      have hin : i < n := by omega
      have hin' : (i : Int) < (n : Int) := by omega
      obtain ⟨bp, op, rfl, _, hcp⟩ := (hps.below hbt).at hir
      replace hcp := hcp i hir
      have hpi : ix ps i = (natsOf ps i : Int) := by unfold natsOf; have := HI.out.inv.pos i hir; omega
      have st := (HI.out.left HG.out.dm).st
      have hpc : natsOf ps i < c := st.lt i hir
      rw [hpi] at hcp
      have HS := Lib.hid (hX.out.step st HI.out.inv.pos hir)
      clear hpi st
      generalize natsOf ps i = p at hcp hpc HS
      have hpc' : (p : Int) < (c : Int) := by omega
      obtain ⟨bT, oT, rfl, _, hce⟩ := (HTt.below hbt).at hin
      replace hce := hce i hin
      generalize ix T i = E at hce HS
      obtain ⟨g5, hz, _, _, hcx, hfx⟩ := hx.at (by omega)
      cases hz
      replace hcx := hcx p hpc
      replace hfx := hfx p
      go_wp2
      go_roundw
      case rel => exact ⟨i + 1, _, by omega, by go_num, hx.set _, HS, hbt.setCell (p := ⟨w3.heap.size, p, none⟩) (Nat.le_refl _) _⟩
      case measure => simp [intOf]; omega
    · obtain rfl : i = ps.length := by omega
      have hXR : XRow c T ps xs := ⟨hX.out.len, hX.out.piv, hX.out.zer⟩
      have HXR := Lib.hid hXR
      have k5 := below_tr hb3 hbt
      have hin := hXR.range HI.out.eT (by omega) HI.out.inv.pos
      have C4 := Lib.hid (product_any (hM.below k5) HG.out.dm HG.out.ent hx.rd hin (by omega) (by omega))
      clear hXR hin
      go_wp2_with (first | (go_at_call 81; fail))
      (with_reducible refine C4.out.mono ?_)
      clear C4
      rintro e w6 ⟨a6, c6, rfl, ho6, hb6⟩
      have k6 := below_tr k5 hb6
      have C5 := Lib.hid (Equal_q ho6.rd (ht.below k6))
      have hx6 := (hx.below hb6).mono hb3.size
      by_cases he : toN M xs c n = t
      · rw [decide_eq_true he] at C5
        have HE := Lib.hid he
        clear he
        go_wp2_with (first | (go_at_call 80; (with_reducible refine C5.out.mono ?_); rintro e w7 ⟨rfl, nq, rfl⟩))
        go_ret2
        exact ⟨P, T, ps, xs, HI.out, HXR.out, .inl ⟨HE.out, _, _, rfl, hx6.drewN nq⟩, below_drewN k6 nq⟩
      · rw [decide_eq_false he] at C5
        have HE := Lib.hid he
        clear he
        go_wp2_with (first | (go_at_call 80; (with_reducible refine C5.out.mono ?_); rintro e w7 ⟨rfl, nq, rfl⟩))
        go_ret2
        exact ⟨P, T, ps, xs, HI.out, HXR.out, .inr ⟨HE.out, rfl⟩, below_drewN k6 nq⟩
end Go.Proofs.Ytohconpfpecldaa
