/-
  massey.corrected walked: factors from which elder ones are taken away.
-/
import Derived.Test.YtfocfgddlnjfmaaRows
import Derived.Test.YtfocfgddlnjfmaaLib
import Derived.Test.YtfocfgddlnjfmaaNum
import Derived.Test.YtfocfgddlnjfmaaMasseyP
import Derived.Test.YtfocfgddlnjfmaaMasseyW
import Derived.Test.YtfocfgddlnjfmaaBareissP
import Derived.RangeFuncBox
import Derived.RangeFuncNested
import Derived.Deep.QuietTactic
import Derived.BigQuiet
import Derived.StillTailTactics
namespace Go.Proofs.Ytfocfgddlnjfmaa
open Go.RowKit Go.Rk

/-- A number is added at a place, behind noughts if need be. -/
def putL (l : List Int) (i : Nat) (x : Int) : List Int := (l ++ List.replicate (i + 1 - l.length) 0).set i ((ix l i + x) % 9973)
theorem putL_len (l : List Int) (i : Nat) (x : Int) : (putL l i x).length = max l.length (i + 1) := by
  simp [putL]; omega
theorem ix_zeros (l : List Int) (k j : Nat) : ix (l ++ List.replicate k 0) j = ix l j := by
  rcases Nat.lt_or_ge j l.length with h | h
  · exact ix_append_left h
  · rw [ix_append_right h, ix_ge h]
    rcases Nat.lt_or_ge (j - l.length) k with h2 | h2
    · rw [ix_lt (by simpa using h2)]; simp
    · exact ix_ge (by simpa using h2)
theorem putL_ix (l : List Int) (i : Nat) (x : Int) (j : Nat) : ix (putL l i x) j = if j = i then (ix l i + x) % 9973 else ix l j := by
  unfold putL
  rw [ix_set, ix_zeros]
  by_cases e : i = j
  · subst e
    rw [if_pos ⟨rfl, by simp; omega⟩, if_pos rfl]
  · rw [if_neg (fun h => e h.1), if_neg (fun h => e h.symm)]
theorem putL_in {l : List Int} (h : In 0 9972 l) (i : Nat) (x : Int) : In 0 9972 (putL l i x) := fun j _ => by
  rw [putL_ix]
  split
  · omega
  · rcases Nat.lt_or_ge j l.length with h2 | h2
    · exact h j h2
    · rw [ix_ge h2]; decide

theorem boxed_below {W W' : World} {B : Nat} {t : TypeId} {v : Value} (h : Boxed W B t v) (hb : Below W.heap.size W W') : Boxed W' B t v := (hb.block B h.lt).trans h

section
variable {a b : Option Addr} {n ca m cb : Nat} {l f : List Int} {w0 w : World}
set_option maxRecDepth 100000 in
theorem put_any {Bo i : Nat} {x : Int} (hB : Boxed w Bo 22 (.slice a n ca)) (ho : OwI w w0.heap.size 3 a n ca l) (hb : Below w0.heap.size w0 w) (hBo : w0.heap.size ≤ Bo) (_ : n ≤ 100) (hi : i ≤ 100) (hl : In 0 9972 l) (hx : -99440784 ≤ x ∧ x ≤ 99440784) :
    Calls Try.prog 98 #[.int .i64 i, .int .i64 x, .pointer (some ⟨Bo, 0, none⟩)] w fun e w' => e = .returned (.tuple #[]) ∧ ∃ a' c', Boxed w' Bo 22 (.slice a' (max n (i + 1)) c') ∧ OwI w' w0.heap.size 3 a' (max n (i + 1)) c' (putL l i x) ∧ Below w0.heap.size w0 w' := by
  have HIT := Lib.hid intTy
  have HL := Lib.hid ho.len_eq
  go_enter Try.func98, Try.ntmps98
  go_wp2
  go_loopw [] (fun wr => ∃ (q : Nat) (aq : Option Addr) (cq : Nat), n + q ≤ max n (i + 1) ∧ Boxed wr Bo 22 (.slice aq (n + q) cq) ∧ OwI wr w0.heap.size 3 aq (n + q) cq (l ++ List.replicate q 0) ∧ Below w0.heap.size w0 wr) (fun wr => i + 1 - lenOf ((wr.cell? ⟨Bo, 0, none⟩).getD undef))
  case atStart => exact ⟨0, a, ca, by omega, hB, by simpa using ho, hb⟩
  case round =>
    clear hB ho hb
    obtain ⟨q, aq, cq, hq, hB, ho, hb⟩ := hrel
    have c1 := hB.cell
    by_cases hle : n + q ≤ i
    · have i1 : ((n + q : Nat) : Int) ≤ (i : Int) := by omega
      have hsz := hb.size
      have hM : Hid (lenOf ((wr.cell? ⟨Bo, 0, none⟩).getD undef) = n + q) := by unfold Hid; rw [c1]; rfl
      go_wp2_with (first | (at_builtin; refine wpList_push_int HIT.out rfl (.tmp 9) (.tmp 10) rfl rfl rfl (ho.alloc _) (z := 0) (by simp) (by decide) (by decide) (by omega) (by simp; omega) ?_; intro a4 cap4 w4 ho4 hg4; have hB4 := (hB.alloc (.cells #[.int .i64 0] 3)).kept hg4 ((hB.alloc (.cells #[.int .i64 0] 3)).not_row (by decide) (ho.alloc (.cells #[.int .i64 0] 3)).own); have c4 := hB4.cell; have f4 := hB4.frozen))
      have hne4 := hB4.not_row (show (22 : TypeId) ≠ 3 by decide) ho4.own
      have hb4 := below_grown (hb.alloc hsz (.cells #[.int .i64 0] 3)) (ho.alloc _) (by simp; omega) hg4
      go_roundw
      case rel => exact ⟨q + 1, a4, cap4, by omega, hB4.set _, by
        have := ho4.grown (grownBy_setCell w4 ⟨Bo, 0, none⟩ (.slice a4 (n + q + 1) cap4)) (.inr fun e => hne4 e.symm)
        rw [List.append_assoc] at this
        rw [List.replicate_succ']
        exact this, hb4.setCell (p := ⟨Bo, 0, none⟩) hBo _⟩
      case measure =>
        rw [hM.out, (hB4.set (Value.slice a4 (n + q + 1) cap4)).cell]
        show i + 1 - (n + q + 1) < i + 1 - (n + q)
        omega
    · have hm : n + q = max n (i + 1) := by omega
      have hq2 : q = i + 1 - l.length := by rw [HL.out]; omega
      obtain ⟨g, rfl, hg1, hg2, hc, hf⟩ := ho.at (by omega)
      have y1 := hc i (by omega)
      have y2 := hf i
      rw [ix_zeros] at y1
      have hset := (ho.set (k := i) ((ix l i + x) % 9973)).drew
      have hne := hB.not_row (show (22 : TypeId) ≠ 3 by decide) ho.own
      have hgB : Bo ≠ g := fun e => hne (by rw [e]; rfl)
      have hB5 := boxed_below (hB.kept (grownBy_setCell wr ⟨g, i, none⟩ (.int .i64 ((ix l i + x) % 9973))) (fun e => hgB (by injection e))) (Below.refl _ _).drew
      have hb5 := (hb.setCell (p := ⟨g, i, none⟩) hg1 (.int .i64 ((ix l i + x) % 9973))).drew
      have bx : 0 ≤ ix l i ∧ ix l i ≤ 9972 := by
        rcases Nat.lt_or_ge i l.length with h2 | h2
        · exact hl i h2
        · rw [ix_ge h2]; decide
      have i1 : ¬ ((n + q : Nat) : Int) ≤ (i : Int) := by omega
      have i2 : (i : Int) < ((n + q : Nat) : Int) := by omega
      have u1 : IntKind.i64.wrap (ix l i + x) = ix l i + x := Go.IntWalk.i64_in _ (by omega)
      have HQ2 := Lib.hid hq2
      have HM2 := Lib.hid hm
      clear hne hc hf bx hb ho hq2 hm
      go_wp2
      go_still_tail 10, (by kernel_rfl)
      still_call (stillW (Field_any _ _))
      repeat still_step
      refine wpStill_nil ?_
      change wpList _ _ _ _ _ wr.drew
      go_wp2
      go_end0
      refine ⟨rfl, some ⟨g, 0, none⟩, cq, ?_⟩
      rw [← HM2.out]
      exact ⟨hB5, by unfold putL; rw [← HQ2.out]; exact hset, hb5⟩

/-- Elder factors are taken away, k of them so far. -/
def corK (f e : List Int) (gap : Nat) (x : Int) : Nat → List Int
  | 0 => putL f gap x
  | k + 1 => putL (corK f e gap x k) (gap + 1 + k) (-x * ix e k)
theorem corK_len (f e : List Int) (gap : Nat) (x : Int) : ∀ k, (corK f e gap x k).length = max f.length (gap + 1 + k)
  | 0 => putL_len _ _ _
  | k + 1 => by rw [corK, putL_len, corK_len f e gap x k]; omega
theorem corK_in {f : List Int} (h : In 0 9972 f) (e : List Int) (gap : Nat) (x : Int) : ∀ k, In 0 9972 (corK f e gap x k)
  | 0 => putL_in h _ _
  | k + 1 => putL_in (corK_in h e gap x k) _ _
theorem corK_ix (f e : List Int) (gap : Nat) (x : Int) : ∀ k j, ix (corK f e gap x k) j = if j = gap then (ix f j + x) % 9973 else if gap < j ∧ j < gap + 1 + k then (ix f j + -x * ix e (j - gap - 1)) % 9973 else ix f j
  | 0, j => by
    rw [corK, putL_ix]
    by_cases e1 : j = gap
    · subst e1; rw [if_pos rfl, if_pos rfl]
    · rw [if_neg e1, if_neg e1, if_neg (by omega)]
  | k + 1, j => by
    rw [corK, putL_ix, corK_ix f e gap x k]
    by_cases e1 : j = gap + 1 + k
    · subst e1
      rw [if_pos rfl, if_neg (by omega), if_neg (by omega), if_neg (by omega), if_pos (by omega), show gap + 1 + k - gap - 1 = k by omega]
    · rw [if_neg e1, corK_ix f e gap x k]
      by_cases e2 : j = gap
      · rw [if_pos e2, if_pos e2]
      · rw [if_neg e2, if_neg e2]
        by_cases e3 : gap < j ∧ j < gap + 1 + k
        · rw [if_pos e3, if_pos (by omega)]
        · rw [if_neg e3, if_neg (by omega)]
theorem corK_eqm (f e : List Int) (gap : Nat) (x : Int) (j : Nat) : Eqm (ix (corK f e gap x e.length) j) (corF (ix f) f.length (ix e) e.length gap x j) := by
  have h0 : (if j < f.length then ix f j else 0) = ix f j := by
    split
    · rfl
    · exact (ix_ge (by omega)).symm
  rw [corK_ix]
  unfold corF
  rw [h0]
  by_cases e1 : j = gap
  · rw [if_pos e1, if_pos e1]; exact Eqm.mod _
  · rw [if_neg e1, if_neg e1]
    by_cases e2 : gap < j ∧ j < gap + 1 + e.length
    · rw [if_pos e2, if_pos e2]; exact Eqm.mod _
    · rw [if_neg e2, if_neg e2, Int.add_zero]; exact Eqm.refl _

set_option maxRecDepth 100000 in
set_option maxHeartbeats 1000000 in
theorem corrected_any {e : List Int} {gap : Nat} {x : Int} (hf : RdI w a n ca f) (he : RdI w b m cb e) (hfi : In 0 9972 f) (hei : In 0 9972 e) (hn : n ≤ 40) (hm : m ≤ 40) (hgap : gap ≤ 40) (hx : 0 ≤ x ∧ x ≤ 9972) :
    Calls Try.prog 92 #[.slice a n ca, .slice b m cb, .int .i64 gap, .int .i64 x] w fun e' w' => ∃ a' c', e' = .returned (.slice a' (max n (gap + 1 + m)) c') ∧ OwI w' w.heap.size 3 a' (max n (gap + 1 + m)) c' (corK f e gap x m) ∧ Below w.heap.size w w' := by
  have HIT := Lib.hid intTy
  have HF := Lib.hid hf.len_eq
  have HE := Lib.hid he.len_eq
  have HFI := Lib.hid hfi
  have HEI := Lib.hid hei
  have hmf : ∀ (fn : Fn) (first cap : Array Value) (w : World), (Instr.makeFunc fn first cap).run Try.prog w = .ok (.func fn first cap) w := fun _ _ _ _ => rfl
  go_enter Try.func92, Try.ntmps92
  go_wp2_with (first | (at_builtin; refine wpList_append_ints HIT.out rfl (.const (.slice none 0 0)) (.tmp 13) rfl rfl rfl (OwI.nil w w.heap.size _) hf (by omega) (Nat.le_refl _) ?_; intro a1 c1 w1 ho1 hg1) | fail)
  have hb1 := below_of_grown hg1
  have hs1 := hb1.size
  have C := Lib.hid (put_any (w0 := w) (Bo := w1.heap.size) (i := gap) (x := x) (Boxed.new w1 22 (.slice a1 n c1)) (by simpa using ho1.alloc (.cells #[.slice a1 n c1] 22)) (hb1.alloc hs1 _) hs1 (by omega) (by omega) HFI.out (by omega))
  (with_reducible refine C.out.mono ?_)
  clear C
  rintro e2 w2 ⟨rfl, a2, c2, hB, ho, hb⟩
  clear ho1 hg1 hb1 hmf
  generalize w1.heap.size = Bo at *
  go_wp2
  go_loopw [22] (fun v wr => ∃ (k : Nat) (a2 : Option Addr) (c2 : Nat), k ≤ m ∧ v = .int .i64 k ∧ Boxed wr Bo 22 (.slice a2 (max n (gap + 1 + k)) c2) ∧ OwI wr w.heap.size 3 a2 (max n (gap + 1 + k)) c2 (corK f e gap x k) ∧ Below w.heap.size w wr) (fun v _ => m - (intOf v).toNat)
  case atStart => exact ⟨0, a2, c2, Nat.zero_le _, rfl, hB, ho, hb⟩
  case round =>
    clear hB ho hb
    obtain ⟨k, a2, c2, hk, rfl, hB, ho, hb⟩ := hrel
    by_cases hkm : k < m
    · have i1 : (k : Int) < (m : Int) := by omega
      obtain ⟨bx, ox, rfl, _, hc⟩ := (he.below hb).at hkm
      have y1 := hc k hkm
      have be := HEI.out k (by rw [HE.out]; exact hkm)
      have b2 := abs_mul_le (x := -x) (y := ix e k) (a := 9972) (b := 9972) (by omega) (by omega)
      have u1 : IntKind.i64.wrap ((gap : Int) + 1) = (gap : Int) + 1 := Go.IntWalk.i64_in _ (by omega)
      have u2 : IntKind.i64.wrap ((gap : Int) + 1 + k) = (gap : Int) + 1 + k := Go.IntWalk.i64_in _ (by omega)
      have u3 : IntKind.i64.wrap (-x) = -x := Go.IntWalk.i64_in _ (by omega)
      have u4 : IntKind.i64.wrap (-x * ix e k) = -x * ix e k := Go.IntWalk.i64_in _ (by omega)
      have C := put_any (i := gap + 1 + k) (x := -x * ix e k) hB ho hb hs1 (by omega) (by omega) (corK_in HFI.out e gap x k) (by omega)
      rw [show ((gap + 1 + k : Nat) : Int) = (gap : Int) + 1 + k by omega] at C
      have C := Lib.hid C
      have hmx : max (max n (gap + 1 + k)) (gap + 1 + k + 1) = max n (gap + 1 + (k + 1)) := by omega
      have HMX := Lib.hid hmx
      clear hc be b2 hB ho hb hmx
      go_wp2_with (first | (go_at_call 98; (with_reducible refine C.out.mono ?_); rintro e4 w4 ⟨rfl, a4, c4, hB4, ho4, hb4⟩))
      rw [HMX.out] at hB4 ho4
      go_roundw
      case rel => exact ⟨k + 1, a4, c4, by omega, by go_num, hB4, ho4, hb4⟩
      case measure => simp [intOf]; omega
    · obtain rfl : k = m := by omega
      have y1 := hB.cell
      go_wp2
      go_ret
      exact ⟨a2, c2, rfl, ho, hb⟩
end
end Go.Proofs.Ytfocfgddlnjfmaa
