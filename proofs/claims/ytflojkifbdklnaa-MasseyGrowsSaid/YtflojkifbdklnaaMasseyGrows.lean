/-
  MasseyGrows walked: with one number more as many factors are needed, or as many as the theorem says.
-/
import Derived.Test.YtflojkifbdklnaaRows
import Derived.Test.YtflojkifbdklnaaLib
import Derived.Test.YtflojkifbdklnaaNum
import Derived.Test.YtflojkifbdklnaaRef
import Derived.Test.YtflojkifbdklnaaTr
import Derived.Test.YtflojkifbdklnaaOpen
import Derived.Test.YtflojkifbdklnaaMasseyP
import Derived.Test.YtflojkifbdklnaaMasseyG
import Derived.Test.YtflojkifbdklnaaMasseyFact
namespace Go.Proofs.Ytflojkifbdklnaa
open Go.RowKit Go.Rk

theorem seqR_more {l : List Int} {x c : Int} (h : seqR l = none) (k : seqR (l ++ [x]) = some c) : l.length = 16 ∨ inB x 0 9972 = false := by
  obtain ⟨h1, h2⟩ := seqR_none h
  rcases hx : inB x 0 9972 with _ | _
  · exact .inr rfl
  · obtain ⟨x1, x2⟩ := inB_true hx
    rcases Nat.lt_or_ge l.length 16 with h3 | h3
    · have hn : seqR (l ++ [x]) = none := by
        unfold seqR
        rw [if_neg (by simp; omega), any_of_in fun j hj => ?_]
        · rfl
        · rcases Nat.lt_or_ge j l.length with h4 | h4
          · rw [ix_append_left h4]; exact h2 j h4
          · rw [List.length_append, List.length_singleton] at hj
            obtain rfl : j = l.length := by omega
            rw [ix_append_right (Nat.le_refl _), Nat.sub_self]
            exact ⟨x1, x2⟩
      rw [hn] at k
      cases k
    · exact .inl (by omega)

set_option maxHeartbeats 1000000 in
set_option maxRecDepth 100000 in
theorem masseyGrows_pure {l : List Int} {x : Int} {n L M : Nat} {F G : List Int} (hl : l.length = n) (h : BM (ix l) n (ix F) L) (k : BM (ix (l ++ [x])) (n + 1) (ix G) M) : M = L ∨ (L < M ∧ M + L = n + 1) := by
  have h1 := h.congr (u := ix (l ++ [x])) fun t ht => by rw [ix_append_left (by omega)]; exact Eqm.refl _
  obtain ⟨c', L', hB, hor⟩ := h1.more
  have := k.same hB fun _ _ => Eqm.refl _
  omega

set_option maxHeartbeats 1000000 in
set_option maxRecDepth 100000 in
theorem masseyGrows_walk {a : Option Addr} {n ca : Nat} {l : List Int} {x : Int} {w : World} (h : RdI w a n ca l) (_ : Fit l) (_ : (Lit.int .i64 x).wf = true) :
    Calls Try.prog 11 #[.slice a n ca, .int .i64 x] w fun e w' => e = .returned (.bool true) ∧ Below w.heap.size w w' := by
  have HIT := Lib.hid intTy
  have hL := Lib.hid h.len_eq
  go_enter Try.func11, Try.ntmps11
  go_wp2_with (first | (go_at_call 33; refine (masseyFact_any _).mono ?_; rintro e w1 ⟨rfl, k1⟩) | (go_at_call 34; fail))
  rcases hq : seqR l with _ | c
  · have C := Lib.hid (Fewest_ok (h.below k1) hq)
    have HQ := Lib.hid hq
    obtain ⟨g1, _⟩ := seqR_none hq
    rw [hL.out] at g1
    clear hq
    (with_reducible refine C.out.mono ?_)
    clear C
    rintro e w2 ⟨L, F, rfl, hB, _, _, hb2⟩
    have k2 := below_tr k1 hb2
    have HB := Lib.hid hB
    have hLn := hB.le
    clear hb2 k1 hB
    have tok1 : Hid True := trivial
    have hr2 := h.below k2
    have z16 : (n : Int) ≤ 16 := by omega
    rcases hs : seqR (l ++ [x]) with _ | c
    · have HS := Lib.hid hs
      clear hs
      go_wp2_with (first | (at_builtin; have _t := tok1; refine wpList_append_ints HIT.out rfl (.tmp 22) (.tmp 23) rfl rfl rfl (OwI.nil w2 w2.heap.size _) hr2 (by omega) (Nat.le_refl _) ?_; intro a3 c3 w3 ho3 hg3; clear tok1 _t; rw [Nat.zero_add, List.nil_append] at ho3; have hb3 := below_of_grown hg3; have hz3 := hb3.size) | (at_builtin; refine wpList_push_int HIT.out rfl (.tmp 26) (.tmp 28) rfl rfl rfl (ho3.alloc _) (z := x) (by simp) (by decide) (by decide) (by omega) (by simp; omega) ?_; intro a4 c4 w4 ho4 hg4; have hb4 := below_grown (hb3.alloc hz3 (.cells #[.int .i64 x] 3)) (ho3.alloc _) (by simp; omega) hg4) | (go_at_call 34; fail))
      have C := Lib.hid (Fewest_ok ho4.rd HS.out)
      (with_reducible refine C.out.mono ?_)
      clear C
      rintro e w5 ⟨M, G, rfl, hB2, _, _, hb5⟩
      have k5 := below_tr k2 (hb4.trans (hb5.mono hb4.size))
      have hor := masseyGrows_pure hL.out HB.out hB2
      have hM := hB2.le
      have u1 : IntKind.i64.wrap ((n : Int) + 1) = (n : Int) + 1 := Go.IntWalk.i64_in _ (by omega)
      have u2 : IntKind.i64.wrap ((n : Int) + 1 - L) = (n : Int) + 1 - L := Go.IntWalk.i64_in _ (by omega)
      clear HS HB hB2 ho3 ho4 hb3 hb4 hb5 hg3 hg4 hz3
      rcases hor with rfl | ⟨h1, h2⟩
      · have z1 : ((M : Int) == (M : Int)) = true := beq_iff_eq.2 rfl
        go_wp2
        go_ret
        exact ⟨rfl, k5⟩
      · have z1 : ((M : Int) == (L : Int)) = false := beq_eq_false_iff_ne.2 (by omega)
        have z2 : (L : Int) < (M : Int) := by omega
        have z3 : ((M : Int) == (n : Int) + 1 - L) = true := beq_iff_eq.2 (by omega)
        go_wp2
        go_ret
        exact ⟨rfl, k5⟩
    · have hor := seqR_more HQ.out hs
      rw [hL.out] at hor
      have HS := Lib.hid hs
      clear hs
      go_wp2_with (first | (at_builtin; have _t := tok1; refine wpList_append_ints HIT.out rfl (.tmp 22) (.tmp 23) rfl rfl rfl (OwI.nil w2 w2.heap.size _) hr2 (by omega) (Nat.le_refl _) ?_; intro a3 c3 w3 ho3 hg3; clear tok1 _t; rw [Nat.zero_add, List.nil_append] at ho3; have hb3 := below_of_grown hg3; have hz3 := hb3.size) | (at_builtin; refine wpList_push_int HIT.out rfl (.tmp 26) (.tmp 28) rfl rfl rfl (ho3.alloc _) (z := x) (by simp) (by decide) (by decide) (by omega) (by simp; omega) ?_; intro a4 c4 w4 ho4 hg4; have hb4 := below_grown (hb3.alloc hz3 (.cells #[.int .i64 x] 3)) (ho3.alloc _) (by simp; omega) hg4) | (go_at_call 34; fail))
      have C := Lib.hid (Fewest_err ho4.rd HS.out)
      (with_reducible refine C.out.mono ?_)
      clear C
      rintro e w5 ⟨rfl, rfl⟩
      have k5 := below_tr k2 hb4
      have C := Lib.hid (L3_in_any x 0 9972)
      clear HS HB ho3 ho4 hb3 hb4 hg3 hg4 hz3
      rcases hor with rfl | h1
      · go_wp2
        go_ret
        exact ⟨rfl, k5⟩
      · rw [h1] at C
        by_cases hn : n = 16
        · subst hn
          go_wp2
          go_ret
          exact ⟨rfl, k5⟩
        · have z1 : ((n : Int) == 16) = false := beq_eq_false_iff_ne.2 (by omega)
          go_wp2_with (first | (go_at_call 18; (with_reducible refine (C.out _).mono ?_); rintro e w' ⟨rfl, rfl⟩))
          go_ret
          exact ⟨rfl, k5⟩
  · have C := Lib.hid (Fewest_err (h.below k1) hq)
    clear hq
    (with_reducible refine C.out.mono ?_)
    clear C
    rintro e w2 ⟨rfl, rfl⟩
    go_wp2
    go_ret
    exact ⟨rfl, k1⟩
end Go.Proofs.Ytflojkifbdklnaa
