/-
  The closed fact of the statements on solving.
-/
import Derived.Test.YtohconpfpecldaaRows
import Derived.Test.YtohconpfpecldaaLib
import Derived.Test.YtohconpfpecldaaRef
import Derived.Test.YtohconpfpecldaaSolveOne
import Derived.Test.YtohconpfpecldaaNullW
import Derived.Test.YtohconpfpecldaaMatFact
namespace Go.Proofs.Ytohconpfpecldaa
open Go.RowKit Go.Rk

/-- If anything is taken to the right side, what is told is. -/
theorem told {n c : Nat} {M P : List (List Int)} {t T ps x : List Int} (hd : Dm n c M) (h : RInv n c (mx (augL n M t)) c P T ps) (hx : XRow c T ps x) (hl : t.length = n) (it : In 0 9972 t) (y : Nat → Int) (hy : ∀ i, i < n → Eqm (sumTo (fun j => en M i j * y j) c) (ix t i)) : toN M x c n = t := by
  refine ix_ext (by rw [toN_len, hl]) fun i hi => ?_
  rw [toN_len] at hi
  rw [toN_ix hi]
  have e := solves hd h hx hy hi
  have b := it i (by rw [hl]; exact hi)
  unfold toV
  unfold Eqm at e
  omega

theorem two_half {x : Int} (h : (x * 2) % 9973 = 4) (b : 0 ≤ x ∧ x ≤ 9972) : x = 2 := by
  have h3 : x * 2 * 4987 % 9973 = 4 * 4987 % 9973 := by rw [Int.mul_emod, h]; rfl
  rw [show x * 2 * 4987 = x + 9973 * x by omega, Int.add_mul_emod_self_left, Int.emod_eq_of_lt b.1 (by omega)] at h3
  rw [h3]
  rfl

theorem nullLit : GInv 1 2 (mx [[1, 2]]) 2 [[1, 2]] [0] := by
  refine ⟨⟨rfl, fun i hi => (by obtain rfl : i = 0 := (by omega); rfl)⟩, fun i j hi hj => ?_, Made.refl _ _ _, Made.refl _ _ _, ⟨by decide, fun i hi => ?_, fun i j h1 h2 => ?_, fun i j h1 h2 => ?_, fun i s h1 h2 h3 => ?_, fun i s h1 h2 => ?_⟩, fun i hi => ?_⟩
  · obtain rfl : i = 0 := by omega
    rcases (show j = 0 ∨ j = 1 by omega) with rfl | rfl <;> decide
  · obtain rfl : i = 0 := by simp at hi; omega
    decide
  · simp at h2; omega
  · obtain rfl : j = 0 := by simp at h2; omega
    obtain rfl : i = 0 := by omega
    unfold Eqm; decide
  · simp at h1; omega
  · obtain rfl : i = 0 := by simp at h1; omega
    have : (ix [0] 0).toNat = 0 := by decide
    rw [this] at h2
    omega
  · obtain rfl : i = 0 := by simp at hi; omega
    decide
theorem nullIs {L : List (List Int)} (h : Nul 2 2 [[1, 2]] [0] L) : L = [[9971, 1]] := by
  have hl : L.length = 1 := h.len
  have hr := h.row 0 (by omega)
  rw [show freeAt [0] 2 0 = 1 by decide] at hr
  have h0 : ix (rowOf L 0) 0 = 9971 := (hr.piv 0 (by decide)).trans (by decide)
  have hd : Dm 1 2 L := ⟨hl, fun i hi => (by obtain rfl : i = 0 := (by omega); exact hr.len)⟩
  refine hd.ext (n := 1) (c := 2) ⟨rfl, fun i hi => (by obtain rfl : i = 0 := (by omega); rfl)⟩ fun i j hi hj => ?_
  obtain rfl : i = 0 := by omega
  rcases (show j = 0 ∨ j = 1 by omega) with rfl | rfl
  · exact h0
  · exact hr.one

theorem rd12 {w : World} {b p : Nat} {x y : Int} (h0 : w.cell? ⟨b, 0, none⟩ = some (.slice (some ⟨p, 0, none⟩) 2 2)) (h1 : w.cell? ⟨p, 0, none⟩ = some (.int .i64 x)) (h2 : w.cell? ⟨p, 1, none⟩ = some (.int .i64 y)) : RdM w (some ⟨b, 0, none⟩) 1 1 [[x, y]] := by
  refine ⟨rfl, Nat.le_refl _, by decide, fun k hk => ?_⟩
  obtain rfl : k = 0 := by omega
  exact ⟨b, 0, some ⟨p, 0, none⟩, 2, 2, rfl, h0, rd2 h1 h2⟩

theorem oneIs {P : List (List Int)} {T ps x : List Int} (h : RInv 2 2 (mx (augL 2 [[1, 1], [0, 2]] [3, 4])) 2 P T ps) (hx : XRow 2 T ps x) : toN [[1, 1], [0, 2]] x 2 2 = [3, 4] ∧ x = [1, 2] := by
  have hd : Dm 2 2 [[1, 1], [0, 2]] := ⟨rfl, fun i hi => by rcases (show i = 0 ∨ i = 1 by omega) with rfl | rfl <;> rfl⟩
  have ht := told hd h hx rfl (by intro i hi; simp at hi; rcases (show i = 0 ∨ i = 1 by omega) with rfl | rfl <;> decide) (fun j => if j = 0 then 1 else 2) fun i hi => by
    rcases (show i = 0 ∨ i = 1 by omega) with rfl | rfl <;> (unfold Eqm; decide)
  refine ⟨ht, ?_⟩
  have e0 : toV [[1, 1], [0, 2]] x 2 0 = 3 := by rw [← toN_ix (n := 2) (by omega), ht]; rfl
  have e1 : toV [[1, 1], [0, 2]] x 2 1 = 4 := by rw [← toN_ix (n := 2) (by omega), ht]; rfl
  have hr := hx.range h.eT (by rw [h.lT]; exact h.inv.st.le) h.inv.pos
  have b0 := hr 0 (by rw [hx.len]; omega)
  have b1 := hr 1 (by rw [hx.len]; omega)
  have t0 : ∀ f : Nat → Int, sumTo (fun j => en [[1, 1], [0, 2]] 0 j * f j) 2 = f 0 + f 1 := fun f => by simp [sumTo, en, rowOf, ix]
  have t1 : ∀ f : Nat → Int, sumTo (fun j => en [[1, 1], [0, 2]] 1 j * f j) 2 = f 1 * 2 := fun f => by simp [sumTo, en, rowOf, ix]; omega
  unfold toV at e0 e1
  rw [t0 (ix x)] at e0
  rw [t1 (ix x)] at e1
  have x1 : ix x 1 = 2 := two_half e1 b1
  have x0 : ix x 0 = 1 := by omega
  refine ix_ext (by rw [hx.len]; rfl) fun k hk => ?_
  rw [hx.len] at hk
  rcases (show k = 0 ∨ k = 1 by omega) with rfl | rfl
  · exact x0
  · exact x1

set_option maxHeartbeats 4000000 in
set_option maxRecDepth 100000 in
theorem solveFact_any (w : World) : Calls Try.prog 47 #[] w fun e w' => e = .returned (.bool true) ∧ Below w.heap.size w w' := by
  have G1 := Lib.hid (Good.of (n := 2) (M := [[1, 1], [0, 2]]) rfl (by decide))
  have G2 := Lib.hid (Good.of (n := 1) (M := [[1, 2]]) rfl (by decide))
  go_enter Try.func47, Try.ntmps47
  go_wp2_with fail
  refine (One_ok (n := 2) (c := 2) (M := [[1, 1], [0, 2]]) (t := [3, 4]) (rd22 (p := w.heap.size) (q := w.heap.size + 1) ?_ ?_ ?_ ?_ ?_ ?_) G1.out (rd2 ?_ ?_) (by intro i hi; simp at hi; rcases (show i = 0 ∨ i = 1 by omega) with rfl | rfl <;> decide)).mono ?main
  case main =>
    rintro e w1 ⟨P, T, ps, x, h1, h2, h3, hb⟩
    have hx := oneIs h1 h2
    rcases h3 with ⟨_, ax, cx, rfl, ho⟩ | ⟨hne, _⟩
    · have b1 := below_tr (below_al (below_al (below_al (below_al (Below.refl _ w) _) _) _) _) hb
      have hX := ho.rd
      rw [hx.2] at hX
      clear ho h1 h2 hx hb
      go_wp2_with fail
      refine (Null_ok (n := 1) (c := 2) (M := [[1, 2]]) (rd12 (p := w1.heap.size) ?_ ?_ ?_) G2.out).mono ?main
      case main =>
        rintro e w2 ⟨al, cl, L, P, ps, rfl, ho, hi, hN, hb⟩
        obtain ⟨rfl, rfl⟩ := hi.same nullLit (Made.refl _ _ _) (Made.refl _ _ _)
        obtain rfl := nullIs hN
        have k2 := below_tr (below_al (below_al (Below.refl _ w1) _) _) hb
        have b2 := below_tr b1 k2
        have hX := hX.below k2
        have hL := ho.rd
        clear ho hi hN b1 k2 hb
        have C := Lib.hid (Ints_any (hX.alloc (.cells #[.int .i64 1, .int .i64 2] 3)) (RdI.lit w2 [1, 2] 3 (by decide)))
        go_wp2_with fail
        refine C.out.mono ?_
        rintro e w3 ⟨rfl, hb⟩
        have k3 := below_tr (below_al (Below.refl _ w2) (.cells #[.int .i64 1, .int .i64 2] 3)) hb
        have b3 := below_tr b2 k3
        have hL := hL.below k3
        clear C b2 k3 hb hX
        go_wp2_with fail
        refine (Rows_any (l := [[9971, 1]]) (m := [[9971, 1]]) (hL.below (below_al (below_al (Below.refl _ w3) _) _)) (rd12 (p := w3.heap.size) ?_ ?_ ?_)).mono ?main
        case main =>
          rintro e w4 ⟨rfl, hb⟩
          have b4 := below_tr b3 (below_tr (below_al (below_al (Below.refl _ w3) _) _) hb)
          clear hb b3 hL
          go_wp2
          go_ret
          exact ⟨rfl, b4⟩
        all_goals simp [go_sem]
      all_goals simp [go_sem]
    · exact absurd hx.1 hne
  all_goals simp [go_sem]
end Go.Proofs.Ytohconpfpecldaa
