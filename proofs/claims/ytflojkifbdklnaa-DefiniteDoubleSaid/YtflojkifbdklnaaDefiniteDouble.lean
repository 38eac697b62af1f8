/-
  DefiniteDouble walked: twice a row is four times as much; what two rows' sum and difference come to is twice what both do.
-/
import Derived.Test.YtflojkifbdklnaaRows
import Derived.Test.YtflojkifbdklnaaLib
import Derived.Test.YtflojkifbdklnaaTr
import Derived.Test.YtflojkifbdklnaaOpen
import Derived.Test.YtflojkifbdklnaaRowsF
import Derived.Test.YtflojkifbdklnaaAppend2
import Derived.Test.YtflojkifbdklnaaForm
import Derived.Test.YtflojkifbdklnaaDefW
import Derived.Test.YtflojkifbdklnaaDefFact
import Derived.Deep.QuietTactic
import Derived.BigQuiet
import Derived.StillTailTactics
namespace Go.Proofs.Ytflojkifbdklnaa
open Go.RowKit Go.Rk

theorem quad_par (n : Nat) (A : Mx) (x y : Nat → Int) : quad n A (fun i => x i + y i) + quad n A (fun i => x i - y i) = 2 * quad n A x + 2 * quad n A y := by
  unfold quad
  rw [← sumTo_add, ← sumTo_mul, ← sumTo_mul, ← sumTo_add]
  refine sumTo_congr fun i _ => ?_
  rw [← sumTo_add, ← sumTo_mul, ← sumTo_mul, ← sumTo_add]
  exact sumTo_congr fun j _ => by grind
theorem quad_bd {n : Nat} {M : List (List Int)} {x : List Int} (h4 : n ≤ 4) (he : Ent (-9) 9 n M) (hx : In (-100) 100 x) (hl : x.length = n) : -1440000 ≤ quad n (mx M) (ix x) ∧ quad n (mx M) (ix x) ≤ 1440000 := by
  have h1 : ∀ i, i < n → -360000 ≤ sumTo (fun j => mx M i j * ix x i * ix x j) n ∧ sumTo (fun j => mx M i j * ix x i * ix x j) n ≤ 360000 := fun i hi => by
    have := sumTo_abs (f := fun j => mx M i j * ix x i * ix x j) (n := n) (B := 90000) fun j hj => by
      have b1 : -9 ≤ mx M i j ∧ mx M i j ≤ 9 := he i j hi hj
      have := abs_mul_le (abs_mul_le b1 (hx i (by omega))) (hx j (by omega))
      omega
    omega
  have := sumTo_abs (f := fun i => sumTo (fun j => mx M i j * ix x i * ix x j) n) (n := n) (B := 360000) h1
  unfold quad
  omega

/-- What a form comes to, or 0 where something is wrong. -/
def atVal (M : List (List Int)) (x : List Int) (n : Nat) : Int := if atR M x = none then quad n (mx M) (ix x) else 0
theorem definite_At_any {a b : Option Addr} {n ca m cb : Nat} {A : List (List Int)} {x : List Int} {w : World} (hA : RdM w a n ca A) (hx : RdI w b m cb x) :
    Calls Try.prog 31 #[.slice a n ca, .slice b m cb] w fun e w' => e = .returned (.tuple #[.int .i64 (atVal A x n), errV (atR A x)]) ∧ Below w.heap.size w w' := by
  rcases h : atR A x with _ | c
  · have : atVal A x n = quad n (mx A) (ix x) := if_pos h
    rw [this]
    exact definite_At_ok hA hx h
  · have : atVal A x n = 0 := if_neg (by rw [h]; simp)
    rw [this]
    exact definite_At_err hA hx h

/-- Two slices share no block. -/
def Apart (u v : Value) : Prop := ∀ b, u.ownBlock = some b → v.ownBlock ≠ some b
theorem Apart.symm {u v : Value} (h : Apart u v) : Apart v u := fun b h1 h2 => h b h2 h1
theorem Apart.row {u v : Value} (h : Apart u v) : v.ownBlock = none ∨ v.ownBlock ≠ u.ownBlock := by
  rcases e : v.ownBlock with _ | b
  · exact .inl rfl
  · exact .inr fun h2 => h b h2.symm e
theorem Apart.fresh {u u' v : Value} {N : Nat} (h : Apart u v) (hn : ∀ b, u'.ownBlock = some b → some b = u.ownBlock ∨ N ≤ b) (hl : ∀ b, v.ownBlock = some b → b < N) : Apart u' v := fun b h1 h2 => by
  rcases hn b h1 with h3 | h3
  · exact h b h3.symm h2
  · have := hl b h2
    omega

set_option maxHeartbeats 2000000 in
set_option maxRecDepth 100000 in
theorem definiteDouble_walk {a b c : Option Addr} {n ca m cb p cc : Nat} {M : List (List Int)} {x y : List Int} {w : World} (h : RdM w a n ca M) (_ : ∀ r ∈ M, Fit r) (hx : RdI w b m cb x) (_ : Fit x) (hy : RdI w c p cc y) (_ : Fit y) :
    Calls Try.prog 10 #[.slice a n ca, .slice b m cb, .slice c p cc] w fun e w' => e = .returned (.bool true) ∧ Below w.heap.size w w' := by
  have HIT := Lib.hid intTy
  have hL := Lib.hid h.len_eq
  have hX := Lib.hid hx.len_eq
  have hY := Lib.hid hy.len_eq
  go_enter Try.func10, Try.ntmps10
  go_wp2_with (first | (go_at_call 29; refine (definiteFact_any _).mono ?_; rintro e w1 ⟨rfl, k1⟩) | (go_at_call 31; fail))
  have C := Lib.hid (definite_At_any (h.below k1) (hx.below k1))
  (with_reducible refine C.out.mono ?_)
  clear C
  rintro e w2 ⟨rfl, hb2⟩
  have k2 := below_tr k1 hb2
  clear hb2 k1
  go_wp2_with (first | (go_at_call 31; fail))
  have C := Lib.hid (definite_At_any (h.below k2) (hy.below k2))
  (with_reducible refine C.out.mono ?_)
  clear C
  rintro e w3 ⟨rfl, hb3⟩
  have k3 := below_tr k2 hb3
  clear hb3 k2
  rcases hq : atR M x with _ | c1
  · rcases hr : atR M y with _ | c2
    · have v1 : atVal M x n = quad n (mx M) (ix x) := if_pos hq
      have v2 : atVal M y n = quad n (mx M) (ix y) := if_pos hr
      rw [v1, v2]
      simp only [errV]
      obtain ⟨f1, f2, f3⟩ := atR_none hq
      obtain ⟨_, f4, f5⟩ := atR_none hr
      obtain ⟨g1, g2, g3, g4, _, _⟩ := formR_none f1 hL.out
      obtain rfl : m = n := by have := hL.out; have := hX.out; omega
      obtain rfl : p = m := by have := hL.out; have := hY.out; omega
      have bq1 := quad_bd g2 g4 f3 hX.out
      have bq2 := quad_bd g2 g4 f5 hY.out
      have HE := Lib.hid g4
      have HX := Lib.hid f3
      have HY := Lib.hid f5
      clear hq hr v1 v2 f1 f2 f3 f4 f5 g3 g4
      obtain ⟨q1, hq1⟩ : ∃ q, q = quad p (mx M) (ix x) := ⟨_, rfl⟩
      obtain ⟨q2, hq2⟩ : ∃ q, q = quad p (mx M) (ix y) := ⟨_, rfl⟩
      rw [← hq1] at bq1 ⊢
      rw [← hq2] at bq2 ⊢
      have HQ1 := Lib.hid hq1
      have HQ2 := Lib.hid hq2
      clear hq1 hq2
      go_wp2
      go_loopw [12, 13, 14, 15] (fun s d t v wr => ∃ (i : Nat) (as_ ad at_ : Option Addr) (cs cd ct : Nat), i ≤ p ∧ v = .int .i64 i ∧ s = .slice as_ i cs ∧ d = .slice ad i cd ∧ t = .slice at_ i ct ∧
        OwI wr w.heap.size 3 as_ i cs (rowF (fun i => ix x i + ix y i) i) ∧ OwI wr w.heap.size 3 ad i cd (rowF (fun i => ix x i - ix y i) i) ∧ OwI wr w.heap.size 3 at_ i ct (rowF (fun i => 2 * ix x i) i) ∧
        Apart (.slice as_ i cs) (.slice ad i cd) ∧ Apart (.slice as_ i cs) (.slice at_ i ct) ∧ Apart (.slice ad i cd) (.slice at_ i ct) ∧ Below w.heap.size w wr) (fun _ _ _ v _ => p - (intOf v).toNat)
      case atStart => exact ⟨0, none, none, none, 0, 0, 0, Nat.zero_le _, rfl, rfl, rfl, rfl, OwI.nil _ _ _, OwI.nil _ _ _, OwI.nil _ _ _, (fun b h => by cases h), (fun b h => by cases h), (fun b h => by cases h), k3⟩
      case round =>
        clear k3
        obtain ⟨i, as_, ad, at_, cs, cd, ct, hi, rfl, rfl, rfl, rfl, hs, hd, ht, p1, p2, p3, k3⟩ := hrel
        by_cases hip : i < p
        · have i1 : (i : Int) < (p : Int) := by omega
          obtain ⟨bx, ox, rfl, hbx, hcx⟩ := hx.at hip
          obtain ⟨by_, oy, rfl, hby, hcy⟩ := hy.at hip
          have x10 := hcx i hip
          have x20 := hcy i hip
          have b1 := HX.out i (by rw [hX.out]; exact hip)
          have b2 := HY.out i (by rw [hY.out]; exact hip)
          have hsz := k3.size
          obtain ⟨X, hXX⟩ : ∃ X, X = ix x i := ⟨_, rfl⟩
          obtain ⟨Y, hYY⟩ : ∃ Y, Y = ix y i := ⟨_, rfl⟩
          rw [← hXX] at x10 b1
          rw [← hYY] at x20 b2
          have x1 := k3.keep hbx x10
          have x2 := k3.keep hby x20
          have X1 := Lib.hid x10
          have X2 := Lib.hid x20
          clear x10 x20
          have HXX := Lib.hid hXX
          have HYY := Lib.hid hYY
          have u1 : IntKind.i64.wrap (X + Y) = X + Y := Go.IntWalk.i64_in _ (by omega)
          have u2 : IntKind.i64.wrap (X - Y) = X - Y := Go.IntWalk.i64_in _ (by omega)
          have u3 : IntKind.i64.wrap (2 * X) = 2 * X := Go.IntWalk.i64_in _ (by omega)
          clear hcx hcy hXX hYY
          go_wp2
          go_region_held3 (fun w' => w'.cell? ⟨bx, ox + i, none⟩ = some (.int .i64 X) ∧ w'.cell? ⟨by_, oy + i, none⟩ = some (.int .i64 Y))
            (first | go_keep | (go_split_ands; refine ⟨?_, ?_⟩ <;> (refine (hs.drew.alloc _).keepCell hg4 (by assumption) ?_; assumption)))
            (first | (refine step_push_int2 HIT.out rfl (.tmp 53) (.tmp 63) rfl rfl rfl (hs.drew.alloc _) (z := X + Y) (by simp) (by decide) (by decide) (by omega) (by simp; omega) ?_; intro a4 c4 w4 hs4 hg4 hn4))
          have k4 := below_grown (k3.drew.alloc hsz (.cells #[.int .i64 (X + Y)] 3)) (hs.drew.alloc _) (by simp; omega) hg4
          have hd4 := (hd.drew.alloc (.cells #[.int .i64 (X + Y)] 3)).grown hg4 p1.row
          have ht4 := (ht.drew.alloc (.cells #[.int .i64 (X + Y)] 3)).grown hg4 p2.row
          have p14 := p1.fresh hn4 fun b hb => ((hd.drew.alloc (.cells #[.int .i64 (X + Y)] 3)).own.lt b hb).2
          have p24 := p2.fresh hn4 fun b hb => ((ht.drew.alloc (.cells #[.int .i64 (X + Y)] 3)).own.lt b hb).2
          have x1 := k4.keep hbx X1.out
          have x2 := k4.keep hby X2.out
          have hsz4 := k4.size
          clear hs hd ht p1 p2 hg4 hn4 k3 hsz
          go_wp2
          go_region_held3 (fun w' => w'.cell? ⟨bx, ox + i, none⟩ = some (.int .i64 X) ∧ w'.cell? ⟨by_, oy + i, none⟩ = some (.int .i64 Y))
            (first | go_keep | (go_split_ands; refine ⟨?_, ?_⟩ <;> (refine (hd4.drew.alloc _).keepCell hg5 (by assumption) ?_; assumption)))
            (first | (refine step_push_int2 HIT.out rfl (.tmp 65) (.tmp 75) rfl rfl rfl (hd4.drew.alloc _) (z := X - Y) (by simp) (by decide) (by decide) (by omega) (by simp; omega) ?_; intro a5 c5 w5 hd5 hg5 hn5))
          have k5 := below_grown (k4.drew.alloc hsz4 (.cells #[.int .i64 (X - Y)] 3)) (hd4.drew.alloc _) (by simp; omega) hg5
          have hsz5 := k5.size
          have hs5 := (hs4.drew.alloc (.cells #[.int .i64 (X - Y)] 3)).grown hg5 p14.symm.row
          have ht5 := (ht4.drew.alloc (.cells #[.int .i64 (X - Y)] 3)).grown hg5 p3.row
          have x1 := k5.keep hbx X1.out
          go_wp2_with (first | (at_builtin; refine wpList_push_int2 HIT.out rfl (.tmp 77) (.tmp 83) rfl rfl rfl (ht5.alloc _) (z := 2 * X) (by simp) (by decide) (by decide) (by omega) (by simp; omega) ?_; intro a6 c6 w6 ht6 hg6 hn6))
          have p15 := (p14.symm.fresh hn5 fun b hb => ((hs4.drew.alloc (.cells #[.int .i64 (X - Y)] 3)).own.lt b hb).2).symm
          have p35 := p3.fresh hn5 fun b hb => ((ht4.drew.alloc (.cells #[.int .i64 (X - Y)] 3)).own.lt b hb).2
          have k6 := below_grown (k5.alloc hsz5 (.cells #[.int .i64 (2 * X)] 3)) (ht5.alloc _) (by simp; omega) hg6
          have hs6 := (hs5.alloc (.cells #[.int .i64 (2 * X)] 3)).grown hg6 p24.symm.row
          have hd6 := (hd5.alloc (.cells #[.int .i64 (2 * X)] 3)).grown hg6 p35.symm.row
          have p26 := (p24.symm.fresh hn6 fun b hb => ((hs5.alloc (.cells #[.int .i64 (2 * X)] 3)).own.lt b hb).2).symm
          have p36 := (p35.symm.fresh hn6 fun b hb => ((hd5.alloc (.cells #[.int .i64 (2 * X)] 3)).own.lt b hb).2).symm
          rw [HXX.out, HYY.out] at hs6 hd6
          rw [HXX.out] at ht6
          go_roundw
          case rel => exact ⟨i + 1, a4, a5, a6, c4, c5, c6, by omega, by go_num, rfl, rfl, rfl, by rw [rowF_succ]; exact hs6, by rw [rowF_succ]; exact hd6, by rw [rowF_succ]; exact ht6, p15, p26, p36, k6⟩
          case measure => simp [intOf]; omega
        · obtain rfl : i = p := by omega
          have r1 := hs.rd
          have r2 := hd.rd
          have r3 := ht.rd
          clear hs hd ht p1 p2 p3
          go_wp2_with (first | (go_at_call 31; fail))
          have C := Lib.hid (definite_At_any (h.below k3) r1)
          (with_reducible refine C.out.mono ?_)
          clear C
          rintro e w5 ⟨rfl, hb5⟩
          have k5 := below_tr k3 hb5
          have r2 := r2.below hb5
          have r3 := r3.below hb5
          clear hb5 k3 r1
          go_wp2_with (first | (go_at_call 31; fail))
          have C := Lib.hid (definite_At_any (h.below k5) r2)
          (with_reducible refine C.out.mono ?_)
          clear C
          rintro e w6 ⟨rfl, hb6⟩
          have k6 := below_tr k5 hb6
          have r3 := r3.below hb6
          clear hb6 k5 r2
          go_wp2_with (first | (go_at_call 31; fail))
          have C := Lib.hid (definite_At_any (h.below k6) r3)
          (with_reducible refine C.out.mono ?_)
          clear C
          rintro e w7 ⟨rfl, hb7⟩
          have k7 := below_tr k6 hb7
          clear hb7 k6 r3
          have e3 : ∀ (_ : atR M (rowF (fun i => 2 * ix x i) i) = none), atVal M (rowF (fun i => 2 * ix x i) i) i = 4 * q1 := fun hn => by
            unfold atVal
            rw [if_pos hn, HQ1.out, quad_congr (x := ix (rowF (fun i => 2 * ix x i) i)) (y := fun j => 2 * ix x j) (fun _ _ _ _ => rfl) (fun j hj => rowF_ix hj), quad_smul]
            rfl
          have e12 : ∀ (_ : atR M (rowF (fun i => ix x i + ix y i) i) = none) (_ : atR M (rowF (fun i => ix x i - ix y i) i) = none), atVal M (rowF (fun i => ix x i + ix y i) i) i + atVal M (rowF (fun i => ix x i - ix y i) i) i = 2 * q1 + 2 * q2 := fun h1 h2 => by
            unfold atVal
            rw [if_pos h1, if_pos h2, HQ1.out, HQ2.out, ← quad_par]
            rw [quad_congr (x := ix (rowF (fun i => ix x i + ix y i) i)) (y := fun j => ix x j + ix y j) (fun _ _ _ _ => rfl) (fun j hj => rowF_ix hj)]
            rw [quad_congr (x := ix (rowF (fun i => ix x i - ix y i) i)) (y := fun j => ix x j - ix y j) (fun _ _ _ _ => rfl) (fun j hj => rowF_ix hj)]
          have b12 : ∀ z : List Int, -1440000 ≤ atVal M z i ∧ atVal M z i ≤ 1440000 := fun z => by
            unfold atVal
            split
            · next hz =>
              obtain ⟨_, z1, z2⟩ := atR_none hz
              exact quad_bd g2 HE.out z2 (by rw [z1]; exact hL.out)
            · decide
          have b1 := b12 (rowF (fun i => ix x i + ix y i) i)
          have b2 := b12 (rowF (fun i => ix x i - ix y i) i)
          have b3 := b12 (rowF (fun i => 2 * ix x i) i)
          clear b12
          generalize atVal M (rowF (fun i => ix x i + ix y i) i) i = v1 at *
          generalize atVal M (rowF (fun i => ix x i - ix y i) i) i = v2 at *
          generalize atVal M (rowF (fun i => 2 * ix x i) i) i = v3 at *
          have u4 : IntKind.i64.wrap (4 * q1) = 4 * q1 := Go.IntWalk.i64_in _ (by omega)
          have u5 : IntKind.i64.wrap (v1 + v2) = v1 + v2 := Go.IntWalk.i64_in _ (by omega)
          have u6 : IntKind.i64.wrap (2 * q1) = 2 * q1 := Go.IntWalk.i64_in _ (by omega)
          have u7 : IntKind.i64.wrap (2 * q2) = 2 * q2 := Go.IntWalk.i64_in _ (by omega)
          have u8 : IntKind.i64.wrap (2 * q1 + 2 * q2) = 2 * q1 + 2 * q2 := Go.IntWalk.i64_in _ (by omega)
          have E3 := Lib.hid e3
          have E12 := Lib.hid e12
          clear e3 e12 b1 b2 b3
          rcases h3 : atR M (rowF (fun i => 2 * ix x i) i) with _ | o3
          · have z3 : (v3 != 4 * q1) = false := bne_eq_false_iff_eq.2 (E3.out h3)
            rcases h1 : atR M (rowF (fun i => ix x i + ix y i) i) with _ | o1 <;> rcases h2 : atR M (rowF (fun i => ix x i - ix y i) i) with _ | o2
            · have z4 : (v1 + v2 == 2 * q1 + 2 * q2) = true := beq_iff_eq.2 (E12.out h1 h2)
              clear h1 h2 h3 E3 E12
              simp only [errV]
              go_wp2
              go_ret
              exact ⟨rfl, k7⟩
            all_goals
              clear h1 h2 h3 E3 E12
              simp only [errV]
              go_wp2
              go_ret
              exact ⟨rfl, k7⟩
          · rcases h1 : atR M (rowF (fun i => ix x i + ix y i) i) with _ | o1 <;> rcases h2 : atR M (rowF (fun i => ix x i - ix y i) i) with _ | o2
            · have z4 : (v1 + v2 == 2 * q1 + 2 * q2) = true := beq_iff_eq.2 (E12.out h1 h2)
              clear h1 h2 h3 E3 E12
              simp only [errV]
              go_wp2
              go_ret
              exact ⟨rfl, k7⟩
            all_goals
              clear h1 h2 h3 E3 E12
              simp only [errV]
              go_wp2
              go_ret
              exact ⟨rfl, k7⟩
    · have v1 : atVal M x n = quad n (mx M) (ix x) := if_pos hq
      rw [v1]
      obtain ⟨f1, f2, f3⟩ := atR_none hq
      clear hq hr v1
      generalize quad n (mx M) (ix x) = q at *
      simp only [errV]
      go_wp2
      go_ret
      exact ⟨rfl, k3⟩
  · have v1 : atVal M x n = 0 := if_neg (by rw [hq]; simp)
    rw [v1]
    clear v1
    rcases hr : atR M y with _ | c2
    all_goals
      simp only [errV]
      go_wp2
      go_ret
      exact ⟨rfl, k3⟩
end Go.Proofs.Ytflojkifbdklnaa
