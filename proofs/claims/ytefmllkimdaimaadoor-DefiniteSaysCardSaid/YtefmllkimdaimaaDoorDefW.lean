/-
  definite.At and definite.Is walked: what a form comes to, and whether its first determinants are above 0.
-/
import Derived.Test.YtefmllkimdaimaaDoorRows
import Derived.Test.YtefmllkimdaimaaDoorLib
import Derived.Test.YtefmllkimdaimaaDoorNum
import Derived.Test.YtefmllkimdaimaaDoorDetOf
import Derived.Test.YtefmllkimdaimaaDoorDetLaw
import Derived.Test.YtefmllkimdaimaaDoorEach
import Derived.Test.YtefmllkimdaimaaDoorRect
import Derived.Test.YtefmllkimdaimaaDoorRound
import Derived.Test.YtefmllkimdaimaaDoorTr
import Derived.Test.YtefmllkimdaimaaDoorBareissP
import Derived.Test.YtefmllkimdaimaaDoorForm
import Derived.Test.YtefmllkimdaimaaDoorBareissOf
import Derived.Test.YtefmllkimdaimaaDoorDefChk
import Derived.StillTailTactics
import Derived.Deep.QuietTactic
import Derived.BigQuiet
namespace Go.Proofs.YtefmllkimdaimaaDoor
open Go.RowKit Go.Shelf Go.Rk
attribute [local go_sem] Oper.semAt_some

/-- The sum over some places. -/
def psum (f : Nat → Nat → Int) : List (Nat × Nat) → Int
  | [] => 0
  | p :: l => f p.1 p.2 + psum f l
theorem psum_snoc (f : Nat → Nat → Int) (i j : Nat) : ∀ l : List (Nat × Nat), psum f (l ++ [(i, j)]) = psum f l + f i j
  | [] => by simp [psum]
  | p :: l => by rw [List.cons_append, psum, psum, psum_snoc f i j l]; omega
theorem psum_locs (f : Nat → Nat → Int) (c : Nat) : ∀ (i j : Nat), j ≤ c → psum f (locs c (i * c + j)) = sumTo (fun r => sumTo (f r) c) i + sumTo (f i) j
  | 0, 0, _ => by simp [locs, psum, sumTo]
  | i + 1, 0, _ => by
    have := psum_locs f c i c (Nat.le_refl _)
    rw [Nat.add_zero, Nat.add_mul, Nat.one_mul, this]
    simp [sumTo]
  | i, j + 1, h => by
    rw [← Nat.add_assoc, locs_succ (by omega), psum_snoc, psum_locs f c i j (by omega), sumTo]
    omega
theorem psum_all (f : Nat → Nat → Int) (n c : Nat) : psum f (locs c (n * c)) = sumTo (fun r => sumTo (f r) c) n := by
  have := psum_locs f c n 0 (Nat.zero_le _)
  simpa [sumTo] using this
theorem psum_bd {f : Nat → Nat → Int} {B : Int} : ∀ {l : List (Nat × Nat)}, (∀ p ∈ l, -B ≤ f p.1 p.2 ∧ f p.1 p.2 ≤ B) → -(l.length * B) ≤ psum f l ∧ psum f l ≤ l.length * B
  | [], _ => by simp [psum]
  | p :: l, h => by
    have h1 := psum_bd (f := f) (l := l) fun q hq => h q (by simp [hq])
    have h2 := h p (by simp)
    rw [psum, List.length_cons, Int.natCast_succ, Int.add_mul, Int.one_mul]
    omega

/-- What is wrong with a form and a row to set in. -/
def atR (M : List (List Int)) (x : List Int) : Option Int := match formR M with
  | some c => some c
  | none => if x.length ≠ M.length then some 3 else if anyB (-100) 100 x then some 1 else none
theorem formR_none {M : List (List Int)} {n : Nat} (h : formR M = none) (hl : M.length = n) : 1 ≤ n ∧ n ≤ 4 ∧ Dim n M ∧ Ent (-9) 9 n M ∧ squareR 5 (-9) 9 M = none ∧ Sym n (mx M) := by
  unfold formR at h
  split at h
  · cases h
  · next hq =>
    split at h
    · next hs =>
      obtain ⟨g1, g2, g3, g4⟩ := squareR_none hq
      rw [hl] at g1 g2 g3 g4
      refine ⟨g1, by omega, g3, g4, squareR_of g1 (by omega) g3 g4, fun i j hi hj => ?_⟩
      exact hs j (by rw [hl]; exact hj) i (by rw [hl]; exact hi)
    · cases h
theorem atR_none {M : List (List Int)} {x : List Int} (h : atR M x = none) : formR M = none ∧ x.length = M.length ∧ In (-100) 100 x := by
  unfold atR at h
  split at h
  · cases h
  · next hf =>
    split at h
    · cases h
    · next h1 =>
      split at h
      · cases h
      · next h2 => exact ⟨hf, Decidable.not_not.1 h1, in_of_any (by simpa using h2)⟩

section
variable {a b : Option Addr} {n ca m cb : Nat} {A : List (List Int)} {x : List Int} {w : World}
theorem definite_Check_is {o : Option Int} (hA : RdM w a n ca A) (ho : formR A = o) :
    Calls Tryd.prog 37 #[.slice a n ca] w fun e w' => e = .returned (errV o) ∧ Below w.heap.size w w' := by
  have := definite_Check_any hA
  rw [ho] at this
  exact this
theorem definite_Is_err {c : Int} (hA : RdM w a n ca A) (hc : formR A = some c) :
    Calls Tryd.prog 38 #[.slice a n ca] w fun e w' => e = .returned (.tuple #[.bool false, .iface 75 (.int .i64 c)]) ∧ Below w.heap.size w w' := by
  have C := Lib.hid (definite_Check_is hA hc)
  clear hc
  go_enter Tryd.func38, Tryd.ntmps38
  go_wp2_with (go_at_call 37; refine C.out.mono ?_; rintro e w' ⟨rfl, hb⟩; simp only [errV])
  go_ret2
  exact ⟨rfl, hb⟩
/-- Are the first determinants above 0? -/
def leadB (A : List (List Int)) (n : Nat) : Bool := (leadN A n).all fun d => decide (0 < d)
theorem leadB_hit {A : List (List Int)} {n k : Nat} (hk : k < n) (h : det (k + 1) (mx A) ≤ 0) : leadB A n = false := by
  unfold leadB
  rw [List.all_eq_false]
  refine ⟨det (k + 1) (mx A), ?_, by simp; omega⟩
  unfold leadN
  exact List.mem_map.2 ⟨k, List.mem_range.2 hk, rfl⟩
theorem leadB_all {A : List (List Int)} {n : Nat} (h : ∀ k, k < n → 0 < det (k + 1) (mx A)) : leadB A n = true := by
  unfold leadB leadN
  rw [List.all_eq_true]
  intro d hd
  obtain ⟨k, hk, rfl⟩ := List.mem_map.1 hd
  simpa using h k (List.mem_range.1 hk)
theorem leadB_iff {A : List (List Int)} {n : Nat} : leadB A n = true ↔ ∀ k, 1 ≤ k → k ≤ n → 0 < det k (mx A) := by
  constructor
  · intro h k h1 h2
    refine Int.lt_of_not_ge fun h3 => ?_
    obtain ⟨j, rfl⟩ : ∃ j, k = j + 1 := ⟨k - 1, by omega⟩
    rw [leadB_hit (by omega) h3] at h
    cases h
  · exact fun h => leadB_all fun k hk => h (k + 1) (by omega) (by omega)
theorem definite_Is_ok (hA : RdM w a n ca A) (hc : formR A = none) :
    Calls Tryd.prog 38 #[.slice a n ca] w fun e w' => e = .returned (.tuple #[.bool (leadB A n), .nilIface]) ∧ Below w.heap.size w w' := by
  have C := Lib.hid (definite_Check_is hA hc)
  obtain ⟨g1, g2, g3, g4, g5, g6⟩ := formR_none hc hA.len_eq
  have HQ := Lib.hid g5
  clear hc g3 g4 g5 g6
  go_enter Tryd.func38, Tryd.ntmps38
  go_wp2_with (first | (go_at_call 37; refine C.out.mono ?_; rintro e w1 ⟨rfl, k1⟩; simp only [errV]) | (go_at_call 35; refine (bareiss_Leading_ok (hA.below k1) HQ.out).mono ?_; rintro e w2 ⟨al, cl, rfl, ho, hb⟩))
  have k2 := below_tr k1 hb
  have hr := ho.rd
  clear ho hb k1
  go_loop [21, 8] (fun v _ => ∃ i : Nat, i ≤ n ∧ v = .int .i64 i ∧ Hid (∀ k, k < i → 0 < det (k + 1) (mx A))) (fun v _ => n - (intOf v).toNat)
  case atStart => exact ⟨0, Nat.zero_le _, rfl, fun k hk => absurd hk (Nat.not_lt_zero k)⟩
  case round =>
    obtain ⟨i, hi, rfl, HW⟩ := hrel
    by_cases hin : i < n
    · have i1 : (i : Int) < (n : Int) := by omega
      obtain ⟨bx, ox, rfl, _, hcx⟩ := hr.at hin
      have y := hcx i hin
      rw [leadN_ix hin] at y
      clear hcx
      by_cases hp : det (i + 1) (mx A) ≤ 0
      · have HH : Hid (leadB A n = false) := leadB_hit hin hp
        generalize det (i + 1) (mx A) = d at *
        go_wp2
        go_ret2
        exact ⟨by rw [HH.out]; rfl, k2⟩
      · have HP := Lib.hid hp
        have hlt : ¬ det (i + 1) (mx A) ≤ 0 := hp
        obtain ⟨d, hd⟩ : ∃ d, d = det (i + 1) (mx A) := ⟨_, rfl⟩
        rw [← hd] at hp y hlt
        have HD := Lib.hid hd
        clear hd
        go_wp2
        go_round
        case rel => exact ⟨i + 1, by omega, by go_num, fun k hk => by
          rcases Nat.lt_or_ge k i with h1 | h1
          · exact HW.out k h1
          · obtain rfl : k = i := by omega
            have := HP.out
            omega⟩
        case measure => simp [intOf]; omega
    · obtain rfl : i = n := by omega
      have HH : Hid (leadB A i = true) := leadB_all HW.out
      go_wp2
      go_ret2
      exact ⟨by rw [HH.out]; rfl, k2⟩

theorem definite_At_err {c : Int} (hA : RdM w a n ca A) (hx : RdI w b m cb x) (hc : atR A x = some c) :
    Calls Tryd.prog 40 #[.slice a n ca, .slice b m cb] w fun e w' => e = .returned (.tuple #[.int .i64 0, .iface 75 (.int .i64 c)]) ∧ Below w.heap.size w w' := by
  have hb0 := (Below.refl w.heap.size w).alloc (Nat.le_refl _) (.cells #[.slice b m cb] 22)
  have e1 := hA.len_eq
  have e2 := hx.len_eq
  unfold atR at hc
  split at hc
  · next c' hf =>
    cases hc
    have C := Lib.hid (definite_Check_is (hA.below hb0) hf)
    clear hf
    go_enter Tryd.func40, Tryd.ntmps40
    go_wp2_with (go_at_call 37; refine C.out.mono ?_; rintro e w' ⟨rfl, hb⟩; simp only [errV])
    go_ret2
    exact ⟨rfl, hb0.trans (hb.mono hb0.size)⟩
  · next hf =>
    have C := Lib.hid (definite_Check_is (hA.below hb0) hf)
    clear hf
    have bx : (w.alloc (.cells #[.slice b m cb] 22)).cell? ⟨w.heap.size, 0, none⟩ = some (.slice b m cb) := by simp
    have hz : w.heap.size < (w.alloc (.cells #[.slice b m cb] 22)).heap.size := by simp
    split at hc
    · next h1 =>
      cases hc
      have z : ((m : Int) != (n : Int)) = true := bne_iff_ne.2 (by omega)
      clear h1
      go_enter Tryd.func40, Tryd.ntmps40
      go_wp2_with (go_at_call 37; refine C.out.mono ?_; rintro e w' ⟨rfl, hb⟩; have by1 := hb.keep hz bx; simp only [errV])
      go_ret2
      exact ⟨rfl, hb0.trans (hb.mono hb0.size)⟩
    · next h1 =>
      have h1 : x.length = A.length := Decidable.not_not.1 h1
      have z : ((m : Int) != (n : Int)) = false := bne_eq_false_iff_eq.2 (by omega)
      split at hc
      · next h2 =>
        cases hc
        have H2 := Lib.hid h2
        clear h1 h2
        go_enter Tryd.func40, Tryd.ntmps40
        go_wp2_with (first | (go_at_call 37; refine C.out.mono ?_; rintro e w1 ⟨rfl, hb⟩; have by1 := hb.keep hz bx; have C2 := any_any _ m cb x (-100) 100 _ (hx.below (hb0.trans (hb.mono hb0.size))); rw [H2.out] at C2; simp only [errV]) | (go_at_call 74; refine C2.mono ?_; rintro e w2 ⟨rfl, rfl⟩))
        go_ret2
        exact ⟨rfl, hb0.trans (hb.mono hb0.size)⟩
      · cases hc

set_option maxRecDepth 100000 in
set_option maxHeartbeats 4000000 in
theorem definite_At_ok (hA : RdM w a n ca A) (hx : RdI w b m cb x) (hc : atR A x = none) :
    Calls Tryd.prog 40 #[.slice a n ca, .slice b m cb] w fun e w' => e = .returned (.tuple #[.int .i64 (quad n (mx A) (ix x)), .nilIface]) ∧ Below w.heap.size w w' := by
  have hb0 := (Below.refl w.heap.size w).alloc (Nat.le_refl _) (.cells #[.slice b m cb] 22)
  obtain ⟨hf, h1, h2⟩ := atR_none hc
  have e1 := hA.len_eq
  have e2 := hx.len_eq
  obtain ⟨g1, g2, g3, g4, g5, g6⟩ := formR_none hf e1
  obtain rfl : m = n := by omega
  have C := Lib.hid (definite_Check_is (hA.below hb0) hf)
  have HX := Lib.hid h2
  have HD := Lib.hid g3
  have HE := Lib.hid g4
  have z : ((m : Int) != (m : Int)) = false := bne_eq_false_iff_eq.2 rfl
  have bx : (w.alloc (.cells #[.slice b m cb] 22)).cell? ⟨w.heap.size, 0, none⟩ = some (.slice b m cb) := by simp
  have hz : w.heap.size < (w.alloc (.cells #[.slice b m cb] 22)).heap.size := by simp
  have H2 : Hid (anyB (-100) 100 x = false) := any_of_in h2
  have HL := Lib.hid e2
  clear hc hf h1 h2 g3 g4 g5 g6 e1 e2
  refine (callsIn_wide (n := 6)).1 ?_
  refine callsIn_of_wp_marks Tryd.func40 rfl trivial ?_ rfl
  simp only [Tryd.ntmps40, List.size_toArray, List.length_cons, List.length_nil, Nat.reduceAdd, Nat.reduceSub, Array.replicate_succ, Array.replicate_zero, List.push_toArray, List.append_toArray, List.nil_append, List.cons_append]
  refine wpIn_wide.2 ?_
  obtain ⟨bb, ob, D0, O0, C0, rfl, hbb, hD0, hGA⟩ := hA.grid HD.out (by omega) (by omega)
  obtain ⟨xb, xo, rfl, hxb, hxc⟩ := hx.at (k := 0) (by omega)
  have HXC := Lib.hid hxc
  clear hxc
  go_wp2_with (first | (go_at_call 37; refine C.out.mono ?_; rintro e w1 ⟨rfl, hb⟩; have by1 := hb.keep hz bx; have k1 := hb0.trans (hb.mono hb0.size); have C2 := any_any _ m cb x (-100) 100 _ (hx.below k1); rw [H2.out] at C2; simp only [errV]) | (go_at_call 74; refine C2.mono ?_; rintro e w2 ⟨rfl, rfl⟩) | (go_at_call 80; fail))
  have k3 := k1.alloc k1.size (.cells #[.int .i64 0] 3)
  have s4 := Boxed.new w1 3 (.int .i64 0)
  have b4 := alloc_keep (o := .cells #[.int .i64 0] 3) by1
  have hz2 : w.heap.size < w1.heap.size := World.block_lt_of_cell? w1 _ by1
  clear C C2 hb by1 bx hz hb0
  generalize (w1.alloc (.cells #[.int .i64 0] 3)) = W4 at *
  generalize w1.heap.size = PS at *
  refine (callsIn_wide.1 (each_in 0 (some ⟨bb, ob, none⟩) m ca W4)).mono ?_
  rintro e w' ⟨rfl, rfl⟩
  go_wp2_with fail
  refine (wpIn_wide (n := 6)).1 ?_
  have hBm : (W4.alloc (.cells #[.slice (some ⟨bb, ob, none⟩) m ca] 28)).cell? ⟨W4.heap.size, 0, none⟩ = some (.slice (some ⟨bb, ob, none⟩) m ca) := by simp
  have hBl : W4.heap.size < (W4.alloc (.cells #[.slice (some ⟨bb, ob, none⟩) m ca] 28)).heap.size := by simp
  have k5 := k3.alloc k3.size (.cells #[.slice (some ⟨bb, ob, none⟩) m ca] 28)
  have r5 := alloc_keep (o := .cells #[.slice (some ⟨bb, ob, none⟩) m ca] 28) b4
  have s5 := s4.alloc (.cells #[.slice (some ⟨bb, ob, none⟩) m ca] 28)
  have h5w := k5.size
  have hG5 := hGA.below k5 hbb hD0
  have hm16 : m * m ≤ 16 := Nat.mul_le_mul (show m ≤ 4 by omega) (show m ≤ 4 by omega)
  have HM16 := Lib.hid hm16
  clear b4 k3 s4 hm16
  refine wpIn_rangeFunc_ownH rfl (by decide) (gf := 115) (lb := #[.pointer (some ⟨W4.heap.size, 0, none⟩)]) rfl trivial (enters_of Tryd.func115 (by kernel_rfl) rfl)
    (each_stops 5 (cap := ca) (by omega) (by omega) _ hBm hBl hG5 (Nat.lt_of_lt_of_le hbb h5w) (fun r hr => Nat.lt_of_lt_of_le (hD0 r hr) h5w)) (fun h h' g => h' (h g)) (fun W l o o' _ h1 h2 _ g => g.passes (grownBy_putObj' W l o') (fun r e => by cases e; exact ⟨o, h1, h2⟩)) (Below.refl _ _) (fun _ => rfl)
    (fun pre W => Boxed W PS 3 (.int .i64 (psum (fun i j => en A i j * ix x i * ix x j) (plcs pre))) ∧ W.cell? ⟨w.heap.size, 0, none⟩ = some (.slice (some ⟨xb, xo, none⟩) m cb) ∧ Below w.heap.size w W)
    (fun _ _ _ => False)
    (fun s X Y row hs hgr hr => ⟨hs.1.kept hgr (fun e => by obtain ⟨_, o, ho, hc⟩ := hr _ e.symm; rw [show X.heap[PS]? = _ from hs.1] at ho; cases ho; cases hc), cell_kept hs.2.1 hgr (fun r e => (hr r e).2), hs.2.2.grown hgr hs.2.2.size (fun r e => Nat.le_trans h5w (hr r e).1)⟩)
    (fun _ _ _ _ _ hs _ _ => hs)
    ⟨s5, r5, k5⟩
    (fun x' a' W => ∃ Bx, W.cell? ⟨Bx, 0, none⟩ = some (.int .i64 (x'.1.1 : Int)) ∧ W.cell? ⟨Bx, 1, none⟩ = some (.int .i64 (x'.1.2.1 : Int)) ∧ a' = { tmps := #[Value.slice (some { block := bb, off := ob }) m ca, Value.slice (some { block := xb, off := xo }) m cb, undef, Value.pointer (some { block := w.heap.size, off := 0 }), Value.int .i64 0, Value.nilIface, Value.nilIface, Value.pointer (some { block := PS, off := 0 }), Value.pointer (some { block := Bx, off := 0 }), .int .i64 x'.1.2.2, Value.slice (some { block := bb, off := ob }) m ca, Value.nilIface, Value.nilIface, Value.bool false, undef, Value.bool false, Value.slice (some { block := xb, off := xo }) m cb, Value.int .i64 (m : Int), Value.slice (some { block := bb, off := ob }) m ca, Value.int .i64 (m : Int), Value.bool false, undef, Value.bool false, Value.slice (some { block := xb, off := xo }) m cb, Value.bool false, undef, Value.slice (some { block := bb, off := ob }) m ca, Value.func (.func 115) #[] #[Value.pointer (some { block := W4.heap.size, off := 0 })], .agg #[.int .i64 (x'.1.1 : Int), .int .i64 (x'.1.2.1 : Int)], .int .i64 x'.1.2.2, undef, undef, undef, undef, undef, undef, undef, undef, undef, undef, undef, undef, undef, undef, undef, undef], defers := [] })
    (fun x' a' _ X Y row hs hgr hr => let ⟨Bx, e1, e2, e3⟩ := hs; ⟨Bx, cell_kept e1 hgr (fun r e => (hr r e).2), cell_kept e2 hgr (fun r e => (hr r e).2), e3⟩)
    ?assign ?body ?done ?stop
  case assign =>
    rintro l pre x' W K ⟨c3, c4, hbW⟩ hK
    dsimp only [encP]
    gi_wp2
    exact hK _ _ ((KeepsOthers.alloc _ _).from _) (fun g => g.fresh ((Below.refl _ _).alloc (Nat.le_refl _) _)) ⟨c3.alloc _, alloc_keep c4, hbW.alloc hbW.size _⟩ ⟨W.heap.size, by simp, by simp, rfl⟩
  case body =>
    rintro l pre ⟨⟨i, j, v⟩, hi, hj, hv⟩ a' W hl ⟨r, hr⟩ ⟨c3, c4, hbW⟩ ⟨Bx, y1, y2, rfl⟩ hlt
    clear hBm hBl r5 s5 hG5
    dsimp only at y1 y2 hi hj hv ⊢
    subst hv
    have f3 := c3.frozen
    have f4 := c3.cell
    have i1 : (i : Int) < (m : Int) := by omega
    have i2 : (j : Int) < (m : Int) := by omega
    have x1 := hbW.keep hxb (HXC.out i hi)
    have x2 := hbW.keep hxb (HXC.out j hj)
    have bnd : ∀ r s, r < m → s < m → -90000 ≤ en A r s * ix x r * ix x s ∧ en A r s * ix x r * ix x s ≤ 90000 := fun r s hr hs => by
      have b1 : -9 ≤ en A r s ∧ en A r s ≤ 9 := HE.out r s hr hs
      have b2 := HX.out r (by rw [HL.out]; exact hr)
      have b3 := HX.out s (by rw [HL.out]; exact hs)
      have := abs_mul_le (abs_mul_le b1 b2) b3
      omega
    have b1 : -9 ≤ en A i j ∧ en A i j ≤ 9 := HE.out i j hi hj
    have b2 := HX.out i (by rw [HL.out]; exact hi)
    have b3 := HX.out j (by rw [HL.out]; exact hj)
    have b4 := abs_mul_le b1 b2
    have b5 := bnd i j hi hj
    have b6 := psum_bd (f := fun i j => en A i j * ix x i * ix x j) (B := 90000) (l := plcs pre) fun p hp => bnd p.1 p.2 (plcs_in hp).1 (plcs_in hp).2
    have h16 : pre.length < 16 := Nat.lt_of_lt_of_le hlt HM16.out
    rw [plcs_length] at b6
    have hP := psum_snoc (fun i j => en A i j * ix x i * ix x j) i j (plcs pre)
    have HP := Lib.hid hP
    have hfin : plcs (pre ++ [(⟨(i, j, en A i j), hi, hj, rfl⟩ : Plc m m (fun i j v => v = en A i j))]) = plcs pre ++ [(i, j)] := plcs_snoc _ _
    have HF := Lib.hid hfin
    clear bnd hP hfin
    have u1 : IntKind.i64.wrap (en A i j * ix x i) = en A i j * ix x i := Go.IntWalk.i64_in _ (by omega)
    have u2 : IntKind.i64.wrap (en A i j * ix x i * ix x j) = en A i j * ix x i * ix x j := Go.IntWalk.i64_in _ (by omega)
    have u3 : IntKind.i64.wrap (psum (fun i j => en A i j * ix x i * ix x j) (plcs pre) + en A i j * ix x i * ix x j) = psum (fun i j => en A i j * ix x i * ix x j) (plcs pre) + en A i j * ix x i * ix x j := Go.IntWalk.i64_in _ (by omega)
    clear b1 b2 b3 b4 b5 b6
    gi_wp2
    refine region_round_tail 15 (by kernel_rfl) (by kernel_rfl) (fun ⟨_, _, h⟩ => h) (by kernel_rfl) ?_
    simp only [List.take_succ_cons, List.take_zero, List.drop_succ_cons, List.drop_zero]
    repeat still_step
    refine wpStill_nil ?_
    change wpList _ _ _ _ _ W.drew
    go_wp2
    refine ⟨((KeepsOthers.setCell _ _ _).trans (KeepsOthers.drew _)).from _, fun g => g.below (((Below.refl w.heap.size W).setCell (p := ⟨PS, 0, none⟩) (by dsimp only; omega) _).drew) hbb hD0, ?_, set_keepS c4 f4, (hbW.setCell (p := ⟨PS, 0, none⟩) (by dsimp only; omega) _).drew⟩
    rw [HF.out, HP.out]
    exact (c3.set _).below (Below.refl _ _).drew (by simpa using c3.lt)
  case done =>
    rintro Dd ys W hDd hS ⟨c3, c4, hbW⟩ hK
    have f4 := c3.cell
    rw [hS, psum_all] at f4
    go_wp2
    refine ⟨by simp, .inl ⟨_, _, rfl, run_takeDeferred hK, ?_⟩⟩
    have hgr := grownBy_putObj' W Dd (.deferred none)
    exact ⟨_, results_tmp2 rfl _ _ _, rfl, hbW.grown hgr hbW.size (fun r e => by cases e; exact Nat.le_trans h5w hDd)⟩
  case stop =>
    rintro D c pre W _ _ h _
    exact h.elim
end
end Go.Proofs.YtefmllkimdaimaaDoor
