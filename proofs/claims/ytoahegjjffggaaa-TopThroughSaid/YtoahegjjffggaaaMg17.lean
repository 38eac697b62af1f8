/-
  ipol.steps walked: the divided differences.
  ipol.Check walked.
  ipol.Through walked.
  The reference's Trim walked: the same slice, without the noughts at its end.
  TopThrough walked: what goes through dots solves the powers.
-/
import Derived.Test.YtoahegjjffggaaaRows
import Derived.StillTailTactics
import Derived.Test.YtoahegjjffggaaaMg0
import Derived.Test.YtoahegjjffggaaaMg2
import Derived.Test.YtoahegjjffggaaaMg4
import Derived.Test.YtoahegjjffggaaaMg8
import Derived.Test.YtoahegjjffggaaaMg14
import Derived.Test.YtoahegjjffggaaaMg15
import Derived.Test.YtoahegjjffggaaaMg16
namespace Go.Proofs.Ytoahegjjffggaaa
open Go.RowKit Go.Rk

set_option maxHeartbeats 4000000 in
set_option maxRecDepth 100000 in
theorem ipol_steps_ok {a b : Option Addr} {n ca cb : Nat} {xs ys : List Int} {w : World} (hx : RdI w a n ca xs) (hy : RdI w b n cb ys) (ix_ : In 0 9972 xs) (iy_ : In 0 9972 ys) (hn : n ≤ 6) (hne : ∀ i j, i < j → j < n → (ix xs j - ix xs i) % 9973 ≠ 0) :
    Calls Try.prog 61 #[.slice a n ca, .slice b n cb] w fun e w' => ∃ a' c' l, e = .returned (.slice a' n c') ∧ OwI w' w.heap.size 3 a' n c' l ∧ (∀ j, j < n → ix l j = cN (ix xs) (ix ys) j 0) ∧ Below w.heap.size w w' := by
  have HM := Lib.hid intTy
  have HLX := Lib.hid hx.len_eq
  have HLY := Lib.hid hy.len_eq
  have HIX := Lib.hid ix_
  have HY : Hid (∀ j, j < n → 0 ≤ ix ys j ∧ ix ys j ≤ 9972) := fun j hj => iy_ j (by rw [hy.len_eq]; exact hj)
  have HNE := Lib.hid hne
  clear ix_ iy_ hne
  go_enter Try.func61, Try.ntmps61
  go_wp2_with (first | (at_builtin; refine wpList_append_ints HM.out rfl (.const (.slice none 0 0)) (.tmp 8) rfl rfl rfl (OwI.nil w w.heap.size _) hy (by omega) (Nat.le_refl _) ?_; intro a2 c2 w2 ho2 hg2; have hb2 := below_of_grown hg2; rw [Nat.zero_add, List.nil_append] at ho2))
  have S0 : Hid (∀ j, j < n → ix ys j = stV (ix xs) (ix ys) 1 n j) := fun j hj => (stV_first _ _ hj).symm
  clear hg2
  go_loopw [6] (fun x wt => ∃ (k : Nat) (P : List Int), 1 ≤ k ∧ (k ≤ n ∨ k = 1) ∧ x = .int .i64 k ∧ OwI wt w.heap.size 3 a2 n c2 P ∧ Hid (∀ j, j < n → ix P j = stV (ix xs) (ix ys) k n j) ∧ Below w.heap.size w wt) (fun x _ => n + 1 - (intOf x).toNat)
  case atStart => exact ⟨1, ys, Nat.le_refl _, .inr rfl, rfl, ho2, S0, hb2⟩
  case round =>
    clear ho2 S0 hb2
    obtain ⟨k, P, hk1, hkn, rfl, hO, hP, hb⟩ := hrel
    by_cases hlt : k < n
    · have i1 : (k : Int) < (n : Int) := by omega
      obtain ⟨g, rfl, hg, _, _, _⟩ := hO.at (by omega)
      have u0 : IntKind.i64.wrap ((n : Int) - 1) = ((n - 1 : Nat) : Int) := by rw [Go.IntWalk.i64_in _ (by omega)]; omega
      have u00 : (n : Int) - 1 = ((n - 1 : Nat) : Int) := by omega
      have hP1 : Hid (∀ j, j < n → ix P j = stV (ix xs) (ix ys) k (n - 1 + 1) j) := by rw [show n - 1 + 1 = n by omega]; exact hP
      go_wp2_with fail
      clear u0 u00
      go_loopw [7] (fun x wt => ∃ (i : Nat) (P : List Int), i < n ∧ k ≤ i + 1 ∧ x = .int .i64 i ∧ OwI wt w.heap.size 3 (some ⟨g, 0, none⟩) n c2 P ∧ Hid (∀ j, j < n → ix P j = stV (ix xs) (ix ys) k (i + 1) j) ∧ Below w.heap.size w wt) (fun x _ => (intOf x).toNat)
      case atStart => exact ⟨n - 1, P, by omega, by omega, by go_num, hO, hP1, hb⟩
      case round =>
        clear hO hP hP1 hb
        obtain ⟨i, P, hin, hki, rfl, hO, hP, hb⟩ := hrel
        by_cases hik : k ≤ i
        · have i2 : (k : Int) ≤ (i : Int) := by omega
          have i2' : (i : Int) ≥ (k : Int) := by omega
          obtain ⟨gz, hz, hgz, _, hcO, hfO⟩ := hO.at (by omega)
          cases hz
          have x1 := hcO i (by omega)
          have x2 := hcO (i - 1) (by omega)
          have f1 := hfO i
          obtain ⟨bx, ox, rfl, hbx, hcx⟩ := hx.at (k := i) (by omega)
          have y1 := hb.keep hbx (hcx i (by omega))
          have y2 := hb.keep hbx (hcx (i - k) (by omega))
          obtain ⟨S, hS⟩ : ∃ S, ix P i = S := ⟨_, rfl⟩
          obtain ⟨T, hT⟩ : ∃ T, ix P (i - 1) = T := ⟨_, rfl⟩
          obtain ⟨X, hX⟩ : ∃ X, ix xs i = X := ⟨_, rfl⟩
          obtain ⟨Y, hY⟩ : ∃ Y, ix xs (i - k) = Y := ⟨_, rfl⟩
          rw [hS] at x1
          rw [hT] at x2
          rw [hX] at y1
          rw [hY] at y2
          have bS : 0 ≤ S ∧ S ≤ 9972 := by rw [← hS, hP.out i (by omega)]; exact stV_in HY.out (by omega)
          have bT : 0 ≤ T ∧ T ≤ 9972 := by rw [← hT, hP.out (i - 1) (by omega)]; exact stV_in HY.out (by omega)
          have bX : 0 ≤ X ∧ X ≤ 9972 := by rw [← hX]; exact HIX.out i (by rw [HLX.out]; omega)
          have bY : 0 ≤ Y ∧ Y ≤ 9972 := by rw [← hY]; exact HIX.out (i - k) (by rw [HLX.out]; omega)
          have hq0 : (X - Y) % 9973 ≠ 0 := by rw [← hX, ← hY]; exact HNE.out (i - k) i (by omega) (by omega)
          obtain ⟨q, hq⟩ : ∃ q, (X - Y) % 9973 = q := ⟨_, rfl⟩
          rw [hq] at hq0
          have bq : 0 ≤ q ∧ q ≤ 9972 := by omega
          obtain ⟨o, ho⟩ : ∃ o, powm q 9971 = o := ⟨_, rfl⟩
          have bo : 0 ≤ o ∧ o ≤ 9972 := by rw [← ho]; exact powm_in _ _
          have CF : Hid (∀ w, Calls Try.prog 62 #[.int .i64 (X - Y)] w fun e w' => e = .returned (.int .i64 q) ∧ w = w') := fun w => by rw [← hq]; exact Field_any _ _
          have CO : Hid (∀ w, Calls Try.prog 52 #[.int .i64 q] w fun e w' => e = .returned (.int .i64 o) ∧ w = w') := fun w => by rw [← ho]; exact Over_any q w (by omega) (by omega)
          have HV : Hid ((S - T) * o % 9973 = stV (ix xs) (ix ys) k i i) := by
            unfold Hid
            rw [← stV_step _ _ hk1 hik, ← hP.out i (by omega), ← hP.out (i - 1) (by omega), hS, hT, hX, hY, hq, ho]
          have bm : -(9972 * 9972) ≤ (S - T) * o ∧ (S - T) * o ≤ 9972 * 9972 := by
            have q1 : 0 ≤ (S - T + 9972) * o := Int.mul_nonneg (by omega) bo.1
            have q2 : 0 ≤ (9972 - (S - T)) * o := Int.mul_nonneg (by omega) bo.1
            rw [Int.add_mul] at q1
            rw [Int.sub_mul] at q2
            omega
          obtain ⟨U, hU⟩ : ∃ U, (S - T) * o = U := ⟨_, rfl⟩
          rw [hU] at HV bm
          have u1 : IntKind.i64.wrap (S - T) = S - T := Go.IntWalk.i64_in _ (by omega)
          have u2 : IntKind.i64.wrap (X - Y) = X - Y := Go.IntWalk.i64_in _ (by omega)
          have u3 : IntKind.i64.wrap ((S - T) * o) = U := by rw [hU]; exact Go.IntWalk.i64_in _ (by omega)
          have u4 : IntKind.i64.wrap ((i : Int) - 1) = (i : Int) - 1 := Go.IntWalk.i64_in _ (by omega)
          have u5 : IntKind.i64.wrap ((i : Int) - k) = (i : Int) - k := Go.IntWalk.i64_in _ (by omega)
          have t1 : ((i : Int) - 1).toNat = i - 1 := by omega
          have t2 : ((i : Int) - k).toNat = i - k := by omega
          have i3 : (0 : Int) ≤ (i : Int) - 1 := by omega
          have i4 : (i : Int) - 1 < (n : Int) := by omega
          have i5 : (0 : Int) ≤ (i : Int) - k := by omega
          have i6 : (i : Int) - k < (n : Int) := by omega
          have i7 : (i : Int) < (n : Int) := by omega
          have i8 : (1 : Int) ≤ (i : Int) := by omega
          have hO2 := hO.set (k := i) (U % 9973)
          have hb2 := hb.setCell (p := ⟨g, i, none⟩) hg (.int .i64 (U % 9973))
          clear hS hT hX hY hq ho hcO hfO hcx hU
          go_wp2
          go_still_tail 28, (by kernel_rfl)
          still_call (stillW (CF.out _))
          repeat still_step
          still_call (stillW (CO.out _))
          repeat still_step
          still_call (stillW (Field_any _ _))
          repeat still_step
          refine wpStill_nil ?_
          change wpList _ _ _ _ _ wr.drew
          clear u1 u2 u3 u5 CF CO
          go_wp2
          go_roundw
          case rel => exact ⟨i - 1, _, by omega, by omega, by go_num, hO2.drew, fun j hj => by
            rw [ix_set, hO.len_eq]
            by_cases e : i = j
            · subst e
              rw [if_pos ⟨rfl, hj⟩, HV.out, show i - 1 + 1 = i by omega]
            · rw [if_neg fun h => e h.1, hP.out j hj, show i - 1 + 1 = i by omega]
              exact (stV_else _ _ (fun q => e q.symm)).symm, hb2.drew⟩
          case measure => simp [intOf]; omega
        · obtain rfl : k = i + 1 := by omega
          have i2 : ¬ ((i : Int) + 1 ≤ (i : Int)) := by omega
          have i3 : (i : Int) < (i : Int) + 1 := by omega
          go_wp2
          go_roundw
          case rel => exact ⟨i + 1 + 1, P, by omega, .inl (by omega), by go_num, hO, fun j hj => by rw [hP.out j hj, stV_pass _ _ hj], hb⟩
          case measure => simp [intOf]; omega
    · have i1 : ¬ (k : Int) < (n : Int) := by omega
      have HE : Hid (∀ j, j < n → ix P j = cN (ix xs) (ix ys) j 0) := fun j hj => by
        rcases hkn with h1 | h1
        · obtain rfl : k = n := by omega
          rw [hP.out j hj, stV_last _ _ hj]
        · subst h1
          obtain rfl : j = 0 := by omega
          obtain rfl : n = 1 := by omega
          rw [hP.out 0 hj, stV_last _ _ hj]
      go_wp2
      go_ret
      first
        | exact ⟨_, _, rfl, P, hO, HE.out, hb⟩
        | exact ⟨_, _, P, rfl, hO, HE.out, hb⟩
end Go.Proofs.Ytoahegjjffggaaa
namespace Go.Proofs.Ytoahegjjffggaaa
open Go.RowKit Go.Rk

theorem pv_set {l : List Int} {n k : Nat} (hk : k < n) (hl : l.length = n) (v z : Int) : pv (ix (l.set k v)) n z = pv (ix l) n z + (v - ix l k) * z ^ k := by
  have e : ∀ m, pv (ix (l.set k v)) m z = pv (ix l) m z + (if k < m then (v - ix l k) * z ^ k else 0) := by
    intro m
    induction m with
    | zero => rfl
    | succ m ih =>
      show pv (ix (l.set k v)) m z + ix (l.set k v) m * z ^ m = pv (ix l) m z + ix l m * z ^ m + _
      rw [ih, ix_set]
      by_cases e1 : k = m
      · subst e1
        rw [if_neg (Nat.lt_irrefl k), if_pos (show k < k + 1 from Nat.lt_succ_self k)]
        by_cases e3 : k < l.length
        · rw [if_pos (show k = k ∧ k < l.length from ⟨rfl, e3⟩)]; grind
        · exact absurd (by omega) e3
      · rw [if_neg (show ¬ (k = m ∧ m < l.length) from fun q => e1 q.1)]
        by_cases e2 : k < m
        · rw [if_pos e2, if_pos (show k < m + 1 by omega)]; grind
        · rw [if_neg e2, if_neg (show ¬ k < m + 1 by omega)]; omega
  rw [e, if_pos hk]

theorem thru_step {Q l : List Int} {m i : Nat} {V S1 S0 X : Int} (him : i < m) (hl : Q.length = m + 1) (hi : In 0 9972 Q) (h : ∀ z, Eqm (pv (ix Q) (m + 1) z) ((z - X) * pv (ix l) i z)) (hV : ix l i = V) (hS1 : ix Q (i + 1) = S1) (hS0 : ix Q i = S0) :
    In 0 9972 ((Q.set (i + 1) ((S1 + V) % 9973)).set i ((S0 - V * X) % 9973)) ∧ ∀ z, Eqm (pv (ix ((Q.set (i + 1) ((S1 + V) % 9973)).set i ((S0 - V * X) % 9973))) (m + 1) z) ((z - X) * pv (ix l) (i + 1) z) := by
  have e1 : ix (Q.set (i + 1) ((S1 + V) % 9973)) i = S0 := by rw [ix_set, if_neg (fun q => by omega), hS0]
  refine ⟨fun k hk => ?_, fun z => ?_⟩
  · rw [ix_set, ix_set]
    have hk2 : k < Q.length := by simpa using hk
    have := hi k hk2
    split
    · omega
    · split <;> omega
  · rw [pv_set (by omega) (by simpa using hl), pv_set (by omega) hl, e1, hS1]
    have h0 := h z
    have h1 : Eqm ((S1 + V) % 9973 - S1) V := ((Eqm.mod (S1 + V)).sub (Eqm.refl S1)).trans (Eqm.of_eq (by omega))
    have h2 : Eqm ((S0 - V * X) % 9973 - S0) (-(V * X)) := ((Eqm.mod (S0 - V * X)).sub (Eqm.refl S0)).trans (Eqm.of_eq (by omega))
    refine ((h0.add (h1.mul (Eqm.refl (z ^ (i + 1))))).add (h2.mul (Eqm.refl (z ^ i)))).trans (Eqm.of_eq ?_)
    show _ = (z - X) * (pv (ix l) i z + ix l i * z ^ i)
    rw [hV, Int.pow_succ]
    grind
theorem thru_end {Q l xs d : List Int} {m n k : Nat} {S0 X E : Int} (e1 : n - m = k + 1) (e2 : n - (m + 1) = k) (hl : Q.length = m + 1) (hi : In 0 9972 Q) (h : ∀ z, Eqm (pv (ix Q) (m + 1) z) ((z - X) * pv (ix l) m z)) (hL : ∀ z, Eqm (pv (ix l) m z) (tN (ix xs) (ix d) z (n - m) m)) (hX : ix xs k = X) (hE : ix d k = E) (hS0 : ix Q 0 = S0) :
    In 0 9972 (Q.set 0 ((S0 + E) % 9973)) ∧ ∀ z, Eqm (pv (ix (Q.set 0 ((S0 + E) % 9973))) (m + 1) z) (tN (ix xs) (ix d) z (n - (m + 1)) (m + 1)) := by
  refine ⟨fun k hk => ?_, fun z => ?_⟩
  · rw [ix_set]
    have hk2 : k < Q.length := by simpa using hk
    have := hi k hk2
    split <;> omega
  · rw [pv_set (by omega) hl, hS0, e2, tN_step, hX, hE]
    have h0 := h z
    have h3 := hL z
    rw [e1] at h3
    have h1 : Eqm ((S0 + E) % 9973 - S0) E := ((Eqm.mod (S0 + E)).sub (Eqm.refl S0)).trans (Eqm.of_eq (by omega))
    refine ((h0.trans ((Eqm.refl (z - X)).mul h3)).add (h1.mul (Eqm.refl (z ^ 0)))).trans (Eqm.of_eq ?_)
    rw [Int.pow_zero]
    grind

/-- What a call that goes through needs. -/
structure ThruIn (n m : Nat) (xs ys : List Int) : Prop where
  n6 : n ≤ 6
  eq : m = n
  xi : In 0 9972 xs
  yi : In 0 9972 ys
  ne : ∀ i j, i < j → j < n → (ix xs j - ix xs i) % 9973 ≠ 0
set_option maxHeartbeats 4000000 in
set_option maxRecDepth 100000 in
theorem ipol_Check_any {a b : Option Addr} {n ca m cb : Nat} {xs ys : List Int} {w : World} (hx : RdI w a n ca xs) (hy : RdI w b m cb ys) :
    Calls Try.prog 60 #[.slice a n ca, .slice b m cb] w fun e w' => Below w.heap.size w w' ∧ ((∃ x, e = .returned (.iface 59 (.int .i64 x)) ∧ ¬ ThruIn n m xs ys) ∨
      (e = .returned .nilIface ∧ ThruIn n m xs ys)) := by
  have lx := hx.len_max
  have ly := hy.len_max
  have HLX := Lib.hid hx.len_eq
  have hb0 : Below w.heap.size w w := Below.refl _ _
  by_cases h6 : 6 < n
  · have i1 : (6 : Int) < (n : Int) := by omega
    have HNO : Hid (¬ ThruIn n m xs ys) := fun h => by have := h.n6; omega
    go_enter Try.func60, Try.ntmps60
    go_wp2
    go_ret
    first
      | exact ⟨hb0, .inl ⟨⟨_, rfl⟩, HNO.out⟩⟩
      | exact ⟨hb0, .inl ⟨_, rfl, HNO.out⟩⟩
  have i1 : ¬ (6 : Int) < (n : Int) := by omega
  by_cases hmn : m = n
  rotate_left
  · have z1 : ((m : Int) != (n : Int)) = true := bne_iff_ne.2 (by omega)
    have HNO : Hid (¬ ThruIn n m xs ys) := fun h => hmn h.eq
    go_enter Try.func60, Try.ntmps60
    go_wp2
    go_ret
    first
      | exact ⟨hb0, .inl ⟨⟨_, rfl⟩, HNO.out⟩⟩
      | exact ⟨hb0, .inl ⟨_, rfl, HNO.out⟩⟩
  subst hmn
  have z1 : ((m : Int) != (m : Int)) = false := bne_eq_false_iff_eq.2 rfl
  have C1 := any_any a m ca xs 0 9972 w hx
  have C2 := any_any b m cb ys 0 9972 w hy
  rcases ax : anyB 0 9972 xs with _ | _
  rotate_left
  · rw [ax] at C1
    have C1 := Lib.hid C1
    have HNO : Hid (¬ ThruIn m m xs ys) := fun h => by rw [any_of_in h.xi] at ax; cases ax
    clear ax C2
    go_enter Try.func60, Try.ntmps60
    go_wp2_with (go_at_call 68; (with_reducible refine C1.out.mono ?_); rintro e w' ⟨rfl, rfl⟩)
    go_ret
    first
      | exact ⟨hb0, .inl ⟨⟨_, rfl⟩, HNO.out⟩⟩
      | exact ⟨hb0, .inl ⟨_, rfl, HNO.out⟩⟩
  rw [ax] at C1
  have C1 := Lib.hid C1
  have IX := Lib.hid (in_of_any ax)
  rcases ay : anyB 0 9972 ys with _ | _
  rotate_left
  · rw [ay] at C2
    have C2 := Lib.hid C2
    have HNO : Hid (¬ ThruIn m m xs ys) := fun h => by rw [any_of_in h.yi] at ay; cases ay
    clear ax ay
    go_enter Try.func60, Try.ntmps60
    go_wp2_with (go_at_call 68; first | ((with_reducible refine C1.out.mono ?_); rintro e w' ⟨rfl, rfl⟩; clear C1) | ((with_reducible refine C2.out.mono ?_); rintro e w' ⟨rfl, rfl⟩))
    go_ret
    first
      | exact ⟨hb0, .inl ⟨⟨_, rfl⟩, HNO.out⟩⟩
      | exact ⟨hb0, .inl ⟨_, rfl, HNO.out⟩⟩
  rw [ay] at C2
  have C2 := Lib.hid C2
  have IY := Lib.hid (in_of_any ay)
  clear ax ay
  go_enter Try.func60, Try.ntmps60
  go_wp2_with (go_at_call 68; first | ((with_reducible refine C1.out.mono ?_); rintro e w' ⟨rfl, rfl⟩; clear C1) | ((with_reducible refine C2.out.mono ?_); rintro e w' ⟨rfl, rfl⟩; clear C2))
  go_loopw [31] (fun x wt => ∃ i : Nat, i ≤ m ∧ x = .int .i64 i ∧ Hid (∀ s t, s < t → t < i → ix xs t ≠ ix xs s) ∧ Below w.heap.size w wt) (fun x _ => m - (intOf x).toNat)
  case atStart => exact ⟨0, Nat.zero_le _, rfl, fun s t h1 h2 => by omega, hb0⟩
  case round =>
    obtain ⟨i, hi, rfl, hD, hb⟩ := hrel
    by_cases him : i < m
    · have i2 : (i : Int) < (m : Int) := by omega
      obtain ⟨bx, ox, rfl, hbx, hcx⟩ := hx.at him
      have CX := Lib.hid hcx
      have y1 := hb.keep hbx (hcx i him)
      have hle := hx.le
      have i3 : (i : Int) ≤ (m : Int) := by omega
      have i4 : (i : Int) ≤ (ca : Int) := by omega
      clear hcx
      go_wp2
      clear y1
      go_loopw [40] (fun x wt => ∃ j : Nat, j ≤ i ∧ x = .int .i64 j ∧ Hid (∀ s, s < j → ix xs i ≠ ix xs s) ∧ Below w.heap.size w wt) (fun x _ => i - (intOf x).toNat)
      case atStart => exact ⟨0, Nat.zero_le _, rfl, fun s h => by omega, hb⟩
      case round =>
        obtain ⟨j, hj, rfl, hE, hb⟩ := hrel
        by_cases hji : j < i
        · have i5 : (j : Int) < (i : Int) := by omega
          have y2 := hb.keep hbx (CX.out j (by omega))
          by_cases hz : ix xs i = ix xs j
          · have z : (ix xs i == ix xs j) = true := beq_iff_eq.2 hz
            have HNO : Hid (¬ ThruIn m m xs ys) := fun h => h.ne j i hji him (by rw [hz, Int.sub_self]; rfl)
            clear hz
            go_wp2
            go_ret
            first
              | exact ⟨hb, .inl ⟨⟨_, rfl⟩, HNO.out⟩⟩
              | exact ⟨hb, .inl ⟨_, rfl, HNO.out⟩⟩
          · have z : (ix xs i == ix xs j) = false := beq_eq_false_iff_ne.2 hz
            have HZ := Lib.hid hz
            clear hz
            go_wp2
            go_roundw
            case rel => exact ⟨j + 1, by omega, by go_num, fun s hs => by
              rcases Nat.lt_or_ge s j with h1 | h1
              · exact hE.out s h1
              · obtain rfl : s = j := by omega
                exact HZ.out, hb⟩
            case measure => simp [intOf]; omega
        · obtain rfl : i = j := by omega
          go_wp2
          go_roundw
          case rel => exact ⟨i + 1, by omega, by go_num, fun s t h1 h2 => by
            rcases Nat.lt_or_ge t i with h3 | h3
            · exact hD.out s t h1 h3
            · obtain rfl : t = i := by omega
              exact hE.out s h1, hb⟩
          case measure => simp [intOf]; omega
    · obtain rfl : m = i := by omega
      go_wp2
      go_ret
      exact ⟨hb, .inr ⟨rfl, by omega, rfl, IX.out, IY.out, fun s t h1 h2 => by
        have e1 := hD.out s t h1 h2
        have e2 := IX.out s (by rw [HLX.out]; omega)
        have e3 := IX.out t (by rw [HLX.out]; omega)
        omega⟩⟩
end Go.Proofs.Ytoahegjjffggaaa
namespace Go.Proofs.Ytoahegjjffggaaa
open Go.RowKit Go.Rk

/-- What Through makes: the first k struck. -/
structure ThruOk (n : Nat) (xs ys l : List Int) : Prop where
  len : l.length = n
  ent : In 0 9972 l
  val : ∀ z, Eqm (pv (ix l) n z) (tN (ix xs) (fun k => cN (ix xs) (ix ys) k 0) z 0 n)
set_option maxHeartbeats 8000000 in
set_option maxRecDepth 100000 in
theorem ipol_Through_any {a b : Option Addr} {n ca m0 cb : Nat} {xs ys : List Int} {w : World} (hx : RdI w a n ca xs) (hy : RdI w b m0 cb ys) :
    Calls Try.prog 30 #[.slice a n ca, .slice b m0 cb] w fun e w' => Below w.heap.size w w' ∧ ((∃ x, e = .returned (.tuple #[.slice none 0 0, .iface 59 (.int .i64 x)]) ∧ ¬ ThruIn n m0 xs ys) ∨
      (ThruIn n m0 xs ys ∧ ∃ p c l, e = .returned (.tuple #[.slice p (trimL l).length c, .nilIface]) ∧ RdI w' p (trimL l).length c (trimL l) ∧ ThruOk n xs ys l)) := by
  have HM := Lib.hid intTy
  have HLX := Lib.hid hx.len_eq
  go_enter Try.func30, Try.ntmps30
  go_wp2_with (go_at_call 60; fail)
  refine (ipol_Check_any hx hy).mono ?_
  rintro e w1 ⟨k1, hor⟩
  rcases hor with ⟨x, rfl, hno⟩ | ⟨rfl, hn, hmn, jx, jy, hne⟩
  · have HNO := Lib.hid hno
    clear hno
    go_wp2
    go_ret2
    first
      | exact ⟨k1, .inl ⟨⟨_, rfl⟩, HNO.out⟩⟩
      | exact ⟨k1, .inl ⟨_, rfl, HNO.out⟩⟩
  subst hmn
  have IX := Lib.hid jx
  have IY := Lib.hid jy
  have HNE := Lib.hid hne
  have H6 := Lib.hid hn
  go_wp2_with (go_at_call 61; fail)
  refine (ipol_steps_ok (hx.below k1) (hy.below k1) jx jy hn hne).mono ?_
  rintro e w2 ⟨aD, cD, d, rfl, hD0, hd, b2⟩
  have k2 := below_tr k1 b2
  have hx2 := (hx.below k1).below b2
  have hD := hD0.rd
  have HD := Lib.hid hd
  have HDL := Lib.hid hD.len_eq
  have ID : Hid (∀ j, j < m0 → 0 ≤ ix d j ∧ ix d j ≤ 9972) := fun j hj => by
    rw [HD.out j hj]
    exact cN_in (n := m0) (fun i hi => jy i (by rw [hy.len_eq]; exact hi)) j 0 (by omega)
  clear hD0 hd b2 k1 jx jy hne hx hy
  have u0 : IntKind.i64.wrap ((m0 : Int) - 1) = (m0 : Int) - 1 := Go.IntWalk.i64_in _ (by omega)
  go_wp2_with fail
  clear u0
  go_loopw [8, 9] (fun v x wt => ∃ (m : Nat) (K : Int) (p : Option Addr) (c : Nat) (l : List Int), m ≤ m0 ∧ Hid (K + m + 1 = m0) ∧ -1 ≤ K ∧ x = .int .i64 K ∧ v = .slice p m c ∧ RdI wt p m c l ∧ Hid (In 0 9972 l ∧ ∀ z, Eqm (pv (ix l) m z) (tN (ix xs) (ix d) z (m0 - m) m)) ∧ Below w2.heap.size w2 wt) (fun _ x _ => (intOf x + 1).toNat)
  case atStart => exact ⟨0, (m0 : Int) - 1, none, 0, [], Nat.zero_le _, by unfold Hid; omega, by omega, rfl, rfl, RdI.nil _, ⟨fun k hk => absurd hk (Nat.not_lt_zero k), fun z => Eqm.refl _⟩, Below.refl _ _⟩
  case round =>
    obtain ⟨m, K, p, c, l, hm, hK, hK1, rfl, rfl, hl, hL, hb⟩ := hrel
    obtain ⟨wo, hwo⟩ : ∃ x, x = wr := ⟨_, rfl⟩
    subst hwo
    by_cases hlt : m < m0
    · obtain ⟨kk, hkk⟩ : ∃ kk : Nat, K = (kk : Int) := ⟨K.toNat, by have := hK.out; omega⟩
      subst hkk
      have hkn : kk < m0 := by have := hK.out; omega
      have ekk : Hid (m0 - m = kk + 1 ∧ m0 - (m + 1) = kk) := by have := hK.out; exact ⟨by omega, by omega⟩
      have i1 : (kk : Int) < (m0 : Int) := by omega
      have t1 : ((m : Int) + 1).toNat = m + 1 := by omega
      obtain ⟨bx, ox, rfl, hbx, hcx⟩ := hx2.at hkn
      have hcx := hcx kk hkn
      obtain ⟨X, hX⟩ : ∃ X, ix xs kk = X := ⟨_, rfl⟩
      have bX : 0 ≤ X ∧ X ≤ 9972 := by rw [← hX]; exact IX.out kk (by rw [HLX.out]; exact hkn)
      rw [hX] at hcx
      have HX := Lib.hid hX
      obtain ⟨bd, od, rfl, hbd, hcd⟩ := hD.at hkn
      have hcd := hcd kk hkn
      have bd := ID.out kk hkn
      obtain ⟨E, hE⟩ : ∃ E, ix d kk = E := ⟨_, rfl⟩
      rw [hE] at hcd bd
      have HE := Lib.hid hE
      have HLL := Lib.hid hl.len_eq
      clear hX hE
      go_wp2_with (first | (at_make; refine wpList_make_ints HM.out rfl (.tmp 31) (.tmp 31) (n := m + 1) rfl rfl rfl (by omega) ?_; intro w3 ho3 hb3))
      have Q0 : Hid (In 0 9972 (List.replicate (m + 1) (0 : Int)) ∧ ∀ z, Eqm (pv (ix (List.replicate (m + 1) (0 : Int))) (m + 1) z) ((z - X) * pv (ix l) 0 z)) := by
        have e : ∀ k, ix (List.replicate (m + 1) (0 : Int)) k = 0 := fun k => by
          rcases Nat.lt_or_ge k (m + 1) with h | h
          · rw [ix_lt (by simpa using h)]; simp
          · exact ix_ge (by simpa using h)
        refine ⟨fun k _ => by rw [e]; omega, fun z => Eqm.of_eq ?_⟩
        show sumTo (fun k => ix (List.replicate (m + 1) (0 : Int)) k * z ^ k) (m + 1) = (z - X) * 0
        rw [Int.mul_zero, sumTo_congr (h := fun _ => 0 * 0) fun k _ => by rw [e, Int.zero_mul, Int.zero_mul], sumTo_mul, Int.zero_mul]
      obtain ⟨gO, hz, hgO, _, _, _⟩ := ho3.at (by omega)
      cases hz
      go_loopw [35] (fun x wt => ∃ (i : Nat) (Q : List Int), i ≤ m ∧ x = .int .i64 i ∧ OwI wt wo.heap.size 3 (some ⟨wo.heap.size, 0, none⟩) (m + 1) (m + 1) Q ∧ Hid (In 0 9972 Q ∧ ∀ z, Eqm (pv (ix Q) (m + 1) z) ((z - X) * pv (ix l) i z)) ∧ Below wo.heap.size wo wt) (fun x _ => m - (intOf x).toNat)
      case atStart => exact ⟨0, _, Nat.zero_le _, rfl, ho3, Q0, hb3⟩
      case round =>
        clear ho3 Q0 hb3 hgO
        obtain ⟨i, Q, hi, rfl, hO, hQ, hbt⟩ := hrel
        by_cases him : i < m
        · have i2 : (i : Int) < (m : Int) := by omega
          obtain ⟨bl, ol, rfl, _, hcl⟩ := (hl.below hbt).at him
          have y1 := hcl i him
          have kt := below_tr hb hbt
          obtain ⟨gz, hz, hgz, _, hcO, hfO⟩ := hO.at (by omega)
          cases hz
          have x1 := hcO (i + 1) (by omega)
          have f1 := hfO (i + 1)
          obtain ⟨V, hV⟩ : ∃ V, ix l i = V := ⟨_, rfl⟩
          obtain ⟨S1, hS1⟩ : ∃ S, ix Q (i + 1) = S := ⟨_, rfl⟩
          obtain ⟨S0, hS0⟩ : ∃ S, ix Q i = S := ⟨_, rfl⟩
          have bV : 0 ≤ V ∧ V ≤ 9972 := by rw [← hV]; exact hL.out.1 i (by rw [HLL.out]; exact him)
          have bS1 : 0 ≤ S1 ∧ S1 ≤ 9972 := by rw [← hS1]; exact hQ.out.1 (i + 1) (by rw [hO.len_eq]; omega)
          have bS0 : 0 ≤ S0 ∧ S0 ≤ 9972 := by rw [← hS0]; exact hQ.out.1 i (by rw [hO.len_eq]; omega)
          rw [hV] at y1
          rw [hS1] at x1
          have bm := mul_bd bV bX
          have u1 : IntKind.i64.wrap (S1 + V) = S1 + V := Go.IntWalk.i64_in _ (by omega)
          have u2 : IntKind.i64.wrap (V * X) = V * X := Go.IntWalk.i64_in _ (by omega)
          have u3 : IntKind.i64.wrap (S0 - V * X) = S0 - V * X := Go.IntWalk.i64_in _ (by omega)
          have t2 : ((i : Int) + 1).toNat = i + 1 := by omega
          have b1 : (i : Int) + 1 < ((m + 1 : Nat) : Int) := by omega
          have b2 : (i : Int) + 1 < (m : Int) + 1 := by omega
          have b3 : (i : Int) < ((m + 1 : Nat) : Int) := by omega
          have b4 : (i : Int) < (m : Int) + 1 := by omega
          have HLQ := Lib.hid hO.len_eq
          have hO1 := hO.set (k := i + 1) ((S1 + V) % 9973)
          have hb1 := hbt.setCell (p := ⟨wo.heap.size, i + 1, none⟩) (Nat.le_refl _) (.int .i64 ((S1 + V) % 9973))
          have e1 : ix (Q.set (i + 1) ((S1 + V) % 9973)) i = S0 := by rw [ix_set, if_neg (fun q => by omega), hS0]
          obtain ⟨gz, hz, _, _, hc1, hf1⟩ := hO1.at (by omega)
          cases hz
          have x2 := hc1 i (by omega)
          have f2 := hf1 i
          rw [e1] at x2
          have y2 := (below_tr hb hb1).keep hbx hcx
          have HQ2 := Lib.hid (thru_step him HLQ.out hQ.out.1 hQ.out.2 hV hS1 hS0)
          have hO2 := hO1.set (k := i) ((S0 - V * X) % 9973)
          have hb2 := hb1.setCell (p := ⟨wo.heap.size, i, none⟩) (Nat.le_refl _) (.int .i64 ((S0 - V * X) % 9973))
          clear hV hS1 hS0 hcl hcO hfO hc1 hf1 e1 hO hQ hbt hO1 hb1 kt hgz
          go_wp2_with (first | (go_at_call 62; refine (Field_any _ _).mono ?_; rintro e w' ⟨rfl, rfl⟩))
          generalize wr.setCell ⟨wo.heap.size, i + 1, none⟩ (.int .i64 ((S1 + V) % 9973)) = W1 at *
          go_still_tail 15, (by kernel_rfl)
          still_call (stillW (Field_any _ _))
          repeat still_step
          refine wpStill_nil ?_
          change wpList _ _ _ _ _ W1.drew
          clear u1 u2 u3
          go_wp2
          go_roundw
          case rel => exact ⟨i + 1, _, by omega, by go_num, hO2.drew, HQ2, hb2.drew⟩
          case measure => simp [intOf]; omega
        · obtain rfl : m = i := by omega
          have kt := below_tr hb hbt
          obtain ⟨gz, hz, hgz, _, hcO, hfO⟩ := hO.at (by omega)
          cases hz
          have x1 := hcO 0 (by omega)
          have f1 := hfO 0
          obtain ⟨S0, hS0⟩ : ∃ S, ix Q 0 = S := ⟨_, rfl⟩
          have bS0 : 0 ≤ S0 ∧ S0 ≤ 9972 := by rw [← hS0]; exact hQ.out.1 0 (by rw [hO.len_eq]; omega)
          rw [hS0] at x1
          have y2 := kt.keep hbd hcd
          have u1 : IntKind.i64.wrap (S0 + E) = S0 + E := Go.IntWalk.i64_in _ (by omega)
          have b1 : (0 : Int) < ((m + 1 : Nat) : Int) := by omega
          have b2 : (0 : Int) < (m : Int) + 1 := by omega
          have b3 : (1 : Int) ≤ (m : Int) + 1 := by omega
          have HLQ := Lib.hid hO.len_eq
          have HQ2 := Lib.hid (thru_end ekk.out.1 ekk.out.2 HLQ.out hQ.out.1 hQ.out.2 hL.out.2 HX.out HE.out hS0)
          have hO2 := hO.set (k := 0) ((S0 + E) % 9973)
          have hb2 := hbt.setCell (p := ⟨wo.heap.size, 0, none⟩) (Nat.le_refl _) (.int .i64 ((S0 + E) % 9973))
          have uk : IntKind.i64.wrap ((kk : Int) - 1) = (kk : Int) - 1 := Go.IntWalk.i64_in _ (by omega)
          clear hS0 hcO hfO hO hQ hbt kt hgz
          go_wp2
          go_still_tail 11, (by kernel_rfl)
          still_call (stillW (Field_any _ _))
          repeat still_step
          refine wpStill_nil ?_
          change wpList _ _ _ _ _ wr.drew
          clear u1
          go_wp2
          go_roundw
          case rel => exact ⟨m + 1, (kk : Int) - 1, _, _, _, by omega, by have := hK.out; unfold Hid; omega, by omega, by go_num, by go_num, hO2.drew.rd, HQ2, below_tr hb hb2.drew⟩
          case measure => first | (simp [intOf]; omega) | (simp [intOf]; done)
    · obtain rfl : m = m0 := by omega
      obtain rfl : K = -1 := by have := hK.out; omega
      have HLL := Lib.hid hl.len_eq
      have hle := hl.le
      have HOK : Hid (ThruOk m xs ys l) := ⟨hl.len_eq, hL.out.1, fun z => by
        have h := hL.out.2 z
        rw [Nat.sub_self] at h
        refine h.trans (Eqm.of_eq ?_)
        unfold tN
        exact sumTo_congr fun i hi => by rw [Nat.zero_add, HD.out i hi]⟩
      have kt := below_tr k2 hb
      go_wp2_with fail
      go_loopw [8] (fun v wt => ∃ q : Nat, q ≤ m ∧ v = .slice p q c ∧ Hid (trimN l m = trimN l q) ∧ Below wo.heap.size wo wt) (fun v _ => lenOf v)
      case atStart => exact ⟨m, Nat.le_refl _, rfl, rfl, Below.refl _ _⟩
      case round =>
        obtain ⟨q, hq, rfl, hT, hbt⟩ := hrel
        have kf := below_tr kt hbt
        have fin : ∀ _ : trimN l q = q, Hid (trimL l = l.take q ∧ (trimL l).length = q) := fun e => by
          have e1 : trimN l l.length = q := by rw [HLL.out, hT.out, e]
          exact ⟨by unfold trimL; rw [e1], by rw [trimL_len, e1]⟩
        by_cases h0 : 0 < q
        · obtain ⟨r, rfl⟩ : ∃ r, q = r + 1 := ⟨q - 1, by omega⟩
          obtain ⟨bf, of_, rfl, _, hc⟩ := (hl.below hbt).at (k := r) (by omega)
          have y1 := hc r (by omega)
          have t1 : ((r + 1 : Nat) : Int) - 1 = (r : Int) := by omega
          have t2 : (((r : Nat) : Int) + 1) - 1 = (r : Int) := by omega
          have i1 : (r : Int) < (r : Int) + 1 := by omega
          have i2 : (0 : Int) < ((r + 1 : Nat) : Int) := by omega
          have i3 : (0 : Int) < (r : Int) + 1 := by omega
          have i4 : (r : Int) ≤ (c : Int) := by omega
          clear hc
          by_cases hz : ix l r = 0
          · have z : (ix l r == 0) = true := beq_iff_eq.2 hz
            have HN : Hid (trimN l m = trimN l r) := by unfold Hid; rw [hT.out, trimN, if_pos hz]
            clear hz fin
            go_wp2
            go_roundw
            case rel => exact ⟨r, by omega, by go_num, HN.out, hbt⟩
            case measure => simp [lenOf]
          · have z : (ix l r == 0) = false := beq_eq_false_iff_ne.2 hz
            have HF := fin (by rw [trimN, if_neg hz])
            have hrt := (hl.below hbt).take (n := r + 1) hq
            clear hz fin
            go_wp2
            go_ret2
            refine ⟨kf, .inr ⟨⟨H6.out, rfl, IX.out, IY.out, HNE.out⟩, some ⟨bf, of_, none⟩, c, l, ?_, ?_, HOK.out⟩⟩
            · rw [HF.out.2]; rfl
            · rw [HF.out.2, HF.out.1]; exact hrt
        · obtain rfl : q = 0 := by omega
          have HF := fin rfl
          have hrt := (hl.below hbt).take (n := 0) hq
          clear fin
          go_wp2
          go_ret2
          refine ⟨kf, .inr ⟨⟨H6.out, rfl, IX.out, IY.out, HNE.out⟩, p, c, l, ?_, ?_, HOK.out⟩⟩
          · rw [HF.out.2]; rfl
          · rw [HF.out.2, HF.out.1]; exact hrt
end Go.Proofs.Ytoahegjjffggaaa
namespace Go.Proofs.Ytoahegjjffggaaa
open Go.RowKit Go.Rk

set_option maxHeartbeats 1000000 in
theorem R_Trim_any {a : Option Addr} {n ca : Nat} {f : List Int} {w : World} (hf : RdI w a n ca f) :
    Calls Try.prog 34 #[.slice a n ca] w fun e w' => e = .returned (.slice a (trimL f).length ca) ∧ w = w' := by
  have hle := hf.le
  have hmx := hf.len_max
  have HL := Lib.hid hf.len_eq
  go_enter Try.func34, Try.ntmps34
  go_wp2
  go_loop [3] (fun x => ∃ k : Nat, k ≤ n ∧ x = .int .i64 k ∧ Hid (trimN f n = trimN f k)) (fun x => (intOf x).toNat)
  case atStart => exact ⟨n, Nat.le_refl _, rfl, rfl⟩
  case round =>
    obtain ⟨k, hk, rfl, hT⟩ := hrel
    have fin : ∀ _ : trimN f k = k, Hid ((trimL f).length = k) := fun e => by
      have e1 : trimN f f.length = k := by rw [HL.out, hT.out, e]
      unfold Hid; rw [trimL_len, e1]
    by_cases h0 : 0 < k
    · obtain ⟨q, rfl⟩ : ∃ q, k = q + 1 := ⟨k - 1, by omega⟩
      obtain ⟨bf, of_, rfl, _, hc⟩ := hf.at (k := q) (by omega)
      have y1 := hc q (by omega)
      have t1 : ((q + 1 : Nat) : Int) - 1 = (q : Int) := by omega
      have t2 : (((q : Nat) : Int) + 1) - 1 = (q : Int) := by omega
      have i1 : (q : Int) < (n : Int) := by omega
      have i2 : (0 : Int) < ((q + 1 : Nat) : Int) := by omega
      clear hc
      by_cases hz : ix f q = 0
      · have z : (ix f q == 0) = true := beq_iff_eq.2 hz
        have HN : Hid (trimN f n = trimN f q) := by unfold Hid; rw [hT.out, trimN, if_pos hz]
        clear hz fin
        go_wp2
        go_round
        case rel => exact ⟨q, by omega, by go_num, HN.out⟩
        case measure => simp [intOf]
      · have z : (ix f q == 0) = false := beq_eq_false_iff_ne.2 hz
        have HF := fin (by rw [trimN, if_neg hz])
        have i3 : ((q + 1 : Nat) : Int) ≤ (n : Int) := by omega
        have i4 : ((q + 1 : Nat) : Int) ≤ (ca : Int) := by omega
        clear hz fin
        go_wp2
        go_ret
        first
          | (rw [HF.out]; exact ⟨rfl, rfl⟩)
          | (rw [HF.out]; rfl)
    · obtain rfl : k = 0 := by omega
      have HF := fin rfl
      have i4 : (0 : Int) ≤ (ca : Int) := by omega
      clear fin
      go_wp2
      go_ret
      first
        | (rw [HF.out]; exact ⟨rfl, rfl⟩)
        | (rw [HF.out]; rfl)
end Go.Proofs.Ytoahegjjffggaaa
namespace Go.Proofs.Ytoahegjjffggaaa
open Go.RowKit Go.Rk

theorem thru_lit {l : List Int} (h : ThruOk 1 [3] [5] l) : trimL l = [5] := by
  have h0 := h.val 0
  have h1 : Eqm (0 + ix l 0 * 0 ^ 0) (0 + 5 * 1) := h0
  have b := h.ent 0 (by rw [h.len]; omega)
  have e : ix l 0 = 5 := by
    rw [Int.pow_zero] at h1
    unfold Eqm at h1
    omega
  have e2 : l = [5] := ix_ext (by rw [h.len]; rfl) fun k hk => by
    rw [h.len] at hk
    obtain rfl : k = 0 := by omega
    exact e
  rw [e2]
  rfl

set_option maxHeartbeats 1000000 in
theorem topThrough_one {w w0 : World} {x y : Option Addr} {k c k2 c2 p q : Nat} (_ : Below w.heap.size w w0) (hk : k = 1) (hc : c = 1) (hk2 : k2 = 1) (hc2 : c2 = 1) (hx : x = some ⟨p, 0, none⟩) (hy : y = some ⟨q, 0, none⟩) (h0 : w0.cell? ⟨p, 0, none⟩ = some (.int .i64 3)) (h1 : w0.cell? ⟨q, 0, none⟩ = some (.int .i64 5)) :
    Calls Try.prog 30 #[.slice x k c, .slice y k2 c2] w0 fun e w' => Below w0.heap.size w0 w' ∧ ∃ p c, e = .returned (.tuple #[.slice p 1 c, .nilIface]) ∧ RdI w' p 1 c [5] := by
  subst hk hc hk2 hc2 hx hy
  refine (ipol_Through_any (RdI.one h0 (Nat.le_refl _) (by decide)) (RdI.one h1 (Nat.le_refl _) (by decide))).mono ?_
  rintro e w' ⟨k1, hor⟩
  refine ⟨k1, ?_⟩
  rcases hor with ⟨x, rfl, hno⟩ | ⟨_, p, c, l, rfl, hr, hok⟩
  · exact absurd ⟨by omega, rfl, fun k hk => by
      obtain rfl : k = 0 := by simpa using hk
      decide, fun k hk => by
      obtain rfl : k = 0 := by simpa using hk
      decide, fun i j h1 h2 => by omega⟩ hno
  · rw [thru_lit hok] at hr ⊢
    exact ⟨p, c, rfl, hr⟩

theorem topThrough_full {a : Option Addr} {n ca : Nat} {l : List Int} {w : World} (hl : RdI w a n ca l) :
    Calls Try.prog 31 #[.slice a n ca] w fun e w' => Below w.heap.size w w' ∧ ((∃ x, e = .returned (.tuple #[.slice none 0 0, .iface 59 (.int .i64 x)])) ∨
      (1 ≤ n ∧ n ≤ 5 ∧ ∃ aM cM P, e = .returned (.tuple #[.slice aM n cM, .nilIface]) ∧ RdM w' aM n cM P ∧ IsR n n P (fun i j => powm (ix l i) j))) := by
  rcases hq : powersR l with _ | x
  · obtain ⟨q1, q2, _⟩ := powersR_none hq
    rw [hl.len_eq] at q1 q2
    exact (vander_Full_ok hl hq).mono fun e w' ⟨aM, cM, P, h1, h2, h3, h4⟩ => ⟨h4, .inr ⟨q1, q2, aM, cM, P, h1, h2.rd, h3⟩⟩
  · exact (vander_Full_err hl hq).mono fun e w' ⟨h1, h2⟩ => ⟨h2, .inl ⟨_, h1⟩⟩

/-- What is solved is what goes through. -/
theorem thru_same {n : Nat} {xs ys l x : List Int} {P : List (List Int)} (hin : ThruIn n n xs ys) (lx : xs.length = n) (_ : ys.length = n) (hok : ThruOk n xs ys l) (hP : IsR n n P (fun i j => powm (ix xs i) j))
    (hx : x.length = n) (ex : In 0 9972 x) (h : toN P x n n = ys) : x = l := by
  have hd : det n (mx P) % 9973 ≠ 0 := by
    intro e
    have e := (pout_det (l := xs) (n := n) (M := mx P) hP.2).symm.trans e
    obtain ⟨j, hj, i, hi, e⟩ := (pout_zero hin.xi (by omega)).1 e
    exact hin.ne i j hi hj (by rw [e, Int.sub_self]; rfl)
  refine one_through hd hx hok.len ex hok.ent fun i hi => ?_
  have e1 : ∀ z : List Int, Eqm (sumTo (fun j => en P i j * ix z j) n) (pv (ix z) n (ix xs i)) := fun z => by
    refine Eqm.sum fun j hj => ?_
    rw [hP.2 i j hi hj]
    exact ((Eqm.mod _).mul (Eqm.refl _)).trans (Eqm.of_eq (Int.mul_comm _ _))
  have e2 : Eqm (sumTo (fun j => en P i j * ix x j) n) (ix ys i) := by
    have e3 := toN_ix (M := P) (l := x) (c := n) hi
    rw [h] at e3
    unfold toV at e3
    rw [e3]
    exact (Eqm.mod _).symm
  refine e2.trans (((e1 l).trans ((hok.val (ix xs i)).trans ?_)).symm)
  exact tN_at hin.ne hi
theorem thru_told {n : Nat} {xs ys l : List Int} {P : List (List Int)} (hin : ThruIn n n xs ys) (hok : ThruOk n xs ys l) (hP : IsR n n P (fun i j => powm (ix xs i) j)) : ∀ i, i < n → Eqm (sumTo (fun j => en P i j * ix l j) n) (ix ys i) := fun i hi => by
  refine Eqm.trans (b := pv (ix l) n (ix xs i)) (Eqm.sum fun j hj => ?_) ((hok.val (ix xs i)).trans (tN_at hin.ne hi))
  rw [hP.2 i j hi hj]
  exact ((Eqm.mod _).mul (Eqm.refl _)).trans (Eqm.of_eq (Int.mul_comm _ _))

theorem thru_good {n : Nat} {xs : List Int} {P : List (List Int)} (hP : IsR n n P (fun i j => powm (ix xs i) j)) (h1 : 1 ≤ n) (h5 : n ≤ 5) : Good n n P :=
  ⟨⟨h1, h5⟩, ⟨h1, h5⟩, hP.1, fun i j hi hj => by
    have e : en P i j = ix xs i ^ j % 9973 := hP.2 i j hi hj
    rw [e]
    omega⟩

set_option maxHeartbeats 8000000 in
set_option maxRecDepth 100000 in
theorem topThrough_walk {a b : Option Addr} {n ca m cb : Nat} {xs ys : List Int} {w : World} (hx : RdI w a n ca xs) (_ : Fit xs) (hy : RdI w b m cb ys) (_ : Fit ys) :
    Calls Try.prog 11 #[.slice a n ca, .slice b m cb] w fun e w' => e = .returned (.bool true) ∧ Below w.heap.size w w' := by
  have lm := hx.len_max
  go_enter Try.func11, Try.ntmps11
  go_wp2_with (go_at_call 30; fail)
  refine (ipol_Through_any hx hy).mono ?_
  rintro e w1 ⟨k1, hor⟩
  rcases hor with ⟨x1, rfl, hno⟩ | ⟨hin, p, c, l, rfl, hl, hok⟩
  · clear hno
    go_wp2_with (go_at_call 31; fail)
    refine (topThrough_full (hx.below k1)).mono ?_
    rintro e w2 ⟨b2, hor2⟩
    have k2 := below_tr k1 b2
    rcases hor2 with ⟨x2, rfl⟩ | ⟨_, _, aM, cM, P, rfl, hM, hP⟩
    · go_wp2_with (go_at_call 30; fail)
      refine (topThrough_one (w := w) (below_al (below_al k2 _) _) rfl rfl rfl rfl rfl rfl (p := w2.heap.size) (q := w2.heap.size + 1) (by simp [go_sem]) (by simp [go_sem])).mono ?_
      rintro e w3 ⟨b3, p3, c3, rfl, hr⟩
      have k3 := below_tr (below_al (below_al k2 _) _) b3
      go_wp2_with (go_at_call 32; fail)
      refine (undo_ints (hr.alloc _) (RdI.one (z := 5) (by simp [go_sem]) (Nat.le_refl _) (by decide)) rfl).mono ?_
      rintro e w4 ⟨rfl, b4⟩
      have k4 := below_tr (below_al k3 _) b4
      go_wp2
      go_ret
      exact ⟨rfl, k4⟩
    · clear hM hP
      go_wp2_with (go_at_call 30; fail)
      refine (topThrough_one (w := w) (below_al (below_al k2 _) _) rfl rfl rfl rfl rfl rfl (p := w2.heap.size) (q := w2.heap.size + 1) (by simp [go_sem]) (by simp [go_sem])).mono ?_
      rintro e w3 ⟨b3, p3, c3, rfl, hr⟩
      have k3 := below_tr (below_al (below_al k2 _) _) b3
      go_wp2_with (go_at_call 32; fail)
      refine (undo_ints (hr.alloc _) (RdI.one (z := 5) (by simp [go_sem]) (Nat.le_refl _) (by decide)) rfl).mono ?_
      rintro e w4 ⟨rfl, b4⟩
      have k4 := below_tr (below_al k3 _) b4
      go_wp2
      go_ret
      exact ⟨rfl, k4⟩
  · obtain rfl : m = n := hin.eq
    have HIN := Lib.hid hin
    have HOK := Lib.hid hok
    have HLX := Lib.hid hx.len_eq
    have HLY := Lib.hid hy.len_eq
    have HLL : Hid ((trimL l).length ≤ m) := by
      unfold Hid; rw [trimL_len, hok.len]; exact trimN_le _ _
    obtain ⟨L, hL⟩ : ∃ L, (trimL l).length = L := ⟨_, rfl⟩
    rw [hL] at hl
    simp only [hL]
    have eL : Hid ((trimL l).length = L) := hL
    have iL : (L : Int) ≤ (m : Int) := by have := HLL.out; omega
    clear hin hok hL
    go_wp2_with (go_at_call 31; fail)
    refine (topThrough_full (hx.below k1)).mono ?_
    rintro e w2 ⟨b2, hor2⟩
    have k2 := below_tr k1 b2
    have hl2 := hl.below b2
    rcases hor2 with ⟨x2, rfl⟩ | ⟨n1, n5, aM, cM, P, rfl, hM, hP⟩
    · go_wp2_with (go_at_call 30; fail)
      refine (topThrough_one (w := w) (below_al (below_al k2 _) _) rfl rfl rfl rfl rfl rfl (p := w2.heap.size) (q := w2.heap.size + 1) (by simp [go_sem]) (by simp [go_sem])).mono ?_
      rintro e w3 ⟨b3, p3, c3, rfl, hr⟩
      have k3 := below_tr (below_al (below_al k2 _) _) b3
      go_wp2_with (go_at_call 32; fail)
      refine (undo_ints (hr.alloc _) (RdI.one (z := 5) (by simp [go_sem]) (Nat.le_refl _) (by decide)) rfl).mono ?_
      rintro e w4 ⟨rfl, b4⟩
      have k4 := below_tr (below_al k3 _) b4
      by_cases hL0 : L = 0
      · have z : ((L : Int) == 0) = true := beq_iff_eq.2 (by omega)
        clear hL0
        go_wp2
        go_ret
        exact ⟨rfl, k4⟩
      · have z : ((L : Int) == 0) = false := beq_eq_false_iff_ne.2 (by omega)
        clear hL0
        go_wp2
        go_ret
        exact ⟨rfl, k4⟩
    · have HP := Lib.hid hP
      have HG := Lib.hid (thru_good hP n1 n5)
      clear hP
      go_wp2_with (go_at_call 30; fail)
      refine (topThrough_one (w := w) (below_al (below_al k2 _) _) rfl rfl rfl rfl rfl rfl (p := w2.heap.size) (q := w2.heap.size + 1) (by simp [go_sem]) (by simp [go_sem])).mono ?_
      rintro e w3 ⟨b3, p3, c3, rfl, hr⟩
      have j3 := below_tr (below_al (below_al (Below.refl w2.heap.size w2) _) _) b3
      have k3 := below_tr (below_al (below_al k2 _) _) b3
      go_wp2_with (go_at_call 32; fail)
      refine (undo_ints (hr.alloc _) (RdI.one (z := 5) (by simp [go_sem]) (Nat.le_refl _) (by decide)) rfl).mono ?_
      rintro e w4 ⟨rfl, b4⟩
      have j4 := below_tr (below_al j3 _) b4
      have k4 := below_tr (below_al k3 _) b4
      clear j3 k3 b3 b4 hr
      go_wp2_with (go_at_call 33; fail)
      refine (One_ok (hM.below j4) HG.out (hy.below k4) HIN.out.yi).mono ?_
      rintro e w5 ⟨P1, T1, ps, x, hR, hX1, hor, b5⟩
      have htold := told HG.out.dm hR hX1 HLY.out HIN.out.yi (ix l) (thru_told HIN.out HOK.out HP.out)
      rcases hor with ⟨hT, ax, cx, rfl, hx0⟩ | ⟨hT, rfl⟩
      rotate_left
      · exact absurd htold hT
      have HEQ : Hid (x = l) := thru_same HIN.out HLX.out HLY.out HOK.out HP.out hX1.len (hX1.range hR.eT (by rw [hR.lT]; exact (hR.left HG.out.dm).st.le) hR.inv.pos) hT
      have hxr := hx0.rd
      rw [HEQ.out] at hxr
      have j5 := below_tr j4 b5
      have k5 := below_tr k4 b5
      have hl5 := hl2.below j5
      clear hR hX1 htold hT hx0 HEQ j4 k4 b5 hM
      have z0 : ((m : Int) != (m : Int)) = false := bne_eq_false_iff_eq.2 rfl
      go_wp2_with (go_at_call 34; fail)
      refine (R_Trim_any hxr).mono ?_
      rintro e w6 ⟨rfl, rfl⟩
      rw [eL.out]
      have hxt := hxr.take (n := L) (by omega)
      have eT : Hid (l.take L = trimL l) := by unfold Hid trimL; rw [← eL.out, trimL_len]
      rw [eT.out] at hxt
      go_wp2_with (go_at_call 32; fail)
      refine (undo_ints hxt hl5 rfl).mono ?_
      rintro e w7 ⟨rfl, b7⟩
      have k7 := below_tr k5 b7
      go_wp2
      go_ret
      exact ⟨rfl, k7⟩
end Go.Proofs.Ytoahegjjffggaaa
