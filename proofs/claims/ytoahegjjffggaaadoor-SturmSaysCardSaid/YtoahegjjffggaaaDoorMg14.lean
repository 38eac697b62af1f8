/-
  The signs of the chains of one of up to four whole factors: the other kinds. No program in sight.
  The signs of the chains of one of up to four whole factors: twice at one place, three times, and the lower powers. No program in sight.
  The signs of the chains of three whole factors, apart in all places. No program in sight.
  Of one of up to four whole factors from -20 to 20 there is the chain of what comes to 0 once wherever it does, and its signs tell. No program in sight.
-/
import Derived.Test.YtoahegjjffggaaaDoorMg13
namespace Go.Rk
open Go.RowKit Go.Proofs.YtoahegjjffggaaaDoor

section
variable {f : List Int} {L : List (List Int)}
/-- One change of sign, of p. -/
theorem stm_one {c : Nat} {p : Int → Int} (hV : ∀ x, VL L x = c + one (p x < 0)) (hhi : hiL L = c) (hlo : loL L = c + 1) (hn : nR f = 1) (hb : ∀ x y, x < y → p y ≤ 0 → p x < 0)
    (hz : ∀ y, evL f y = 0 → p y = 0) (hc : ∀ x y, evL f x * evL f y < 0 → p x * p y < 0) (hd : p 0 < 0 → 1 ≤ changesL f) : Stm f L := by
  have hle : ∀ x y, x ≤ y → p y < 0 → p x < 0 := fun x y h e => by
    rcases Int.lt_or_le x y with h1 | h1
    · exact hb x y h1 (by omega)
    · rw [show x = y by omega]; exact e
  refine ⟨by rw [hlo, hhi, hn], fun x y h => ?_, fun x => ?_, fun x => ?_, fun x y h e => ?_, fun x y h e => ?_, ?_⟩
  · rw [hV, hV]; have := one_mono (hle x y h); omega
  · rw [hV, hlo]; have := one_le (p x < 0); omega
  · rw [hV, hhi]; omega
  · have mc := mul_neg_cases (hc x y e)
    have m := one_mono (hle x y h)
    rw [hV, hV]
    have o1 := one_cases (p x < 0)
    have o2 := one_cases (p y < 0)
    omega
  · have h0 := hz y e
    rw [hV, hV, one_f (by omega), one_t (hb x y h (by omega))]; omega
  · rw [hV, hhi]
    have o1 := one_cases (p 0 < 0)
    rcases o1 with ⟨h1, h2⟩ | ⟨h1, h2⟩
    · have := hd h1; omega
    · omega
/-- Two of them. -/
theorem stm_two {p q : Int → Int} (hV : ∀ x, VL L x = one (p x < 0) + one (q x < 0)) (hhi : hiL L = 0) (hlo : loL L = 2) (hn : nR f = 2) (hb : ∀ x y, x < y → p y ≤ 0 → p x < 0) (hb2 : ∀ x y, x < y → q y ≤ 0 → q x < 0)
    (hz : ∀ y, evL f y = 0 → p y = 0 ∨ q y = 0) (hc : ∀ x y, evL f x * evL f y < 0 → p x * p y < 0 ∨ q x * q y < 0) (hd : one (p 0 < 0) + one (q 0 < 0) ≤ changesL f) : Stm f L := by
  have hle : ∀ x y, x ≤ y → p y < 0 → p x < 0 := fun x y h e => by
    rcases Int.lt_or_le x y with h1 | h1
    · exact hb x y h1 (by omega)
    · rw [show x = y by omega]; exact e
  have hle2 : ∀ x y, x ≤ y → q y < 0 → q x < 0 := fun x y h e => by
    rcases Int.lt_or_le x y with h1 | h1
    · exact hb2 x y h1 (by omega)
    · rw [show x = y by omega]; exact e
  refine ⟨by rw [hlo, hhi, hn], fun x y h => ?_, fun x => ?_, fun x => ?_, fun x y h e => ?_, fun x y h e => ?_, ?_⟩
  · rw [hV, hV]; have := one_mono (hle x y h); have := one_mono (hle2 x y h); omega
  · rw [hV, hlo]; have := one_le (p x < 0); have := one_le (q x < 0); omega
  · rw [hhi]; omega
  · have m := one_mono (hle x y h)
    have m2 := one_mono (hle2 x y h)
    rw [hV, hV]
    have o1 := one_cases (p x < 0)
    have o2 := one_cases (p y < 0)
    have o3 := one_cases (q x < 0)
    have o4 := one_cases (q y < 0)
    rcases hc x y e with e1 | e1
    · have mc := mul_neg_cases e1; omega
    · have mc := mul_neg_cases e1; omega
  · have m := one_mono (hle x y (Int.le_of_lt h))
    have m2 := one_mono (hle2 x y (Int.le_of_lt h))
    rw [hV, hV]
    rcases hz y e with h0 | h0
    · rw [one_f (show ¬ p y < 0 by omega), one_t (hb x y h (by omega))]; omega
    · rw [one_f (show ¬ q y < 0 by omega), one_t (hb2 x y h (by omega))]; omega
  · rw [hV, hhi]; omega
end

theorem lin_before {s u v x y : Int} (hs : 0 < s * u) (h : x < y) (e : s * (u * y + v) ≤ 0) : s * (u * x + v) < 0 := by
  have e1 : s * (u * y + v) - s * (u * x + v) = (s * u) * (y - x) := by grind
  have := Int.mul_pos hs (show 0 < y - x by omega)
  omega
theorem sgT_ne (a : Int) : sgT a ≠ 0 := by have := sgT_cases a; omega
theorem sg_zero {a x : Int} (h : x = 0) : sgT a * x = 0 := by rw [h, Int.mul_zero]
theorem sg_mul {a x y : Int} (h : x * y < 0) : (sgT a * x) * (sgT a * y) < 0 := by
  have e : (sgT a * x) * (sgT a * y) = (sgT a * sgT a) * (x * y) := by grind
  rw [e, sgT_sq, Int.one_mul]; exact h

section
variable {a b c d : Int}
theorem chg3_n {x y u : Int} (hx : 0 < x) (hy : 0 < y) : changesL [x, y, u] = one (u < 0) := by
  simp only [changesL, chg, one]; repeat' split
  all_goals omega
theorem chg3_l {x y u : Int} (hx : x < 0) (hy : 0 < y) : changesL [x, y, u] = 1 + one (u < 0) := by
  simp only [changesL, chg, one]; repeat' split
  all_goals omega
/-- With no middle. -/
theorem stm4_flat (ha : a ≠ 0) (hP : dPs a b c = 0) (hQ : dQ a b c d ≠ 0) : Stm [d, c, b, a] [plainL [d, c, b, a], plainL [c, 2 * b, 3 * a], plainL [a * dQ a b c d]] := by
  have sa := sgT_mul_pos ha
  have sq := sgT_sq a
  have sgc := sgT_cases a
  have a2 := sqz_pos ha
  have eP : b * b - 3 * a * c = 0 := hP
  have eQ : 3 * (a * dQ a b c d) = -dT a b c d := by unfold dQ dT; grind
  have hT : dT a b c d ≠ 0 := fun e => by have := mul_nz ha hQ; omega
  have hT2 : sgT a * dT a b c d ≠ 0 := mul_nz (sgT_ne a) hT
  have hD4 : 4 * 0 * 0 * 0 - sgT a * dT a b c d * (sgT a * dT a b c d) < 0 := by have := sqz_pos hT2; omega
  have hg : ∀ x, gT 0 (sgT a * dT a b c d) (sgT a * (3 * a * x + b)) = 27 * (a * a) * (sgT a * evL [d, c, b, a] x) := fun x => by
    rw [← hP, V4_g]; grind
  have hgs : ∀ x, SS (sgT a * evL [d, c, b, a] x) (gT 0 (sgT a * dT a b c d) (sgT a * (3 * a * x + b))) := fun x => by
    rw [hg]; exact SS.mul (by omega) _
  have hV : ∀ x, VL [plainL [d, c, b, a], plainL [c, 2 * b, 3 * a], plainL [a * dQ a b c d]] x = one (0 < sgT a * dT a b c d) + one (sgT a * evL [d, c, b, a] x < 0) := fun x => by
    have e := hgs x
    rw [one_congr (show sgT a * evL [d, c, b, a] x < 0 ↔ gT 0 (sgT a * dT a b c d) (sgT a * (3 * a * x + b)) < 0 by unfold SS at e; omega)]
    rw [← v3_flat hT2, VL3, ← changes_sgT a]
    refine changes_ss ⟨e, SS.of (a := 3 * (sgT a * a)) (by omega) ?_, SS.of (a := 3) (by omega) ?_, trivial⟩
    · simp only [evL]; grind
    · simp only [evL]; grind
  have hD27 : 27 * (a * a) * dD a b c d < 0 := by
    have e := V4_D (a := a) (b := b) (c := c) (d := d)
    rw [hP] at e
    omega
  have hD : dD a b c d < 0 := by
    have ss : SS (-dD a b c d) (27 * (a * a) * (-dD a b c d)) := SS.mul (by omega) _
    rw [Int.mul_neg] at ss
    unfold SS at ss
    omega
  have hSQ : SS (sgT a * (a * dQ a b c d)) (-(sgT a * dT a b c d)) := SS.of (a := 3) (by decide) (by grind)
  have sL : sgT a * (-a) < 0 := by rw [Int.mul_neg]; omega
  refine stm_one (c := one (0 < sgT a * dT a b c d)) (p := fun x => sgT a * evL [d, c, b, a] x) hV ?_ ?_ ?_ (fun x y h e => ?_) (fun y e => sg_zero e) (fun x y e => sg_mul e) fun h => ?_
  · rw [hi3 (l0 := [d, c, b, a]) (l1 := [c, 2 * b, 3 * a]) (l2 := [a * dQ a b c d]) ha (by show 3 * a ≠ 0; omega) (mul_nz ha hQ)]
    show changesL [a, 3 * a, a * dQ a b c d] = _
    rw [← changes_sgT a]
    show changesL [sgT a * a, sgT a * (3 * a), sgT a * (a * dQ a b c d)] = _
    rw [chg3_n sa (by rw [show sgT a * (3 * a) = 3 * (sgT a * a) by grind]; omega)]
    exact one_congr (by unfold SS at hSQ; omega)
  · rw [lo3 (l0 := [d, c, b, a]) (l1 := [c, 2 * b, 3 * a]) (l2 := [a * dQ a b c d]) ha (by show 3 * a ≠ 0; omega) (mul_nz ha hQ), low_4, low_3, low_1, ← changes_sgT a]
    show changesL [sgT a * -a, sgT a * (3 * a), sgT a * (a * dQ a b c d)] = _
    rw [chg3_l sL (by rw [show sgT a * (3 * a) = 3 * (sgT a * a) by grind]; omega), Nat.add_comm]
    rw [one_congr (show sgT a * (a * dQ a b c d) < 0 ↔ 0 < sgT a * dT a b c d by unfold SS at hSQ; omega)]
  · rw [nR, if_neg (by omega), if_neg (fun q => q.2 hP)]
  · have g1 := hgs x
    have g2 := hgs y
    have := gT_before (P := 0) (Q := sgT a * dT a b c d) hD4 (V4_t (b := b) ha h) (by unfold SS at g2; show gT 0 _ _ ≤ 0; have e : sgT a * evL [d, c, b, a] y ≤ 0 := e; omega)
    show sgT a * evL [d, c, b, a] x < 0
    unfold SS at g1
    omega
  · have e0 : evL [d, c, b, a] 0 = d := by simp only [evL]; omega
    have h : sgT a * evL [d, c, b, a] 0 < 0 := h
    rw [e0] at h
    exact changes_ends sa sgc h

/-- Two of the first power, each once. -/
theorem two_lin {p q m n e i j : Int} (he : 0 < e) (hi : 0 < i) (hj : 0 < j) (hm : SS m (p * q)) (hn : n = i * p + j * q) (h0 : ¬ (p = 0 ∧ q = 0)) : changesL [m, n, e] = one (p < 0) + one (q < 0) := by
  have sp := SS.mul hi p
  have sq := SS.mul hj q
  rw [hn]
  generalize i * p = ip at *
  generalize j * q = jq at *
  unfold SS at hm sp sq
  clear hn hi hj
  rcases Int.lt_trichotomy p 0 with h1 | h1 | h1
  · rcases Int.lt_trichotomy q 0 with h2 | h2 | h2
    · have := Int.mul_pos_of_neg_of_neg h1 h2
      rw [one_t h1, one_t h2]; simp only [changesL, chg]; repeat' split
      all_goals omega
    · rw [h2, Int.mul_zero] at hm
      rw [one_t h1, one_f (by omega)]; simp only [changesL, chg]; repeat' split
      all_goals omega
    · have := Int.mul_neg_of_neg_of_pos h1 h2
      rw [one_t h1, one_f (by omega)]; simp only [changesL, chg]; repeat' split
      all_goals omega
  · rcases Int.lt_trichotomy q 0 with h2 | h2 | h2
    · rw [h1, Int.zero_mul] at hm
      rw [one_f (by omega), one_t h2]; simp only [changesL, chg]; repeat' split
      all_goals omega
    · exact absurd ⟨h1, h2⟩ h0
    · rw [h1, Int.zero_mul] at hm
      rw [one_f (by omega), one_f (by omega)]; simp only [changesL, chg]; repeat' split
      all_goals omega
  · rcases Int.lt_trichotomy q 0 with h2 | h2 | h2
    · have := Int.mul_neg_of_pos_of_neg h1 h2
      rw [one_f (by omega), one_t h2]; simp only [changesL, chg]; repeat' split
      all_goals omega
    · rw [h2, Int.mul_zero] at hm
      rw [one_f (by omega), one_f (by omega)]; simp only [changesL, chg]; repeat' split
      all_goals omega
    · have := Int.mul_pos h1 h2
      rw [one_f (by omega), one_f (by omega)]; simp only [changesL, chg]; repeat' split
      all_goals omega
end
end Go.Rk
namespace Go.Rk
open Go.RowKit Go.Proofs.YtoahegjjffggaaaDoor

theorem sgT_prod {u w : Int} (hu : u ≠ 0) (hw : w ≠ 0) : sgT (u * w) = sgT u * sgT w := by
  unfold sgT
  rcases Int.lt_or_le u 0 with h1 | h1
  · rcases Int.lt_or_le w 0 with h2 | h2
    · have := Int.mul_pos_of_neg_of_neg h1 h2
      rw [if_neg (by omega), if_pos h1, if_pos h2]; rfl
    · have := Int.mul_neg_of_neg_of_pos h1 (show 0 < w by omega)
      rw [if_pos this, if_pos h1, if_neg (by omega)]; rfl
  · rcases Int.lt_or_le w 0 with h2 | h2
    · have := Int.mul_neg_of_pos_of_neg (show 0 < u by omega) h2
      rw [if_pos this, if_neg (by omega), if_pos h2]; rfl
    · have := Int.mul_pos (show 0 < u by omega) (show 0 < w by omega)
      rw [if_neg (by omega), if_neg (by omega), if_neg (by omega)]; rfl
section
variable {a b c d u v w z k e : Int}
theorem neg_some (ha : 0 < a) (h : b < 0 ∨ c < 0 ∨ d < 0) : 1 ≤ changesL [d, c, b, a] := by
  simp only [changesL, chg]; repeat' split
  all_goals omega
theorem alt_all (ha : 0 < a) (hb : b < 0) (hc : 0 < c) : 2 ≤ changesL [d, c, b, a] := by
  simp only [changesL, chg]; repeat' split
  all_goals omega
theorem top_turn (h : a * b < 0) : 1 ≤ changesL [d, c, b, a] := by
  rcases mul_neg_cases h with h | h
  · simp only [changesL, chg]; repeat' split
    all_goals omega
  · simp only [changesL, chg]; repeat' split
    all_goals omega
theorem desc_two (hu : 0 < u) (hw : 0 < w) : one (v < 0) + one (z < 0) ≤ changesL [v * v * z, v * v * w + 2 * u * v * z, u * u * z + 2 * u * v * w, u * u * w] := by
  have uu := Int.mul_pos hu hu
  have ha := Int.mul_pos uu hw
  have uw := Int.mul_pos hu hw
  have eb : u * u * z + 2 * u * v * w = (u * u) * z + 2 * ((u * w) * v) := by grind
  have ec : v * v * w + 2 * u * v * z = v * (w * v + 2 * (u * z)) := by grind
  rcases Int.lt_or_le v 0 with hv | hv
  · have h1 := Int.mul_neg_of_pos_of_neg uw hv
    have h2 := Int.mul_neg_of_pos_of_neg hw hv
    rcases Int.lt_or_le z 0 with hz | hz
    · rw [one_t hv, one_t hz]
      have h3 := Int.mul_neg_of_pos_of_neg uu hz
      have h4 := Int.mul_neg_of_pos_of_neg hu hz
      exact alt_all ha (by omega) (by rw [ec]; exact Int.mul_pos_of_neg_of_neg hv (by omega))
    · rw [one_t hv, one_f (by omega)]
      refine neg_some ha ?_
      rcases Int.lt_or_le (u * u * z + 2 * u * v * w) 0 with hb | hb
      · exact .inl hb
      · refine .inr (.inl ?_)
        rw [ec]
        -- u z >= -2 v w
        have e1 : (u * u) * z + 2 * ((u * w) * v) = u * (u * z + 2 * (w * v)) := by grind
        have h5 : 0 ≤ u * z + 2 * (w * v) := by
          rcases Int.lt_or_le (u * z + 2 * (w * v)) 0 with h6 | h6
          · have := Int.mul_neg_of_pos_of_neg hu h6; omega
          · exact h6
        exact Int.mul_neg_of_neg_of_pos hv (by omega)
  · rcases Int.lt_or_le z 0 with hz | hz
    · rw [one_f (by omega), one_t hz]
      have h3 := Int.mul_neg_of_pos_of_neg uu hz
      by_cases h0 : v = 0
      · refine neg_some ha (.inl ?_)
        rw [h0]; omega
      · exact neg_some ha (.inr (.inr (Int.mul_neg_of_pos_of_neg (sqz_pos h0) hz)))
    · rw [one_f (by omega), one_f (by omega)]; exact Nat.zero_le _
/-- Twice at one place, and once at another one. -/
theorem stm4_two (hu : u ≠ 0) (hw : w ≠ 0) (hd : u * z - v * w ≠ 0) : Stm [v * v * z, v * v * w + 2 * u * v * z, u * u * z + 2 * u * v * w, u * u * w]
    [plainL [v * z, u * z + v * w, u * w], plainL [u * z + v * w, 2 * (u * w)], plainL [u * w * ((u * z + v * w) * (u * z + v * w) - 4 * (u * w) * (v * z))]] := by
  have su := sgT_mul_pos hu
  have sw := sgT_mul_pos hw
  have hA : u * w ≠ 0 := mul_nz hu hw
  have sA := sgT_mul_pos hA
  have eA := sgT_prod hu hw
  have sq := sgT_sq u
  have sq2 := sgT_sq w
  have eD : (u * z + v * w) * (u * z + v * w) - 4 * (u * w) * (v * z) = (u * z - v * w) * (u * z - v * w) := by grind
  have dd := sqz_pos hd
  have hAD : u * w * ((u * z + v * w) * (u * z + v * w) - 4 * (u * w) * (v * z)) ≠ 0 := by rw [eD]; exact mul_nz hA (by omega)
  have sAD : 0 < sgT (u * w) * (u * w * ((u * z + v * w) * (u * z + v * w) - 4 * (u * w) * (v * z))) := by rw [eD, ← Int.mul_assoc]; exact Int.mul_pos sA dd
  have ev : ∀ x, evL [v * v * z, v * v * w + 2 * u * v * z, u * u * z + 2 * u * v * w, u * u * w] x = (u * x + v) * (u * x + v) * (w * x + z) := fun x => by simp only [evL]; grind
  refine stm_two (p := fun x => sgT u * (u * x + v)) (q := fun x => sgT w * (w * x + z)) (fun x => ?_) ?_ ?_ ?_ (fun x y h e => lin_before su h e) (fun x y h e => lin_before sw h e) (fun y e => ?_) (fun x y e => ?_) ?_
  · rw [VL3, ← changes_sgT (u * w)]
    refine two_lin (p := sgT u * (u * x + v)) (q := sgT w * (w * x + z)) (i := sgT w * w) (j := sgT u * u) (by simp only [evL]; rw [Int.zero_mul, Int.zero_add]; exact sAD) sw su ?_ ?_ ?_
    · simp only [evL]; rw [eA]
      refine SS.of (a := 1) (by decide) ?_
      grind
    · simp only [evL]; rw [eA]; grind
    · intro h
      have h1 : u * x + v = 0 := by
        rcases Int.mul_eq_zero.1 h.1 with h | h
        · exact absurd h (sgT_ne u)
        · exact h
      have h2 : w * x + z = 0 := by
        rcases Int.mul_eq_zero.1 h.2 with h | h
        · exact absurd h (sgT_ne w)
        · exact h
      refine hd ?_
      have e1 : u * z - v * w = u * (w * x + z) - w * (u * x + v) := by grind
      rw [e1, h1, h2, Int.mul_zero, Int.mul_zero]; rfl
  · rw [hi3 (l0 := [v * z, u * z + v * w, u * w]) (l1 := [u * z + v * w, 2 * (u * w)]) (l2 := [u * w * ((u * z + v * w) * (u * z + v * w) - 4 * (u * w) * (v * z))]) hA (by show 2 * (u * w) ≠ 0; omega) hAD]
    show changesL [u * w, 2 * (u * w), u * w * ((u * z + v * w) * (u * z + v * w) - 4 * (u * w) * (v * z))] = _
    rw [← changes_sgT (u * w)]
    show changesL [sgT (u * w) * (u * w), sgT (u * w) * (2 * (u * w)), sgT (u * w) * (u * w * ((u * z + v * w) * (u * z + v * w) - 4 * (u * w) * (v * z)))] = _
    rw [chg3_n sA (by rw [show sgT (u * w) * (2 * (u * w)) = 2 * (sgT (u * w) * (u * w)) by grind]; omega), one_f (by omega)]
  · rw [lo3 (l0 := [v * z, u * z + v * w, u * w]) (l1 := [u * z + v * w, 2 * (u * w)]) (l2 := [u * w * ((u * z + v * w) * (u * z + v * w) - 4 * (u * w) * (v * z))]) hA (by show 2 * (u * w) ≠ 0; omega) hAD, low_3, low_2, low_1, ← changes_sgT (u * w), ← changes_neg]
    show changesL [-(sgT (u * w) * (u * w)), -(sgT (u * w) * (-(2 * (u * w)))), -(sgT (u * w) * (u * w * ((u * z + v * w) * (u * z + v * w) - 4 * (u * w) * (v * z))))] = _
    rw [chg3_l (by omega) (by rw [show -(sgT (u * w) * (-(2 * (u * w)))) = 2 * (sgT (u * w) * (u * w)) by grind]; omega), one_t (by omega)]
  · have e1 : dD (u * u * w) (u * u * z + 2 * u * v * w) (v * v * w + 2 * u * v * z) (v * v * z) = 0 := by unfold dD; grind
    have e2 : dPs (u * u * w) (u * u * z + 2 * u * v * w) (v * v * w + 2 * u * v * z) = (u * u) * ((u * z - v * w) * (u * z - v * w)) := by unfold dPs; grind
    rw [nR, if_neg (by omega), if_pos ⟨e1, by rw [e2]; exact mul_nz (mul_nz hu hu) (by omega)⟩]
  · rw [ev] at e
    rcases Int.mul_eq_zero.1 e with h | h
    · rcases Int.mul_eq_zero.1 h with h | h <;> exact .inl (sg_zero h)
    · exact .inr (sg_zero h)
  · rw [ev, ev] at e
    have e1 : (u * x + v) * (u * x + v) * (w * x + z) * ((u * y + v) * (u * y + v) * (w * y + z)) = ((u * x + v) * (u * y + v)) * ((u * x + v) * (u * y + v)) * ((w * x + z) * (w * y + z)) := by grind
    rw [e1] at e
    refine .inr (sg_mul ?_)
    rcases Int.lt_or_le ((w * x + z) * (w * y + z)) 0 with h | h
    · exact h
    · have := Int.mul_nonneg (sq_nn ((u * x + v) * (u * y + v))) h; omega
  · have e1 : (sgT u * (u * 0 + v)) = sgT u * v := by rw [Int.mul_zero, Int.zero_add]
    have e2 : (sgT w * (w * 0 + z)) = sgT w * z := by rw [Int.mul_zero, Int.zero_add]
    show one (sgT u * (u * 0 + v) < 0) + one (sgT w * (w * 0 + z) < 0) ≤ _
    rw [e1, e2, ← changes_sgT w]
    have := desc_two (u := sgT u * u) (v := sgT u * v) (w := sgT w * w) (z := sgT w * z) su sw
    refine Nat.le_trans this (Nat.le_of_eq ?_)
    refine congrArg changesL ?_
    show [_, _, _, _] = [_, _, _, _]
    refine congr (congrArg _ ?_) (congr (congrArg _ ?_) (congr (congrArg _ ?_) (congr (congrArg _ ?_) rfl))) <;> grind

theorem lin_changes {x y : Int} (ha : a ≠ 0) (hy : y = a) : changesL [x, y] = one (sgT a * x < 0) := by
  rw [hy, ← changes_sgT a]
  have sa := sgT_mul_pos ha
  show changesL [sgT a * x, sgT a * a] = _
  generalize sgT a * x = X
  generalize sgT a * a = A at *
  simp only [changesL, chg, one]; repeat' split
  all_goals omega
theorem lin_hi (ha : a ≠ 0) : hiL [plainL [b, a], plainL [a]] = 0 := by
  rw [hi2 (l0 := [b, a]) (l1 := [a]) ha ha]
  show changesL [a, a] = 0
  have sa := sgT_mul_pos ha
  rw [lin_changes ha rfl, one_f (by omega)]
theorem lin_lo (ha : a ≠ 0) : loL [plainL [b, a], plainL [a]] = 1 := by
  rw [lo2 (l0 := [b, a]) (l1 := [a]) ha ha, low_2, low_1]
  have sa := sgT_mul_pos ha
  rw [lin_changes ha rfl, one_t (by rw [Int.mul_neg]; omega)]
theorem lin_V (ha : a ≠ 0) (x : Int) : VL [plainL [b, a], plainL [a]] x = 0 + one (sgT a * (a * x + b) < 0) := by
  rw [VL2, lin_changes ha (by simp only [evL]; omega), Nat.zero_add]
  simp only [evL, Int.zero_mul, Int.zero_add]
/-- One place. -/
theorem stm2 (ha : a ≠ 0) : Stm [b, a] [plainL [b, a], plainL [a]] := by
  have sa := sgT_mul_pos ha
  have ev : ∀ x, evL [b, a] x = a * x + b := fun x => by simp only [evL, Int.zero_mul, Int.zero_add]
  refine stm_one (c := 0) (p := fun x => sgT a * (a * x + b)) (lin_V ha) (lin_hi ha) (lin_lo ha) rfl (fun x y h e => lin_before sa h e) (fun y e => sg_zero (by rw [← ev]; exact e)) (fun x y e => sg_mul (by rw [← ev, ← ev]; exact e)) fun h => ?_
  have h : sgT a * (a * 0 + b) < 0 := h
  rw [Int.mul_zero, Int.zero_add] at h
  rw [lin_changes ha rfl, one_t h]; exact Nat.le_refl _
/-- Three times at one place. -/
theorem stm4_three (hk : k ≠ 0) (he : e ≠ 0) (hu : u ≠ 0) : Stm [k * (v * v * v), 3 * k * (u * v * v), 3 * k * (u * u * v), k * (u * u * u)] [plainL [e * v, e * u], plainL [e * u]] := by
  have ha : e * u ≠ 0 := mul_nz he hu
  have sa := sgT_mul_pos ha
  have ev : ∀ x, evL [k * (v * v * v), 3 * k * (u * v * v), 3 * k * (u * u * v), k * (u * u * u)] x = k * ((u * x + v) * ((u * x + v) * (u * x + v))) := fun x => by simp only [evL]; grind
  refine stm_one (c := 0) (p := fun x => sgT (e * u) * (e * u * x + e * v)) (lin_V ha) (lin_hi ha) (lin_lo ha) ?_ (fun x y h e => lin_before sa h e) (fun y h => ?_) (fun x y h => ?_) fun h => ?_
  · have e1 : dD (k * (u * u * u)) (3 * k * (u * u * v)) (3 * k * (u * v * v)) (k * (v * v * v)) = 0 := by unfold dD; grind
    have e2 : dPs (k * (u * u * u)) (3 * k * (u * u * v)) (3 * k * (u * v * v)) = 0 := by unfold dPs; grind
    rw [nR, if_neg (by omega), if_neg fun q => q.2 e2]
  · rw [ev] at h
    have h0 : u * y + v = 0 := by
      rcases Int.mul_eq_zero.1 h with h | h
      · exact absurd h hk
      · rcases Int.mul_eq_zero.1 h with h | h
        · exact h
        · rcases Int.mul_eq_zero.1 h with h | h <;> exact h
    exact sg_zero (by rw [show e * u * y + e * v = e * (u * y + v) by grind, h0, Int.mul_zero])
  · rw [ev, ev] at h
    refine sg_mul ?_
    have e1 : k * ((u * x + v) * ((u * x + v) * (u * x + v))) * (k * ((u * y + v) * ((u * y + v) * (u * y + v)))) = ((k * ((u * x + v) * (u * y + v))) * (k * ((u * x + v) * (u * y + v)))) * ((u * x + v) * (u * y + v)) := by grind
    rw [e1] at h
    have h2 : (u * x + v) * (u * y + v) < 0 := by
      rcases Int.lt_or_le ((u * x + v) * (u * y + v)) 0 with h3 | h3
      · exact h3
      · have := Int.mul_nonneg (sq_nn (k * ((u * x + v) * (u * y + v)))) h3; omega
    rw [show (e * u * x + e * v) * (e * u * y + e * v) = (e * e) * ((u * x + v) * (u * y + v)) by grind]
    exact Int.mul_neg_of_pos_of_neg (sqz_pos he) h2
  · have h : sgT (e * u) * (e * u * 0 + e * v) < 0 := h
    have h2 : (sgT (e * u) * (e * u)) * (sgT (e * u) * (e * u * 0 + e * v)) < 0 := Int.mul_neg_of_pos_of_neg sa h
    have sq := sgT_sq (e * u)
    rw [show (sgT (e * u) * (e * u)) * (sgT (e * u) * (e * u * 0 + e * v)) = (e * e) * (u * v) by grind] at h2
    have h3 : u * v < 0 := by
      rcases Int.lt_or_le (u * v) 0 with h3 | h3
      · exact h3
      · have := Int.mul_nonneg (sq_nn e) h3; omega
    refine top_turn ?_
    rw [show k * (u * u * u) * (3 * k * (u * u * v)) = 3 * ((k * (u * u)) * (k * (u * u))) * (u * v) by grind]
    have := sqz_pos (mul_nz hk (mul_nz hu hu))
    exact Int.mul_neg_of_pos_of_neg (by omega) h3
theorem chg3_ba (h : a * b < 0) : 1 ≤ changesL [c, b, a] := by
  rcases mul_neg_cases h with h | h
  · simp only [changesL, chg]; repeat' split
    all_goals omega
  · simp only [changesL, chg]; repeat' split
    all_goals omega
theorem chg3_ca (h : a * c < 0) : 1 ≤ changesL [c, b, a] := by
  rcases mul_neg_cases h with h | h
  · simp only [changesL, chg]; repeat' split
    all_goals omega
  · simp only [changesL, chg]; repeat' split
    all_goals omega
/-- Twice at one place, and no more. -/
theorem stm3_two (hk : k ≠ 0) (he : e ≠ 0) (hu : u ≠ 0) : Stm [k * (v * v), 2 * k * (u * v), k * (u * u)] [plainL [e * v, e * u], plainL [e * u]] := by
  have ha : e * u ≠ 0 := mul_nz he hu
  have sa := sgT_mul_pos ha
  have ev : ∀ x, evL [k * (v * v), 2 * k * (u * v), k * (u * u)] x = k * ((u * x + v) * (u * x + v)) := fun x => by simp only [evL]; grind
  refine stm_one (c := 0) (p := fun x => sgT (e * u) * (e * u * x + e * v)) (lin_V ha) (lin_hi ha) (lin_lo ha) ?_ (fun x y h e => lin_before sa h e) (fun y h => ?_) (fun x y h => ?_) fun h => ?_
  · have e1 : 2 * k * (u * v) * (2 * k * (u * v)) - 4 * (k * (u * u)) * (k * (v * v)) = 0 := by grind
    rw [nR, if_neg (by omega), if_pos e1]
  · rw [ev] at h
    have h0 : u * y + v = 0 := by
      rcases Int.mul_eq_zero.1 h with h | h
      · exact absurd h hk
      · rcases Int.mul_eq_zero.1 h with h | h <;> exact h
    exact sg_zero (by rw [show e * u * y + e * v = e * (u * y + v) by grind, h0, Int.mul_zero])
  · rw [ev, ev] at h
    have e1 : k * ((u * x + v) * (u * x + v)) * (k * ((u * y + v) * (u * y + v))) = (k * ((u * x + v) * (u * y + v))) * (k * ((u * x + v) * (u * y + v))) := by grind
    have := sq_nn (k * ((u * x + v) * (u * y + v)))
    omega
  · have h : sgT (e * u) * (e * u * 0 + e * v) < 0 := h
    have h2 : (sgT (e * u) * (e * u)) * (sgT (e * u) * (e * u * 0 + e * v)) < 0 := Int.mul_neg_of_pos_of_neg sa h
    have sq := sgT_sq (e * u)
    rw [show (sgT (e * u) * (e * u)) * (sgT (e * u) * (e * u * 0 + e * v)) = (e * e) * (u * v) by grind] at h2
    have h3 : u * v < 0 := by
      rcases Int.lt_or_le (u * v) 0 with h3 | h3
      · exact h3
      · have := Int.mul_nonneg (sq_nn e) h3; omega
    refine chg3_ba ?_
    rw [show k * (u * u) * (2 * k * (u * v)) = 2 * ((k * u) * (k * u)) * (u * v) by grind]
    have := sqz_pos (mul_nz hk hu)
    exact Int.mul_neg_of_pos_of_neg (by omega) h3
/-- Nowhere. -/
theorem stm1 (ha : a ≠ 0) : Stm [a] [plainL [a]] := by
  have e1 : ∀ x : Int, changesL [x] = 0 := fun x => by simp only [changesL, chg]; split <;> rfl
  have hV : ∀ x, VL [plainL [a]] x = 0 := fun x => e1 _
  have ev : ∀ x, evL [a] x = a := fun x => by simp only [evL, Int.zero_mul, Int.zero_add]
  refine ⟨?_, fun x y _ => ?_, fun x => ?_, fun x => ?_, fun x y _ h => ?_, fun x y _ h => ?_, ?_⟩
  · show changesL [_] = changesL [_] + 0
    rw [e1, e1]
  · rw [hV, hV]; exact Nat.le_refl _
  · rw [hV]; exact Nat.zero_le _
  · show changesL [_] ≤ _
    rw [e1]; exact Nat.zero_le _
  · rw [ev, ev] at h; have := sq_nn a; omega
  · rw [ev] at h; exact absurd h ha
  · rw [hV]; exact Nat.zero_le _
end
end Go.Rk
namespace Go.Rk
open Go.RowKit Go.Proofs.YtoahegjjffggaaaDoor

section
variable {a b c : Int}
theorem V3_is (ha : a ≠ 0) (x : Int) : changesL [evL [c, b, a] x, evL [b, 2 * a] x, evL [a * (b * b - 4 * a * c)] x] = v2 (b * b - 4 * a * c) (sgT a * (2 * a * x + b)) := by
  have sa := sgT_mul_pos ha
  have sq := sgT_sq a
  rw [← changes_sgT a]
  refine changes_ss ⟨SS.of (a := 4 * (sgT a * a)) (by omega) ?_, SS.of (a := 1) (by decide) ?_, SS.symm (SS.of sa ?_), trivial⟩
  · simp only [evL]; grind
  · simp only [evL]; grind
  · simp only [evL]; grind
theorem V3_g (x : Int) : sgT a * (2 * a * x + b) * (sgT a * (2 * a * x + b)) - (b * b - 4 * a * c) = 4 * a * evL [c, b, a] x := by
  have sq := sgT_sq a
  simp only [evL]; grind
theorem V3_t (ha : a ≠ 0) {x y : Int} (h : x < y) : sgT a * (2 * a * x + b) < sgT a * (2 * a * y + b) := by
  have s2 := sgT_mul_pos ha
  have e : sgT a * (2 * a * y + b) - sgT a * (2 * a * x + b) = 2 * ((sgT a * a) * (y - x)) := by grind
  have := Int.mul_pos s2 (show 0 < y - x by omega)
  omega
theorem chg3_alt (ha : 0 < a) (hb : b < 0) (hc : 0 < c) : changesL [c, b, a] = 2 := by
  simp only [changesL, chg]; repeat' split
  all_goals omega
theorem chg3_alt0 (ha : 0 < a) (hb : b < 0) (hc : c = 0) : changesL [c, b, a] = 1 := by
  simp only [changesL, chg]; repeat' split
  all_goals omega
theorem chg3_end (ha : 0 < a) (hc : c < 0) : changesL [c, b, a] = 1 := by
  simp only [changesL, chg]; repeat' split
  all_goals omega
theorem desc3_pos (ha : 0 < a) (hD : 0 < b * b - 4 * a * c) : v2 (b * b - 4 * a * c) b ≤ changesL [c, b, a] := by
  have sc := SS.mul (a := 4 * a) (by omega) c
  have hz : b = 0 → b * b = 0 := fun h => by rw [h]; rfl
  unfold SS at sc
  rcases Int.lt_or_le (b * b) (b * b - 4 * a * c) with h | h
  · rw [v2_in hD h, chg3_end ha (by omega)]; exact Nat.le_refl _
  · rcases Int.lt_trichotomy b 0 with hb | hb | hb
    · rw [v2_left hD h hb]
      by_cases hc : c = 0
      · rw [chg3_alt0 ha hb hc, one_f (by omega)]; exact Nat.le_refl _
      · rw [chg3_alt ha hb (by omega)]
        have := one_le (b * b - 4 * a * c < b * b); omega
    · have := hz hb; omega
    · rw [v2_right hD h hb]; exact Nat.zero_le _
theorem en3_l {x y u : Int} (hx : 0 < x) (hy : y < 0) : changesL [x, y, u] = 1 + one (0 < u) := by
  simp only [changesL, chg, one]; repeat' split
  all_goals omega
theorem stm3_all (ha : a ≠ 0) (hD : b * b - 4 * a * c ≠ 0) : Stm [c, b, a] [plainL [c, b, a], plainL [b, 2 * a], plainL [a * (b * b - 4 * a * c)]] := by
  have sa := sgT_mul_pos ha
  have hAD := mul_nz ha hD
  have hV : ∀ x, VL [plainL [c, b, a], plainL [b, 2 * a], plainL [a * (b * b - 4 * a * c)]] x = v2 (b * b - 4 * a * c) (sgT a * (2 * a * x + b)) := fun x => (VL3 _ _ _ x).trans (V3_is ha x)
  have hsD : SS (b * b - 4 * a * c) (sgT a * (a * (b * b - 4 * a * c))) := SS.of sa (by grind)
  have hhi : hiL [plainL [c, b, a], plainL [b, 2 * a], plainL [a * (b * b - 4 * a * c)]] = one (b * b - 4 * a * c < 0) := by
    rw [hi3 (l0 := [c, b, a]) (l1 := [b, 2 * a]) (l2 := [a * (b * b - 4 * a * c)]) ha (by show 2 * a ≠ 0; omega) hAD]
    show changesL [a, 2 * a, a * (b * b - 4 * a * c)] = _
    rw [← changes_sgT a]
    show changesL [sgT a * a, sgT a * (2 * a), sgT a * (a * (b * b - 4 * a * c))] = _
    rw [chg3_n sa (by rw [show sgT a * (2 * a) = 2 * (sgT a * a) by grind]; omega)]
    exact one_congr (by unfold SS at hsD; omega)
  have hlo : loL [plainL [c, b, a], plainL [b, 2 * a], plainL [a * (b * b - 4 * a * c)]] = 1 + one (0 < b * b - 4 * a * c) := by
    rw [lo3 (l0 := [c, b, a]) (l1 := [b, 2 * a]) (l2 := [a * (b * b - 4 * a * c)]) ha (by show 2 * a ≠ 0; omega) hAD, low_3, low_2, low_1, ← changes_sgT a]
    show changesL [sgT a * a, sgT a * -(2 * a), sgT a * (a * (b * b - 4 * a * c))] = _
    rw [en3_l sa (by rw [show sgT a * -(2 * a) = -(2 * (sgT a * a)) by grind]; omega)]
    rw [one_congr (show 0 < sgT a * (a * (b * b - 4 * a * c)) ↔ 0 < b * b - 4 * a * c by unfold SS at hsD; omega)]
  rcases Int.lt_or_le (b * b - 4 * a * c) 0 with hn | hn
  · rw [one_t hn] at hhi
    rw [one_f (by omega)] at hlo
    have hg : ∀ x, 0 < 4 * a * evL [c, b, a] x := fun x => by
      rw [← V3_g]
      have := sq_nn (sgT a * (2 * a * x + b)); omega
    refine ⟨?_, fun x y _ => ?_, fun x => ?_, fun x => ?_, fun x y _ h => ?_, fun x y _ h => ?_, ?_⟩
    · rw [hhi, hlo, nR, if_neg (by omega), if_neg (by omega)]
    · rw [hV, hV, v2_neg hn, v2_neg hn]; exact Nat.le_refl _
    · rw [hV, v2_neg hn, hlo]; omega
    · rw [hV, v2_neg hn, hhi]; omega
    · have h1 := Int.mul_pos (hg x) (hg y)
      rw [show 4 * a * evL [c, b, a] x * (4 * a * evL [c, b, a] y) = 16 * (a * a) * (evL [c, b, a] x * evL [c, b, a] y) by grind] at h1
      have := sqz_pos ha
      have := Int.mul_neg_of_pos_of_neg (show 0 < 16 * (a * a) by omega) h
      omega
    · have := hg y
      rw [h, Int.mul_zero] at this; omega
    · rw [hV, v2_neg hn, hhi]; omega
  · have hp : 0 < b * b - 4 * a * c := by omega
    rw [one_f (by omega)] at hhi
    rw [one_t hp] at hlo
    have hmono : ∀ x y, x ≤ y → VL [plainL [c, b, a], plainL [b, 2 * a], plainL [a * (b * b - 4 * a * c)]] y ≤ VL [plainL [c, b, a], plainL [b, 2 * a], plainL [a * (b * b - 4 * a * c)]] x := fun x y h => by
      rw [hV, hV]
      rcases Int.lt_or_le x y with e | e
      · exact v2_mono hp (Int.le_of_lt (V3_t ha e))
      · rw [show x = y by omega]; exact Nat.le_refl _
    refine ⟨?_, hmono, fun x => ?_, fun x => ?_, fun x y h e => ?_, fun x y h e => ?_, ?_⟩
    · rw [hhi, hlo, nR, if_pos hp]
    · rw [hV, hlo]; exact (v2_par hp).1
    · rw [hhi]; exact Nat.zero_le _
    · have m := hmono x y h
      rw [hV, hV] at m ⊢
      have p1 := v2_par (s := sgT a * (2 * a * x + b)) hp
      have p2 := v2_par (s := sgT a * (2 * a * y + b)) hp
      rw [V3_g] at p1 p2
      have e2 : (4 * a * evL [c, b, a] x) * (4 * a * evL [c, b, a] y) < 0 := by
        rw [show 4 * a * evL [c, b, a] x * (4 * a * evL [c, b, a] y) = 16 * (a * a) * (evL [c, b, a] x * evL [c, b, a] y) by grind]
        have := sqz_pos ha
        exact Int.mul_neg_of_pos_of_neg (by omega) e
      have mc := mul_neg_cases e2
      generalize v2 (b * b - 4 * a * c) (sgT a * (2 * a * x + b)) = V1 at *
      generalize v2 (b * b - 4 * a * c) (sgT a * (2 * a * y + b)) = V2 at *
      generalize 4 * a * evL [c, b, a] x = E1 at *
      generalize 4 * a * evL [c, b, a] y = E2 at *
      clear hV hhi hlo hmono hsD e e2
      omega
    · rw [hV, hV]
      refine v2_drop hp (V3_t ha h) ?_
      rw [V3_g, e, Int.mul_zero]
    · rw [hV, hhi, Nat.zero_add, ← changes_sgT a [c, b, a]]
      have sq := sgT_sq a
      have e1 : (sgT a * b) * (sgT a * b) - 4 * (sgT a * a) * (sgT a * c) = b * b - 4 * a * c := by grind
      have k := desc3_pos (a := sgT a * a) (b := sgT a * b) (c := sgT a * c) sa (by rw [e1]; exact hp)
      rw [e1] at k
      rw [show sgT a * (2 * a * 0 + b) = sgT a * b by grind]
      exact k
end
end Go.Rk
namespace Go.Rk
open Go.RowKit Go.Proofs.YtoahegjjffggaaaDoor

theorem plainL_mul (f : List Int) : ∃ n : Int, 0 < n ∧ ∀ k, ix f k = n * ix (plainL f) k := by
  rcases Nat.eq_zero_or_pos (trimL f).length with h | h
  · refine ⟨1, by decide, fun k => ?_⟩
    rw [← trimL_ix, ix_ge (by omega), plainL, ix_ge (by rw [List.length_map]; omega)]; rfl
  · have ht := trimL_top h
    refine ⟨(contL (trimL f) : Int), by have := contL_pos ht; omega, fun k => ?_⟩
    rw [plainL_ix, Int.mul_ediv_cancel' (by rw [← trimL_ix]; exact contL_dvd _ _)]
theorem len_1 {l : List Int} (h : l.length = 1) : ∃ a, l = [a] := by
  match l, h with
  | [a], _ => exact ⟨a, rfl⟩
theorem len_2 {l : List Int} (h : l.length = 2) : ∃ b a, l = [b, a] := by
  match l, h with
  | [b, a], _ => exact ⟨b, a, rfl⟩
theorem len_3 {l : List Int} (h : l.length = 3) : ∃ c b a, l = [c, b, a] := by
  match l, h with
  | [c, b, a], _ => exact ⟨c, b, a, rfl⟩
theorem len_4 {l : List Int} (h : l.length = 4) : ∃ d c b a, l = [d, c, b, a] := by
  match l, h with
  | [d, c, b, a], _ => exact ⟨d, c, b, a, rfl⟩
theorem slopeL_plain (f : List Int) (h : topL f ≠ 0) : slopeL (plainL f) = slopeL f := by
  refine Ray.plain ?_
  obtain ⟨n, hn, e⟩ := plainL_mul f
  refine Ray.symm (Ray.of hn fun k => ?_)
  rw [ix_rowF, ix_rowF, plain_len_top h]
  split
  · rw [e]; grind
  · rw [Int.mul_zero]
theorem chainL_plain (f : List Int) (h : topL f ≠ 0) : chainL (plainL f) = chainL f := by
  unfold chainL
  rw [plainL_plainL, slopeL_plain f h, plain_len_top h]
theorem Simp.plain {f : List Int} {L : List (List Int)} (h : topL f ≠ 0) (s : Simp (plainL f) L) : Simp f L := by
  cases s with
  | same h1 h2 => rw [chainL_plain f h] at h1 h2 ⊢; exact .same h1 h2
  | cut q h1 h2 h3 h4 h5 h6 =>
    rw [chainL_plain f h, ] at h1 h2
    rw [plainL_plainL, chainL_plain f h] at h3
    rw [plainL_plainL, chainL_plain f h] at h6
    exact .cut q h1 h2 h3 h4 h5 h6
theorem nR_mul {a : Int} (ha : 0 < a) {f g : List Int} (hl : f.length = g.length) (h4 : f.length ≤ 4) (h : ∀ k, ix f k = a * ix g k) : nR f = nR g := by
  have cases5 : f.length = 0 ∨ f.length = 1 ∨ f.length = 2 ∨ f.length = 3 ∨ f.length = 4 := by omega
  rcases cases5 with e | e | e | e | e
  · rw [List.eq_nil_of_length_eq_zero e, List.eq_nil_of_length_eq_zero (show g.length = 0 by omega)]
  · obtain ⟨x, rfl⟩ := len_1 e
    obtain ⟨y, rfl⟩ := len_1 (l := g) (by omega)
    rfl
  · obtain ⟨x, y, rfl⟩ := len_2 e
    obtain ⟨x', y', rfl⟩ := len_2 (l := g) (by omega)
    rfl
  · obtain ⟨x, y, z, rfl⟩ := len_3 e
    obtain ⟨x', y', z', rfl⟩ := len_3 (l := g) (by omega)
    have e0 : x = a * x' := h 0
    have e1 : y = a * y' := h 1
    have e2 : z = a * z' := h 2
    have s := SS.mul (a := a * a) (Int.mul_pos ha ha) (y' * y' - 4 * z' * x')
    rw [show a * a * (y' * y' - 4 * z' * x') = y * y - 4 * z * x by rw [e0, e1, e2]; grind] at s
    unfold SS at s
    rw [nR, nR]
    split
    · rw [if_pos (by omega)]
    · rw [if_neg (show ¬ 0 < y' * y' - 4 * z' * x' by omega)]
      split
      · rw [if_pos (by omega)]
      · rw [if_neg (show ¬ y' * y' - 4 * z' * x' = 0 by omega)]
  · obtain ⟨x, y, z, u, rfl⟩ := len_4 e
    obtain ⟨x', y', z', u', rfl⟩ := len_4 (l := g) (by omega)
    have e0 : x = a * x' := h 0
    have e1 : y = a * y' := h 1
    have e2 : z = a * z' := h 2
    have e3 : u = a * u' := h 3
    have a2 := Int.mul_pos ha ha
    have s := SS.mul (a := (a * a) * (a * a)) (Int.mul_pos a2 a2) (dD u' z' y' x')
    rw [show (a * a) * (a * a) * dD u' z' y' x' = dD u z y x by rw [e0, e1, e2, e3]; unfold dD; grind] at s
    have s2 := SS.mul (a := a * a) a2 (dPs u' z' y')
    rw [show a * a * dPs u' z' y' = dPs u z y by rw [e1, e2, e3]; unfold dPs; grind] at s2
    unfold SS at s s2
    rw [nR, nR]
    split
    · rw [if_pos (by omega)]
    · rw [if_neg (show ¬ 0 < dD u' z' y' x' by omega)]
      split
      · rw [if_pos (by omega)]
      · rw [if_neg (by omega)]

theorem prod_bd {x y A B : Int} (hx : -A ≤ x ∧ x ≤ A) (hy : -B ≤ y ∧ y ≤ B) : -(A * B) ≤ x * y ∧ x * y ≤ A * B := by
  have h1 := Int.mul_nonneg (show 0 ≤ A - x by omega) (show 0 ≤ B - y by omega)
  have h2 := Int.mul_nonneg (show 0 ≤ A + x by omega) (show 0 ≤ B + y by omega)
  have h3 := Int.mul_nonneg (show 0 ≤ A - x by omega) (show 0 ≤ B + y by omega)
  have h4 := Int.mul_nonneg (show 0 ≤ A + x by omega) (show 0 ≤ B - y by omega)
  rw [show (A - x) * (B - y) = A * B - A * y - x * B + x * y by grind] at h1
  rw [show (A + x) * (B + y) = A * B + A * y + x * B + x * y by grind] at h2
  rw [show (A - x) * (B + y) = A * B + A * y - x * B - x * y by grind] at h3
  rw [show (A + x) * (B - y) = A * B - A * y + x * B - x * y by grind] at h4
  omega
theorem sq_bd {x y : Int} (hy : y ≠ 0) (h : -20 ≤ x * x * y ∧ x * x * y ≤ 20) : -4 ≤ x ∧ x ≤ 4 := by
  rcases Classical.em (-4 ≤ x ∧ x ≤ 4) with h1 | h1
  · exact h1
  · have h2 : 25 ≤ x * x := by
      rcases Int.lt_or_le x 0 with h3 | h3
      · have := Int.mul_le_mul (show 5 ≤ -x by omega) (show 5 ≤ -x by omega) (by decide) (by omega)
        rw [Int.neg_mul_neg] at this; omega
      · have := Int.mul_le_mul (show 5 ≤ x by omega) (show 5 ≤ x by omega) (by decide) (by omega)
        omega
    rcases Int.lt_or_le y 0 with h3 | h3
    · have := Int.mul_le_mul_of_nonneg_left (show y ≤ -1 by omega) (show 0 ≤ x * x by omega); omega
    · have := Int.mul_le_mul_of_nonneg_left (show 1 ≤ y by omega) (show 0 ≤ x * x by omega); omega
theorem sq_bd2 {x y : Int} (hx : x ≠ 0) (h : -20 ≤ x * x * y ∧ x * x * y ≤ 20) : -20 ≤ y ∧ y ≤ 20 := by
  have h2 : 1 ≤ x * x := by have := sqz_pos hx; omega
  rcases Int.lt_or_le y 0 with h3 | h3
  · have := Int.mul_le_mul_of_nonpos_right h2 (show y ≤ 0 by omega); omega
  · have := Int.mul_le_mul_of_nonneg_right h2 h3; omega

theorem In.mono {l : List Int} {lo hi lo' hi' : Int} (h : In lo hi l) (h1 : lo' ≤ lo) (h2 : hi ≤ hi') : In lo' hi' l := fun k hk => by
  have := h k hk; omega
theorem in_1 {x lo hi : Int} (h : lo ≤ x ∧ x ≤ hi) : In lo hi [x] := fun k hk => by
  match k, hk with
  | 0, _ => exact h
theorem in_2 {x y lo hi : Int} (h : lo ≤ x ∧ x ≤ hi) (h1 : lo ≤ y ∧ y ≤ hi) : In lo hi [x, y] := fun k hk => by
  match k, hk with
  | 0, _ => exact h
  | 1, _ => exact h1
theorem in_3 {x y z lo hi : Int} (h : lo ≤ x ∧ x ≤ hi) (h1 : lo ≤ y ∧ y ≤ hi) (h2 : lo ≤ z ∧ z ≤ hi) : In lo hi [x, y, z] := fun k hk => by
  match k, hk with
  | 0, _ => exact h
  | 1, _ => exact h1
  | 2, _ => exact h2
/-- What is plain of one is 1 or -1. -/
theorem unit_in {x : Int} (h : x ≠ 0) : In (-(1 : Nat) : Int) (1 : Nat) (plainL [x]) := by
  have hl := plain_1 h
  have hu := (plainL_pl [x]).unit hl
  intro k hk
  rw [hl] at hk
  obtain rfl : k = 0 := by omega
  rcases hu with e | e <;> rw [e] <;> omega
theorem fitS_of {f g : List Int} (A B e : Nat) (hf : In (-(A : Int)) A f) (hg : In (-(B : Int)) B g) (hA : 1 ≤ A) (hB : 1 ≤ B) (he : f.length + 1 - g.length ≤ e) (h : A * (2 * B) ^ e ≤ 4611686018427387904) : FitS f g :=
  ⟨A, B, hf, hg, hA, hB, Nat.le_trans (Nat.mul_le_mul_left A (Nat.pow_le_pow_right (by omega) he)) h⟩
def RowOk (r : List Int) : Prop := 1 ≤ r.length ∧ r.length ≤ 4 ∧ In (-1000000) 1000000 r
section
variable {r0 r1 r2 r3 : List Int}
theorem fitL1 (h0 : RowOk r0) : FitL [r0] := ⟨fun i h => by simp at h, fun i h => by
  match i, h with
  | 0, _ => exact h0⟩
theorem fitL2 (h0 : RowOk r0) (h1 : RowOk r1) (s0 : FitS r0 r1) : FitL [r0, r1] := ⟨fun i h => by
  match i, h with
  | 0, _ => exact s0, fun i h => by
  match i, h with
  | 0, _ => exact h0
  | 1, _ => exact h1⟩
theorem fitL3 (h0 : RowOk r0) (h1 : RowOk r1) (h2 : RowOk r2) (s0 : FitS r0 r1) (s1 : FitS r1 r2) : FitL [r0, r1, r2] := ⟨fun i h => by
  match i, h with
  | 0, _ => exact s0
  | 1, _ => exact s1, fun i h => by
  match i, h with
  | 0, _ => exact h0
  | 1, _ => exact h1
  | 2, _ => exact h2⟩
theorem fitL4 (h0 : RowOk r0) (h1 : RowOk r1) (h2 : RowOk r2) (h3 : RowOk r3) (s0 : FitS r0 r1) (s1 : FitS r1 r2) (s2 : FitS r2 r3) : FitL [r0, r1, r2, r3] := ⟨fun i h => by
  match i, h with
  | 0, _ => exact s0
  | 1, _ => exact s1
  | 2, _ => exact s2, fun i h => by
  match i, h with
  | 0, _ => exact h0
  | 1, _ => exact h1
  | 2, _ => exact h2
  | 3, _ => exact h3⟩
end
theorem rowOk_of {r : List Int} {A : Nat} (h : In (-(A : Int)) A r) (h1 : 1 ≤ r.length) (h4 : r.length ≤ 4) (hA : A ≤ 1000000) : RowOk r := ⟨h1, h4, h.mono (by omega) (by omega)⟩

section
variable {a b c d x y : Int}
theorem plain_smul_in {C : Nat} (ha : a ≠ 0) (hx : -(C : Int) ≤ x ∧ x ≤ C) (hy : -(C : Int) ≤ y ∧ y ≤ C) : In (-(C : Int)) C (plainL [a * x, a * y]) := by
  have sa := sgT_mul_pos ha
  have sq := sgT_sq a
  have e : plainL [a * x, a * y] = plainL [sgT a * x, sgT a * y] := plain_ray sa fun k => by
    rw [ix_two, ix_two]
    split
    · grind
    · split
      · grind
      · rw [Int.mul_zero]
  rw [e]
  refine plainL_in (in_2 ?_ ?_) <;> rcases sgT_cases a with h | h <;> rw [h] <;> omega
/-- The chain of two is small enough. -/
theorem fit2 {A : Nat} (ha : a ≠ 0) (hA : 1 ≤ A) (hA2 : A ≤ 1000000) (hi : In (-(A : Int)) A [b, a]) : FitL [plainL [b, a], plainL [a]] := by
  have i0 := plainL_in hi
  have i1 := unit_in ha
  have l0 := plain_2 (x := b) ha
  have l1 := plain_1 ha
  refine fitL2 (rowOk_of i0 (by omega) (by omega) hA2) (rowOk_of i1 (by omega) (by omega) (by decide)) (fitS_of A 1 2 i0 i1 hA (by decide) (by omega) (by omega))
theorem fit3 {A : Nat} (ha : a ≠ 0) (hA : 1 ≤ A) (hA2 : A ≤ 1000) (hi : In (-(A : Int)) A [c, b, a]) : FitL [plainL [c, b, a], plainL [b, 2 * a]] ∧ ∀ z, z ≠ 0 → FitL [plainL [c, b, a], plainL [b, 2 * a], plainL [z]] := by
  have b1 := hi 1 (by simp)
  have b2 := hi 2 (by simp)
  have i0 := plainL_in hi
  have i1 : In (-((2 * A : Nat) : Int)) ((2 * A : Nat) : Int) (plainL [b, 2 * a]) := by
    refine plainL_in (in_2 ?_ ?_)
    · have : -(A : Int) ≤ b ∧ b ≤ A := b1
      omega
    · have : -(A : Int) ≤ a ∧ a ≤ A := b2
      omega
  have l0 := plain_3 (x := c) (y := b) ha
  have l1 := plain_2 (x := b) (show 2 * a ≠ 0 by omega)
  have s0 : FitS (plainL [c, b, a]) (plainL [b, 2 * a]) := by
    refine fitS_of A (2 * A) 2 i0 i1 hA (by omega) (by omega) ?_
    have h1 : 2 * (2 * A) ≤ 4000 := by omega
    exact Nat.le_trans (Nat.mul_le_mul hA2 (Nat.pow_le_pow_left h1 2)) (by decide)
  refine ⟨fitL2 (rowOk_of i0 (by omega) (by omega) (by omega)) (rowOk_of i1 (by omega) (by omega) (by omega)) s0, fun z hz => ?_⟩
  have i2 := unit_in hz
  have l2 := plain_1 hz
  exact fitL3 (rowOk_of i0 (by omega) (by omega) (by omega)) (rowOk_of i1 (by omega) (by omega) (by omega)) (rowOk_of i2 (by omega) (by omega) (by decide)) s0 (fitS_of (2 * A) 1 2 i1 i2 (by omega) (by decide) (by omega) (by omega))
theorem fit4 (ha : a ≠ 0) (hi : In (-20) 20 [d, c, b, a]) : FitL [plainL [d, c, b, a], plainL [c, 2 * b, 3 * a]] ∧
    (dPs a b c ≠ 0 → FitL [plainL [d, c, b, a], plainL [c, 2 * b, 3 * a], plainL [a * dQ a b c d, a * (2 * dPs a b c)]]) ∧
    (∀ z, z ≠ 0 → FitL [plainL [d, c, b, a], plainL [c, 2 * b, 3 * a], plainL [z]]) ∧
    (dPs a b c ≠ 0 → ∀ z, z ≠ 0 → FitL [plainL [d, c, b, a], plainL [c, 2 * b, 3 * a], plainL [a * dQ a b c d, a * (2 * dPs a b c)], plainL [z]]) ∧
    (dPs a b c ≠ 0 → FitS (plainL [d, c, b, a]) (plainL [a * dQ a b c d, a * (2 * dPs a b c)])) := by
  have b0 : -20 ≤ d ∧ d ≤ 20 := hi 0 (by simp)
  have b1 : -20 ≤ c ∧ c ≤ 20 := hi 1 (by simp)
  have b2 : -20 ≤ b ∧ b ≤ 20 := hi 2 (by simp)
  have b3 : -20 ≤ a ∧ a ≤ 20 := hi 3 (by simp)
  have i0 : In (-((20 : Nat) : Int)) ((20 : Nat) : Int) (plainL [d, c, b, a]) := plainL_in hi
  have i1 : In (-((60 : Nat) : Int)) ((60 : Nat) : Int) (plainL [c, 2 * b, 3 * a]) := plainL_in (in_3 (by omega) (by omega) (by omega))
  have p1 := prod_bd b2 b1
  have p2 := prod_bd b3 b0
  have p3 := prod_bd b2 b2
  have p4 := prod_bd b3 b1
  have eQ : dQ a b c d = b * c - 9 * (a * d) := by unfold dQ; rw [Int.mul_assoc]
  have eP : dPs a b c = b * b - 3 * (a * c) := by unfold dPs; rw [Int.mul_assoc]
  have i2 : In (-((4000 : Nat) : Int)) ((4000 : Nat) : Int) (plainL [a * dQ a b c d, a * (2 * dPs a b c)]) := plain_smul_in ha (by omega) (by omega)
  have l0 := plain_4 (x := d) (y := c) (z := b) ha
  have l1 := plain_3 (x := c) (y := 2 * b) (show 3 * a ≠ 0 by omega)
  have r0 := rowOk_of i0 (by omega) (by omega) (by decide)
  have r1 := rowOk_of i1 (by omega) (by omega) (by decide)
  have s0 : FitS (plainL [d, c, b, a]) (plainL [c, 2 * b, 3 * a]) := fitS_of 20 60 2 i0 i1 (by decide) (by decide) (by omega) (by decide)
  have s1 : dPs a b c ≠ 0 → (plainL [a * dQ a b c d, a * (2 * dPs a b c)]).length = 2 ∧ FitS (plainL [c, 2 * b, 3 * a]) (plainL [a * dQ a b c d, a * (2 * dPs a b c)]) := fun h => by
    have l2 := plain_2 (x := a * dQ a b c d) (aP_nz ha h)
    exact ⟨l2, fitS_of 60 4000 2 i1 i2 (by decide) (by decide) (by omega) (by decide)⟩
  refine ⟨fitL2 r0 r1 s0, fun h => ?_, fun z hz => ?_, fun h z hz => ?_, fun h => ?_⟩
  · obtain ⟨l2, s1⟩ := s1 h
    exact fitL3 r0 r1 (rowOk_of i2 (by omega) (by omega) (by decide)) s0 s1
  · have i3 := unit_in hz
    have l3 := plain_1 hz
    exact fitL3 r0 r1 (rowOk_of i3 (by omega) (by omega) (by decide)) s0 (fitS_of 60 1 3 i1 i3 (by decide) (by decide) (by omega) (by decide))
  · obtain ⟨l2, s1⟩ := s1 h
    have i3 := unit_in hz
    have l3 := plain_1 hz
    exact fitL4 r0 r1 (rowOk_of i2 (by omega) (by omega) (by decide)) (rowOk_of i3 (by omega) (by omega) (by decide)) s0 s1 (fitS_of 4000 1 2 i2 i3 (by decide) (by decide) (by omega) (by decide))
  · obtain ⟨l2, _⟩ := s1 h
    exact fitS_of 20 4000 3 i0 i2 (by decide) (by decide) (by omega) (by decide)
end
end Go.Rk
