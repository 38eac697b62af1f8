/-
  The signs of t^3 - 3Pt + Q and of its chain: how often they turn falls as t grows. No program in sight.
  Of whole factors that come to 0 twice at one place: a factor of the first power goes into them in whole numbers (Gauss). No program in sight.
  What the signs of a chain tell of whole factors: parts add up, a change of sign is seen, a nought is seen, and signs of the factors bound it. No program in sight.
  The signs of the chains of one of up to four whole factors: each kind. No program in sight.
-/
import Derived.Test.YtoahegjjffggaaaDoorMg1
import Derived.Test.YtoahegjjffggaaaDoorMg12
namespace Go.Rk
open Go.RowKit Go.Proofs.YtoahegjjffggaaaDoor

def one (p : Prop) [Decidable p] : Nat := if p then 1 else 0
theorem one_le (p : Prop) [Decidable p] : one p ≤ 1 := by unfold one; split <;> omega
theorem one_t {p : Prop} [Decidable p] (h : p) : one p = 1 := if_pos h
theorem one_f {p : Prop} [Decidable p] (h : ¬ p) : one p = 0 := if_neg h
theorem one_mono {p q : Prop} [Decidable p] [Decidable q] (h : p → q) : one p ≤ one q := by
  by_cases hp : p
  · rw [one_t hp, one_t (h hp)]; exact Nat.le_refl _
  · rw [one_f hp]; exact Nat.zero_le _
theorem one_congr {p q : Prop} [Decidable p] [Decidable q] (h : p ↔ q) : one p = one q := Nat.le_antisymm (one_mono h.1) (one_mono h.2)

section
variable {x y z u : Int}
theorem ch_a (hy : 0 < y) (hu : u < 0) : changesL [x, y, z, u] = 1 + one (x < 0) := by
  simp only [changesL, chg, one]; repeat' split
  all_goals omega
theorem ch_b (hy : y ≤ 0) (hu : u < 0) (hx : 0 < x) (hz : z < 0) : changesL [x, y, z, u] = 1 := by
  simp only [changesL, chg]; repeat' split
  all_goals omega
theorem ch_c (hy : y ≤ 0) (hu : u < 0) (hx : x < 0) (hz : 0 < z) : changesL [x, y, z, u] = 2 := by
  simp only [changesL, chg]; repeat' split
  all_goals omega
theorem ch_d (hy : y < 0) (hu : 0 < u) : changesL [x, y, z, u] = 1 + one (0 < x) := by
  simp only [changesL, chg, one]; repeat' split
  all_goals omega
theorem ch_e (hy : y = 0) (hu : 0 < u) (hx : 0 < x) (hz : z < 0) : changesL [x, y, z, u] = 2 := by
  simp only [changesL, chg]; repeat' split
  all_goals omega
theorem ch_f (hy : y = 0) (hu : 0 < u) (hx : x < 0) (hz : 0 < z) : changesL [x, y, z, u] = 1 := by
  simp only [changesL, chg]; repeat' split
  all_goals omega
theorem ch_g (hy : 0 < y) (hu : 0 < u) (hz : z < 0) : changesL [x, y, z, u] = 2 + one (x < 0) := by
  simp only [changesL, chg, one]; repeat' split
  all_goals omega
theorem ch_h (hy : 0 < y) (hu : 0 < u) (hz : 0 < z) : changesL [x, y, z, u] = one (x < 0) := by
  simp only [changesL, chg, one]; repeat' split
  all_goals omega
end

theorem sq_nn (x : Int) : 0 ≤ x * x := by
  rcases Int.lt_or_le x 0 with e | e
  · exact Int.mul_nonneg_of_nonpos_of_nonpos (by omega) (by omega)
  · exact Int.mul_nonneg e e
theorem lt_of_sq {x y : Int} (h : x * x < y * y) (hy : 0 < y) : -y < x ∧ x < y := by
  constructor
  · rcases Int.lt_or_le (-y) x with e | e
    · exact e
    · have h1 := Int.mul_le_mul_of_nonneg_left (a := y) (show y ≤ -x by omega) (show 0 ≤ y by omega)
      have h2 := Int.mul_le_mul_of_nonneg_right (c := -x) (show y ≤ -x by omega) (show 0 ≤ -x by omega)
      rw [Int.neg_mul_neg] at h2
      omega
  · rcases Int.lt_or_le x y with e | e
    · exact e
    · have h1 := Int.mul_le_mul_of_nonneg_left e (show 0 ≤ x by omega)
      have h2 := Int.mul_le_mul_of_nonneg_left e (show 0 ≤ y by omega)
      rw [Int.mul_comm] at h1
      omega
def gT (P Q t : Int) : Int := t * t * t - 3 * P * t + Q
theorem gT_sub (P Q t u : Int) : gT P Q t - gT P Q u = (t - u) * (t * t + t * u + u * u - 3 * P) := by unfold gT; grind
def v4 (P Q t : Int) : Nat := changesL [gT P Q t, t * t - P, 2 * P * t - Q, 4 * P * P * P - Q * Q]

section
variable {P Q t u : Int}
theorem gT_big (hD : 4 * P * P * P - Q * Q < 0) (ht : t * t ≤ 4 * P) : (0 < Q → 0 < gT P Q t) ∧ (Q < 0 → gT P Q t < 0) := by
  have e : 4 * P * P * P - (t * (t * t - 3 * P)) * (t * (t * t - 3 * P)) = ((P - t * t) * (P - t * t)) * (4 * P - t * t) := by grind
  have h1 := Int.mul_nonneg (sq_nn (P - t * t)) (show 0 ≤ 4 * P - t * t by omega)
  rw [← e] at h1
  have e2 : gT P Q t = t * (t * t - 3 * P) + Q := by unfold gT; grind
  rw [e2]
  generalize t * (t * t - 3 * P) = s at *
  constructor
  · intro hQ
    have := lt_of_sq (x := s) (y := Q) (by omega) hQ
    omega
  · intro hQ
    have := lt_of_sq (x := s) (y := -Q) (by rw [Int.neg_mul_neg]; omega) (by omega)
    omega
theorem v4_neg (hD : 4 * P * P * P - Q * Q < 0) (hP : P ≠ 0) : v4 P Q t = 1 + one (gT P Q t < 0) := by
  unfold v4
  rcases Int.lt_or_le P (t * t) with h | h
  · exact ch_a (by omega) hD
  · have hP0 : 0 < P := by have := sq_nn t; omega
    have hg := gT_big (t := t) hD (by omega)
    have h1 : (2 * P * t) * (2 * P * t) < Q * Q := by
      have e : 4 * P * P * P - (2 * P * t) * (2 * P * t) = (4 * (P * P)) * (P - t * t) := by grind
      have := Int.mul_nonneg (show 0 ≤ 4 * (P * P) by have := sq_nn P; omega) (show 0 ≤ P - t * t by omega)
      omega
    rcases Int.lt_trichotomy Q 0 with hQ | hQ | hQ
    · have h2 := hg.2 hQ
      have h3 := lt_of_sq (x := 2 * P * t) (y := -Q) (by rw [Int.neg_mul_neg]; exact h1) (by omega)
      rw [ch_c (by omega) hD h2 (by omega), one_t h2]
    · rw [hQ] at hD
      have := Int.mul_pos (Int.mul_pos hP0 hP0) hP0
      have e : 4 * P * P * P = 4 * (P * P * P) := by grind
      omega
    · have h2 := hg.1 hQ
      have h3 := lt_of_sq h1 hQ
      rw [ch_b (by omega) hD h2 (by omega), one_f (by omega)]
theorem P_pos (hD : 0 < 4 * P * P * P - Q * Q) : 0 < P := by
  rcases Int.lt_or_le 0 P with h | h
  · exact h
  · have h1 := Int.mul_nonpos_of_nonneg_of_nonpos (sq_nn P) h
    have := sq_nn Q
    have e : 4 * P * P * P = 4 * (P * P * P) := by grind
    omega
theorem out_big (hD : 0 < 4 * P * P * P - Q * Q) (ht : P ≤ t * t) : (0 < t → 0 < 2 * P * t - Q) ∧ (t < 0 → 2 * P * t - Q < 0) := by
  have hP := P_pos hD
  have h1 : Q * Q < (2 * P * t) * (2 * P * t) := by
    have e : (2 * P * t) * (2 * P * t) - 4 * P * P * P = (4 * (P * P)) * (t * t - P) := by grind
    have := Int.mul_nonneg (show 0 ≤ 4 * (P * P) by have := sq_nn P; omega) (show 0 ≤ t * t - P by omega)
    omega
  constructor
  · intro h
    have := lt_of_sq h1 (Int.mul_pos (by omega) h)
    omega
  · intro h
    have h2 := Int.mul_neg_of_pos_of_neg (show 0 < 2 * P by omega) h
    have := lt_of_sq (x := Q) (y := -(2 * P * t)) (by rw [Int.neg_mul_neg]; exact h1) (by omega)
    omega
theorem gT_edge (h : t * t = P) : gT P Q t = -(2 * P * t - Q) := by
  unfold gT; rw [← h]; grind
theorem v4_mid (hD : 0 < 4 * P * P * P - Q * Q) (ht : t * t ≤ P) : v4 P Q t = 1 + one (0 < gT P Q t) := by
  have hP := P_pos hD
  unfold v4
  rcases Int.lt_or_le (t * t) P with h | h
  · exact ch_d (by omega) hD
  · have e : t * t = P := by omega
    have hg := gT_edge (Q := Q) e
    have hb := out_big (t := t) hD h
    rcases Int.lt_trichotomy t 0 with h0 | h0 | h0
    · have h1 := hb.2 h0
      rw [ch_e (by omega) hD (by omega) h1, one_t (by omega)]
    · rw [h0] at e; omega
    · have h1 := hb.1 h0
      rw [ch_f (by omega) hD (by omega) h1, one_f (by omega)]
theorem v4_left (hD : 0 < 4 * P * P * P - Q * Q) (ht : P < t * t) (h0 : t < 0) : v4 P Q t = 2 + one (gT P Q t < 0) :=
  ch_g (by omega) hD ((out_big hD (by omega)).2 h0)
theorem v4_right (hD : 0 < 4 * P * P * P - Q * Q) (ht : P < t * t) (h0 : 0 < t) : v4 P Q t = one (gT P Q t < 0) :=
  ch_h (by omega) hD ((out_big hD (by omega)).1 h0)

theorem gT_grow (h : u ≤ t) (k : 0 ≤ t * t + t * u + u * u - 3 * P) : gT P Q u ≤ gT P Q t := by
  have e := gT_sub P Q t u
  have := Int.mul_nonneg (show 0 ≤ t - u by omega) k
  omega
theorem gT_fall (h : u ≤ t) (k : t * t + t * u + u * u - 3 * P ≤ 0) : gT P Q t ≤ gT P Q u := by
  have e := gT_sub P Q t u
  have := Int.mul_nonpos_of_nonneg_of_nonpos (show 0 ≤ t - u by omega) k
  omega
theorem mid_sum (t u : Int) : 0 ≤ t * t + t * u + u * u := by
  have e : 4 * (t * t + t * u + u * u) = (2 * t + u) * (2 * t + u) + 3 * (u * u) := by grind
  have := sq_nn (2 * t + u)
  have := sq_nn u
  omega
/-- Both above 0, or both below. -/
theorem mul_far (h : u ≤ t) : (0 < u → u * u ≤ t * u ∧ u * u ≤ t * t) ∧ (t < 0 → t * t ≤ t * u ∧ t * t ≤ u * u) := by
  constructor
  · intro h0
    have h1 := Int.mul_le_mul_of_nonneg_right h (show 0 ≤ u by omega)
    have h2 := Int.mul_le_mul_of_nonneg_left h (show 0 ≤ t by omega)
    exact ⟨h1, by omega⟩
  · intro h0
    have h1 := Int.mul_le_mul_of_nonpos_left (a := t) (show t ≤ 0 by omega) h
    have h2 := Int.mul_le_mul_of_nonpos_right (c := u) h (show u ≤ 0 by omega)
    exact ⟨h1, by omega⟩
theorem gT_grow' (h : u < t) (k : 0 < t * t + t * u + u * u - 3 * P) : gT P Q u < gT P Q t := by
  have e := gT_sub P Q t u
  have := Int.mul_pos (show 0 < t - u by omega) k
  omega
theorem gT_fall' (h : u < t) (k : t * t + t * u + u * u - 3 * P < 0) : gT P Q t < gT P Q u := by
  have e := gT_sub P Q t u
  have := Int.mul_neg_of_pos_of_neg (show 0 < t - u by omega) k
  omega
theorem mid_pos (h : u < t) : 0 < t * t + t * u + u * u := by
  have e : 4 * (t * t + t * u + u * u) = (2 * t + u) * (2 * t + u) + 3 * (u * u) := by grind
  have h1 := sq_nn (2 * t + u)
  have h2 := sq_nn u
  by_cases hu : u = 0
  · have h3 := sqz_pos (show t ≠ 0 by omega)
    rw [hu]
    omega
  · have h3 := sqz_pos hu
    omega
theorem gT_before (hD : 4 * P * P * P - Q * Q < 0) (h : u < t) (hg : gT P Q t ≤ 0) : gT P Q u < 0 := by
  rcases Int.lt_or_le 0 P with hP | hP
  rotate_left
  · have := gT_grow' (Q := Q) (P := P) h (by have := mid_pos h; omega)
    omega
  have cube : ∀ s : Int, 4 * P < s * s → (0 < s → 0 < s * (s * s - 3 * P)) ∧ (s < 0 → s * (s * s - 3 * P) < 0) := fun s hs =>
    ⟨fun h0 => Int.mul_pos h0 (by omega), fun h0 => Int.mul_neg_of_neg_of_pos h0 (by omega)⟩
  have e2 : ∀ s, gT P Q s = s * (s * s - 3 * P) + Q := fun s => by unfold gT; grind
  have fm := mul_far (show u ≤ t by omega)
  rcases Int.lt_trichotomy Q 0 with hQ | hQ | hQ
  · rcases Int.lt_or_le (4 * P) (u * u) with h1 | h1
    · rcases Int.lt_trichotomy u 0 with h0 | h0 | h0
      · have := (cube u h1).2 h0
        have := e2 u
        omega
      · rw [h0] at h1; omega
      · have := fm.1 h0
        have := gT_grow' (Q := Q) (P := P) h (by omega)
        omega
    · exact (gT_big hD h1).2 hQ
  · rw [hQ] at hD
    have := Int.mul_pos (Int.mul_pos hP hP) hP
    have e : 4 * P * P * P = 4 * (P * P * P) := by grind
    omega
  · rcases Int.lt_or_le (4 * P) (t * t) with h1 | h1
    · rcases Int.lt_trichotomy t 0 with h0 | h0 | h0
      · have := fm.2 h0
        have := gT_grow' (Q := Q) (P := P) h (by omega)
        omega
      · rw [h0] at h1; omega
      · have := (cube t h1).1 h0
        have := e2 t
        omega
    · have := (gT_big hD h1).1 hQ
      omega
theorem gT_neg_mono (hD : 4 * P * P * P - Q * Q < 0) (h : u ≤ t) (hg : gT P Q t < 0) : gT P Q u < 0 := by
  rcases Int.lt_or_le u t with e | e
  · exact gT_before hD e (by omega)
  · rw [show u = t by omega]; exact hg
/-- Where it comes to 0, the signs turn once less. -/
theorem v4_drop (hD : 4 * P * P * P - Q * Q ≠ 0) (hP : P ≠ 0) (h : u < t) (h0 : gT P Q t = 0) : v4 P Q t < v4 P Q u := by
  rcases Int.lt_or_le (4 * P * P * P - Q * Q) 0 with hn | hn
  · rw [v4_neg hn hP, v4_neg hn hP, one_f (by omega), one_t (gT_before hn h (by omega))]
    omega
  have hD : 0 < 4 * P * P * P - Q * Q := by omega
  have hP := P_pos hD
  have fm := mul_far (show u ≤ t by omega)
  rcases Int.lt_or_le P (t * t) with ht | ht
  · rcases Int.lt_trichotomy t 0 with h1 | h1 | h1
    · have fm := fm.2 h1
      have g := gT_grow' (Q := Q) (P := P) h (by omega)
      rw [v4_left hD ht h1, v4_left hD (t := u) (by omega) (by omega), one_f (by omega), one_t (by omega)]
      omega
    · rw [h1] at ht; omega
    · rw [v4_right hD ht h1, one_f (by omega)]
      rcases Int.lt_or_le P (u * u) with hu | hu
      · rcases Int.lt_trichotomy u 0 with h2 | h2 | h2
        · rw [v4_left hD hu h2]; omega
        · rw [h2] at hu; omega
        · have fm := fm.1 h2
          have g := gT_grow' (Q := Q) (P := P) h (by omega)
          rw [v4_right hD hu h2, one_t (by omega)]; omega
      · rw [v4_mid hD hu]; omega
  · rw [v4_mid hD ht, one_f (by omega)]
    have ht' : t * t < P := by
      rcases Int.lt_or_le (t * t) P with e | e
      · exact e
      · have e1 := gT_edge (Q := Q) (show t * t = P by omega)
        have b := out_big (t := t) hD e
        rcases Int.lt_trichotomy t 0 with h1 | h1 | h1
        · have := b.2 h1; omega
        · rw [h1] at e; omega
        · have := b.1 h1; omega
    rcases Int.lt_or_le P (u * u) with hu | hu
    · rcases Int.lt_trichotomy u 0 with h1 | h1 | h1
      · rw [v4_left hD hu h1]; omega
      · rw [h1] at hu; omega
      · have fm := fm.1 h1
        omega
    · rw [v4_mid hD hu]
      have e : (t - u) * (t - u) = t * t - 2 * (t * u) + u * u := by grind
      have s := sq_nn (t - u)
      have g := gT_fall' (Q := Q) (P := P) h (by omega)
      rw [one_t (by omega)]
      omega
theorem v4_mono (hD : 4 * P * P * P - Q * Q ≠ 0) (hP : P ≠ 0) (h : u ≤ t) : v4 P Q t ≤ v4 P Q u := by
  rcases Int.lt_or_le (4 * P * P * P - Q * Q) 0 with hn | hn
  · rw [v4_neg hn hP, v4_neg hn hP]
    have := one_mono (gT_neg_mono (u := u) (t := t) hn h)
    omega
  have hD : 0 < 4 * P * P * P - Q * Q := by omega
  have hP := P_pos hD
  have fm := mul_far h
  rcases Int.lt_or_le P (t * t) with ht | ht
  · rcases Int.lt_trichotomy t 0 with h0 | h0 | h0
    · have fm := fm.2 h0
      rw [v4_left hD ht h0, v4_left hD (t := u) (by omega) (by omega)]
      have g := gT_grow (Q := Q) (P := P) h (by omega)
      have := one_mono (p := gT P Q t < 0) (q := gT P Q u < 0) (by omega)
      omega
    · rw [h0] at ht; omega
    · rw [v4_right hD ht h0]
      rcases Int.lt_or_le P (u * u) with hu | hu
      · rcases Int.lt_trichotomy u 0 with h1 | h1 | h1
        · rw [v4_left hD hu h1]; have := one_le (gT P Q t < 0); omega
        · rw [h1] at hu; omega
        · rw [v4_right hD hu h1]
          have fm := fm.1 h1
          have g := gT_grow (Q := Q) (P := P) h (by omega)
          exact one_mono (by omega)
      · rw [v4_mid hD hu]; have := one_le (gT P Q t < 0); omega
  · rw [v4_mid hD ht]
    rcases Int.lt_or_le P (u * u) with hu | hu
    · rcases Int.lt_trichotomy u 0 with h1 | h1 | h1
      · rw [v4_left hD hu h1]; have := one_le (0 < gT P Q t); omega
      · rw [h1] at hu; omega
      · have fm := fm.1 h1
        omega
    · rw [v4_mid hD hu]
      have e : (t - u) * (t - u) = t * t - 2 * (t * u) + u * u := by grind
      have s := sq_nn (t - u)
      have g := gT_fall (Q := Q) (P := P) h (by omega)
      have := one_mono (p := 0 < gT P Q t) (q := 0 < gT P Q u) (by omega)
      omega
/-- At most three, and of the sign's kind. -/
theorem v4_par (hD : 0 < 4 * P * P * P - Q * Q) : v4 P Q t ≤ 3 ∧ (gT P Q t < 0 → v4 P Q t % 2 = 1) ∧ (0 < gT P Q t → v4 P Q t % 2 = 0) := by
  have hP := P_pos hD
  rcases Int.lt_or_le P (t * t) with ht | ht
  · rcases Int.lt_trichotomy t 0 with h0 | h0 | h0
    · rw [v4_left hD ht h0]; unfold one; split <;> omega
    · rw [h0] at ht; omega
    · rw [v4_right hD ht h0]; unfold one; split <;> omega
  · rw [v4_mid hD ht]; unfold one; split <;> omega

/-- With P = 0. -/
theorem v3_flat (_ : Q ≠ 0) : changesL [gT 0 Q t, t * t, -Q] = one (0 < Q) + one (gT 0 Q t < 0) := by
  have e : gT 0 Q t = t * t * t + Q := by unfold gT; grind
  by_cases h : t = 0
  · rw [h]
    have e0 : gT 0 Q 0 = Q := by unfold gT; grind
    rw [e0]
    simp only [changesL, chg, one]; repeat' split
    all_goals omega
  · have h1 := sqz_pos h
    generalize t * t = s at *
    generalize gT 0 Q t = g at *
    simp only [changesL, chg, one]; repeat' split
    all_goals omega
theorem flat_mono (h : u ≤ t) (hg : gT 0 Q t < 0) : gT 0 Q u < 0 := by
  have := gT_grow (Q := Q) (P := 0) h (by have := mid_sum t u; omega)
  omega
/-- Of two: s*s - D, s, D. -/
def v2 (D s : Int) : Nat := changesL [s * s - D, s, D]
theorem v2_neg {D s : Int} (hD : D < 0) : v2 D s = 1 := by
  have := sq_nn s
  unfold v2
  generalize s * s = q at *
  simp only [changesL, chg]; repeat' split
  all_goals omega
theorem v2_in {D s : Int} (hD : 0 < D) (h : s * s < D) : v2 D s = 1 := by
  unfold v2
  generalize s * s = q at *
  simp only [changesL, chg]; repeat' split
  all_goals omega
theorem v2_left {D s : Int} (hD : 0 < D) (h : D ≤ s * s) (h0 : s < 0) : v2 D s = 1 + one (D < s * s) := by
  unfold v2
  generalize s * s = q at *
  simp only [changesL, chg, one]; repeat' split
  all_goals omega
theorem v2_right {D s : Int} (hD : 0 < D) (h : D ≤ s * s) (h0 : 0 < s) : v2 D s = 0 := by
  unfold v2
  generalize s * s = q at *
  simp only [changesL, chg]; repeat' split
  all_goals omega
theorem v2_mono {D s r : Int} (hD : 0 < D) (h : r ≤ s) : v2 D s ≤ v2 D r := by
  have fm := mul_far h
  have nz : ∀ q : Int, D ≤ q * q → q ≠ 0 := fun q h1 h2 => by rw [h2] at h1; omega
  rcases Int.lt_or_le (s * s) D with h1 | h1
  · rw [v2_in hD h1]
    rcases Int.lt_or_le (r * r) D with h2 | h2
    · rw [v2_in hD h2]; exact Nat.le_refl _
    · have := nz r h2
      rcases Int.lt_or_le r 0 with h3 | h3
      · rw [v2_left hD h2 h3]; omega
      · have := fm.1 (by omega)
        omega
  · have := nz s h1
    rcases Int.lt_or_le s 0 with h3 | h3
    · have fm := fm.2 h3
      rw [v2_left hD h1 h3, v2_left hD (s := r) (by omega) (by omega)]
      have := one_mono (p := D < s * s) (q := D < r * r) (by omega)
      omega
    · rw [v2_right hD h1 (by omega)]; exact Nat.zero_le _
theorem v2_drop {D s r : Int} (hD : 0 < D) (h : r < s) (h0 : s * s - D = 0) : v2 D s < v2 D r := by
  have fm := mul_far (show r ≤ s by omega)
  have nz : ∀ q : Int, D ≤ q * q → q ≠ 0 := fun q h1 h2 => by rw [h2] at h1; omega
  have := nz s (by omega)
  rcases Int.lt_or_le s 0 with h3 | h3
  · have fm := fm.2 h3
    have e : r * r ≠ s * s := fun e => by
      have e2 : (s - r) * (s + r) = s * s - r * r := by grind
      rcases Int.mul_eq_zero.1 (show (s - r) * (s + r) = 0 by omega) with e3 | e3 <;> omega
    rw [v2_left hD (by omega) h3, v2_left hD (s := r) (by omega) (by omega), one_f (by omega), one_t (by omega)]
    omega
  · rw [v2_right hD (by omega) (by omega)]
    rcases Int.lt_or_le (r * r) D with h2 | h2
    · rw [v2_in hD h2]; omega
    · have := nz r h2
      rcases Int.lt_or_le r 0 with h4 | h4
      · rw [v2_left hD h2 h4]; omega
      · have fm := fm.1 (by omega)
        have e : r * r ≠ s * s := fun e => by
          have e2 : (s - r) * (s + r) = s * s - r * r := by grind
          rcases Int.mul_eq_zero.1 (show (s - r) * (s + r) = 0 by omega) with e3 | e3 <;> omega
        omega
theorem v2_par {D s : Int} (hD : 0 < D) : v2 D s ≤ 2 ∧ (s * s - D < 0 → v2 D s % 2 = 1) ∧ (0 < s * s - D → v2 D s % 2 = 0) := by
  have nz : ∀ q : Int, D ≤ q * q → q ≠ 0 := fun q h1 h2 => by rw [h2] at h1; omega
  rcases Int.lt_or_le (s * s) D with h1 | h1
  · rw [v2_in hD h1]; omega
  · have := nz s h1
    rcases Int.lt_or_le s 0 with h3 | h3
    · rw [v2_left hD h1 h3]; unfold one; split <;> omega
    · rw [v2_right hD h1 (by omega)]; omega
end
end Go.Rk
namespace Go.Rk
open Go.RowKit Go.Proofs.YtoahegjjffggaaaDoor

section
variable {u v m h h0 h1 h2 : Int}
theorem lg0 (hg : Int.gcd u v = 1) (e1 : m ∣ u * h) (e2 : m ∣ v * h) : m ∣ h := by
  have e3 : m ∣ (Int.gcd (u * h) (v * h) : Int) := Int.dvd_coe_gcd e1 e2
  rw [Int.gcd_mul_right, hg, Nat.one_mul] at e3
  rcases Int.natAbs_eq h with e | e
  · rw [e]; exact e3
  · rw [e]; exact Int.dvd_neg.2 e3
theorem lg1 (hg : Int.gcd u v = 1) (e0 : m ∣ v * h0) (e1 : m ∣ u * h0 + v * h1) (e2 : m ∣ u * h1) : m ∣ h0 ∧ m ∣ h1 := by
  obtain ⟨p, e0⟩ := e0
  obtain ⟨q, e1⟩ := e1
  obtain ⟨r, e2⟩ := e2
  have a1 : m ∣ u * h0 := lg0 hg ⟨u * q - v * r, by grind⟩ ⟨u * p, by grind⟩
  have a2 : m ∣ h0 := lg0 hg a1 ⟨p, e0⟩
  refine ⟨a2, lg0 hg ⟨r, e2⟩ ?_⟩
  obtain ⟨s, a1⟩ := a1
  exact ⟨q - s, by grind⟩
theorem lg2 (hg : Int.gcd u v = 1) (e0 : m ∣ v * h0) (e1 : m ∣ u * h0 + v * h1) (e2 : m ∣ u * h1 + v * h2) (e3 : m ∣ u * h2) : m ∣ h0 ∧ m ∣ h1 ∧ m ∣ h2 := by
  have a0 : m ∣ h0 := by
    obtain ⟨p, e0⟩ := e0
    obtain ⟨q, e1⟩ := e1
    obtain ⟨r, e2⟩ := e2
    obtain ⟨s, e3⟩ := e3
    have a1 : m ∣ u * (u * h0) := lg0 hg ⟨u * u * q - v * u * r + v * v * s, by grind⟩ ⟨u * u * p, by grind⟩
    have a2 : m ∣ u * h0 := lg0 hg a1 ⟨u * p, by grind⟩
    exact lg0 hg a2 ⟨p, e0⟩
  have a3 : m ∣ v * h1 := by
    obtain ⟨p, a0⟩ := a0
    obtain ⟨q, e1⟩ := e1
    exact ⟨q - u * p, by grind⟩
  exact ⟨a0, lg1 hg a3 e2 e3⟩
end

section
variable {a b c d u v n : Int}
def dR (a b c d : Int) : Int := dPs a b c * b + (27 * a * a * d - 9 * a * b * c + 2 * b * b * b)
theorem cube_two (ha : a ≠ 0) (hP : dPs a b c ≠ 0) (hD : dD a b c d = 0) (hg : Int.gcd u v = 1) (hv : a * dQ a b c d = n * v) (hu : a * (2 * dPs a b c) = n * u) :
    ∃ w z, a = u * u * w ∧ b = u * u * z + 2 * u * v * w ∧ c = v * v * w + 2 * u * v * z ∧ d = v * v * z := by
  have i1 : 12 * (dPs a b c * dPs a b c * dPs a b c) * b = 4 * (dPs a b c * dPs a b c) * dR a b c d + 4 * dPs a b c * dQ a b c d * (3 * a * dPs a b c) := by unfold dR dPs dQ; grind
  have i2 : 12 * (dPs a b c * dPs a b c) * c = 3 * a * (dQ a b c d * dQ a b c d) + 4 * dQ a b c d * dR a b c d - 27 * a * dD a b c d := by unfold dR dPs dQ dD; grind
  have i3 : 12 * (dPs a b c * dPs a b c * dPs a b c) * d = dQ a b c d * dQ a b c d * dR a b c d + (81 * a * a * d - 3 * b * b * b) * dD a b c d := by unfold dR dPs dQ dD; grind
  rw [hD] at i2 i3
  generalize dPs a b c = P at *
  generalize dQ a b c d = V at *
  generalize dR a b c d = R at *
  have hM : 12 * (P * P * P) * (a * a) ≠ 0 := by
    refine mul_nz (mul_nz (by decide) (mul_nz (mul_nz hP hP) hP)) (mul_nz ha ha)
  rw [Int.mul_zero, Int.add_zero] at i3
  rw [Int.mul_zero, Int.sub_zero] at i2
  have j0 : 12 * (P * P * P) * (a * a) * d = v * (v * (n * n * R)) := by
    rw [show 12 * (P * P * P) * (a * a) * d = (12 * (P * P * P) * d) * (a * a) by grind, i3, show V * V * R * (a * a) = (a * V) * (a * V) * R by grind, hv]; grind
  have j1 : 12 * (P * P * P) * (a * a) * c = u * (v * (n * n * R)) + v * (u * (n * n * R) + v * (n * n * (3 * a * P))) := by
    rw [show 12 * (P * P * P) * (a * a) * c = (12 * (P * P) * c) * (P * (a * a)) by grind, i2,
      show (3 * a * (V * V) + 4 * V * R) * (P * (a * a)) = (a * V) * (a * V) * (3 * a * P) + 2 * ((a * V) * (a * (2 * P)) * R) by grind, hv, hu]; grind
  have j2 : 12 * (P * P * P) * (a * a) * b = u * (u * (n * n * R) + v * (n * n * (3 * a * P))) + v * (u * (n * n * (3 * a * P))) := by
    rw [show 12 * (P * P * P) * (a * a) * b = (12 * (P * P * P) * b) * (a * a) by grind, i1,
      show (4 * (P * P) * R + 4 * P * V * (3 * a * P)) * (a * a) = (a * (2 * P)) * (a * (2 * P)) * R + 2 * ((a * V) * (a * (2 * P)) * (3 * a * P)) by grind, hv, hu]; grind
  have j3 : 12 * (P * P * P) * (a * a) * a = u * (u * (n * n * (3 * a * P))) := by
    rw [show 12 * (P * P * P) * (a * a) * a = (a * (2 * P)) * (a * (2 * P)) * (3 * a * P) by grind, hu]; grind
  generalize hMe : 12 * (P * P * P) * (a * a) = M at *
  obtain ⟨k0, k1, k2⟩ := lg2 (m := M) hg ⟨d, j0.symm⟩ ⟨c, j1.symm⟩ ⟨b, j2.symm⟩ ⟨a, j3.symm⟩
  obtain ⟨⟨z, hz⟩, ⟨w, hw⟩⟩ := lg1 hg k0 k1 k2
  rw [hz] at j0 j1 j2
  rw [hw] at j1 j2 j3
  clear hMe hw hz k0 k1 k2 i1 i2 i3 hv hu
  refine ⟨w, z, ?_, ?_, ?_, ?_⟩
  · refine Int.eq_of_mul_eq_mul_left hM ?_; rw [j3]; grind
  · refine Int.eq_of_mul_eq_mul_left hM ?_; rw [j2]; grind
  · refine Int.eq_of_mul_eq_mul_left hM ?_; rw [j1]; grind
  · refine Int.eq_of_mul_eq_mul_left hM ?_; rw [j0]; grind
theorem cube_three (ha : a ≠ 0) (hP : dPs a b c = 0) (hQ : dQ a b c d = 0) (hg : Int.gcd u v = 1) (hv : b = n * v) (hu : 3 * a = n * u) :
    ∃ k, a = k * (u * u * u) ∧ b = 3 * k * (u * u * v) ∧ c = 3 * k * (u * v * v) ∧ d = k * (v * v * v) := by
  unfold dPs at hP
  unfold dQ at hQ
  have hM : 27 * (a * a) ≠ 0 := mul_nz (by decide) (mul_nz ha ha)
  have j3 : 27 * (a * a) * a = u * (n * n * n * (u * u)) := by grind
  have j2 : 27 * (a * a) * b = u * (n * n * n * (2 * u * v)) + v * (n * n * n * (u * u)) := by grind
  have j1 : 27 * (a * a) * c = u * (n * n * n * (v * v)) + v * (n * n * n * (2 * u * v)) := by
    have : 27 * (a * a) * c = 3 * (3 * a) * (b * b) := by grind
    rw [this, hu, hv]; grind
  have j0 : 27 * (a * a) * d = v * (n * n * n * (v * v)) := by
    have : 27 * (a * a) * d = b * (b * b) := by grind
    rw [this, hv]; grind
  generalize 27 * (a * a) = M at *
  obtain ⟨k0, k1, k2⟩ := lg2 (m := M) hg ⟨d, j0.symm⟩ ⟨c, j1.symm⟩ ⟨b, j2.symm⟩ ⟨a, j3.symm⟩
  obtain ⟨l0, l1⟩ := lg1 (m := M) (h0 := n * n * n * v) (h1 := n * n * n * u) hg (by rw [show v * (n * n * n * v) = n * n * n * (v * v) by grind]; exact k0)
    (by rw [show u * (n * n * n * v) + v * (n * n * n * u) = n * n * n * (2 * u * v) by grind]; exact k1) (by rw [show u * (n * n * n * u) = n * n * n * (u * u) by grind]; exact k2)
  obtain ⟨k, hk⟩ := lg0 (m := M) (h := n * n * n) hg (by rw [Int.mul_comm]; exact l1) (by rw [Int.mul_comm]; exact l0)
  rw [hk] at j0 j1 j2 j3
  clear hk k0 k1 k2 l0 l1 hP hQ hv hu
  refine ⟨k, ?_, ?_, ?_, ?_⟩
  · refine Int.eq_of_mul_eq_mul_left hM ?_; rw [j3]; grind
  · refine Int.eq_of_mul_eq_mul_left hM ?_; rw [j2]; grind
  · refine Int.eq_of_mul_eq_mul_left hM ?_; rw [j1]; grind
  · refine Int.eq_of_mul_eq_mul_left hM ?_; rw [j0]; grind
theorem sq_two (ha : a ≠ 0) (hD : b * b - 4 * a * c = 0) (hg : Int.gcd u v = 1) (hv : b = n * v) (hu : 2 * a = n * u) :
    ∃ k, a = k * (u * u) ∧ b = 2 * k * (u * v) ∧ c = k * (v * v) := by
  have hM : 4 * a ≠ 0 := mul_nz (by decide) ha
  have j2 : 4 * a * a = u * (n * n * u) := by grind
  have j1 : 4 * a * b = u * (n * n * v) + v * (n * n * u) := by grind
  have j0 : 4 * a * c = v * (n * n * v) := by grind
  generalize 4 * a = M at *
  obtain ⟨l0, l1⟩ := lg1 (m := M) hg ⟨c, j0.symm⟩ ⟨b, j1.symm⟩ ⟨a, j2.symm⟩
  obtain ⟨k, hk⟩ := lg0 (m := M) (h := n * n) hg (by rw [Int.mul_comm]; exact l1) (by rw [Int.mul_comm]; exact l0)
  rw [hk] at j0 j1 j2
  clear hk l0 l1 hD hv hu
  refine ⟨k, ?_, ?_, ?_⟩
  · refine Int.eq_of_mul_eq_mul_left hM ?_; rw [j2]; grind
  · refine Int.eq_of_mul_eq_mul_left hM ?_; rw [j1]; grind
  · refine Int.eq_of_mul_eq_mul_left hM ?_; rw [j0]; grind
end
end Go.Rk
namespace Go.Rk
open Go.RowKit Go.Proofs.YtoahegjjffggaaaDoor

/-- The first n of h, by g. -/
def qS (h g : List Int) (n i : Nat) : Int := sumTo (fun j => if j ≤ i then ix h j * ix g (i - j) else 0) n
/-- f is h by g, outright. -/
structure Quo (f g h : List Int) : Prop where
  len : h.length + g.length = f.length + 1
  eq : ∀ i, ix f i = qS h g h.length i
def lastL (L : List (List Int)) : List Int := rowOf L (L.length - 1)
/-- Small enough for the steps of one by another one. -/
def FitS (f g : List Int) : Prop := ∃ A B : Nat, In (-(A : Int)) A f ∧ In (-(B : Int)) B g ∧ 1 ≤ A ∧ 1 ≤ B ∧ A * (2 * B) ^ (f.length + 1 - g.length) ≤ 4611686018427387904
structure FitL (L : List (List Int)) : Prop where
  step : ∀ i, i + 1 < L.length → FitS (rowOf L i) (rowOf L (i + 1))
  row : ∀ i, i < L.length → 1 ≤ (rowOf L i).length ∧ (rowOf L i).length ≤ 4 ∧ In (-1000000) 1000000 (rowOf L i)
/-- The chain of what comes to 0 once wherever f does. -/
inductive Simp (f : List Int) : List (List Int) → Prop
  | same : (lastL (chainL f)).length < 2 → FitL (chainL f) → Simp f (chainL f)
  | cut (h : List Int) : 2 ≤ (lastL (chainL f)).length → FitL (chainL f) → Quo (plainL f) (lastL (chainL f)) h → In (-1000000) 1000000 h → FitL (chainL h) → FitS (plainL f) (lastL (chainL f)) → Simp f (chainL h)
/-- At how many places it comes to 0. -/
def nR : List Int → Nat
  | [_, _] => 1
  | [c, b, a] => if 0 < b * b - 4 * a * c then 2 else if b * b - 4 * a * c = 0 then 1 else 0
  | [d, c, b, a] => if 0 < dD a b c d then 3 else if dD a b c d = 0 ∧ dPs a b c ≠ 0 then 2 else 1
  | _ => 0
structure Stm (f : List Int) (L : List (List Int)) : Prop where
  tot : loL L = hiL L + nR f
  mono : ∀ x y, x ≤ y → VL L y ≤ VL L x
  top : ∀ x, VL L x ≤ loL L
  low : ∀ x, hiL L ≤ VL L x
  cross : ∀ x y, x ≤ y → evL f x * evL f y < 0 → VL L y < VL L x
  zero : ∀ x y, x < y → evL f y = 0 → VL L y < VL L x
  desc : VL L 0 ≤ hiL L + changesL f

theorem SSL.refl : ∀ l : List Int, SSL l l
  | [] => trivial
  | x :: l => ⟨SS.refl x, SSL.refl l⟩
theorem SSL.trans : ∀ {l m n : List Int}, SSL l m → SSL m n → SSL l n
  | [], [], [], _, _ => trivial
  | _ :: _, _ :: _, _ :: _, h, g => ⟨h.1.trans g.1, h.2.trans g.2⟩
  | [], _ :: _, _, h, _ => h.elim
  | _ :: _, [], _, h, _ => h.elim
  | [], [], _ :: _, _, g => g.elim
  | _ :: _, _ :: _, [], _, g => g.elim
theorem ssl_ix : ∀ {l m : List Int}, l.length = m.length → (∀ k, SS (ix l k) (ix m k)) → SSL l m
  | [], [], _, _ => trivial
  | [], _ :: _, h, _ => by simp at h
  | _ :: _, [], h, _ => by simp at h
  | x :: l, y :: m, h, e => ⟨e 0, ssl_ix (by simpa using h) fun k => e (k + 1)⟩
theorem Ray.changes {f g : List Int} (h : Ray f g) (hl : f.length = g.length) : changesL f = changesL g := by
  obtain ⟨a, b, ha, hb, e⟩ := h
  exact changes_ss (ssl_ix hl fun k => SS.of2 ha hb (e k))
theorem ss_mul_neg {x y x' y' : Int} (h : SS x x') (g : SS y y') (e : x * y < 0) : x' * y' < 0 := by
  unfold SS at h g
  rcases Int.lt_trichotomy x 0 with h1 | h1 | h1
  · rcases Int.lt_trichotomy y 0 with h2 | h2 | h2
    · have := Int.mul_pos_of_neg_of_neg h1 h2; omega
    · rw [h2] at e; omega
    · exact Int.mul_neg_of_neg_of_pos (by omega) (by omega)
  · rw [h1] at e; omega
  · rcases Int.lt_trichotomy y 0 with h2 | h2 | h2
    · exact Int.mul_neg_of_pos_of_neg (by omega) (by omega)
    · rw [h2] at e; omega
    · have := Int.mul_pos h1 h2; omega
/-- It is the same for all of one ray. -/
theorem Stm.ray {f g : List Int} {L : List (List Int)} (h : Stm g L) (r : Ray f g) (hl : f.length = g.length) (hn : nR f = nR g) : Stm f L where
  tot := by rw [hn]; exact h.tot
  mono := h.mono
  top := h.top
  low := h.low
  cross := fun x y hxy e => h.cross x y hxy (ss_mul_neg (r.ev x) (r.ev y) e)
  zero := fun x y hxy e => h.zero x y hxy ((r.ev y).2.1 e)
  desc := by rw [r.changes hl]; exact h.desc

theorem mul_neg_cases {x y : Int} (h : x * y < 0) : (x < 0 ∧ 0 < y) ∨ (0 < x ∧ y < 0) := by
  rcases Int.lt_trichotomy x 0 with h1 | h1 | h1
  · rcases Int.lt_trichotomy y 0 with h2 | h2 | h2
    · have := Int.mul_pos_of_neg_of_neg h1 h2; omega
    · rw [h2] at h; omega
    · exact .inl ⟨h1, h2⟩
  · rw [h1] at h; omega
  · rcases Int.lt_trichotomy y 0 with h2 | h2 | h2
    · exact .inr ⟨h1, h2⟩
    · rw [h2] at h; omega
    · have := Int.mul_pos h1 h2; omega

/-- The sign may be turned. -/
theorem changes_sgT (a : Int) (l : List Int) : changesL (l.map fun x => sgT a * x) = changesL l := by
  unfold sgT
  split
  · rw [← changes_neg l]
    congr 1
    exact List.map_congr_left fun x _ => by omega
  · congr 1
    rw [List.map_congr_left (g := id) fun x _ => by simp]
    simp
theorem sgT_cases (a : Int) : sgT a = 1 ∨ sgT a = -1 := by unfold sgT; split <;> simp
theorem sgT_mul_pos {a : Int} (h : a ≠ 0) : 0 < sgT a * a := by unfold sgT; split <;> omega
def dT (a b c d : Int) : Int := 27 * a * a * d - 9 * a * b * c + 2 * b * b * b

section
variable {a b c d : Int}
/-- The chain's signs, in t. -/
theorem V4_is (ha : a ≠ 0) (x : Int) : changesL [evL [d, c, b, a] x, evL [c, 2 * b, 3 * a] x, evL [a * dQ a b c d, a * (2 * dPs a b c)] x, evL [a * dD a b c d] x] = v4 (dPs a b c) (sgT a * dT a b c d) (sgT a * (3 * a * x + b)) := by
  rw [← changes_sgT a]
  have s1 := sgT_sq a
  have s2 := sgT_mul_pos ha
  have s3 := sqz_pos ha
  refine changes_ss ⟨SS.of (a := 27 * (a * a)) (by omega) ?_, SS.of (a := 3 * (sgT a * a)) (by omega) ?_, SS.of (a := 3) (by omega) ?_, SS.of (a := 27 * (sgT a * a)) (by omega) ?_, trivial⟩
  · unfold gT dT dPs; simp only [evL]; grind
  · unfold dPs; simp only [evL]; grind
  · unfold dT dPs dQ; simp only [evL]; grind
  · unfold dT dPs dD; simp only [evL]; grind
theorem V4_g (x : Int) : gT (dPs a b c) (sgT a * dT a b c d) (sgT a * (3 * a * x + b)) = sgT a * (27 * (a * a) * evL [d, c, b, a] x) := by
  have s1 := sgT_sq a
  unfold gT dT dPs; simp only [evL]; grind
theorem V4_D : 4 * dPs a b c * dPs a b c * dPs a b c - sgT a * dT a b c d * (sgT a * dT a b c d) = 27 * (a * a) * dD a b c d := by
  have s1 := sgT_sq a
  unfold dT dPs dD; grind
theorem V4_t (ha : a ≠ 0) {x y : Int} (h : x < y) : sgT a * (3 * a * x + b) < sgT a * (3 * a * y + b) := by
  have s2 := sgT_mul_pos ha
  have e : sgT a * (3 * a * y + b) - sgT a * (3 * a * x + b) = 3 * ((sgT a * a) * (y - x)) := by grind
  have := Int.mul_pos s2 (show 0 < y - x by omega)
  omega
end
theorem low_4 (d c b a : Int) : lowT [d, c, b, a] = -a := by unfold lowT; rw [if_pos (by simp)]; rfl
theorem low_3 (c b a : Int) : lowT [c, b, a] = a := by unfold lowT; rw [if_neg (by simp)]; rfl
theorem low_2 (b a : Int) : lowT [b, a] = -a := by unfold lowT; rw [if_pos (by simp)]; rfl
theorem low_1 (a : Int) : lowT [a] = a := by unfold lowT; rw [if_neg (by simp)]; rfl
section
variable {l0 l1 l2 l3 : List Int}
theorem VL4 (l0 l1 l2 l3 : List Int) (x : Int) : VL [plainL l0, plainL l1, plainL l2, plainL l3] x = changesL [evL l0 x, evL l1 x, evL l2 x, evL l3 x] :=
  changes_ss (l := [evL (plainL l0) x, evL (plainL l1) x, evL (plainL l2) x, evL (plainL l3) x]) (m := [evL l0 x, evL l1 x, evL l2 x, evL l3 x]) ⟨ev_plain _ x, ev_plain _ x, ev_plain _ x, ev_plain _ x, trivial⟩
theorem hi4 (h0 : topL l0 ≠ 0) (h1 : topL l1 ≠ 0) (h2 : topL l2 ≠ 0) (h3 : topL l3 ≠ 0) : hiL [plainL l0, plainL l1, plainL l2, plainL l3] = changesL [topL l0, topL l1, topL l2, topL l3] :=
  changes_ss (l := [topL (plainL l0), topL (plainL l1), topL (plainL l2), topL (plainL l3)]) (m := [topL l0, topL l1, topL l2, topL l3]) ⟨top_plain h0, top_plain h1, top_plain h2, top_plain h3, trivial⟩
theorem lo4 (h0 : topL l0 ≠ 0) (h1 : topL l1 ≠ 0) (h2 : topL l2 ≠ 0) (h3 : topL l3 ≠ 0) : loL [plainL l0, plainL l1, plainL l2, plainL l3] = changesL [lowT l0, lowT l1, lowT l2, lowT l3] :=
  changes_ss (l := [lowT (plainL l0), lowT (plainL l1), lowT (plainL l2), lowT (plainL l3)]) (m := [lowT l0, lowT l1, lowT l2, lowT l3]) ⟨low_plain h0, low_plain h1, low_plain h2, low_plain h3, trivial⟩
theorem VL3 (l0 l1 l2 : List Int) (x : Int) : VL [plainL l0, plainL l1, plainL l2] x = changesL [evL l0 x, evL l1 x, evL l2 x] :=
  changes_ss (l := [evL (plainL l0) x, evL (plainL l1) x, evL (plainL l2) x]) (m := [evL l0 x, evL l1 x, evL l2 x]) ⟨ev_plain _ x, ev_plain _ x, ev_plain _ x, trivial⟩
theorem hi3 (h0 : topL l0 ≠ 0) (h1 : topL l1 ≠ 0) (h2 : topL l2 ≠ 0) : hiL [plainL l0, plainL l1, plainL l2] = changesL [topL l0, topL l1, topL l2] :=
  changes_ss (l := [topL (plainL l0), topL (plainL l1), topL (plainL l2)]) (m := [topL l0, topL l1, topL l2]) ⟨top_plain h0, top_plain h1, top_plain h2, trivial⟩
theorem lo3 (h0 : topL l0 ≠ 0) (h1 : topL l1 ≠ 0) (h2 : topL l2 ≠ 0) : loL [plainL l0, plainL l1, plainL l2] = changesL [lowT l0, lowT l1, lowT l2] :=
  changes_ss (l := [lowT (plainL l0), lowT (plainL l1), lowT (plainL l2)]) (m := [lowT l0, lowT l1, lowT l2]) ⟨low_plain h0, low_plain h1, low_plain h2, trivial⟩
theorem VL2 (l0 l1 : List Int) (x : Int) : VL [plainL l0, plainL l1] x = changesL [evL l0 x, evL l1 x] :=
  changes_ss (l := [evL (plainL l0) x, evL (plainL l1) x]) (m := [evL l0 x, evL l1 x]) ⟨ev_plain _ x, ev_plain _ x, trivial⟩
theorem hi2 (h0 : topL l0 ≠ 0) (h1 : topL l1 ≠ 0) : hiL [plainL l0, plainL l1] = changesL [topL l0, topL l1] :=
  changes_ss (l := [topL (plainL l0), topL (plainL l1)]) (m := [topL l0, topL l1]) ⟨top_plain h0, top_plain h1, trivial⟩
theorem lo2 (h0 : topL l0 ≠ 0) (h1 : topL l1 ≠ 0) : loL [plainL l0, plainL l1] = changesL [lowT l0, lowT l1] :=
  changes_ss (l := [lowT (plainL l0), lowT (plainL l1)]) (m := [lowT l0, lowT l1]) ⟨low_plain h0, low_plain h1, trivial⟩
theorem VL1 (l0 : List Int) (x : Int) : VL [plainL l0] x = changesL [evL l0 x] :=
  changes_ss (l := [evL (plainL l0) x]) (m := [evL l0 x]) ⟨ev_plain _ x, trivial⟩
end
end Go.Rk
namespace Go.Rk
open Go.RowKit Go.Proofs.YtoahegjjffggaaaDoor

section
variable {a b c d : Int}
theorem dc_a (ha : 0 < a) (hb : 0 < b) (hc : 0 < c) : changesL [d, c, b, a] = one (d < 0) := by
  simp only [changesL, chg, one]; repeat' split
  all_goals omega
theorem dc_b (ha : 0 < a) (hb : b < 0) (hc : 0 < c) : changesL [d, c, b, a] = 2 + one (d < 0) := by
  simp only [changesL, chg, one]; repeat' split
  all_goals omega
theorem dc_c (ha : 0 < a) (hc : c < 0) : changesL [d, c, b, a] = 1 + one (0 < d) := by
  simp only [changesL, chg, one]; repeat' split
  all_goals omega
theorem dc_d (ha : 0 < a) (hc : c = 0) (hb : b < 0) (hd : 0 < d) : changesL [d, c, b, a] = 2 := by
  simp only [changesL, chg]; repeat' split
  all_goals omega
theorem dc_e (ha : 0 < a) (hc : c = 0) (hb : 0 < b) (hd : d < 0) : changesL [d, c, b, a] = 1 := by
  simp only [changesL, chg]; repeat' split
  all_goals omega
theorem desc_pos (ha : 0 < a) (hD : 0 < 4 * dPs a b c * dPs a b c * dPs a b c - dT a b c d * dT a b c d) : v4 (dPs a b c) (dT a b c d) b ≤ changesL [d, c, b, a] := by
  have hP := P_pos hD
  have e1 : b * b - dPs a b c = 3 * (a * c) := by unfold dPs; grind
  have e2 : gT (dPs a b c) (dT a b c d) b = 27 * (a * a) * d := by unfold gT dT dPs; grind
  have s3 := sqz_pos (show a ≠ 0 by omega)
  have sg : SS d (gT (dPs a b c) (dT a b c d) b) := e2 ▸ SS.mul (by omega) d
  have sc : SS c (b * b - dPs a b c) := by
    rw [e1]
    exact (SS.mul ha c).trans (SS.mul (by decide) _)
  have hb := out_big (t := b) hD
  have he := gT_edge (P := dPs a b c) (Q := dT a b c d) (t := b)
  have hz : b = 0 → b * b = 0 := fun h => by rw [h]; rfl
  unfold SS at sg sc
  rcases Int.lt_or_le (dPs a b c) (b * b) with h | h
  · rcases Int.lt_trichotomy b 0 with h0 | h0 | h0
    · rw [v4_left hD h h0, dc_b ha h0 (by omega), one_congr (show gT (dPs a b c) (dT a b c d) b < 0 ↔ d < 0 by omega)]
      exact Nat.le_refl _
    · have := hz h0; omega
    · rw [v4_right hD h h0, dc_a ha h0 (by omega), one_congr (show gT (dPs a b c) (dT a b c d) b < 0 ↔ d < 0 by omega)]
      exact Nat.le_refl _
  · rw [v4_mid hD h, one_congr (show 0 < gT (dPs a b c) (dT a b c d) b ↔ 0 < d by omega)]
    rcases Int.lt_or_le c 0 with hc | hc
    · rw [dc_c ha hc]; exact Nat.le_refl _
    · have hc0 : c = 0 := by omega
      rcases Int.lt_trichotomy b 0 with h0 | h0 | h0
      · have hd : 0 < d := by
          have := hb (by omega); have := this.2 h0; have := he (by omega); omega
        rw [dc_d ha hc0 h0 hd, one_t hd]; exact Nat.le_refl _
      · have := hz h0; omega
      · have hd : d < 0 := by
          have := hb (by omega); have := this.1 h0; have := he (by omega); omega
        rw [dc_e ha hc0 h0 hd, one_f (by omega)]; exact Nat.le_refl _
theorem changes_ends {s : Int} (h1 : 0 < s * a) (hs : s = 1 ∨ s = -1) (h2 : s * d < 0) : 1 ≤ changesL [d, c, b, a] := by
  rcases hs with rfl | rfl
  · simp only [changesL, chg]; repeat' split
    all_goals omega
  · simp only [changesL, chg]; repeat' split
    all_goals omega

theorem one_cases (p : Prop) [Decidable p] : (p ∧ one p = 1) ∨ (¬ p ∧ one p = 0) := by
  by_cases h : p
  · exact .inl ⟨h, one_t h⟩
  · exact .inr ⟨h, one_f h⟩
section
variable {x y p u : Int}
theorem en_hn (hx : 0 < x) (hy : 0 < y) (hu : u < 0) : changesL [x, y, p, u] = 1 := by
  simp only [changesL, chg]; repeat' split
  all_goals omega
theorem en_ln (hx : x < 0) (hy : 0 < y) (hu : u < 0) : changesL [x, y, p, u] = 2 := by
  simp only [changesL, chg]; repeat' split
  all_goals omega
theorem en_hp (hx : 0 < x) (hy : 0 < y) (hp : 0 < p) (hu : 0 < u) : changesL [x, y, p, u] = 0 := by
  simp only [changesL, chg]; repeat' split
  all_goals omega
theorem en_lp (hx : x < 0) (hy : 0 < y) (hp : p < 0) (hu : 0 < u) : changesL [x, y, p, u] = 3 := by
  simp only [changesL, chg]; repeat' split
  all_goals omega
end
/-- Three factors and one, apart in all places. -/
theorem stm4_all (ha : a ≠ 0) (hP : dPs a b c ≠ 0) (hD : dD a b c d ≠ 0) : Stm [d, c, b, a] [plainL [d, c, b, a], plainL [c, 2 * b, 3 * a], plainL [a * dQ a b c d, a * (2 * dPs a b c)], plainL [a * dD a b c d]] := by
  have sa := sgT_mul_pos ha
  have sq := sgT_sq a
  have a2 := sqz_pos ha
  have hV : ∀ x, VL [plainL [d, c, b, a], plainL [c, 2 * b, 3 * a], plainL [a * dQ a b c d, a * (2 * dPs a b c)], plainL [a * dD a b c d]] x = v4 (dPs a b c) (sgT a * dT a b c d) (sgT a * (3 * a * x + b)) := fun x =>
    (VL4 _ _ _ _ x).trans (V4_is ha x)
  have hhi : hiL [plainL [d, c, b, a], plainL [c, 2 * b, 3 * a], plainL [a * dQ a b c d, a * (2 * dPs a b c)], plainL [a * dD a b c d]] = changesL [1, 1, dPs a b c, dD a b c d] := by
    rw [hi4 (l0 := [d, c, b, a]) (l1 := [c, 2 * b, 3 * a]) (l2 := [a * dQ a b c d, a * (2 * dPs a b c)]) (l3 := [a * dD a b c d]) ha (by show 3 * a ≠ 0; omega) (aP_nz ha hP) (mul_nz ha hD)]
    show changesL [a, 3 * a, a * (2 * dPs a b c), a * dD a b c d] = _
    rw [← changes_sgT a]
    exact changes_ss ⟨SS.symm (SS.of sa (Int.mul_one _)), SS.symm (SS.of (a := 3 * (sgT a * a)) (by omega) (by grind)), SS.symm (SS.of (a := 2 * (sgT a * a)) (by omega) (by grind)), SS.symm (SS.of (a := sgT a * a) (by omega) (by grind)), trivial⟩
  have hlo : loL [plainL [d, c, b, a], plainL [c, 2 * b, 3 * a], plainL [a * dQ a b c d, a * (2 * dPs a b c)], plainL [a * dD a b c d]] = changesL [-1, 1, -dPs a b c, dD a b c d] := by
    rw [lo4 (l0 := [d, c, b, a]) (l1 := [c, 2 * b, 3 * a]) (l2 := [a * dQ a b c d, a * (2 * dPs a b c)]) (l3 := [a * dD a b c d]) ha (by show 3 * a ≠ 0; omega) (aP_nz ha hP) (mul_nz ha hD)]
    rw [low_4, low_3, low_2, low_1]
    rw [← changes_sgT a]
    exact changes_ss ⟨SS.symm (SS.of sa (by grind)), SS.symm (SS.of (a := 3 * (sgT a * a)) (by omega) (by grind)), SS.symm (SS.of (a := 2 * (sgT a * a)) (by omega) (by grind)), SS.symm (SS.of (a := sgT a * a) (by omega) (by grind)), trivial⟩
  have hD4 := V4_D (a := a) (b := b) (c := c) (d := d)
  have ss4 : SS (dD a b c d) (27 * (a * a) * dD a b c d) := SS.mul (by omega) _
  rw [← hD4] at ss4
  have hd4 : 4 * dPs a b c * dPs a b c * dPs a b c - sgT a * dT a b c d * (sgT a * dT a b c d) ≠ 0 := fun e => hD (ss4.2.2 e)
  have hmono : ∀ x y, x ≤ y → VL [plainL [d, c, b, a], plainL [c, 2 * b, 3 * a], plainL [a * dQ a b c d, a * (2 * dPs a b c)], plainL [a * dD a b c d]] y ≤ VL [plainL [d, c, b, a], plainL [c, 2 * b, 3 * a], plainL [a * dQ a b c d, a * (2 * dPs a b c)], plainL [a * dD a b c d]] x := fun x y h => by
    rw [hV, hV]
    rcases Int.lt_or_le x y with e | e
    · exact v4_mono hd4 hP (Int.le_of_lt (V4_t ha e))
    · rw [show x = y by omega]; exact Nat.le_refl _
  have hzero : ∀ x y, x < y → evL [d, c, b, a] y = 0 → VL [plainL [d, c, b, a], plainL [c, 2 * b, 3 * a], plainL [a * dQ a b c d, a * (2 * dPs a b c)], plainL [a * dD a b c d]] y < VL [plainL [d, c, b, a], plainL [c, 2 * b, 3 * a], plainL [a * dQ a b c d, a * (2 * dPs a b c)], plainL [a * dD a b c d]] x := fun x y h e => by
    rw [hV, hV]
    refine v4_drop hd4 hP (V4_t ha h) ?_
    rw [V4_g, e, Int.mul_zero, Int.mul_zero]
  have hg : ∀ x, (evL [d, c, b, a] x < 0 ∧ (0 < sgT a → gT (dPs a b c) (sgT a * dT a b c d) (sgT a * (3 * a * x + b)) < 0) ∧ (sgT a < 0 → 0 < gT (dPs a b c) (sgT a * dT a b c d) (sgT a * (3 * a * x + b)))) ∨ evL [d, c, b, a] x = 0 ∨
      (0 < evL [d, c, b, a] x ∧ (0 < sgT a → 0 < gT (dPs a b c) (sgT a * dT a b c d) (sgT a * (3 * a * x + b))) ∧ (sgT a < 0 → gT (dPs a b c) (sgT a * dT a b c d) (sgT a * (3 * a * x + b)) < 0)) := fun x => by
    rw [V4_g]
    have s := SS.mul (a := 27 * (a * a)) (by omega) (evL [d, c, b, a] x)
    unfold SS at s
    rcases sgT_cases a with e | e <;> rw [e] <;> omega
  have sgc := sgT_cases a
  rcases Int.lt_or_le (dD a b c d) 0 with hn | hn
  · have hn4 : 4 * dPs a b c * dPs a b c * dPs a b c - sgT a * dT a b c d * (sgT a * dT a b c d) < 0 := by unfold SS at ss4; omega
    have h1 : hiL [plainL [d, c, b, a], plainL [c, 2 * b, 3 * a], plainL [a * dQ a b c d, a * (2 * dPs a b c)], plainL [a * dD a b c d]] = 1 := by
      rw [hhi]; exact en_hn (by decide) (by decide) hn
    have h2 : loL [plainL [d, c, b, a], plainL [c, 2 * b, 3 * a], plainL [a * dQ a b c d, a * (2 * dPs a b c)], plainL [a * dD a b c d]] = 2 := by
      rw [hlo]; exact en_ln (by decide) (by decide) hn
    refine ⟨?_, hmono, fun x => ?_, fun x => ?_, fun x y h e => ?_, hzero, ?_⟩
    · rw [h1, h2, nR, if_neg (by omega), if_neg (fun q => hD q.1)]
    · rw [h2, hV, v4_neg hn4 hP]; have := one_le (gT (dPs a b c) (sgT a * dT a b c d) (sgT a * (3 * a * x + b)) < 0); omega
    · rw [h1, hV, v4_neg hn4 hP]; omega
    · have m := hmono x y h
      rw [hV, hV, v4_neg hn4 hP, v4_neg hn4 hP] at m ⊢
      have g1 := hg x
      have g2 := hg y
      have mc := mul_neg_cases e
      have o1 := one_cases (gT (dPs a b c) (sgT a * dT a b c d) (sgT a * (3 * a * x + b)) < 0)
      have o2 := one_cases (gT (dPs a b c) (sgT a * dT a b c d) (sgT a * (3 * a * y + b)) < 0)
      clear hV hhi hlo hmono hzero hg h1 h2 e hD4 ss4 hd4 hn4
      omega
    · rw [h1, hV, v4_neg hn4 hP]
      by_cases hg0 : gT (dPs a b c) (sgT a * dT a b c d) (sgT a * (3 * a * 0 + b)) < 0
      · rw [one_t hg0]
        rw [V4_g] at hg0
        have e0 : evL [d, c, b, a] 0 = d := by simp only [evL]; omega
        rw [e0] at hg0
        have e3 : sgT a * (27 * (a * a) * d) = 27 * (a * a) * (sgT a * d) := by grind
        rw [e3] at hg0
        have ss : SS (sgT a * d) (27 * (a * a) * (sgT a * d)) := SS.mul (by omega) _
        have := changes_ends (b := b) (c := c) sa sgc (d := d) (by unfold SS at ss; omega)
        omega
      · rw [one_f hg0]; omega
  · have hp4 : 0 < 4 * dPs a b c * dPs a b c * dPs a b c - sgT a * dT a b c d * (sgT a * dT a b c d) := by unfold SS at ss4; omega
    have hP0 := P_pos hp4
    have h1 : hiL [plainL [d, c, b, a], plainL [c, 2 * b, 3 * a], plainL [a * dQ a b c d, a * (2 * dPs a b c)], plainL [a * dD a b c d]] = 0 := by
      rw [hhi]; exact en_hp (by decide) (by decide) hP0 (by omega)
    have h2 : loL [plainL [d, c, b, a], plainL [c, 2 * b, 3 * a], plainL [a * dQ a b c d, a * (2 * dPs a b c)], plainL [a * dD a b c d]] = 3 := by
      rw [hlo]; exact en_lp (by decide) (by decide) (by omega) (by omega)
    refine ⟨?_, hmono, fun x => ?_, fun x => ?_, fun x y h e => ?_, hzero, ?_⟩
    · rw [h1, h2, nR, if_pos (by omega)]
    · rw [h2, hV]; exact (v4_par hp4).1
    · rw [h1]; exact Nat.zero_le _
    · have m := hmono x y h
      rw [hV, hV] at m ⊢
      have p1 := v4_par (t := sgT a * (3 * a * x + b)) hp4
      have p2 := v4_par (t := sgT a * (3 * a * y + b)) hp4
      have g1 := hg x
      have g2 := hg y
      have mc := mul_neg_cases e
      generalize v4 (dPs a b c) (sgT a * dT a b c d) (sgT a * (3 * a * x + b)) = V1 at *
      generalize v4 (dPs a b c) (sgT a * dT a b c d) (sgT a * (3 * a * y + b)) = V2 at *
      generalize gT (dPs a b c) (sgT a * dT a b c d) (sgT a * (3 * a * x + b)) = G1 at *
      generalize gT (dPs a b c) (sgT a * dT a b c d) (sgT a * (3 * a * y + b)) = G2 at *
      generalize evL [d, c, b, a] x = E1 at *
      generalize evL [d, c, b, a] y = E2 at *
      clear hV hhi hlo hmono hzero hg h1 h2 e hD4 ss4 hd4 hp4
      generalize sgT a = S at *
      omega
    · rw [h1, hV, ← changes_sgT a [d, c, b, a]]
      have e1 : dPs (sgT a * a) (sgT a * b) (sgT a * c) = dPs a b c := by unfold dPs; grind
      have e2 : dT (sgT a * a) (sgT a * b) (sgT a * c) (sgT a * d) = sgT a * dT a b c d := by unfold dT; grind
      have k := desc_pos (a := sgT a * a) (b := sgT a * b) (c := sgT a * c) (d := sgT a * d) sa (by rw [e1, e2]; exact hp4)
      rw [e1, e2] at k
      rw [show sgT a * (3 * a * 0 + b) = sgT a * b by grind, Nat.zero_add]
      exact k
end
end Go.Rk
