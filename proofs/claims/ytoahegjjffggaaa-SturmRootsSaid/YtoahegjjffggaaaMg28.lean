/-
  Whole factors made of whole numbers at which they come to 0: each is counted once. No program in sight.
  SturmRoots walked: each number at which it comes to 0 is counted once.
-/
import Derived.Test.YtoahegjjffggaaaRows
import Derived.BigQuiet
import Derived.StillTailTactics
import Derived.Test.YtoahegjjffggaaaMg0
import Derived.Test.YtoahegjjffggaaaMg2
import Derived.Test.YtoahegjjffggaaaMg13
import Derived.Test.YtoahegjjffggaaaMg21
import Derived.Test.YtoahegjjffggaaaMg23
namespace Go.Rk
open Go.RowKit Go.Proofs.Ytoahegjjffggaaa

/-- Times x less r. -/
def mulR (f : List Int) (r : Int) : List Int := rowF (fun j => (if 1 ≤ j then ix f (j - 1) else 0) - r * ix f j) (f.length + 1)
def rF (t : Int) (l : List Int) : Nat → List Int
  | 0 => [t]
  | i + 1 => mulR (rF t l i) (ix l i)
theorem mulR_len (f : List Int) (r : Int) : (mulR f r).length = f.length + 1 := rowF_len _ _
theorem rF_len (t : Int) (l : List Int) : ∀ i, (rF t l i).length = i + 1
  | 0 => rfl
  | i + 1 => by rw [rF, mulR_len, rF_len t l i]
theorem rF_top (t : Int) (l : List Int) : ∀ i, topL (rF t l i) = t
  | 0 => rfl
  | i + 1 => by
    have h := rF_top t l i
    unfold topL at h ⊢
    rw [rF_len] at h ⊢
    rw [rF]
    unfold mulR
    rw [rF_len, rowF_ix (by omega), if_pos (by omega)]
    have e : ix (rF t l i) (i + 1) = 0 := ix_ge (by rw [rF_len]; exact Nat.le_refl _)
    show ix (rF t l i) i - ix l i * ix (rF t l i) (i + 1) = t
    rw [e, Int.mul_zero, Int.sub_zero]
    exact h
theorem mulR_cons (f : List Int) (r : Int) : mulR f r = -(r * ix f 0) :: rowF (fun j => ix f j - r * ix f (j + 1)) f.length := by
  refine ix_ext (by rw [mulR_len, List.length_cons, rowF_len]) fun k hk => ?_
  rw [mulR_len] at hk
  unfold mulR
  rw [rowF_ix hk]
  match k with
  | 0 => rw [if_neg (by decide)]; show 0 - r * ix f 0 = -(r * ix f 0); omega
  | k + 1 =>
    show _ = ix (rowF (fun j => ix f j - r * ix f (j + 1)) f.length) k
    rw [rowF_ix (by omega), if_pos (by omega)]
    rfl
theorem rF_1 (t r : Int) : rF t [r] 1 = [-(t * r), t] := by
  show mulR [t] r = _
  rw [mulR_cons]
  show [-(r * t), t - r * 0] = _
  rw [Int.mul_zero, Int.sub_zero, Int.mul_comm]
theorem rF_2 (t r s : Int) : rF t [r, s] 2 = [t * (r * s), -(t * (r + s)), t] := by
  have h : rF t [r, s] 2 = mulR (rF t [r] 1) s := rfl
  rw [h, rF_1, mulR_cons]
  show [-(s * -(t * r)), -(t * r) - s * t, t - s * 0] = _
  refine congr (congrArg _ ?_) (congr (congrArg _ ?_) (congr (congrArg _ ?_) rfl)) <;> grind
theorem rF_3 (t r s u : Int) : rF t [r, s, u] 3 = [-(t * (r * s * u)), t * (r * s + r * u + s * u), -(t * (r + s + u)), t] := by
  have h : rF t [r, s, u] 3 = mulR (rF t [r, s] 2) u := rfl
  rw [h, rF_2, mulR_cons]
  show [-(u * (t * (r * s))), t * (r * s) - u * -(t * (r + s)), -(t * (r + s)) - u * t, t - u * 0] = _
  refine congr (congrArg _ ?_) (congr (congrArg _ ?_) (congr (congrArg _ ?_) (congr (congrArg _ ?_) rfl))) <;> grind

/-- How many are new. -/
def allN (l : List Int) : Nat → Nat
  | 0 => 0
  | i + 1 => allN l i + (if hasB (ix l i) (l.take i) = true then 0 else 1)
def wantN (l : List Int) (x y : Int) : Nat → Nat
  | 0 => 0
  | i + 1 => wantN l x y i + (if hasB (ix l i) (l.take i) = true then 0 else if x < ix l i ∧ ix l i ≤ y then 1 else 0)

section
variable {f : List Int} {L : List (List Int)} {r s u : Int}
theorem V_0 (h : Stm f L) (hn : nR f = 0) (x y : Int) : VL L x = VL L y := by
  have := h.tot; have := h.top x; have := h.top y; have := h.low x; have := h.low y
  omega
theorem V_1 (h : Stm f L) (hn : nR f = 1) (hr : evL f r = 0) (x : Int) : VL L x = hiL L + one (x < r) := by
  have h1 := h.tot; have h2 := h.top x; have h3 := h.low x
  have h4 := h.top (r - 1); have h5 := h.low r
  have h6 := h.zero (r - 1) r (by omega) hr
  have h7 := h.zero x r
  have h8 := h.mono r x
  rcases Int.lt_or_le x r with e | e
  · have := h7 e hr
    rw [one_t e]; omega
  · have := h8 e
    rw [one_f (by omega)]; omega
theorem V_2 (h : Stm f L) (hn : nR f = 2) (hr : evL f r = 0) (hs : evL f s = 0) (hrs : r ≠ s) (x : Int) : VL L x = hiL L + one (x < r) + one (x < s) := by
  have h1 := h.tot; have h2 := h.top x; have h3 := h.low x
  have a1 := h.top (r - 1); have a2 := h.low r; have a3 := h.zero (r - 1) r (by omega) hr
  have b1 := h.top (s - 1); have b2 := h.low s; have b3 := h.zero (s - 1) s (by omega) hs
  have c1 : x < r → VL L r < VL L x := fun e => h.zero x r e hr
  have c2 : x < s → VL L s < VL L x := fun e => h.zero x s e hs
  have c3 : r < s → VL L s < VL L r := fun e => h.zero r s e hs
  have c4 : s < r → VL L r < VL L s := fun e => h.zero s r e hr
  have c5 := h.mono r x
  have c6 := h.mono s x
  have o1 := one_cases (x < r)
  have o2 := one_cases (x < s)
  omega
theorem V_3 (h : Stm f L) (hn : nR f = 3) (hr : evL f r = 0) (hs : evL f s = 0) (hu : evL f u = 0) (hrs : r ≠ s) (hru : r ≠ u) (hsu : s ≠ u) (x : Int) : VL L x = hiL L + one (x < r) + one (x < s) + one (x < u) := by
  have h1 := h.tot; have h2 := h.top x; have h3 := h.low x
  have a1 := h.top (r - 1); have a2 := h.low r; have a3 := h.zero (r - 1) r (by omega) hr
  have b1 := h.top (s - 1); have b2 := h.low s; have b3 := h.zero (s - 1) s (by omega) hs
  have d1 := h.top (u - 1); have d2 := h.low u; have d3 := h.zero (u - 1) u (by omega) hu
  have c1 : x < r → VL L r < VL L x := fun e => h.zero x r e hr
  have c2 : x < s → VL L s < VL L x := fun e => h.zero x s e hs
  have c3 : x < u → VL L u < VL L x := fun e => h.zero x u e hu
  have e1 : r < s → VL L s < VL L r := fun e => h.zero r s e hs
  have e2 : s < r → VL L r < VL L s := fun e => h.zero s r e hr
  have e3 : r < u → VL L u < VL L r := fun e => h.zero r u e hu
  have e4 : u < r → VL L r < VL L u := fun e => h.zero u r e hr
  have e5 : s < u → VL L u < VL L s := fun e => h.zero s u e hu
  have e6 : u < s → VL L s < VL L u := fun e => h.zero u s e hs
  have c5 := h.mono r x
  have c6 := h.mono s x
  have c7 := h.mono u x
  have o1 := one_cases (x < r)
  have o2 := one_cases (x < s)
  have o3 := one_cases (x < u)
  clear h hr hs hu
  generalize VL L (r - 1) = v1 at *
  generalize VL L (s - 1) = v2 at *
  generalize VL L (u - 1) = v3 at *
  generalize VL L r = vr at *
  generalize VL L s = vs at *
  generalize VL L u = vu at *
  generalize VL L x = vx at *
  omega
theorem part_one {x y r : Int} (h : x ≤ y) : one (x < r) = one (y < r) + (if x < r ∧ r ≤ y then 1 else 0) := by
  have o1 := one_cases (x < r)
  have o2 := one_cases (y < r)
  split <;> omega
end
theorem hasB_nil (n : Int) : hasB n [] = false := rfl
theorem hasB_one {n a : Int} : hasB n [a] = true ↔ a = n := by unfold hasB; simp
theorem hasB_two {n a b : Int} : hasB n [a, b] = true ↔ a = n ∨ b = n := by unfold hasB; simp
theorem roots_main {t : Int} {l : List Int} (ht : t ≠ 0) (h3 : l.length ≤ 3) : nR (rF t l l.length) = allN l l.length ∧ ∀ L, Stm (rF t l l.length) L → ∀ x y, x ≤ y → VL L x = VL L y + wantN l x y l.length := by
  have t2 := sqz_pos ht
  rcases (show l.length = 0 ∨ l.length = 1 ∨ l.length = 2 ∨ l.length = 3 by omega) with e | e | e | e
  · rw [List.eq_nil_of_length_eq_zero e]
    exact ⟨rfl, fun L h x y _ => V_0 h rfl x y⟩
  · obtain ⟨r, rfl⟩ := len_1 e
    show nR (rF t [r] 1) = 0 + (if hasB r [] = true then 0 else 1) ∧ _
    refine ⟨by rw [rF_1]; rfl, fun L h x y hxy => ?_⟩
    show _ = _ + (0 + (if hasB r [] = true then 0 else if x < r ∧ r ≤ y then 1 else 0))
    change Stm (rF t [r] 1) L at h
    rw [rF_1] at h
    have hr : evL [-(t * r), t] r = 0 := by simp only [evL]; grind
    rw [V_1 h rfl hr x, V_1 h rfl hr y, part_one (r := r) hxy, if_neg (show ¬ hasB r [] = true by rw [hasB_nil]; simp)]
    omega
  · obtain ⟨r, s, rfl⟩ := len_2 e
    show nR (rF t [r, s] 2) = 0 + (if hasB r [] = true then 0 else 1) + (if hasB s [r] = true then 0 else 1) ∧ _
    have eD : -(t * (r + s)) * -(t * (r + s)) - 4 * t * (t * (r * s)) = (t * t) * ((r - s) * (r - s)) := by grind
    have hr : evL [t * (r * s), -(t * (r + s)), t] r = 0 := by simp only [evL]; grind
    have hs : evL [t * (r * s), -(t * (r + s)), t] s = 0 := by simp only [evL]; grind
    by_cases hrs : r = s
    · have hn : nR [t * (r * s), -(t * (r + s)), t] = 1 := by
        rw [nR, eD, hrs, Int.sub_self, Int.mul_zero, Int.mul_zero]; rfl
      refine ⟨by rw [rF_2, hn, if_neg (show ¬ hasB r [] = true by rw [hasB_nil]; simp), if_pos (hasB_one.2 hrs)], fun L h x y hxy => ?_⟩
      show _ = _ + (0 + (if hasB r [] = true then 0 else if x < r ∧ r ≤ y then 1 else 0) + (if hasB s [r] = true then 0 else if x < s ∧ s ≤ y then 1 else 0))
      change Stm (rF t [r, s] 2) L at h
      rw [rF_2] at h
      rw [V_1 h hn hr x, V_1 h hn hr y, part_one (r := r) hxy, if_neg (show ¬ hasB r [] = true by rw [hasB_nil]; simp), if_pos (hasB_one.2 hrs)]
      omega
    · have hn : nR [t * (r * s), -(t * (r + s)), t] = 2 := by
        rw [nR, eD, if_pos]
        exact Int.mul_pos t2 (sqz_pos (by omega))
      refine ⟨by rw [rF_2, hn, if_neg (show ¬ hasB r [] = true by rw [hasB_nil]; simp), if_neg (fun q => hrs (hasB_one.1 q))], fun L h x y hxy => ?_⟩
      show _ = _ + (0 + (if hasB r [] = true then 0 else if x < r ∧ r ≤ y then 1 else 0) + (if hasB s [r] = true then 0 else if x < s ∧ s ≤ y then 1 else 0))
      change Stm (rF t [r, s] 2) L at h
      rw [rF_2] at h
      rw [V_2 h hn hr hs hrs x, V_2 h hn hr hs hrs y, part_one (r := r) hxy, part_one (r := s) hxy, if_neg (show ¬ hasB r [] = true by rw [hasB_nil]; simp), if_neg (fun q => hrs (hasB_one.1 q))]
      omega
  · obtain ⟨r, s, u, rfl⟩ := len_3 e
    show nR (rF t [r, s, u] 3) = 0 + (if hasB r [] = true then 0 else 1) + (if hasB s [r] = true then 0 else 1) + (if hasB u [r, s] = true then 0 else 1) ∧ _
    have eD : dD t (-(t * (r + s + u))) (t * (r * s + r * u + s * u)) (-(t * (r * s * u))) = ((t * t) * (t * t)) * (((r - s) * (r - u) * (s - u)) * ((r - s) * (r - u) * (s - u))) := by unfold dD; grind
    have eP : 2 * dPs t (-(t * (r + s + u))) (t * (r * s + r * u + s * u)) = (t * t) * ((r - s) * (r - s) + (r - u) * (r - u) + (s - u) * (s - u)) := by unfold dPs; grind
    have hr : evL [-(t * (r * s * u)), t * (r * s + r * u + s * u), -(t * (r + s + u)), t] r = 0 := by simp only [evL]; grind
    have hs : evL [-(t * (r * s * u)), t * (r * s + r * u + s * u), -(t * (r + s + u)), t] s = 0 := by simp only [evL]; grind
    have hu : evL [-(t * (r * s * u)), t * (r * s + r * u + s * u), -(t * (r + s + u)), t] u = 0 := by simp only [evL]; grind
    have n1 := sq_nn (r - s)
    have n2 := sq_nn (r - u)
    have n3 := sq_nn (s - u)
    have hr0 : ¬ hasB r [] = true := by rw [hasB_nil]; simp
    have eq0 : ¬ (r ≠ s ∧ r ≠ u ∧ s ≠ u) → dD t (-(t * (r + s + u))) (t * (r * s + r * u + s * u)) (-(t * (r * s * u))) = 0 := fun q => by
      rw [eD]
      have : (r - s) * (r - u) * (s - u) = 0 := by
        by_cases q1 : r = s
        · rw [q1, Int.sub_self, Int.zero_mul, Int.zero_mul]
        · by_cases q2 : r = u
          · rw [q2, Int.sub_self, Int.mul_zero, Int.zero_mul]
          · have q3 : s = u := Classical.byContradiction fun q3 => q ⟨q1, q2, q3⟩
            rw [q3, Int.sub_self, Int.mul_zero]
      rw [this, Int.mul_zero, Int.mul_zero]
    have two : ∀ _ : ¬ (r ≠ s ∧ r ≠ u ∧ s ≠ u), ∀ _ : ¬ (r = s ∧ r = u), nR [-(t * (r * s * u)), t * (r * s + r * u + s * u), -(t * (r + s + u)), t] = 2 := fun q1 q2 => by
      rw [nR, eq0 q1, if_neg (by omega), if_pos]
      refine ⟨rfl, fun q => ?_⟩
      rw [q, Int.mul_zero] at eP
      rcases Int.mul_eq_zero.1 eP.symm with q3 | q3
      · omega
      · by_cases q4 : r = s
        · have := sqz_pos (show r - u ≠ 0 from fun q5 => q2 ⟨q4, by omega⟩); omega
        · have := sqz_pos (show r - s ≠ 0 by omega); omega
    by_cases hrs : r = s
    · by_cases hru : r = u
      · have hn : nR [-(t * (r * s * u)), t * (r * s + r * u + s * u), -(t * (r + s + u)), t] = 1 := by
          have eP0 : dPs t (-(t * (r + s + u))) (t * (r * s + r * u + s * u)) = 0 := by
            rw [← hrs, ← hru, Int.sub_self, Int.mul_zero] at eP
            rw [← hrs, ← hru]
            omega
          rw [nR, eq0 (fun q => q.1 hrs), eP0, if_neg (by omega), if_neg (fun q => q.2 rfl)]
        refine ⟨by rw [rF_3, hn, if_neg hr0, if_pos (hasB_one.2 hrs), if_pos (hasB_two.2 (.inl hru))], fun L h x y hxy => ?_⟩
        show _ = _ + (0 + (if hasB r [] = true then 0 else if x < r ∧ r ≤ y then 1 else 0) + (if hasB s [r] = true then 0 else if x < s ∧ s ≤ y then 1 else 0) + (if hasB u [r, s] = true then 0 else if x < u ∧ u ≤ y then 1 else 0))
        change Stm (rF t [r, s, u] 3) L at h
        rw [rF_3] at h
        rw [V_1 h hn hr x, V_1 h hn hr y, part_one (r := r) hxy, if_neg hr0, if_pos (hasB_one.2 hrs), if_pos (hasB_two.2 (.inl hru))]
        omega
      · have hn := two (fun q => q.1 hrs) (fun q => hru q.2)
        have hu2 : ¬ hasB u [r, s] = true := fun q => by rcases hasB_two.1 q with q | q <;> omega
        refine ⟨by rw [rF_3, hn, if_neg hr0, if_pos (hasB_one.2 hrs), if_neg hu2], fun L h x y hxy => ?_⟩
        show _ = _ + (0 + (if hasB r [] = true then 0 else if x < r ∧ r ≤ y then 1 else 0) + (if hasB s [r] = true then 0 else if x < s ∧ s ≤ y then 1 else 0) + (if hasB u [r, s] = true then 0 else if x < u ∧ u ≤ y then 1 else 0))
        change Stm (rF t [r, s, u] 3) L at h
        rw [rF_3] at h
        rw [V_2 h hn hr hu hru x, V_2 h hn hr hu hru y, part_one (r := r) hxy, part_one (r := u) hxy, if_neg hr0, if_pos (hasB_one.2 hrs), if_neg hu2]
        omega
    · have hs2 : ¬ hasB s [r] = true := fun q => hrs (hasB_one.1 q)
      by_cases hu2 : r = u ∨ s = u
      · have hn := two (fun q => by omega) (fun q => hrs q.1)
        refine ⟨by rw [rF_3, hn, if_neg hr0, if_neg hs2, if_pos (hasB_two.2 hu2)], fun L h x y hxy => ?_⟩
        show _ = _ + (0 + (if hasB r [] = true then 0 else if x < r ∧ r ≤ y then 1 else 0) + (if hasB s [r] = true then 0 else if x < s ∧ s ≤ y then 1 else 0) + (if hasB u [r, s] = true then 0 else if x < u ∧ u ≤ y then 1 else 0))
        change Stm (rF t [r, s, u] 3) L at h
        rw [rF_3] at h
        rw [V_2 h hn hr hs hrs x, V_2 h hn hr hs hrs y, part_one (r := r) hxy, part_one (r := s) hxy, if_neg hr0, if_neg hs2, if_pos (hasB_two.2 hu2)]
        omega
      · have hru : r ≠ u := fun q => hu2 (.inl q)
        have hsu : s ≠ u := fun q => hu2 (.inr q)
        have hn : nR [-(t * (r * s * u)), t * (r * s + r * u + s * u), -(t * (r + s + u)), t] = 3 := by
          rw [nR, eD, if_pos]
          exact Int.mul_pos (Int.mul_pos t2 t2) (sqz_pos (mul_nz (mul_nz (by omega) (by omega)) (by omega)))
        have hu3 : ¬ hasB u [r, s] = true := fun q => hu2 (hasB_two.1 q)
        refine ⟨by rw [rF_3, hn, if_neg hr0, if_neg hs2, if_neg hu3], fun L h x y hxy => ?_⟩
        show _ = _ + (0 + (if hasB r [] = true then 0 else if x < r ∧ r ≤ y then 1 else 0) + (if hasB s [r] = true then 0 else if x < s ∧ s ≤ y then 1 else 0) + (if hasB u [r, s] = true then 0 else if x < u ∧ u ≤ y then 1 else 0))
        change Stm (rF t [r, s, u] 3) L at h
        rw [rF_3] at h
        rw [V_3 h hn hr hs hu hrs hru hsu x, V_3 h hn hr hs hu hrs hru hsu y, part_one (r := r) hxy, part_one (r := s) hxy, part_one (r := u) hxy, if_neg hr0, if_neg hs2, if_neg hu3]
        omega
end Go.Rk
namespace Go.Proofs.Ytoahegjjffggaaa
open Go.RowKit Go.Rk

theorem mulR_is {F P : List Int} {R : Int} {i : Nat} (hl : P.length = i + 1 + 1) (hF : F.length = i + 1) (h : ∀ j, ix P j = (if 1 ≤ j ∧ j ≤ i + 1 then ix F (j - 1) else 0) - (if j < i + 1 then R * ix F j else 0)) : P = mulR F R := by
  refine ix_ext (by rw [mulR_len, hl, hF]) fun j hj => ?_
  rw [hl] at hj
  unfold mulR
  rw [rowF_ix (by omega), h]
  congr 1
  · by_cases e : 1 ≤ j
    · rw [if_pos e, if_pos ⟨e, by omega⟩]
    · rw [if_neg e, if_neg (fun q => e q.1)]
  · by_cases e : j < i + 1
    · rw [if_pos e]
    · rw [if_neg e, ix_ge (l := F) (by omega), Int.mul_zero]
theorem mulR_in {F : List Int} {R : Int} {B : Nat} (hi : In (-(B : Int)) B F) (hR : -20 ≤ R ∧ R ≤ 20) : In (-((21 * B : Nat) : Int)) ((21 * B : Nat) : Int) (mulR F R) := fun j hj => by
  rw [mulR_len] at hj
  unfold mulR
  rw [rowF_ix hj]
  have hb : ∀ k, -(B : Int) ≤ ix F k ∧ ix F k ≤ B := fun k => by
    rcases Nat.lt_or_ge k F.length with e | e
    · exact hi k e
    · rw [ix_ge e]; omega
  have p := prod_bd' hR (hb j)
  have := hb (j - 1)
  split <;> omega
theorem roots_all_out {f : List Int} {x : Int} (h : wholeR f = some x) (h1 : 1 ≤ f.length) (h4 : f.length ≤ 4) (ht : topL f ≠ 0) : allB (-20) 20 f = false := by
  rcases hb : allB (-20) 20 f with _ | _
  · rfl
  · rw [wholeR_ok h1 h4 (allB_in hb) ht] at h
    cases h

set_option maxHeartbeats 8000000 in
set_option maxRecDepth 100000 in
theorem sturmRoots_walk {p0 : Option Addr} {n ca : Nat} {l : List Int} {t x y : Int} {w : World} (hf : RdI w p0 n ca l) (_ : Fit l) (_ : (Lit.int .i64 t).wf = true) (_ : (Lit.int .i64 x).wf = true) (_ : (Lit.int .i64 y).wf = true) :
    Calls Try.prog 6 #[.slice p0 n ca, .int .i64 t, .int .i64 x, .int .i64 y] w fun e w' => e = .returned (.bool true) ∧ Below w.heap.size w w' := by
  have HM := Lib.hid intTy
  have hmx := hf.len_max
  go_enter Try.func6, Try.ntmps6
  go_wp2_with (go_at_call 21; fail)
  refine (sturmFact_any w).mono ?_
  rintro e w1 ⟨rfl, k1⟩
  by_cases h3 : 3 < n
  · have i3 : (3 : Int) < (n : Int) := by omega
    go_wp2
    go_ret
    exact ⟨rfl, k1⟩
  have i3 : (n : Int) ≤ 3 := by omega
  have CA := R_All_any (-20) 20 (hf.below k1)
  rcases ha : allB (-20) 20 l with _ | _
  · rw [ha] at CA
    have CA := Lib.hid CA
    clear ha h3
    go_wp2_with (go_at_call 18; (with_reducible refine CA.out.mono ?_); clear CA; rintro e w' ⟨rfl, rfl⟩)
    go_ret
    exact ⟨rfl, k1⟩
  rw [ha] at CA
  have HI := Lib.hid (allB_in ha)
  have CA := Lib.hid CA
  have CI := L3_in_any t (-20) 20
  rcases hb : inB t (-20) 20 with _ | _
  · rw [hb] at CI
    have CI := Lib.hid CI
    clear ha h3 hb
    go_wp2_with (first | (go_at_call 18; (with_reducible refine CA.out.mono ?_); clear CA; rintro e w' ⟨rfl, rfl⟩) | (go_at_call 16; (with_reducible refine (CI.out _).mono ?_); clear CI; rintro e w' ⟨rfl, rfl⟩))
    go_ret
    exact ⟨rfl, k1⟩
  rw [hb] at CI
  have CI := Lib.hid CI
  have bt := inB_true hb
  by_cases ht : t = 0
  · have z : (t == 0) = true := beq_iff_eq.2 ht
    clear ha h3 hb ht bt
    go_wp2_with (first | (go_at_call 18; (with_reducible refine CA.out.mono ?_); clear CA; rintro e w' ⟨rfl, rfl⟩) | (go_at_call 16; (with_reducible refine (CI.out _).mono ?_); clear CI; rintro e w' ⟨rfl, rfl⟩))
    go_ret
    exact ⟨rfl, k1⟩
  have z : (t == 0) = false := beq_eq_false_iff_ne.2 ht
  have HL := Lib.hid hf.len_eq
  have HM1 := Lib.hid (roots_main (t := t) (l := l) ht (by rw [hf.len_eq]; omega))
  have HT := Lib.hid ht
  have hn3 : n ≤ 3 := by omega
  have HB0 : Hid (In (-((20 * 21 ^ 0 : Nat) : Int)) ((20 * 21 ^ 0 : Nat) : Int) (rF t l 0)) := by
    refine in_1 ?_
    show -((20 : Nat) : Int) ≤ t ∧ t ≤ ((20 : Nat) : Int)
    omega
  clear ha h3 hb ht bt
  go_wp2_with (first | (go_at_call 18; (with_reducible refine CA.out.mono ?_); clear CA; rintro e w' ⟨rfl, rfl⟩) | (go_at_call 16; (with_reducible refine (CI.out _).mono ?_); clear CI; rintro e w' ⟨rfl, rfl⟩))
  have r1 : RdI (w1.alloc (.cells #[.int .i64 t] 3)) (some ⟨w1.heap.size, 0, none⟩) 1 1 (rF t l 0) := RdI.lit w1 [t] _ (by simp; decide)
  have k2 := below_al k1 (.cells #[.int .i64 t] 3)
  generalize w1.alloc (.cells #[.int .i64 t] 3) = w2 at *
  generalize w1.heap.size = g1 at *
  go_loopw [10, 11] (fun v z wt => ∃ (i : Nat) (q : Option Addr) (c : Nat), i ≤ n ∧ z = .int .i64 i ∧ v = .slice q (i + 1) c ∧ RdI wt q (i + 1) c (rF t l i) ∧ Hid (In (-((20 * 21 ^ i : Nat) : Int)) ((20 * 21 ^ i : Nat) : Int) (rF t l i)) ∧ Below w.heap.size w wt) (fun _ z _ => n - (intOf z).toNat)
  case atStart => exact ⟨0, some ⟨g1, 0, none⟩, 1, Nat.zero_le _, rfl, rfl, r1, HB0, k2⟩
  case round =>
    clear r1 k2 HB0
    obtain ⟨i, q, c, hi, rfl, rfl, hF, hFB, hb⟩ := hrel
    obtain ⟨wo, hwo⟩ : ∃ x, x = wr := ⟨_, rfl⟩
    subst hwo
    by_cases hlt : i < n
    · have j1 : (i : Int) < (n : Int) := by omega
      obtain ⟨br, or_, rfl, hbr, hcr⟩ := hf.at hlt
      have yr := hb.keep hbr (hcr i hlt)
      have bR := HI.out i (by rw [HL.out]; exact hlt)
      have HS : Hid (rF t l (i + 1) = mulR (rF t l i) (ix l i)) := rfl
      obtain ⟨R, hR⟩ : ∃ R, ix l i = R := ⟨_, rfl⟩
      rw [hR] at yr bR HS
      have HR := Lib.hid hR
      have HcR := Lib.hid hcr
      have hFl : (rF t l i).length = i + 1 := rF_len t l i
      obtain ⟨F, hFe⟩ : ∃ F, rF t l i = F := ⟨_, rfl⟩
      rw [hFe] at hF hFB HS hFl
      have HFl := Lib.hid hFl
      obtain ⟨B, hB⟩ : ∃ B, 20 * 21 ^ i = B := ⟨_, rfl⟩
      have hB8 : B ≤ 8820 := by
        rw [← hB]
        rcases (show i = 0 ∨ i = 1 ∨ i = 2 by omega) with e | e | e <;> rw [e] <;> decide
      have hB2 : Hid (20 * 21 ^ (i + 1) = 21 * B) := by unfold Hid; rw [← hB, Nat.pow_succ]; omega
      rw [hB] at hFB
      have hob := hF
      clear hR hcr hFe hB hFl
      go_wp2_with (first | (at_make; refine wpList_make_ints HM.out rfl (.tmp 50) (.tmp 50) (n := i + 1 + 1) rfl rfl rfl (by omega) ?_; intro w3 ho3 hb3))
      have P0 : Hid (∀ j, ix (List.replicate (i + 1 + 1) (0 : Int)) j = (if 1 ≤ j ∧ j ≤ 0 then ix F (j - 1) else 0) - (if j < 0 then R * ix F j else 0)) := fun j => by
        rw [if_neg (by omega), if_neg (Nat.not_lt_zero j)]
        rcases Nat.lt_or_ge j (i + 1 + 1) with e | e
        · rw [ix_lt (by simpa using e)]; simp
        · rw [ix_ge (by simpa using e)]; rfl
      go_loopw [13] (fun z wt => ∃ (k : Nat) (P : List Int), k ≤ i + 1 ∧ z = .int .i64 k ∧ OwI wt wo.heap.size 3 (some ⟨wo.heap.size, 0, none⟩) (i + 1 + 1) (i + 1 + 1) P ∧ Hid (∀ j, ix P j = (if 1 ≤ j ∧ j ≤ k then ix F (j - 1) else 0) - (if j < k then R * ix F j else 0)) ∧ Below wo.heap.size wo wt) (fun z _ => i + 1 - (intOf z).toNat)
      case atStart => exact ⟨0, _, Nat.zero_le _, rfl, ho3, P0, hb3⟩
      case round =>
        clear ho3 P0 hb3 yr
        obtain ⟨k, P, hk, rfl, hO, hP, hbt⟩ := hrel
        by_cases hlk : k < i + 1
        · have l1 : (k : Int) < ((i + 1 : Nat) : Int) := by omega
          have l2 : (k : Int) < (i : Int) + 1 := by omega
          have l3 : (k : Int) + 1 < ((i + 1 + 1 : Nat) : Int) := by omega
          have l4 : (k : Int) + 1 < (i : Int) + 1 + 1 := by omega
          have l5 : (k : Int) < ((i + 1 + 1 : Nat) : Int) := by omega
          have l6 : (k : Int) < (i : Int) + 1 + 1 := by omega
          have t1 : ((k : Int) + 1).toNat = k + 1 := by omega
          have kt := below_tr hb hbt
          obtain ⟨bf, of_, rfl, hbf, hcF⟩ := hF.at hlk
          have yF := hbt.keep hbf (hcF k hlk)
          have bX := hFB.out k (by rw [HFl.out]; exact hlk)
          obtain ⟨X, hX⟩ : ∃ X, ix F k = X := ⟨_, rfl⟩
          rw [hX] at yF bX
          have yF0 : Hid (wo.cell? ⟨bf, of_ + k, none⟩ = some (.int .i64 X)) := by unfold Hid; rw [← hX]; exact hcF k hlk
          obtain ⟨gz, hz, hgz, _, hcO, hfO⟩ := hO.at (by omega)
          cases hz
          have x1 := hcO (k + 1) (by omega)
          have f1 := hfO (k + 1)
          have eS : ix P (k + 1) = 0 := by rw [hP.out, if_neg (by omega), if_neg (by omega)]; rfl
          rw [eS] at x1
          have HLP := Lib.hid hO.len_eq
          have u1 : IntKind.i64.wrap X = X := Go.IntWalk.i64_in _ (by omega)
          have u0 : IntKind.i64.wrap (0 + X) = X := by rw [Int.zero_add]; exact u1
          have uk : IntKind.i64.wrap ((k : Int) + 1) = (k : Int) + 1 := Go.IntWalk.i64_in _ (by omega)
          have l7 : (0 : Int) ≤ (k : Int) + 1 := by omega
          have hO1 := (hO.set (k := k + 1) X).drew
          have hb1 := (hbt.setCell (p := ⟨wo.heap.size, k + 1, none⟩) (Nat.le_refl _) (.int .i64 X)).drew
          obtain ⟨Q, hQ⟩ : ∃ Q, P.set (k + 1) X = Q := ⟨_, rfl⟩
          rw [hQ] at hO1
          have HQ : Hid (∀ j, ix Q j = if k + 1 = j then X else ix P j) := fun j => by
            rw [← hQ, ix_set, HLP.out]
            by_cases e : k + 1 = j
            · rw [if_pos ⟨e, by omega⟩, if_pos e]
            · rw [if_neg (fun q => e q.1), if_neg e]
          clear hQ hcO hfO hO hcF
          go_wp2
          go_still_tail 14, (by kernel_rfl)
          repeat still_step
          try refine wpStill_nil ?_
          change wpList _ _ _ _ _ wr.drew
          go_wp2
          clear x1 f1 u0 uk u1
          have k1t := below_tr hb hb1
          generalize (wr.setCell ⟨wo.heap.size, k + 1, none⟩ (.int .i64 X)).drew = W1 at *
          obtain ⟨gz, hz, _, _, hc1, hf1⟩ := hO1.at (by omega)
          cases hz
          have x2 := hc1 k (by omega)
          have f2 := hf1 k
          obtain ⟨S0, hS0⟩ : ∃ S, ix Q k = S := ⟨_, rfl⟩
          rw [hS0] at x2
          have eS0 : S0 = if 1 ≤ k ∧ k ≤ k then ix F (k - 1) else 0 := by
            rw [← hS0, HQ.out, if_neg (by omega), hP.out, if_neg (Nat.lt_irrefl k), Int.sub_zero]
          have bS0 : -8820 ≤ S0 ∧ S0 ≤ 8820 := by
            rw [eS0]
            split
            · have := hFB.out (k - 1) (by rw [HFl.out]; omega); omega
            · omega
          have yF2 := hb1.keep hbf yF0.out
          have yr2 := k1t.keep hbr (HcR.out i hlt)
          rw [HR.out] at yr2
          have pRX := prod_bd' (x := R) (y := X) (A := 20) (B := 8820) bR (by omega)
          have u2 : IntKind.i64.wrap (R * X) = R * X := Go.IntWalk.i64_in _ (by omega)
          have u3 : IntKind.i64.wrap (S0 - R * X) = S0 - R * X := Go.IntWalk.i64_in _ (by omega)
          have HLQ := Lib.hid hO1.len_eq
          have hO2 := (hO1.set (k := k) (S0 - R * X)).drew
          have hb2 := (hb1.setCell (p := ⟨wo.heap.size, k, none⟩) (Nat.le_refl _) (.int .i64 (S0 - R * X))).drew
          have HP2 : Hid (∀ j, ix (Q.set k (S0 - R * X)) j = (if 1 ≤ j ∧ j ≤ k + 1 then ix F (j - 1) else 0) - (if j < k + 1 then R * ix F j else 0)) := fun j => by
            rw [ix_set, HLQ.out, HQ.out]
            by_cases e1 : k = j
            · subst e1
              rw [if_pos ⟨rfl, by omega⟩, eS0, if_pos (Nat.lt_succ_self k), hX]
              congr 1
              by_cases e2 : 1 ≤ k
              · rw [if_pos ⟨e2, Nat.le_refl k⟩, if_pos ⟨e2, by omega⟩]
              · rw [if_neg (fun q => e2 q.1), if_neg (fun q => e2 q.1)]
            · rw [if_neg (fun q => e1 q.1)]
              by_cases e3 : k + 1 = j
              · subst e3
                rw [if_pos rfl, if_pos (by omega), if_neg (by omega), Int.sub_zero]
                exact hX.symm
              · rw [if_neg e3, hP.out]
                congr 1
                · by_cases e4 : 1 ≤ j ∧ j ≤ k
                  · rw [if_pos e4, if_pos (by omega)]
                  · rw [if_neg e4, if_neg (by omega)]
                · by_cases e5 : j < k
                  · rw [if_pos e5, if_pos (by omega)]
                  · rw [if_neg e5, if_neg (by omega)]
          clear hS0 eS0 bS0 hc1 hf1 hO1 hP HQ hX yF0 pRX
          go_still_tail 17, (by kernel_rfl)
          repeat still_step
          try refine wpStill_nil ?_
          change wpList _ _ _ _ _ W1.drew
          go_wp2
          go_roundw
          case rel => exact ⟨k + 1, _, by omega, by go_num, hO2, HP2.out, hb2⟩
          case measure => simp [intOf]; omega
        · obtain rfl : i + 1 = k := by omega
          have hE : Hid (P = rF t l (i + 1)) := by
            unfold Hid
            rw [HS.out]
            exact mulR_is hO.len_eq HFl.out hP.out
          have kt := below_tr hb hbt
          have hin2 : Hid (In (-((20 * 21 ^ (i + 1) : Nat) : Int)) ((20 * 21 ^ (i + 1) : Nat) : Int) (rF t l (i + 1))) := by
            unfold Hid
            rw [hB2.out, HS.out]
            exact mulR_in hFB.out bR
          rw [hE.out] at hO
          have hrd := hO.rd
          clear hO hP
          go_wp2
          go_roundw
          case rel => exact ⟨i + 1, some ⟨wo.heap.size, 0, none⟩, _, by omega, by go_num, rfl, hrd, hin2, kt⟩
          case measure => simp [intOf]; omega
    · obtain rfl : n = i := by omega
      have hlen : (rF t l n).length = n + 1 := rF_len t l n
      have htop : topL (rF t l n) ≠ 0 := by rw [rF_top]; exact HT.out
      have hmain := HM1.out
      rw [HL.out] at hmain
      have HMA := Lib.hid hmain.1
      have HMB := Lib.hid hmain.2
      obtain ⟨F, hFe⟩ : ∃ F, rF t l n = F := ⟨_, rfl⟩
      rw [hFe] at hF hlen htop HMA HMB
      have hFe' := Lib.hid hFe
      clear hFB hFe hmain
      go_wp2_with (go_at_call 22; fail)
      rcases ho : wholeR F with _ | e0
      rotate_left
      · have hao := roots_all_out ho (by omega) (by omega) htop
        have C := R_All_any (-20) 20 hF
        rw [hao] at C
        have C := Lib.hid C
        refine (sturm_All_err hF ho).mono ?_
        rintro e w2 ⟨rfl, rfl⟩
        clear ho hao htop
        go_wp2_with (go_at_call 18; (with_reducible refine C.out.mono ?_); clear C; rintro e w' ⟨rfl, rfl⟩)
        go_ret
        exact ⟨rfl, hb⟩
      have HO := Lib.hid ho
      refine (sturm_All_nR hF ho).mono ?_
      rintro e w2 ⟨rfl, b2⟩
      have k4 := below_tr hb b2
      have hF4 := hF.below b2
      rw [HMA.out]
      clear ho htop b2 hF hb
      go_wp2_with fail
      go_loopw [16, 17, 18] (fun u v z wt => ∃ i : Nat, i ≤ n ∧ u = .int .i64 (wantN l x y i : Int) ∧ v = .int .i64 (allN l i : Int) ∧ z = .int .i64 i ∧ wantN l x y i ≤ i ∧ allN l i ≤ i ∧ Below w2.heap.size w2 wt) (fun _ _ z _ => n - (intOf z).toNat)
      case atStart => exact ⟨0, Nat.zero_le _, rfl, rfl, rfl, Nat.le_refl _, Nat.le_refl _, Below.refl _ _⟩
      case round =>
        obtain ⟨i, hi, rfl, rfl, rfl, hw1, hw2, hb⟩ := hrel
        by_cases hlt : i < n
        · have j1 : (i : Int) < (n : Int) := by omega
          have kt := below_tr k4 hb
          have hr := hf.below kt
          have hrt := hr.take (n := i) (by omega)
          obtain ⟨br, or_, rfl, _, hcr⟩ := hr.at hlt
          have yr := hcr i hlt
          have hle := hr.le
          have i4 : (i : Int) ≤ (n : Int) := by omega
          have i5 : (i : Int) ≤ (ca : Int) := by omega
          have EA : Hid (allN l (i + 1) = allN l i + (if hasB (ix l i) (l.take i) = true then 0 else 1)) := rfl
          have EW : Hid (wantN l x y (i + 1) = wantN l x y i + (if hasB (ix l i) (l.take i) = true then 0 else if x < ix l i ∧ ix l i ≤ y then 1 else 0)) := rfl
          obtain ⟨R, hR⟩ : ∃ R, ix l i = R := ⟨_, rfl⟩
          rw [hR] at yr EA EW
          have HRe := Lib.hid hR
          obtain ⟨A, hA⟩ : ∃ A, allN l i = A := ⟨_, rfl⟩
          obtain ⟨W, hW⟩ : ∃ A, wantN l x y i = A := ⟨_, rfl⟩
          rw [hA] at EA hw2
          rw [hW] at EW hw1
          simp only [hA, hW]
          have CH : Hid (∀ q, Calls Try.prog 23 #[.slice (some ⟨br, or_, none⟩) i ca, .int .i64 R] (wr.drewN q) fun e w' => e = .returned (.bool (hasB R (l.take i))) ∧ wr.drewN q = w') := fun q => R_Has_any R (hrt.drewN q)
          rcases hh : hasB R (l.take i) with _ | _
          · rw [hh] at CH EA EW
            have eA : Hid (allN l (i + 1) = A + 1) := by unfold Hid; rw [EA.out, if_neg (by simp)]
            rw [if_neg (show ¬ false = true by simp)] at EW
            clear hA hW hR hh hcr hr hrt EA
            go_wp2_with fail
            go_quiet ((go_at_call 23; exact quietW (CH.out _)))
            have hb := below_drewN hb nq
            have kt := below_tr k4 hb
            have yr := (hf.below kt).at (k := i) hlt
            obtain ⟨br', or', he, _, hcr⟩ := yr
            cases he
            have yr := hcr i hlt
            rw [HRe.out] at yr
            clear hcr
            generalize wr.drewN nq = W2 at *
            by_cases c1 : x < R
            · by_cases c2 : R ≤ y
              · rw [if_pos ⟨c1, c2⟩] at EW
                go_wp2
                go_roundw
                case rel => exact ⟨i + 1, by omega, by rw [EW.out]; go_num, by rw [eA.out]; go_num, by go_num, by have := EW.out; omega, by have := eA.out; omega, hb⟩
                case measure => simp [intOf]; omega
              · rw [if_neg (fun q => c2 q.2)] at EW
                have c3 : y < R := by omega
                clear c2
                go_wp2
                go_roundw
                case rel => exact ⟨i + 1, by omega, by rw [EW.out]; go_num, by rw [eA.out]; go_num, by go_num, by have := EW.out; omega, by have := eA.out; omega, hb⟩
                case measure => simp [intOf]; omega
            · rw [if_neg (fun q => c1 q.1)] at EW
              have c3 : R ≤ x := by omega
              clear c1
              go_wp2
              go_roundw
              case rel => exact ⟨i + 1, by omega, by rw [EW.out]; go_num, by rw [eA.out]; go_num, by go_num, by have := EW.out; omega, by have := eA.out; omega, hb⟩
              case measure => simp [intOf]; omega
          · rw [hh] at CH EA EW
            have eA : Hid (allN l (i + 1) = A) := by unfold Hid; rw [EA.out, if_pos rfl]; rfl
            have eW : Hid (wantN l x y (i + 1) = W) := by unfold Hid; rw [EW.out, if_pos rfl]; rfl
            clear hA hW hR hh hcr hr hrt EA EW
            go_wp2_with fail
            go_quiet ((go_at_call 23; exact quietW (CH.out _)))
            have hb := below_drewN hb nq
            generalize wr.drewN nq = W2 at *
            go_wp2
            go_roundw
            case rel => exact ⟨i + 1, by omega, by rw [eW.out], by rw [eA.out], by go_num, by have := eW.out; omega, by have := eA.out; omega, hb⟩
            case measure => simp [intOf]; omega
        · obtain rfl : n = i := by omega
          have k5 := below_tr k4 hb
          have hF5 := hF4.below hb
          obtain ⟨A, hA⟩ : ∃ A, allN l n = A := ⟨_, rfl⟩
          obtain ⟨W, hW⟩ : ∃ A, wantN l x y n = A := ⟨_, rfl⟩
          rw [hW] at hw1
          simp only [hA, hW]
          have z0 : ((A : Int) != (A : Int)) = false := bne_eq_false_iff_eq.2 rfl
          have HW := Lib.hid hW
          clear hA hW
          go_wp2_with (go_at_call 24; fail)
          by_cases hr : InR x y
          · obtain ⟨h1, h4, hi0, ht0⟩ := wholeR_none HO.out
            obtain ⟨L, hS, hT⟩ := simp_stm h1 h4 hi0 ht0
            have hv := HMB.out L hT x y hr.2.2.1
            rw [HW.out] at hv
            refine (sturm_Count_ok hF5 HO.out hr hS).mono ?_
            rintro e w6 ⟨rfl, b6⟩
            have k6 := below_tr k5 b6
            rw [show (VL L x : Int) - (VL L y : Int) = (W : Int) by omega]
            have z1 : ((W : Int) == (W : Int)) = true := beq_iff_eq.2 rfl
            clear h1 h4 hi0 ht0 hS hT hv hr
            go_wp2
            go_ret
            exact ⟨rfl, k6⟩
          · refine (sturm_Count_out hF5 HO.out hr).mono ?_
            rintro e w6 ⟨rfl, rfl⟩
            have C1 := L3_in_any x (-100) 100
            have C2 := L3_in_any y x 100
            rcases g1 : inB x (-100) 100 with _ | _
            · rw [g1] at C1
              have C1 := Lib.hid C1
              clear g1 hr C2
              go_wp2_with (go_at_call 16; (with_reducible refine (C1.out _).mono ?_); clear C1; rintro e w' ⟨rfl, rfl⟩)
              go_ret
              exact ⟨rfl, k5⟩
            · have g2 : inB y x 100 = false := by
                rcases g2 : inB y x 100 with _ | _
                · rfl
                · have e1 := inB_true g1
                  have e2 := inB_true g2
                  exact absurd ⟨e1.1, e1.2, e2.1, e2.2⟩ hr
              rw [g1] at C1
              rw [g2] at C2
              have C1 := Lib.hid C1
              have C2 := Lib.hid C2
              clear g1 g2 hr
              go_wp2_with (go_at_call 16; first | ((with_reducible refine (C1.out _).mono ?_); clear C1; rintro e w' ⟨rfl, rfl⟩) | ((with_reducible refine (C2.out _).mono ?_); clear C2; rintro e w' ⟨rfl, rfl⟩))
              go_ret
              exact ⟨rfl, k5⟩
end Go.Proofs.Ytoahegjjffggaaa
