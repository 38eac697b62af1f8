/-
  Resultants of products: the powers' rests by a polynomial, and the determinant of what a polynomial does to them. No program in sight.
  Rows moved about as a whole; the resultant the other way round. Plain Lean on the words of the walks.
  Factors without noughts at their end, and their products, by the prime. No program in sight.
  What takes a product to noughts, and the product the other way round: by the prime the factors are the same. No program in sight.
-/
import Derived.Test.YtoahegjjffggaaaDoorMg3
import Derived.Test.YtoahegjjffggaaaDoorMg6
import Derived.Test.YtoahegjjffggaaaDoorMg7
import Derived.Test.YtoahegjjffggaaaDoorMg8
namespace Go.Rk
open Go.RowKit Go.Proofs.YtoahegjjffggaaaDoor

/-- The rests of the powers, hb: what the top power is less of each lower one. -/
def remP (m : Nat) (hb : Nat → Int) : Nat → Nat → Int
  | 0, s => if s = 0 then 1 else 0
  | e + 1, s => (if s = 0 then 0 else remP m hb e (s - 1)) - remP m hb e (m - 1) * hb s
def actP (m : Nat) (hb : Nat → Int) (f : Nat → Int) (L i s : Nat) : Int := sumTo (fun k => f k * remP m hb (i + k) s) L

theorem sumTo_subc (f g : Nat → Int) (c : Int) (n : Nat) : sumTo (fun k => f k - g k * c) n = sumTo f n - sumTo g n * c := by
  induction n with
  | zero => simp [sumTo]
  | succ n ih => simp only [sumTo]; rw [ih]; grind
theorem sumTo_rev (g : Nat → Int) (n : Nat) : sumTo g n = sumTo (fun i => g (n - 1 - i)) n := by
  induction n with
  | zero => rfl
  | succ n ih =>
    rw [sumTo_succ_left (fun i => g (n + 1 - 1 - i)), sumTo, ih, Int.add_comm]
    congr 1
    exact sumTo_congr fun i hi => by rw [show n + 1 - 1 - (i + 1) = n - 1 - i by omega]
theorem sumTo_window (φ : Nat → Int) {k L N : Nat} (h : k + L ≤ N) : sumTo (fun q => if k ≤ q ∧ q < k + L then φ q else 0) N = sumTo (fun l => φ (k + l)) L := by
  obtain ⟨r, rfl⟩ := Nat.le.dest h
  rw [sumTo_split, sumTo_split, sumTo_congr (n := k) (h := fun _ => 0) fun q hq => by rw [if_neg (by omega)], sumTo_zero,
    sumTo_congr (n := r) (h := fun _ => 0) fun q hq => by rw [if_neg (by omega)], sumTo_zero, Int.zero_add, Int.add_zero]
  exact sumTo_congr fun q hq => by rw [if_pos (by omega)]
theorem sumTo_pick' (g : Nat → Int) {n i : Nat} (hi : i < n) : sumTo (fun t => (if t = i then 1 else 0) * g t) n = g i := by
  rw [← sumTo_pick g hi]
  exact sumTo_congr fun t _ => by
    by_cases e : t = i
    · rw [if_pos e, if_pos e.symm]
    · rw [if_neg e, if_neg fun x => e x.symm]

section
variable {m : Nat} {hb h : Nat → Int} {o : Int}
theorem remP_low : ∀ e, e < m → ∀ s, s < m → remP m hb e s = if s = e then 1 else 0 := by
  intro e
  induction e with
  | zero => intro _ s _; rfl
  | succ e ih =>
    intro he s hs
    rw [remP, ih (by omega) (m - 1) (by omega), if_neg (show ¬ m - 1 = e by omega), Int.zero_mul, Int.sub_zero]
    by_cases h0 : s = 0
    · rw [if_pos h0, if_neg (by omega)]
    · rw [if_neg h0, ih (by omega) (s - 1) (by omega)]
      by_cases h1 : s = e + 1
      · rw [if_pos h1, if_pos (by omega)]
      · rw [if_neg h1, if_neg (by omega)]

theorem remP_rel (ho : Eqm (h m * o) 1) (hh : ∀ s, hb s = h s * o) : ∀ i s, s < m → Eqm (sumTo (fun k => h k * remP m hb (i + k) s) (m + 1)) 0 := by
  intro i
  induction i with
  | zero =>
    intro s hs
    obtain ⟨m', rfl⟩ : ∃ m', m = m' + 1 := ⟨m - 1, by omega⟩
    rw [sumTo, sumTo_congr (h := fun k => (if k = s then 1 else 0) * h k) fun k hk => by
      rw [Nat.zero_add, remP_low k hk s hs, Int.mul_comm]
      by_cases e : s = k
      · rw [if_pos e, if_pos e.symm]
      · rw [if_neg e, if_neg fun x => e x.symm], sumTo_pick' h hs, Nat.zero_add, remP, Nat.add_sub_cancel, remP_low m' (by omega) m' (by omega), if_pos rfl, Int.one_mul, hh]
    have e1 : (if s = 0 then 0 else remP (m' + 1) hb m' (s - 1)) = 0 := by
      by_cases e : s = 0
      · rw [if_pos e]
      · rw [if_neg e, remP_low m' (by omega) (s - 1) (by omega), if_neg (by omega)]
    rw [e1]
    have e2 := (Eqm.refl (h s)).mul ho
    have e3 := (Eqm.refl (h s)).sub e2
    rw [Int.mul_one, Int.sub_self] at e3
    exact (Eqm.of_eq (by grind)).trans e3
  | succ i ih =>
    intro s hs
    have e : sumTo (fun k => h k * remP m hb (i + 1 + k) s) (m + 1) = sumTo (fun k => h k * (if s = 0 then 0 else remP m hb (i + k) (s - 1))) (m + 1) - sumTo (fun k => h k * remP m hb (i + k) (m - 1)) (m + 1) * hb s := by
      rw [← sumTo_subc]
      exact sumTo_congr fun k _ => by rw [show i + 1 + k = (i + k) + 1 by omega, remP]; grind
    rw [e]
    have e1 : Eqm (sumTo (fun k => h k * (if s = 0 then 0 else remP m hb (i + k) (s - 1))) (m + 1)) 0 := by
      by_cases e : s = 0
      · rw [sumTo_congr (h := fun _ => 0) fun k _ => by rw [if_pos e, Int.mul_zero], sumTo_zero]; exact Eqm.refl _
      · rw [sumTo_congr (h := fun k => h k * remP m hb (i + k) (s - 1)) fun k _ => by rw [if_neg e]]
        exact ih (s - 1) (by omega)
    have := e1.sub ((ih (m - 1) (by omega)).mul (Eqm.refl (hb s)))
    rwa [Int.zero_mul, Int.sub_zero] at this

theorem remP_add (ho : Eqm (h m * o) 1) (hh : ∀ s, hb s = h s * o) : ∀ e l s, s < m → Eqm (remP m hb (e + l) s) (sumTo (fun t => remP m hb e t * remP m hb (t + l) s) m) := by
  intro e
  induction e with
  | zero =>
    intro l s hs
    have e1 : sumTo (fun t => remP m hb 0 t * remP m hb (t + l) s) m = remP m hb (0 + l) s := sumTo_pick' (fun t => remP m hb (t + l) s) (show 0 < m by omega)
    rw [e1]
    exact Eqm.refl _
  | succ e ih =>
    intro l s hs
    obtain ⟨m', rfl⟩ : ∃ m', m = m' + 1 := ⟨m - 1, by omega⟩
    rw [show e + 1 + l = e + (l + 1) by omega]
    refine (ih (l + 1) s hs).trans ?_
    have e1 : sumTo (fun t => remP (m' + 1) hb (e + 1) t * remP (m' + 1) hb (t + l) s) (m' + 1) = sumTo (fun t => remP (m' + 1) hb e t * remP (m' + 1) hb (t + (l + 1)) s) m' - remP (m' + 1) hb e m' * sumTo (fun t => hb t * remP (m' + 1) hb (t + l) s) (m' + 1) := by
      rw [sumTo_congr (h := fun t => (if t = 0 then 0 else remP (m' + 1) hb e (t - 1)) * remP (m' + 1) hb (t + l) s - (hb t * remP (m' + 1) hb (t + l) s) * remP (m' + 1) hb e m') fun t _ => by rw [remP, Nat.add_sub_cancel]; grind, sumTo_subc, sumTo_succ_left (fun t => (if t = 0 then 0 else remP (m' + 1) hb e (t - 1)) * remP (m' + 1) hb (t + l) s), if_pos rfl, Int.zero_mul, Int.zero_add,
        sumTo_congr (n := m') (h := fun t => remP (m' + 1) hb e t * remP (m' + 1) hb (t + (l + 1)) s) fun t _ => by rw [if_neg (by omega), Nat.add_sub_cancel, show t + 1 + l = t + (l + 1) by omega], Int.mul_comm (sumTo (fun t => hb t * remP (m' + 1) hb (t + l) s) (m' + 1))]
    rw [e1, sumTo]
    have r := remP_rel ho hh l s hs
    rw [sumTo] at r
    have r2 := (Eqm.refl o).mul r
    rw [Int.mul_zero] at r2
    have r3 : Eqm (sumTo (fun t => hb t * remP (m' + 1) hb (t + l) s) (m' + 1) + remP (m' + 1) hb (m' + (l + 1)) s) 0 := by
      refine Eqm.trans ?_ r2
      rw [Int.mul_add, ← sumTo_mul, sumTo_congr (h := fun t => o * (h t * remP (m' + 1) hb (l + t) s)) fun t _ => by rw [hh, Nat.add_comm l t]; grind, show m' + (l + 1) = l + (m' + 1) by omega]
      refine Eqm.add (Eqm.refl _) ?_
      have := ho.symm.mul (Eqm.refl (remP (m' + 1) hb (l + (m' + 1)) s))
      rw [Int.one_mul] at this
      exact this.trans (Eqm.of_eq (by grind))
    have r4 := (Eqm.refl (remP (m' + 1) hb e m')).mul r3
    rw [Int.mul_zero, Int.mul_add] at r4
    have r5 := (Eqm.refl (sumTo (fun t => remP (m' + 1) hb e t * remP (m' + 1) hb (t + (l + 1)) s) m' - remP (m' + 1) hb e m' * sumTo (fun t => hb t * remP (m' + 1) hb (t + l) s) (m' + 1))).add r4
    rw [Int.add_zero] at r5
    exact (Eqm.of_eq (by omega)).trans r5

/-- Products of factors: what the one does after the other. -/
def convF (f g : Nat → Int) (La Lb q : Nat) : Int := sumTo (fun k => if k ≤ q ∧ q < k + Lb then f k * g (q - k) else 0) La
theorem act_mul (ho : Eqm (h m * o) 1) (hh : ∀ s, hb s = h s * o) {p f g : Nat → Int} {Lp La Lb : Nat} (hL : La + Lb ≤ Lp + 1) (hp : ∀ q, q < Lp → Eqm (p q) (convF f g La Lb q)) {i s : Nat} (hs : s < m) :
    Eqm (actP m hb p Lp i s) (sumTo (fun t => actP m hb f La i t * actP m hb g Lb t s) m) := by
  have e1 : Eqm (actP m hb p Lp i s) (sumTo (fun k => f k * sumTo (fun l => g l * remP m hb (i + k + l) s) Lb) La) := by
    unfold actP
    refine (sumTo_eqm fun q hq => Eqm.mul (hp q hq) (Eqm.refl _)).trans (Eqm.of_eq ?_)
    rw [sumTo_congr (h := fun q => sumTo (fun k => if k ≤ q ∧ q < k + Lb then f k * g (q - k) * remP m hb (i + q) s else 0) La) fun q _ => by
      unfold convF
      rw [Int.mul_comm, ← sumTo_mul]
      exact sumTo_congr fun k _ => by split <;> grind, sumTo_swap]
    refine sumTo_congr fun k hk => ?_
    rw [sumTo_window (fun q => f k * g (q - k) * remP m hb (i + q) s) (k := k) (L := Lb) (N := Lp) (by omega), ← sumTo_mul]
    exact sumTo_congr fun l _ => by rw [Nat.add_sub_cancel_left, Nat.add_assoc, Int.mul_assoc]
  refine e1.trans ?_
  have e2 := congrFun (congrFun (mulM_go La m (fun _ k => f k) (fun k t => remP m hb (i + k) t) (fun t _ => actP m hb g Lb t s)) 0) 0
  unfold mulM at e2
  refine Eqm.trans ?_ (Eqm.of_eq e2.symm)
  refine sumTo_eqm fun k _ => Eqm.mul (Eqm.refl _) ?_
  unfold actP
  have e3 : sumTo (fun t => remP m hb (i + k) t * sumTo (fun l => g l * remP m hb (t + l) s) Lb) m = sumTo (fun l => g l * sumTo (fun t => remP m hb (i + k) t * remP m hb (t + l) s) m) Lb := by
    rw [sumTo_congr (h := fun t => sumTo (fun l => g l * (remP m hb (i + k) t * remP m hb (t + l) s)) Lb) fun t _ => by rw [← sumTo_mul]; exact sumTo_congr fun l _ => by grind, sumTo_swap]
    exact sumTo_congr fun l _ => sumTo_mul _ _ _
  rw [e3]
  exact sumTo_eqm fun l _ => Eqm.mul (Eqm.refl _) (remP_add ho hh (i + k) l s hs)
end

theorem det_shift (m : Nat) (F : Mx) : ∀ a, det (a + m) (fun i k => if i < a ∨ k < a then (if i = k then 1 else 0) else F (i - a) (k - a)) = det m F := by
  intro a
  induction a with
  | zero => rw [Nat.zero_add]; exact det_congr fun i k _ _ => by rw [if_neg (by omega)]; rfl
  | succ a ih =>
    rw [show a + 1 + m = (a + m) + 1 by omega, det, sumTo_congr (h := fun j => (if j = 0 then 1 else 0) * (sg j * det (a + m) (minor (fun i k => if i < a + 1 ∨ k < a + 1 then (if i = k then 1 else 0) else F (i - (a + 1)) (k - (a + 1))) 0 j))) fun j _ => by
      rw [if_pos (.inl (by omega))]
      by_cases e : j = 0
      · rw [if_pos e, if_pos e.symm]; grind
      · rw [if_neg e, if_neg fun x => e x.symm]; grind, sumTo_pick' _ (by omega)]
    have : sg 0 = 1 := rfl
    rw [this, Int.one_mul, ← ih]
    refine det_congr fun i k _ _ => ?_
    unfold minor skip
    rw [if_neg (Nat.not_lt_zero i), if_neg (Nat.not_lt_zero k)]
    show (if i + 1 < a + 1 ∨ k + 1 < a + 1 then (if i + 1 = k + 1 then (1 : Int) else 0) else F (i + 1 - (a + 1)) (k + 1 - (a + 1))) = _
    by_cases e : i < a ∨ k < a
    · rw [if_pos e, if_pos (by omega)]
      by_cases e2 : i = k
      · rw [if_pos e2, if_pos (by omega)]
      · rw [if_neg e2, if_neg (by omega)]
    · rw [if_neg e, if_neg (by omega), Nat.add_sub_add_right, Nat.add_sub_add_right]
theorem prodTo_first (c : Int) (m : Nat) : ∀ a, prodTo (fun i => if i < a then c else 1) (a + m) = c ^ a := by
  intro a
  have h1 : ∀ k, prodTo (fun i => if i < a then c else 1) (a + k) = prodTo (fun i => if i < a then c else 1) a := by
    intro k
    induction k with
    | zero => rfl
    | succ k ih => rw [← Nat.add_assoc, prodTo, ih, if_neg (by omega), Int.mul_one]
  rw [h1]
  have h2 : ∀ k, k ≤ a → prodTo (fun i => if i < a then c else 1) k = c ^ k := by
    intro k
    induction k with
    | zero => intro _; rw [Int.pow_zero]; rfl
    | succ k ih => intro hk; rw [prodTo, ih (by omega), if_pos (by omega), Int.pow_succ]
  exact h2 a (Nat.le_refl _)

/-- What f does to the rests by h, the highest first. -/
def actM (m : Nat) (hb : Nat → Int) (f : List Int) : Mx := fun i k => actP m hb (ix f) f.length (m - 1 - i) (m - 1 - k)

theorem syl_act {h f : List Int} {m a : Nat} {o : Int} (hh : h.length = m + 1) (hf : f.length = a + 1) (ho : Eqm (ix h m * o) 1) :
    Eqm (det (a + m) (sylM h f)) (ix h m ^ a * det m (actM m (fun s => ix h s * o) f)) := by
  obtain ⟨hb, hhb⟩ : ∃ hb : Nat → Int, hb = fun s => ix h s * o := ⟨_, rfl⟩
  rw [← hhb]
  have hbs : ∀ s, hb s = ix h s * o := fun s => by rw [hhb]
  let V : Mx := fun j k => if k < a then (if j = k then 1 else 0) else remP m hb (a + m - 1 - j) (m - 1 - (k - a))
  have hV : det (a + m) V = 1 := by
    rw [det_upper V fun j k hj hk hjk => ?_]
    · refine prodTo_one fun i hi => ?_
      show (if i < a then (if i = i then (1 : Int) else 0) else _) = 1
      by_cases e : i < a
      · rw [if_pos e, if_pos rfl]
      · rw [if_neg e, remP_low _ (by omega) _ (by omega), if_pos (by omega)]
    · show (if k < a then (if j = k then (1 : Int) else 0) else _) = 0
      by_cases e : k < a
      · rw [if_pos e, if_neg (by omega)]
      · rw [if_neg e, remP_low _ (by omega) _ (by omega), if_neg (by omega)]
  -- a row of factors, times V
  have row : ∀ (l : List Int) (t k : Nat), 0 < l.length → t + l.length ≤ a + m → a ≤ k → sumTo (fun j => sylR l t j * V j k) (a + m) = actP m hb (ix l) l.length (a + m - t - l.length) (m - 1 - (k - a)) := by
    intro l t k hl ht hk
    rw [sumTo_congr (h := fun j => if t ≤ j ∧ j < t + l.length then ix l (l.length - 1 - (j - t)) * V j k else 0) fun j _ => by unfold sylR; split <;> grind, sumTo_window (fun j => ix l (l.length - 1 - (j - t)) * V j k) ht, sumTo_rev]
    unfold actP
    refine sumTo_congr fun v hv => ?_
    rw [Nat.add_sub_cancel_left, show l.length - 1 - (l.length - 1 - v) = v by omega]
    show _ * (if k < a then _ else _) = _
    rw [if_neg (by omega), show a + m - 1 - (t + (l.length - 1 - v)) = a + m - t - l.length + v by omega]
  have rowL : ∀ (l : List Int) (t k : Nat), k < a → sumTo (fun j => sylR l t j * V j k) (a + m) = sylR l t k := by
    intro l t k hk
    rw [sumTo_congr (h := fun j => (if j = k then 1 else 0) * sylR l t j) fun j _ => by show _ * (if k < a then _ else _) = _; rw [if_pos hk, Int.mul_comm], sumTo_pick' _ (by omega)]
  let D1 : Mx := fun i k => if i < a ∧ k < a then sylR h i k else (if i = k then 1 else 0)
  let D2 : Mx := fun i k => if a ≤ i ∧ k < a then sylR f (i - a) k else (if i = k then 1 else 0)
  let D3 : Mx := fun i k => if i < a ∨ k < a then (if i = k then 1 else 0) else actM m hb f (i - a) (k - a)
  let E : Mx := fun i k => if i < a then (if i = k then 1 else 0) else if k < a then sylR f (i - a) k else actM m hb f (i - a) (k - a)
  have hE : EqM (a + m) (a + m) (mulM (a + m) D2 D3) E := by
    intro i k hi hk
    refine Eqm.of_eq ?_
    show sumTo (fun t => D2 i t * D3 t k) (a + m) = E i k
    by_cases e : i < a
    · rw [sumTo_congr (h := fun t => (if t = i then 1 else 0) * D3 t k) fun t _ => by
        show (if a ≤ i ∧ t < a then _ else (if i = t then (1 : Int) else 0)) * _ = _
        rw [if_neg (by omega)]
        by_cases e2 : i = t
        · rw [if_pos e2, if_pos e2.symm]
        · rw [if_neg e2, if_neg fun x => e2 x.symm], sumTo_pick' (fun t => D3 t k) hi]
      show (if i < a ∨ k < a then _ else _) = (if i < a then _ else _)
      rw [if_pos (.inl e), if_pos e]
    · rw [sumTo_congr (h := fun t => (if t = i then 1 else 0) * D3 t k + (if t < a then sylR f (i - a) t * (if t = k then 1 else 0) else 0)) fun t _ => by
        have h3 : t < a → D3 t k = (if t = k then 1 else 0) := fun h => if_pos (.inl h)
        show (if a ≤ i ∧ t < a then sylR f (i - a) t else (if i = t then (1 : Int) else 0)) * D3 t k = _
        by_cases e2 : t < a
        · rw [if_pos (show a ≤ i ∧ t < a by omega), if_neg (show ¬ t = i by omega), if_pos e2, Int.zero_mul, Int.zero_add, h3 e2]
        · rw [if_neg (show ¬ (a ≤ i ∧ t < a) by omega), if_neg e2, Int.add_zero]
          by_cases e3 : i = t
          · rw [if_pos e3, if_pos e3.symm]
          · rw [if_neg e3, if_neg fun x => e3 x.symm], sumTo_add, sumTo_pick' (fun t => D3 t k) hi]
      show (if i < a ∨ k < a then _ else _) + _ = (if i < a then _ else if k < a then _ else _)
      rw [if_neg e]
      by_cases e2 : k < a
      · rw [if_pos (.inr e2), if_neg (by omega), if_pos e2, Int.zero_add, sumTo_congr (h := fun t => (if t = k then 1 else 0) * sylR f (i - a) t) fun t _ => by
          by_cases e3 : t = k
          · rw [if_pos e3, if_pos (by omega)]; grind
          · rw [if_neg e3]; split <;> grind, sumTo_pick' _ hk]
      · rw [if_neg (by omega), if_neg e2, sumTo_congr (h := fun _ => 0) fun t _ => by
          by_cases e3 : t < a
          · rw [if_pos e3, if_neg (by omega), Int.mul_zero]
          · rw [if_neg e3], sumTo_zero, Int.add_zero]
  have hW : EqM (a + m) (a + m) (mulM (a + m) (sylM h f) V) (mulM (a + m) D1 E) := by
    intro i k hi hk
    have hDE : mulM (a + m) D1 E i k = if i < a then (if k < a then sylR h i k else 0) else E i k := by
      show sumTo (fun t => D1 i t * E t k) (a + m) = _
      by_cases e : i < a
      · rw [if_pos e, sumTo_congr (h := fun t => (if t = k then 1 else 0) * (if t < a then sylR h i t else 0)) fun t _ => by
          show (if i < a ∧ t < a then _ else (if i = t then (1 : Int) else 0)) * (if t < a then _ else _) = _
          by_cases e2 : t < a
          · rw [if_pos ⟨e, e2⟩, if_pos e2, if_pos e2]; grind
          · rw [if_neg (by omega), if_neg (by omega), if_neg e2]; grind, sumTo_pick' _ hk]
      · rw [if_neg e, sumTo_congr (h := fun t => (if t = i then 1 else 0) * E t k) fun t _ => by
          show (if i < a ∧ t < a then _ else (if i = t then (1 : Int) else 0)) * _ = _
          rw [if_neg (by omega)]
          by_cases e2 : i = t
          · rw [if_pos e2, if_pos e2.symm]
          · rw [if_neg e2, if_neg fun x => e2 x.symm], sumTo_pick' (fun t => E t k) hi]
    rw [hDE]
    show Eqm (sumTo (fun j => sylM h f i j * V j k) (a + m)) _
    by_cases e : i < a
    · rw [if_pos e, sumTo_congr (h := fun j => sylR h i j * V j k) fun j _ => by unfold sylM; rw [if_pos (by omega)]]
      by_cases e2 : k < a
      · rw [if_pos e2, rowL h i k e2]; exact Eqm.refl _
      · rw [if_neg e2, row h i k (by omega) (by omega) (by omega), hh]
        exact remP_rel ho hbs _ _ (by omega)
    · rw [if_neg e, sumTo_congr (h := fun j => sylR f (i - a) j * V j k) fun j _ => by unfold sylM; rw [if_neg (by omega), hf]; rfl]
      show Eqm _ (if i < a then _ else if k < a then _ else _)
      rw [if_neg e]
      by_cases e2 : k < a
      · rw [if_pos e2, rowL f _ k e2]; exact Eqm.refl _
      · rw [if_neg e2, row f _ k (by omega) (by omega) (by omega)]
        unfold actM
        rw [show a + m - (i - a) - f.length = m - 1 - (i - a) by omega]
        exact Eqm.refl _
  have d1 : det (a + m) D1 = ix h m ^ a := by
    rw [det_upper D1 fun i k hi hk hik => ?_, prodTo_congr (h := fun i => if i < a then ix h m else 1) fun i _ => ?_]
    · exact prodTo_first _ _ _
    · show (if i < a ∧ i < a then _ else (if i = i then (1 : Int) else 0)) = _
      by_cases e : i < a
      · rw [if_pos ⟨e, e⟩, if_pos e]
        unfold sylR
        rw [if_pos (by omega), hh, Nat.sub_self]; rfl
      · rw [if_neg (by omega), if_pos rfl, if_neg e]
    · show (if i < a ∧ k < a then _ else (if i = k then (1 : Int) else 0)) = 0
      by_cases e : i < a ∧ k < a
      · rw [if_pos e]; unfold sylR; rw [if_neg (by omega)]
      · rw [if_neg e, if_neg (by omega)]
  have d2 : det (a + m) D2 = 1 := by
    rw [det_lower D2 fun i k hi hk hik => ?_]
    · refine prodTo_one fun i hi => ?_
      show (if a ≤ i ∧ i < a then _ else (if i = i then (1 : Int) else 0)) = 1
      rw [if_neg (by omega), if_pos rfl]
    · show (if a ≤ i ∧ k < a then _ else (if i = k then (1 : Int) else 0)) = 0
      rw [if_neg (by omega), if_neg (by omega)]
  have d3 : det (a + m) D3 = det m (actM m hb f) := det_shift m (actM m hb f) a
  have q : Eqm (det (a + m) (mulM (a + m) (sylM h f) V)) (det (a + m) (mulM (a + m) D1 E)) := det_eqm hW
  rw [det_mul, hV, Int.mul_one, det_mul, d1] at q
  have q2 : Eqm (det (a + m) (mulM (a + m) D2 D3)) (det (a + m) E) := det_eqm hE
  rw [det_mul, d2, d3, Int.one_mul] at q2
  exact q.trans (Eqm.mul (Eqm.refl _) q2.symm)

/-- With a product it is the product. -/
theorem syl_mul {h f g p : List Int} {m a b : Nat} {o : Int} (hh : h.length = m + 1) (hf : f.length = a + 1) (hg : g.length = b + 1) (hp : p.length = a + b + 1) (ho : Eqm (ix h m * o) 1)
    (hc : ∀ q, q < a + b + 1 → Eqm (ix p q) (convF (ix f) (ix g) (a + 1) (b + 1) q)) : Eqm (det (a + b + m) (sylM h p)) (det (a + m) (sylM h f) * det (b + m) (sylM h g)) := by
  have e1 := syl_act hh hp ho
  have e2 := syl_act hh hf ho
  have e3 := syl_act hh hg ho
  refine e1.trans (Eqm.trans ?_ (e2.mul e3).symm)
  have e4 : Eqm (det m (actM m (fun s => ix h s * o) p)) (det m (mulM m (actM m (fun s => ix h s * o) f) (actM m (fun s => ix h s * o) g))) := det_eqm fun i k hi hk => by
    have := act_mul (hb := fun s => ix h s * o) (h := ix h) ho (fun _ => rfl) (p := ix p) (f := ix f) (g := ix g) (Lp := a + b + 1) (La := a + 1) (Lb := b + 1) (by omega) hc (i := m - 1 - i) (s := m - 1 - k) (by omega)
    show Eqm (actP m _ (ix p) p.length _ _) (sumTo (fun t => actP m _ (ix f) f.length (m - 1 - i) (m - 1 - t) * actP m _ (ix g) g.length (m - 1 - t) (m - 1 - k)) m)
    rw [hp, hf, hg]
    rw [sumTo_rev] at this
    exact this
  rw [det_mul] at e4
  have := (Eqm.refl (ix h m ^ (a + b))).mul e4
  refine this.trans (Eqm.of_eq ?_)
  rw [Int.pow_add]
  grind
end Go.Rk
namespace Go.Proofs.YtoahegjjffggaaaDoor
open Go.RowKit Go.Rk

/-- The last k of n rows put in front. -/
def rotM (A : Mx) (n k : Nat) : Mx := fun r => if r < k then A (n - k + r) else A (r - k)
def sgk (m : Nat) : Nat → Int
  | 0 => 1
  | k + 1 => sg m * sgk m k
theorem sgk_is (m k : Nat) : sgk m k = if k % 2 = 0 then 1 else sg m := by
  induction k with
  | zero => rfl
  | succ k ih =>
    rw [sgk, ih]
    by_cases h : k % 2 = 0
    · rw [if_pos h, if_neg (by omega), Int.mul_one]
    · rw [if_neg h, if_pos (by omega), sg_sq]
theorem det_rot {n : Nat} (A : Mx) : ∀ k, k ≤ n → det n (rotM A n k) = sgk (n - 1) k * det n A
  | 0, _ => by
    rw [sgk, Int.one_mul]
    exact det_congr fun i j _ _ => by unfold rotM; rw [if_neg (Nat.not_lt_zero _)]; rfl
  | k + 1, hk => by
    have e : det n (rotM A n (k + 1)) = det n (raise (rotM A n k) (n - 1)) := det_congr fun i j hi _ => by
      unfold raise rotM
      by_cases h0 : i = 0
      · subst h0
        rw [if_pos (show 0 < k + 1 by omega), if_pos rfl, if_neg (show ¬ n - 1 < k by omega)]
        congr 1
        omega
      · rw [if_neg h0, if_pos (show i ≤ n - 1 by omega)]
        by_cases h1 : i < k + 1
        · rw [if_pos h1, if_pos (show i - 1 < k by omega)]
          congr 1
          omega
        · rw [if_neg h1, if_neg (show ¬ i - 1 < k by omega)]
          congr 1
          omega
    rw [e, (det_alt n).raise_sign (n - 1) _ (by omega), det_rot A k (by omega), sgk, Int.mul_assoc]

theorem syl_turn {f g : List Int} (hf : 1 ≤ f.length) (hg : 1 ≤ g.length) (h3 : 3 ≤ f.length + g.length) :
    det (g.length + f.length - 2) (sylM g f) = (if (f.length - 1) % 2 = 1 ∧ (g.length - 1) % 2 = 1 then -1 else 1) * det (f.length + g.length - 2) (sylM f g) := by
  have en : g.length + f.length - 2 = f.length + g.length - 2 := by omega
  rw [en]
  have e : det (f.length + g.length - 2) (sylM g f) = det (f.length + g.length - 2) (rotM (sylM f g) (f.length + g.length - 2) (f.length - 1)) := det_congr fun i j hi _ => by
    unfold rotM sylM
    by_cases h : i < f.length - 1
    · rw [if_pos h, if_pos h, if_neg (show ¬ f.length + g.length - 2 - (f.length - 1) + i < g.length - 1 by omega)]
      congr 1
      omega
    · rw [if_neg h, if_neg h, if_pos (show i - (f.length - 1) < g.length - 1 by omega)]
  rw [e, det_rot _ _ (by omega), sgk_is]
  congr 1
  unfold sg
  by_cases h1 : (f.length - 1) % 2 = 0
  · rw [if_pos h1, if_neg (by omega)]
  · rw [if_neg h1]
    by_cases h2 : (g.length - 1) % 2 = 1
    · rw [if_neg (by omega), if_pos (by omega)]
    · rw [if_pos (by omega), if_neg (by omega)]
end Go.Proofs.YtoahegjjffggaaaDoor
namespace Go.Rk
open Go.RowKit Go.Proofs.YtoahegjjffggaaaDoor

/-- How many of the first n are left when noughts at the end are struck. -/
def trimN (l : List Int) : Nat → Nat
  | 0 => 0
  | n + 1 => if ix l n = 0 then trimN l n else n + 1
def trimL (l : List Int) : List Int := l.take (trimN l l.length)
theorem trimN_le (l : List Int) (n : Nat) : trimN l n ≤ n := by
  induction n with
  | zero => exact Nat.le_refl _
  | succ n ih => rw [trimN]; split <;> omega
theorem trimN_top {l : List Int} {n : Nat} (h : 0 < trimN l n) : ix l (trimN l n - 1) ≠ 0 := by
  induction n with
  | zero => exact absurd h (Nat.lt_irrefl 0)
  | succ n ih =>
    rw [trimN] at h ⊢
    by_cases e : ix l n = 0
    · rw [if_pos e] at h ⊢; exact ih h
    · rw [if_neg e, Nat.add_sub_cancel]; exact e
theorem trimN_past {l : List Int} {n k : Nat} (h1 : trimN l n ≤ k) (h2 : k < n) : ix l k = 0 := by
  induction n with
  | zero => exact absurd h2 (Nat.not_lt_zero k)
  | succ n ih =>
    rw [trimN] at h1
    by_cases e : ix l n = 0
    · rw [if_pos e] at h1
      rcases Nat.lt_or_ge k n with h3 | h3
      · exact ih h1 h3
      · obtain rfl : k = n := by omega
        exact e
    · rw [if_neg e] at h1; omega
/-- The place at which the striking stands still. -/
theorem trimN_is {l : List Int} {n k : Nat} (hk : k ≤ n) (h1 : ∀ j, k ≤ j → j < n → ix l j = 0) (h2 : 0 < k → ix l (k - 1) ≠ 0) : trimN l n = k := by
  induction n with
  | zero => rw [trimN]; omega
  | succ n ih =>
    rw [trimN]
    rcases Nat.lt_or_ge k (n + 1) with h3 | h3
    · rw [if_pos (h1 n (by omega) (by omega))]
      exact ih (by omega) fun j h4 h5 => h1 j h4 (by omega)
    · obtain rfl : k = n + 1 := by omega
      rw [if_neg (show ¬ ix l n = 0 from h2 (by omega))]
theorem trimL_len (l : List Int) : (trimL l).length = trimN l l.length := by
  unfold trimL; rw [List.length_take]; have := trimN_le l l.length; omega
theorem trimL_ix (l : List Int) (k : Nat) : ix (trimL l) k = ix l k := by
  rcases Nat.lt_or_ge k (trimN l l.length) with h | h
  · exact ix_take h
  · rw [ix_ge (by rw [trimL_len]; exact h)]
    rcases Nat.lt_or_ge k l.length with h2 | h2
    · exact (trimN_past h h2).symm
    · exact (ix_ge h2).symm
theorem trimL_top {l : List Int} (h : 0 < (trimL l).length) : ix (trimL l) ((trimL l).length - 1) ≠ 0 := by
  rw [trimL_ix, trimL_len] at *
  exact trimN_top h
theorem trimL_in {l : List Int} {lo hi : Int} (h : In lo hi l) : In lo hi (trimL l) := fun k hk => by
  rw [trimL_ix]
  rw [trimL_len] at hk
  exact h k (by have := trimN_le l l.length; omega)

theorem eqm_cancel {a b : Int} (ha : a % 9973 ≠ 0) (h : Eqm (a * b) 0) : Eqm b 0 := by
  have ho := over_mul (a := a % 9973) (by omega) (by omega) ha
  obtain ⟨o, hoo⟩ : ∃ o, o = powm (a % 9973) 9971 := ⟨_, rfl⟩
  rw [← hoo] at ho
  have e1 : Eqm (o * (a % 9973)) 1 := by unfold Eqm; rw [ho]; rfl
  have e2 := (Eqm.refl o).mul h
  rw [Int.mul_zero, ← Int.mul_assoc] at e2
  have e3 := ((Eqm.refl o).mul (Eqm.mod a)).symm.trans e1
  have e4 := e3.mul (Eqm.refl b)
  rw [Int.one_mul] at e4
  exact e4.symm.trans e2

/-- The product. -/
def convL (f g : List Int) : List Int := rowF (fun q => convF (ix f) (ix g) f.length g.length q % 9973) (f.length + g.length)
def mulL (f g : List Int) : List Int := trimL (convL f g)
theorem convL_len (f g : List Int) : (convL f g).length = f.length + g.length := rowF_len _ _
theorem convL_in (f g : List Int) : In 0 9972 (convL f g) := fun k hk => by
  rw [convL_len] at hk
  unfold convL
  rw [rowF_ix hk]; omega
theorem mulL_in (f g : List Int) : In 0 9972 (mulL f g) := trimL_in (convL_in f g)
theorem mulL_ix {f g : List Int} {q : Nat} (hq : q < f.length + g.length) : Eqm (ix (mulL f g) q) (convF (ix f) (ix g) f.length g.length q) := by
  unfold mulL
  rw [trimL_ix]
  unfold convL
  rw [rowF_ix hq]
  exact Eqm.mod _
/-- The place of the product's top. -/
theorem conv_top {f g : List Int} {a b : Nat} (hf : f.length = a + 1) (hg : g.length = b + 1) : convF (ix f) (ix g) f.length g.length (a + b) = ix f a * ix g b ∧ convF (ix f) (ix g) f.length g.length (a + b + 1) = 0 := by
  unfold convF
  rw [hf, hg]
  constructor
  · rw [sumTo_congr (h := fun k => (if k = a then 1 else 0) * (ix f k * ix g (a + b - k))) fun k hk => by
      by_cases e : k = a
      · rw [if_pos (by omega), if_pos e, Int.one_mul]
      · rw [if_neg (by omega), if_neg e, Int.zero_mul], sumTo_pick' (fun k => ix f k * ix g (a + b - k)) (by omega), Nat.add_sub_cancel_left]
  · rw [sumTo_congr (h := fun _ => 0) fun k hk => by rw [if_neg (by omega)], sumTo_zero]
theorem mulL_len {f g : List Int} {a b : Nat} (hf : f.length = a + 1) (hg : g.length = b + 1) (h1 : ix f a % 9973 ≠ 0) (h2 : ix g b % 9973 ≠ 0) : (mulL f g).length = a + b + 1 ∧ ix (mulL f g) (a + b) = ix f a * ix g b % 9973 ∧ ix (mulL f g) (a + b) ≠ 0 := by
  have ht := conv_top hf hg
  have e1 : ix (convL f g) (a + b) = ix f a * ix g b % 9973 := by unfold convL; rw [rowF_ix (by omega), ht.1]
  have e2 : ix (convL f g) (a + b) ≠ 0 := fun e => by
    rw [e1] at e
    have := eqm_cancel h1 (show Eqm (ix f a * ix g b) 0 from e)
    exact h2 this
  have e3 : ix (convL f g) (a + b + 1) = 0 := by unfold convL; rw [rowF_ix (by omega), ht.2]; rfl
  refine ⟨?_, by unfold mulL; rw [trimL_ix]; exact e1, by unfold mulL; rw [trimL_ix]; exact e2⟩
  unfold mulL
  rw [trimL_len, convL_len, hf, hg]
  refine trimN_is (by omega) (fun j h3 h4 => ?_) fun _ => e2
  obtain rfl : j = a + b + 1 := by omega
  exact e3

/-- A linear factor: what the other one comes to there. -/
theorem act_root {g : List Int} {c r : Int} (hr : Eqm (-c) r) : Eqm (det 1 (actM 1 (fun s => ix [c, 1] s * 1) g)) (pv (ix g) g.length r) := by
  have h1 : ∀ e, Eqm (remP 1 (fun s => ix [c, 1] s * 1) e 0) (r ^ e) := by
    intro e
    induction e with
    | zero => rw [Int.pow_zero]; exact Eqm.refl _
    | succ e ih =>
      rw [remP, if_pos rfl, Int.zero_sub, Int.pow_succ]
      have := ih.mul hr
      refine Eqm.trans (Eqm.of_eq ?_) this
      show -(remP 1 _ e 0 * (c * 1)) = _
      rw [Int.mul_one, Int.mul_neg]
  have h2 : det 1 (actM 1 (fun s => ix [c, 1] s * 1) g) = actP 1 (fun s => ix [c, 1] s * 1) (ix g) g.length 0 0 := by
    show sumTo (fun j => sg j * actM 1 _ g 0 j * 1) 1 = _
    rw [sumTo, sumTo, Int.zero_add]
    show 1 * actP 1 _ (ix g) g.length 0 0 * 1 = _
    rw [Int.one_mul, Int.mul_one]
  rw [h2]
  unfold actP pv
  exact sumTo_eqm fun k _ => (Eqm.refl _).mul (by rw [Nat.zero_add]; exact h1 k)
theorem syl_root {g : List Int} {c r : Int} {m : Nat} (hg : g.length = m + 1) (hr : Eqm (-c) r) : Eqm (det (m + 1) (sylM [c, 1] g)) (pv (ix g) g.length r) := by
  have := syl_act (h := [c, 1]) (f := g) (m := 1) (a := m) (o := 1) rfl hg (by show Eqm (1 * 1) 1; exact Eqm.refl _)
  rw [show ix [c, 1] 1 = 1 from rfl, Int.one_pow, Int.one_mul] at this
  exact this.trans (act_root hr)

theorem sign_mul {xp xf xg yp yf yg sp sf sg_ : Int} (hp : yp = sp * xp) (hf : yf = sf * xf) (hg : yg = sg_ * xg) (hs : sp = sf * sg_) (h1 : sp * sp = 1) (h : Eqm yp (yf * yg)) : Eqm xp (xf * xg) := by
  have := (Eqm.refl sp).mul h
  rw [hp, hf, hg] at this
  have e1 : sp * (sp * xp) = xp := by rw [← Int.mul_assoc, h1, Int.one_mul]
  have e2 : sp * (sf * xf * (sg_ * xg)) = xf * xg := by
    have : sp * (sf * xf * (sg_ * xg)) = sp * (sf * sg_) * (xf * xg) := by grind
    rw [this, ← hs, h1, Int.one_mul]
  rwa [e1, e2] at this

/-- The resultant by the prime with a product is the product. -/
theorem res_mul {f g h p : List Int} {a b m : Nat} (hf : f.length = a + 1) (hg : g.length = b + 1) (hh : h.length = m + 1) (hp : p.length = a + b + 1) (hm : ix h m % 9973 ≠ 0) (h1 : 1 ≤ a + m) (h2 : 1 ≤ b + m)
    (hc : ∀ q, q < a + b + 1 → Eqm (ix p q) (convF (ix f) (ix g) (a + 1) (b + 1) q)) : Eqm (det (a + b + m) (sylM p h)) (det (a + m) (sylM f h) * det (b + m) (sylM g h)) := by
  obtain ⟨o, ho⟩ : ∃ o, Eqm (ix h m * o) 1 := by
    refine ⟨powm (ix h m % 9973) 9971, ?_⟩
    have := over_mul (a := ix h m % 9973) (by omega) (by omega) hm
    have e : Eqm (powm (ix h m % 9973) 9971 * (ix h m % 9973)) 1 := by unfold Eqm; rw [this]; rfl
    rw [Int.mul_comm]
    exact ((Eqm.refl _).mul (Eqm.mod _)).symm.trans e
  have key := syl_mul hh hf hg hp ho hc
  have tf := syl_turn (f := f) (g := h) (by omega) (by omega) (by omega)
  have tg := syl_turn (f := g) (g := h) (by omega) (by omega) (by omega)
  have tp := syl_turn (f := p) (g := h) (by omega) (by omega) (by omega)
  rw [show h.length + f.length - 2 = a + m by omega, show f.length + h.length - 2 = a + m by omega, show f.length - 1 = a by omega, show h.length - 1 = m by omega] at tf
  rw [show h.length + g.length - 2 = b + m by omega, show g.length + h.length - 2 = b + m by omega, show g.length - 1 = b by omega, show h.length - 1 = m by omega] at tg
  rw [show h.length + p.length - 2 = a + b + m by omega, show p.length + h.length - 2 = a + b + m by omega, show p.length - 1 = a + b by omega, show h.length - 1 = m by omega] at tp
  refine sign_mul tp tf tg ?_ ?_ key
  · by_cases e1 : m % 2 = 1
    · rcases Nat.mod_two_eq_zero_or_one a with e2 | e2 <;> rcases Nat.mod_two_eq_zero_or_one b with e3 | e3
      · rw [if_neg (by omega), if_neg (by omega), if_neg (by omega)]; rfl
      · rw [if_pos (by omega), if_neg (by omega), if_pos (by omega)]; rfl
      · rw [if_pos (by omega), if_pos (by omega), if_neg (by omega)]; rfl
      · rw [if_neg (by omega), if_pos (by omega), if_pos (by omega)]; rfl
    · rw [if_neg (by omega), if_neg (by omega), if_neg (by omega)]; rfl
  · split <;> rfl
end Go.Rk
namespace Go.Rk
open Go.RowKit

def trS (n : Nat) (A : Mx) : Int := sumTo (fun i => A i i) n
theorem trS_comm (n : Nat) (X Y : Mx) : trS n (mulM n X Y) = trS n (mulM n Y X) := by
  unfold trS mulM
  rw [sumTo_swap]
  exact sumTo_congr fun i _ => sumTo_congr fun t _ => Int.mul_comm _ _
theorem trS_eqm {n : Nat} {X Y : Mx} (h : EqM n n X Y) : Eqm (trS n X) (trS n Y) := sumTo_eqm fun i hi => h i i hi hi
theorem trS_one (n : Nat) (c : Int) : sumTo (fun i => c * oneM i i) n = n * c := by
  induction n with
  | zero => simp [sumTo]
  | succ n ih =>
    rw [sumTo, ih, show oneM n n = 1 from if_pos rfl, show ((n + 1 : Nat) : Int) = (n : Int) + 1 by omega]
    grind
theorem FL.trace {n : Nat} {P : Mx} {e : Nat → Int} {b : Nat → Mx} (h : FL n P e b) {k : Nat} (hk : k < n) : trS n (mulM n P (b k)) = ((k : Int) - n) * e k := by
  unfold trS
  rcases Nat.eq_zero_or_pos k with h0 | h0
  · subst h0
    have e1 : sumTo (fun i => (-1) * mulM n P (b 0) i i) n = sumTo (fun i => e 0 * oneM i i) n := sumTo_congr fun i hi => by rw [← h.first i i hi hi]; omega
    rw [sumTo_mul, trS_one] at e1
    have e2 : sumTo (fun i => mulM n P (b 0) i i) n = -(n * e 0) := by omega
    rw [e2, show ((0 : Nat) : Int) - n = -n by omega, Int.neg_mul]
  · have e1 := h.tr k h0 (by omega)
    rw [sumTo_congr (h := fun i => mulM n P (b k) i i + e k * oneM i i) fun i hi => by have := h.step k h0 hk i i hi hi; omega, sumTo_add, trS_one] at e1
    rw [Int.sub_mul]
    omega
theorem FL.both {n : Nat} {A B P Q : Mx} {e e' : Nat → Int} {b b' : Nat → Mx} (h : FL n P e b) (g : FL n Q e' b') (hP : EqM n n P (mulM n A B)) (hQ : EqM n n Q (mulM n B A)) (h1 : 1 ≤ n) (h5 : n ≤ 5) : ∀ k, k ≤ n → Eqm (e k) (e' k) := by
  have key : ∀ d, d ≤ n → Eqm (e (n - d)) (e' (n - d)) ∧ (d < n → EqM n n (mulM n B (b (n - 1 - d))) (mulM n (b' (n - 1 - d)) B)) := by
    intro d
    induction d with
    | zero =>
      intro _
      refine ⟨by rw [Nat.sub_zero, h.top, g.top]; exact Eqm.refl _, fun _ i j hi hj => Eqm.of_eq ?_⟩
      rw [Nat.sub_zero]
      have e1 : mulM n B (b (n - 1)) i j = mulM n B oneM i j := sumTo_congr fun t ht => by rw [h.last t j ht hj]
      have e2 : mulM n (b' (n - 1)) B i j = mulM n oneM B i j := sumTo_congr fun t ht => by rw [g.last i t hi ht]
      rw [e1, e2, mulM_one B i hj, one_mulM B hi]
    | succ d ih =>
      intro hd
      obtain ⟨_, hB⟩ := ih (by omega)
      replace hB := hB (by omega)
      obtain ⟨k, hk⟩ : ∃ k, k = n - 1 - d := ⟨_, rfl⟩
      rw [← hk] at hB
      have hkn : k < n := by omega
      rw [show n - (d + 1) = k by omega]
      have he : Eqm (e k) (e' k) := by
        have t1 := h.trace hkn
        have t2 := g.trace hkn
        have c1 : Eqm (trS n (mulM n P (b k))) (trS n (mulM n Q (b' k))) := by
          refine (trS_eqm (EqM.mul hP (EqM.refl n n (b k)))).trans ?_
          rw [mulM_go]
          refine (trS_eqm (EqM.mul (EqM.refl n n A) hB)).trans ?_
          rw [← mulM_go, trS_comm, ← mulM_go]
          exact trS_eqm (EqM.mul hQ.symm (EqM.refl n n (b' k)))
        rw [t1, t2] at c1
        have c2 : Eqm (((k : Int) - n) * (e k - e' k)) 0 := by
          have := c1.sub (Eqm.refl (((k : Int) - n) * e' k))
          rw [Int.sub_self] at this
          rwa [Int.mul_sub]
        have c3 := eqm_cancel (a := (k : Int) - n) (by omega) c2
        have := c3.add (Eqm.refl (e' k))
        rw [Int.zero_add] at this
        exact (Eqm.of_eq (by omega)).trans this
      refine ⟨he, fun hd2 => ?_⟩
      rw [show n - 1 - (d + 1) = k - 1 by omega]
      have s1 : ∀ i j, i < n → j < n → b (k - 1) i j = mulM n P (b k) i j + e k * oneM i j := fun i j hi hj => by have := h.step k (by omega) hkn i j hi hj; omega
      have s2 : ∀ i j, i < n → j < n → b' (k - 1) i j = mulM n Q (b' k) i j + e' k * oneM i j := fun i j hi hj => by have := g.step k (by omega) hkn i j hi hj; omega
      intro i j hi hj
      have l1 : mulM n B (b (k - 1)) i j = mulM n B (mulM n P (b k)) i j + e k * B i j := by
        unfold mulM
        rw [sumTo_congr (h := fun t => B i t * sumTo (fun s => P t s * b k s j) n + e k * (B i t * oneM t j)) fun t ht => by
          rw [s1 t j ht hj]
          show B i t * (sumTo (fun s => P t s * b k s j) n + _) = _
          grind, sumTo_add, sumTo_mul]
        have := mulM_one (n := n) B i hj
        unfold mulM at this
        rw [this]
      have l2 : mulM n (b' (k - 1)) B i j = mulM n (mulM n Q (b' k)) B i j + e' k * B i j := by
        unfold mulM
        rw [sumTo_congr (h := fun t => sumTo (fun s => Q i s * b' k s t) n * B t j + e' k * (oneM i t * B t j)) fun t ht => by
          rw [s2 i t hi ht]
          show (sumTo (fun s => Q i s * b' k s t) n + _) * B t j = _
          grind, sumTo_add, sumTo_mul]
        have := one_mulM (n := n) B hi j
        unfold mulM at this
        rw [this]
      rw [l1, l2]
      refine Eqm.add ?_ (he.mul (Eqm.refl _))
      have p1 : EqM n n (mulM n B (mulM n P (b k))) (mulM n (mulM n Q (b' k)) B) := by
        have q1 : EqM n n (mulM n P (b k)) (mulM n A (mulM n (b' k) B)) := by
          refine (EqM.mul hP (EqM.refl n n (b k))).trans ?_
          rw [mulM_go]
          exact EqM.mul (EqM.refl n n A) hB
        refine (EqM.mul (EqM.refl n n B) q1).trans ?_
        rw [← mulM_go, mulM_go n n Q (b' k) B]
        exact EqM.mul hQ.symm (EqM.refl n n _)
      exact p1 i j hi hj
  intro k hk
  have := (key (n - k) (by omega)).1
  rwa [show n - (n - k) = k by omega] at this
end Go.Rk
