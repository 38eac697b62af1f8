/-
  Matrices with three lines; sums of one. Plain Lean, no program in sight.
  Rows that go on by factors, and the fewest of them: Berlekamp and Massey. Plain Lean, no program in sight.
  The determinant of powers is the product of differences; what factors come to, from the last one on. Plain Lean, no program in sight.
  vander.Check, vander.Full and vander.Det walked.
  What goes through points: the divided differences give a polynomial that goes through them all (Newton), and there is but one of so few factors. No program in sight.
-/
import Derived.Test.YtoahegjjffggaaaRows
import Derived.StillTailTactics
import Derived.Test.YtoahegjjffggaaaMg0
import Derived.Test.YtoahegjjffggaaaMg1
import Derived.Test.YtoahegjjffggaaaMg2
import Derived.Test.YtoahegjjffggaaaMg3
import Derived.Test.YtoahegjjffggaaaMg4
import Derived.Test.YtoahegjjffggaaaMg5
import Derived.Test.YtoahegjjffggaaaMg11
namespace Go.Rk

/-- A band as a matrix. -/
def triM (m a b : Nat → Int) : Mx := fun i j => if i = j then m i else if j = i + 1 then a i else if i = j + 1 then b j else 0

theorem sumTo_one (g : Nat → Int) (j : Nat) : ∀ n, sumTo (fun t => if t = j then g t else 0) n = if j < n then g j else 0
  | 0 => rfl
  | n + 1 => by
    rw [sumTo, sumTo_one g j n]
    by_cases h : n = j
    · subst h; simp
    · rw [if_neg h, Int.add_zero]
      by_cases h2 : j < n
      · rw [if_pos h2, if_pos (by omega)]
      · rw [if_neg h2, if_neg (by omega)]

end Go.Rk
namespace Go.Rk

theorem inv_ex {x : Int} (h : ¬ Eqm x 0) : ∃ v, Eqm (v * x) 1 := by
  refine ⟨powm (x % 9973) 9971, ?_⟩
  have h0 : x % 9973 ≠ 0 := h
  have := over_mul (a := x % 9973) (by omega) (by omega) h0
  refine (Eqm.mul (Eqm.refl _) (Eqm.mod x)).symm.trans ?_
  exact this
/-- By how much a number differs from what factors say. -/
def Rz (s c : Nat → Int) (L t : Nat) : Int := s t - sumTo (fun k => c k * s (t - 1 - k)) L
/-- The first N numbers go on by L factors. -/
def GenF (s c : Nat → Int) (L N : Nat) : Prop := ∀ t, L ≤ t → t < N → Eqm (Rz s c L t) 0

theorem Rz_eqm {s c : Nat → Int} {L t : Nat} : Eqm (Rz s c L t) 0 ↔ Eqm (s t) (sumTo (fun k => c k * s (t - 1 - k)) L) := by
  unfold Rz Eqm; omega
theorem GenF.less {s c : Nat → Int} {L N M : Nat} (h : GenF s c L N) (hm : M ≤ N) : GenF s c L M := fun t h1 h2 => h t h1 (by omega)
theorem Rz_congr {s u c d : Nat → Int} {L t : Nat} (ht : L ≤ t) (e : ∀ k, k ≤ t → Eqm (s k) (u k)) (f : ∀ k, k < L → Eqm (c k) (d k)) : Eqm (Rz s c L t) (Rz u d L t) := by
  unfold Rz
  exact (e t (Nat.le_refl _)).sub (Eqm.sum fun k hk => (f k hk).mul (e _ (by omega)))
theorem GenF.congr {s u c d : Nat → Int} {L N : Nat} (h : GenF s c L N) (e : ∀ k, k < N → Eqm (s k) (u k)) (f : ∀ k, k < L → Eqm (c k) (d k)) : GenF u d L N := fun t h1 h2 =>
  (Rz_congr h1 (fun k hk => (e k (by omega)).symm) fun k hk => (f k hk).symm).trans (h t h1 h2)

/-- Massey: what goes on by factors where others miss has so many more. -/
theorem massey_low {s c h : Nat → Int} {L m i : Nat} (hc : GenF s c L i) (hm : ¬ Eqm (Rz s c L i) 0) (_ : L ≤ i) (hh : GenF s h m (i + 1)) : i + 1 ≤ m + L := by
  rcases Nat.lt_or_ge i (m + L) with h0 | h0
  · omega
  · exfalso
    apply hm
    rw [Rz_eqm]
    have e1 : Eqm (s i) (sumTo (fun k => h k * s (i - 1 - k)) m) := Rz_eqm.1 (hh i (by omega) (by omega))
    have e2 : Eqm (sumTo (fun k => h k * s (i - 1 - k)) m) (sumTo (fun k => h k * sumTo (fun j => c j * s (i - 1 - k - 1 - j)) L) m) := Eqm.sum fun k hk =>
      (Eqm.refl _).mul (Rz_eqm.1 (hc (i - 1 - k) (by omega) (by omega)))
    have e3 : sumTo (fun k => h k * sumTo (fun j => c j * s (i - 1 - k - 1 - j)) L) m = sumTo (fun j => c j * sumTo (fun k => h k * s (i - 1 - j - 1 - k)) m) L := by
      rw [sumTo_congr (h := fun k => sumTo (fun j => h k * (c j * s (i - 1 - k - 1 - j))) L) fun k _ => (sumTo_mul _ _ _).symm, sumTo_swap]
      refine sumTo_congr fun j _ => ?_
      rw [← sumTo_mul]
      refine sumTo_congr fun k _ => ?_
      rw [show i - 1 - k - 1 - j = i - 1 - j - 1 - k by omega]
      grind
    have e4 : Eqm (sumTo (fun j => c j * sumTo (fun k => h k * s (i - 1 - j - 1 - k)) m) L) (sumTo (fun j => c j * s (i - 1 - j)) L) := Eqm.sum fun j hj =>
      (Eqm.refl _).mul (Rz_eqm.1 (hh (i - 1 - j) (by omega) (by omega))).symm
    rw [e3] at e2
    exact (e1.trans e2).trans e4

/-- Factors from which so many of elder ones, so far behind, are taken away. -/
def corF (c : Nat → Int) (L : Nat) (g : Nat → Int) (L' gap : Nat) (by_ : Int) (k : Nat) : Int :=
  (if k < L then c k else 0) + (if k = gap then by_ else if gap < k ∧ k < gap + 1 + L' then -by_ * g (k - gap - 1) else 0)

theorem sumTo_ext0 {f : Nat → Int} {a b : Nat} (h : a ≤ b) (z : ∀ k, a ≤ k → k < b → f k = 0) : sumTo f b = sumTo f a := by
  obtain ⟨d, rfl⟩ : ∃ d, b = a + d := ⟨b - a, by omega⟩
  induction d with
  | zero => rfl
  | succ d ih => rw [← Nat.add_assoc, sumTo, ih (by omega) (fun k h1 h2 => z k h1 (by omega)), z _ (by omega) (by omega), Int.add_zero]
theorem sumTo_shift0 {f : Nat → Int} {a b : Nat} (z : ∀ k, k < a → f k = 0) : sumTo f (a + b) = sumTo (fun k => f (a + k)) b := by
  induction b with
  | zero => rw [Nat.add_zero, sumTo_congr z, sumTo_zero]; rfl
  | succ b ih => rw [← Nat.add_assoc, sumTo, ih, sumTo]

theorem cor_Rz {s c g : Nat → Int} {L L' gap n t : Nat} {by_ : Int} (h1 : L ≤ n) (h2 : gap + 1 + L' ≤ n) (_ : n ≤ t) : Rz s (corF c L g L' gap by_) n t = Rz s c L t - by_ * Rz s g L' (t - 1 - gap) := by
  unfold Rz
  have e1 : sumTo (fun k => corF c L g L' gap by_ k * s (t - 1 - k)) n = sumTo (fun k => (if k < L then c k else 0) * s (t - 1 - k)) n + sumTo (fun k => (if k = gap then by_ else if gap < k ∧ k < gap + 1 + L' then -by_ * g (k - gap - 1) else 0) * s (t - 1 - k)) n := by
    rw [← sumTo_add]
    exact sumTo_congr fun k _ => Int.add_mul _ _ _
  have e2 : sumTo (fun k => (if k < L then c k else 0) * s (t - 1 - k)) n = sumTo (fun k => c k * s (t - 1 - k)) L := by
    rw [sumTo_ext0 h1 fun k hk _ => by rw [if_neg (by omega), Int.zero_mul]]
    exact sumTo_congr fun k hk => by rw [if_pos hk]
  have e3 : sumTo (fun k => (if k = gap then by_ else if gap < k ∧ k < gap + 1 + L' then -by_ * g (k - gap - 1) else 0) * s (t - 1 - k)) n = by_ * s (t - 1 - gap) + sumTo (fun k => -by_ * (g k * s (t - 1 - gap - 1 - k))) L' := by
    rw [sumTo_ext0 h2 fun k hk _ => by rw [if_neg (by omega), if_neg (by omega), Int.zero_mul], show gap + 1 + L' = gap + (L' + 1) by omega, sumTo_shift0 fun k hk => by rw [if_neg (by omega), if_neg (by omega), Int.zero_mul], sumTo_succ_left]
    congr 1
    · rw [Nat.add_zero, if_pos rfl]
    · refine sumTo_congr fun k hk => ?_
      rw [if_neg (by omega), if_pos (by omega), show gap + (k + 1) - gap - 1 = k by omega, show t - 1 - (gap + (k + 1)) = t - 1 - gap - 1 - k by omega, Int.mul_assoc]
  rw [e1, e2, e3, sumTo_mul]
  grind

/-- What is known when i numbers are gone through. -/
structure BM (s : Nat → Int) (i : Nat) (c : Nat → Int) (L : Nat) : Prop where
  le : L ≤ i
  gen : GenF s c L i
  low : ∀ m h, GenF s h m i → L ≤ m
  eld : (L = 0 ∧ ∀ t, t < i → Eqm (s t) 0) ∨ ∃ g L' a, L' ≤ a ∧ a < i ∧ L + L' = a + 1 ∧ GenF s g L' a ∧ ¬ Eqm (Rz s g L' a) 0

section
variable {s c g : Nat → Int} {i L L' a : Nat}
theorem BM.start (s c : Nat → Int) : BM s 0 c 0 := ⟨Nat.le_refl _, fun _ _ h => absurd h (Nat.not_lt_zero _), fun _ _ _ => Nat.zero_le _, .inl ⟨rfl, fun _ h => absurd h (Nat.not_lt_zero _)⟩⟩
theorem BM.pass (h : BM s i c L) (z : Eqm (Rz s c L i) 0) : BM s (i + 1) c L := by
  refine ⟨by have := h.le; omega, fun t h1 h2 => ?_, fun m k hk => h.low m k (hk.less (by omega)), ?_⟩
  · rcases Nat.lt_or_ge t i with h3 | h3
    · exact h.gen t h1 h3
    · obtain rfl : t = i := by omega
      exact z
  · rcases h.eld with ⟨rfl, hz⟩ | ⟨g, L', a, h1, h2, h3, h4, h5⟩
    · refine .inl ⟨rfl, fun t ht => ?_⟩
      rcases Nat.lt_or_ge t i with h3 | h3
      · exact hz t h3
      · obtain rfl : t = i := by omega
        unfold Rz at z
        simp only [sumTo] at z
        rwa [Int.sub_zero] at z
    · exact .inr ⟨g, L', a, h1, by omega, h3, h4, h5⟩
theorem BM.low_next (h : BM s i c L) (z : ¬ Eqm (Rz s c L i) 0) {m : Nat} {k : Nat → Int} (hk : GenF s k m (i + 1)) : L ≤ m ∧ i + 1 ≤ m + L :=
  ⟨h.low m k (hk.less (by omega)), massey_low h.gen z h.le hk⟩
/-- The first number that is not 0. -/
theorem BM.first (h : BM s i c L) (hz : L = 0) (z : ¬ Eqm (s i) 0) (c' : Nat → Int) : BM s (i + 1) c' (i + 1) ∧ (∀ t, t < i → Eqm (s t) 0) := by
  subst hz
  have hzz : ∀ t, t < i → Eqm (s t) 0 := by
    rcases h.eld with ⟨_, hz⟩ | ⟨g, L', a, h1, h2, h3, _⟩
    · exact hz
    · omega
  have hR : ¬ Eqm (Rz s c 0 i) 0 := by
    unfold Rz
    simp only [sumTo]
    rwa [Int.sub_zero]
  refine ⟨⟨Nat.le_refl _, fun t h1 h2 => by omega, fun m k hk => by have := h.low_next hR hk; omega, .inr ⟨c, 0, i, Nat.zero_le _, by omega, by omega, h.gen, hR⟩⟩, hzz⟩
/-- The step. -/
theorem BM.step (h : BM s i c L) (hL' : L' ≤ a) (ha : a < i) (hs : L + L' = a + 1) (hg : GenF s g L' a) (hga : ¬ Eqm (Rz s g L' a) 0) {by_ : Int} (hby : Eqm (by_ * Rz s g L' a) (Rz s c L i)) (z : ¬ Eqm (Rz s c L i) 0) :
    BM s (i + 1) (corF c L g L' (i - a - 1) by_) (max L (i - a + L')) := by
  have hle := h.le
  refine ⟨by omega, fun t h1 h2 => ?_, fun m k hk => ?_, ?_⟩
  · rw [cor_Rz (by omega) (by omega) h1]
    rcases Nat.lt_or_ge t i with h3 | h3
    · have e1 := h.gen t (by omega) h3
      have e2 := hg (t - 1 - (i - a - 1)) (by omega) (by omega)
      have := e1.sub ((Eqm.refl by_).mul e2)
      rw [Int.mul_zero, Int.sub_zero] at this
      exact this
    · obtain rfl : t = i := by omega
      rw [show t - 1 - (t - a - 1) = a by omega]
      have := (Eqm.refl (Rz s c L t)).sub hby
      rw [Int.sub_self] at this
      exact this
  · have := h.low_next z hk
    omega
  · by_cases e : L < i - a + L'
    · exact .inr ⟨c, L, i, hle, by omega, by omega, h.gen, z⟩
    · exact .inr ⟨g, L', a, hL', by omega, by omega, hg, hga⟩
end

/-- One number more. -/
theorem BM.more {s c : Nat → Int} {i L : Nat} (h : BM s i c L) : ∃ c' L', BM s (i + 1) c' L' ∧ (L' = L ∨ (L < L' ∧ L' + L = i + 1)) := by
  by_cases z : Eqm (Rz s c L i) 0
  · exact ⟨c, L, h.pass z, .inl rfl⟩
  · rcases h.eld with ⟨hz, hzz⟩ | ⟨g, L', a, h1, h2, h3, h4, h5⟩
    · have hsi : ¬ Eqm (s i) 0 := fun e => z (by subst hz; unfold Rz; simp only [sumTo]; rwa [Int.sub_zero])
      exact ⟨c, i + 1, (h.first hz hsi c).1, .inr (by omega)⟩
    · -- a number whose product with the elder one's miss is that
      obtain ⟨v, hv⟩ : ∃ v, Eqm (v * Rz s g L' a) 1 := by
        exact inv_ex h5
      refine ⟨_, _, h.step (by_ := v * Rz s c L i) h1 h2 h3 h4 h5 ?_ z, ?_⟩
      · have := hv.mul (Eqm.refl (Rz s c L i))
        rw [Int.one_mul] at this
        rw [show v * Rz s c L i * Rz s g L' a = v * Rz s g L' a * Rz s c L i by grind]
        exact this
      · have := h.le
        omega
theorem BM.same {s u c d : Nat → Int} {i L M : Nat} (h : BM s i c L) (k : BM u i d M) (e : ∀ t, t < i → Eqm (s t) (u t)) : L = M := by
  have h1 := h.low M d (k.gen.congr (fun t ht => (e t ht).symm) fun _ _ => Eqm.refl _)
  have h2 := k.low L c (h.gen.congr e fun _ _ => Eqm.refl _)
  omega
theorem BM.congr {s u c : Nat → Int} {i L : Nat} (h : BM s i c L) (e : ∀ t, t < i → Eqm (s t) (u t)) : BM u i c L := by
  refine ⟨h.le, h.gen.congr e fun _ _ => Eqm.refl _, fun m k hk => h.low m k (hk.congr (fun t ht => (e t ht).symm) fun _ _ => Eqm.refl _), ?_⟩
  rcases h.eld with ⟨h1, h2⟩ | ⟨g, L', a, h1, h2, h3, h4, h5⟩
  · exact .inl ⟨h1, fun t ht => (e t ht).symm.trans (h2 t ht)⟩
  · exact .inr ⟨g, L', a, h1, h2, h3, h4.congr (fun t ht => e t (by omega)) fun _ _ => Eqm.refl _, fun z => h5 ((Rz_congr h1 (fun k hk => e k (by omega)) fun _ _ => Eqm.refl _).trans z)⟩

/-- Two that go on by factors and are the same so long are the same. -/
theorem gen_same {u v f l : Nat → Int} {K n many T : Nat} (hu : GenF u f K T) (hv : GenF v l n T) (hm : K + n ≤ many) (h0 : ∀ t, t < many → Eqm (u t) (v t)) : ∀ t, t < T → Eqm (u t) (v t) := by
  intro t
  induction t using Nat.strongRecOn with
  | ind t ih =>
    intro ht
    rcases Nat.lt_or_ge t many with h1 | h1
    · exact h0 t h1
    · have e1 := Rz_eqm.1 (hu t (by omega) ht)
      have e2 := Rz_eqm.1 (hv t (by omega) ht)
      have e3 : Eqm (sumTo (fun k => l k * v (t - 1 - k)) n) (sumTo (fun k => l k * sumTo (fun j => f j * u (t - 1 - k - 1 - j)) K) n) := Eqm.sum fun k hk =>
        (Eqm.refl _).mul ((ih (t - 1 - k) (by omega) (by omega)).symm.trans (Rz_eqm.1 (hu (t - 1 - k) (by omega) (by omega))))
      have e4 : sumTo (fun k => l k * sumTo (fun j => f j * u (t - 1 - k - 1 - j)) K) n = sumTo (fun j => f j * sumTo (fun k => l k * u (t - 1 - j - 1 - k)) n) K := by
        rw [sumTo_congr (h := fun k => sumTo (fun j => l k * (f j * u (t - 1 - k - 1 - j))) K) fun k _ => (sumTo_mul _ _ _).symm, sumTo_swap]
        refine sumTo_congr fun j _ => ?_
        rw [← sumTo_mul]
        refine sumTo_congr fun k _ => ?_
        rw [show t - 1 - k - 1 - j = t - 1 - j - 1 - k by omega]
        grind
      have e5 : Eqm (sumTo (fun j => f j * sumTo (fun k => l k * u (t - 1 - j - 1 - k)) n) K) (sumTo (fun j => f j * u (t - 1 - j)) K) := Eqm.sum fun j hj => by
        refine (Eqm.refl _).mul ?_
        have a1 := Rz_eqm.1 (hv (t - 1 - j) (by omega) (by omega))
        have a2 : Eqm (sumTo (fun k => l k * u (t - 1 - j - 1 - k)) n) (sumTo (fun k => l k * v (t - 1 - j - 1 - k)) n) := Eqm.sum fun k hk => (Eqm.refl _).mul (ih _ (by omega) (by omega))
        exact (a2.trans a1.symm).trans (ih (t - 1 - j) (by omega) (by omega)).symm
      rw [e4] at e3
      exact (e1.trans e5.symm).trans (e3.symm.trans e2.symm)
end Go.Rk
namespace Go.Rk

def powM_ (x : Nat → Int) : Mx := fun i j => x i ^ j
def pairP (x : Nat → Int) (n : Nat) : Int := prodTo (fun j => prodTo (fun i => x j - x i) j) n

theorem prodTo_mul (f g : Nat → Int) (n : Nat) : prodTo (fun i => f i * g i) n = prodTo f n * prodTo g n := by
  induction n with
  | zero => rfl
  | succ n ih => rw [prodTo, prodTo, prodTo, ih]; grind

theorem pairP_succ (x : Nat → Int) (n : Nat) : pairP x (n + 1) = prodTo (fun i => x (i + 1) - x 0) n * pairP (fun i => x (i + 1)) n := by
  unfold pairP
  rw [prodTo_succ_left, ← prodTo_mul]
  show 1 * _ = _
  rw [Int.one_mul]
  exact prodTo_congr fun j _ => prodTo_succ_left _ _

theorem det_scaled {n : Nat} (d : Nat → Int) (A : Mx) : det n (fun i j => d i * A i j) = prodTo d n * det n A := by
  have h := det_mul n (fun i j => if i = j then d i else 0) A
  rw [det_lower (fun i j => if i = j then d i else 0) fun i j _ _ hij => if_neg (by omega), prodTo_congr (h := d) fun i _ => if_pos rfl] at h
  rw [← h]
  refine det_congr fun i j hi _ => ?_
  show _ = sumTo (fun k => (if i = k then d i else 0) * A k j) n
  rw [sumTo_congr (h := fun k => if k = i then d i * A k j else 0) fun k _ => by by_cases e : i = k <;> grind, sumTo_one (fun k => d i * A k j), if_pos hi]

theorem det_powers : ∀ (n : Nat) (x : Nat → Int), det n (powM_ x) = pairP x n
  | 0, _ => rfl
  | n + 1, x => by
    have ih := det_powers n fun i => x (i + 1)
    have hU : det (n + 1) (triM (fun _ => 1) (fun _ => -x 0) (fun _ => 0)) = 1 := by
      rw [det_upper _ fun i j _ _ h => by unfold triM; rw [if_neg (by omega), if_neg (by omega)]; split <;> rfl]
      have : ∀ m, prodTo (fun i => triM (fun _ => 1) (fun _ => -x 0) (fun _ => 0) i i) m = 1 := fun m => by
        induction m with
        | zero => rfl
        | succ m ih => rw [prodTo, ih]; simp [triM]
      exact this _
    have hW := det_mul (n + 1) (powM_ x) (triM (fun _ => 1) (fun _ => -x 0) (fun _ => 0))
    rw [hU, Int.mul_one] at hW
    rw [← hW, det_congr (B := fun i j => if j = 0 then 1 else x i ^ (j - 1) * (x i - x 0)) fun i j _ hj => ?_]
    · show sumTo (fun j => sg j * _ * _) (n + 1) = _
      rw [sumTo_succ_left, sumTo_congr (h := fun _ => 0) fun j _ => by
        show sg (j + 1) * (x 0 ^ j * (x 0 - x 0)) * _ = 0
        rw [Int.sub_self, Int.mul_zero, Int.mul_zero, Int.zero_mul], sumTo_zero, Int.add_zero, pairP_succ, ← ih, ← det_scaled]
      show 1 * 1 * _ = _
      rw [Int.mul_one, Int.one_mul]
      refine det_congr fun i j _ _ => ?_
      unfold minor
      rw [skip_zero, skip_zero]
      show x (i + 1) ^ j * (x (i + 1) - x 0) = (x (i + 1) - x 0) * x (i + 1) ^ j
      rw [Int.mul_comm]
    · show sumTo (fun k => x i ^ k * triM _ _ _ k j) (n + 1) = _
      rw [sumTo_congr (h := fun k => (if k = j then x i ^ k else 0) + (if k = j - 1 then (if 0 < j then x i ^ k * -x 0 else 0) else 0)) fun k _ => by unfold triM; grind, sumTo_add, sumTo_one (fun k => x i ^ k), sumTo_one (fun k => if 0 < j then x i ^ k * -x 0 else 0), if_pos hj, if_pos (by omega)]
      by_cases h : j = 0
      · subst h; simp
      · obtain ⟨m, rfl⟩ : ∃ m, j = m + 1 := ⟨j - 1, by omega⟩
        rw [if_pos (by omega), if_neg (by omega), Nat.add_sub_cancel, Int.pow_succ]
        grind

theorem nz_mul {x y : Int} (hx : ¬ Eqm x 0) (hy : ¬ Eqm y 0) : ¬ Eqm (x * y) 0 := fun h => by
  obtain ⟨v, hv⟩ := inv_ex hx
  have h1 : Eqm (v * (x * y)) 0 := (Eqm.mul (Eqm.refl v) h).trans (Eqm.of_eq (Int.mul_zero _))
  have h2 : Eqm (v * (x * y)) y := by
    rw [← Int.mul_assoc]
    exact (Eqm.mul hv (Eqm.refl y)).trans (Eqm.of_eq (Int.one_mul _))
  exact hy (h2.symm.trans h1)
theorem prodTo_nz {f : Nat → Int} {n : Nat} : (¬ Eqm (prodTo f n) 0) ↔ ∀ i, i < n → ¬ Eqm (f i) 0 := by
  induction n with
  | zero => exact ⟨fun _ i h => absurd h (Nat.not_lt_zero _), fun _ => by show ¬ (1:Int) % 9973 = 0 % 9973; decide⟩
  | succ n ih =>
    rw [prodTo]
    constructor
    · intro h i hi
      by_cases e : i = n
      · subst e
        exact fun z => h ((Eqm.mul (Eqm.refl _) z).trans (Eqm.of_eq (Int.mul_zero _)))
      · exact ih.1 (fun z => h ((Eqm.mul z (Eqm.refl _)).trans (Eqm.of_eq (Int.zero_mul _)))) i (by omega)
    · intro h
      exact nz_mul (ih.2 fun i hi => h i (by omega)) (h n (Nat.lt_succ_self n))

/-- The product of differences, as it is reckoned: the rounds of one row, and those of all. -/
def pinn (l : List Int) (j : Nat) (o : Int) : Nat → Int
  | 0 => o
  | i + 1 => pinn l j o i * ((ix l j - ix l i) % 9973) % 9973
def pout (l : List Int) : Nat → Int
  | 0 => 1
  | j + 1 => pinn l j (pout l j) j
theorem pinn_eqm (l : List Int) (j : Nat) (o : Int) : ∀ i, Eqm (pinn l j o i) (o * prodTo (fun i => ix l j - ix l i) i)
  | 0 => Eqm.of_eq (Int.mul_one _).symm
  | i + 1 => by
    rw [pinn, prodTo]
    refine (Eqm.mod _).trans (((pinn_eqm l j o i).mul (Eqm.mod _)).trans (Eqm.of_eq ?_))
    grind
theorem pinn_in {l : List Int} {j : Nat} {o : Int} (h : 0 ≤ o ∧ o ≤ 9972) : ∀ i, 0 ≤ pinn l j o i ∧ pinn l j o i ≤ 9972
  | 0 => h
  | i + 1 => by rw [pinn]; omega
theorem pout_in (l : List Int) : ∀ j, 0 ≤ pout l j ∧ pout l j ≤ 9972
  | 0 => ⟨show (0:Int) ≤ 1 by decide, show (1:Int) ≤ 9972 by decide⟩
  | j + 1 => pinn_in (pout_in l j) j
theorem pout_eqm (l : List Int) : ∀ j, Eqm (pout l j) (pairP (ix l) j)
  | 0 => Eqm.refl _
  | j + 1 => by
    rw [pout]
    show Eqm _ (prodTo _ j * prodTo _ j)
    exact (pinn_eqm l j _ j).trans ((pout_eqm l j).mul (Eqm.refl _))
theorem pout_det {l : List Int} {n : Nat} {M : Mx} (hM : ∀ i j, i < n → j < n → M i j = powm (ix l i) j) : det n M % 9973 = pout l n := by
  have h : Eqm (det n M) (pout l n) := by
    refine (det_eqm (B := powM_ (ix l)) fun i j hi hj => ?_).trans ?_
    · rw [hM i j hi hj]; exact Eqm.mod _
    · rw [det_powers]; exact (pout_eqm l n).symm
  have := pout_in l n
  unfold Eqm at h
  omega
theorem pout_zero {l : List Int} {n : Nat} (hl : In 0 9972 l) (hn : n ≤ l.length) : pout l n = 0 ↔ ∃ j, j < n ∧ ∃ i, i < j ∧ ix l i = ix l j := by
  have h : (¬ pout l n = 0) ↔ ∀ j, j < n → ∀ i, i < j → ¬ ix l i = ix l j := by
    have h1 : (¬ pout l n = 0) ↔ ¬ Eqm (pairP (ix l) n) 0 := by
      have a := pout_in l n
      have b := pout_eqm l n
      unfold Eqm at b ⊢
      omega
    rw [h1]
    unfold pairP
    rw [prodTo_nz]
    constructor
    · intro h j hj i hi
      have := prodTo_nz.1 (h j hj) i hi
      intro e
      rw [e, Int.sub_self] at this
      exact this (Eqm.refl _)
    · intro h j hj
      refine prodTo_nz.2 fun i hi z => h j hj i hi ?_
      have a := hl j (by omega)
      have b := hl i (by omega)
      unfold Eqm at z
      omega
  constructor
  · intro z
    refine Classical.byContradiction fun c => ?_
    exact h.2 (fun j hj i hi e => c ⟨j, hj, i, hi, e⟩) z
  · rintro ⟨j, hj, i, hi, e⟩
    exact Classical.byContradiction fun z => h.1 z j hj i hi e

/-- What factors come to, from the last one on: k of them. -/
def hornF (l : List Int) (x : Int) : Nat → Int
  | 0 => 0
  | k + 1 => (hornF l x k * x + ix l (l.length - 1 - k)) % 9973
theorem hornF_in (l : List Int) (x : Int) : ∀ k, 0 ≤ hornF l x k ∧ hornF l x k ≤ 9972
  | 0 => ⟨show (0:Int) ≤ 0 by decide, show (0:Int) ≤ 9972 by decide⟩
  | k + 1 => by rw [hornF]; omega
theorem hornF_eqm (l : List Int) (x : Int) : ∀ k, k ≤ l.length → Eqm (hornF l x k) (sumTo (fun t => ix l (l.length - k + t) * x ^ t) k)
  | 0, _ => Eqm.refl _
  | k + 1, h => by
    rw [hornF, sumTo_succ_left]
    refine (Eqm.mod _).trans (((((hornF_eqm l x k (by omega)).mul (Eqm.refl x))).add (Eqm.refl _)).trans (Eqm.of_eq ?_))
    rw [Nat.add_zero, Int.pow_zero, Int.mul_one, show l.length - 1 - k = l.length - (k + 1) from by omega, Int.add_comm, Int.mul_comm, ← sumTo_mul]
    refine congrArg (fun z => ix l (l.length - (k + 1)) + z) (sumTo_congr fun t ht => ?_)
    rw [show l.length - (k + 1) + (t + 1) = l.length - k + t from by omega, Int.pow_succ]
    grind
/-- What factors come to at a number, by the prime. -/
def atV (l : List Int) (x : Int) : Int := sumTo (fun t => ix l t * x ^ t) l.length % 9973
theorem hornF_full (l : List Int) (x : Int) : hornF l x l.length = atV l x := by
  have h := hornF_eqm l x l.length (Nat.le_refl _)
  have b := hornF_in l x l.length
  unfold atV
  simp only [Nat.sub_self, Nat.zero_add] at h
  unfold Eqm at h
  omega
end Go.Rk
namespace Go.Proofs.Ytoahegjjffggaaa
open Go.RowKit Go.Shelf Go.Rk
attribute [local go_sem] Oper.semAt_some

/-- What is wrong with some numbers. -/
def powersR (l : List Int) : Option Int := if l.length = 0 then some 5 else if 5 < l.length then some 4 else if anyB 0 9972 l then some 1 else none
theorem powersR_none {l : List Int} (h : powersR l = none) : 1 ≤ l.length ∧ l.length ≤ 5 ∧ In 0 9972 l := by
  unfold powersR at h
  split at h
  · cases h
  · split at h
    · cases h
    · split at h
      · cases h
      · next h1 h2 h3 => exact ⟨by omega, by omega, in_of_any (by simpa using h3)⟩

theorem vander_Check_any {a : Option Addr} {n ca : Nat} {l : List Int} {w : World} (hl : RdI w a n ca l) :
    Calls Try.prog 63 #[.slice a n ca] w fun e w' => e = .returned (errV (powersR l)) ∧ w = w' := by
  have lm := hl.len_max
  have E := Lib.hid hl.len_eq
  have C := Lib.hid (any_any a n ca l 0 9972 w hl)
  by_cases h0 : n = 0
  · subst h0
    go_enter Try.func63, Try.ntmps63
    go_wp2
    go_ret
    exact ⟨by unfold powersR; rw [if_pos E.out]; rfl, rfl⟩
  · have z0 : ((n : Int) == 0) = false := beq_eq_false_iff_ne.2 (by omega)
    by_cases h5 : 5 < n
    · have z1 : (5 : Int) < (n : Int) := by omega
      have H0 := Lib.hid h0
      clear h0
      go_enter Try.func63, Try.ntmps63
      go_wp2
      go_ret
      exact ⟨by unfold powersR; rw [if_neg (by rw [E.out]; exact H0.out), if_pos (by rw [E.out]; exact h5)]; rfl, rfl⟩
    · have z1 : (n : Int) ≤ 5 := by omega
      have H0 := Lib.hid h0
      clear h0
      rcases hb : anyB 0 9972 l
      · rw [hb] at C
        have HB := Lib.hid hb
        clear hb
        go_enter Try.func63, Try.ntmps63
        go_wp2_with (first | (go_at_call 68; (with_reducible refine C.out.mono ?_); rintro e w' ⟨rfl, rfl⟩))
        go_ret
        exact ⟨by unfold powersR; rw [if_neg (by rw [E.out]; exact H0.out), if_neg (by rw [E.out]; exact h5), HB.out]; rfl, rfl⟩
      · rw [hb] at C
        have HB := Lib.hid hb
        clear hb
        go_enter Try.func63, Try.ntmps63
        go_wp2_with (first | (go_at_call 68; (with_reducible refine C.out.mono ?_); rintro e w' ⟨rfl, rfl⟩))
        go_ret
        exact ⟨by unfold powersR; rw [if_neg (by rw [E.out]; exact H0.out), if_neg (by rw [E.out]; exact h5), HB.out]; rfl, rfl⟩
theorem vander_Check_is {a : Option Addr} {n ca : Nat} {l : List Int} {w : World} {o : Option Int} (hl : RdI w a n ca l) (ho : powersR l = o) :
    Calls Try.prog 63 #[.slice a n ca] w fun e w' => e = .returned (errV o) ∧ w = w' := by
  rw [← ho]; exact vander_Check_any hl
theorem vander_Full_err {a : Option Addr} {n ca : Nat} {l : List Int} {w : World} {x : Int} (hl : RdI w a n ca l) (hq : powersR l = some x) :
    Calls Try.prog 31 #[.slice a n ca] w fun e w' => e = .returned (.tuple #[.slice none 0 0, .iface 59 (.int .i64 x)]) ∧ Below w.heap.size w w' := by
  have C := Lib.hid (vander_Check_is (hl.alloc (.cells #[.slice a n ca] 22)) hq)
  clear hq
  go_enter Try.func31, Try.ntmps31
  go_wp2_with (first | (go_at_call 63; (with_reducible refine C.out.mono ?_); rintro e w' ⟨rfl, rfl⟩; simp only [errV]))
  go_ret2
  exact ⟨rfl, below_al (Below.refl _ _) _⟩

set_option maxHeartbeats 8000000 in
set_option maxRecDepth 100000 in
theorem vander_Full_ok {a : Option Addr} {n ca : Nat} {l : List Int} {w : World} (hl : RdI w a n ca l) (hq : powersR l = none) :
    Calls Try.prog 31 #[.slice a n ca] w fun e w' => ∃ aM cM P, e = .returned (.tuple #[.slice aM n cM, .nilIface]) ∧ OwM w' w.heap.size 22 3 aM n cM P ∧ IsR n n P (fun i j => powm (ix l i) j) ∧ Below w.heap.size w w' := by
  obtain ⟨q1, q2, q3⟩ := powersR_none hq
  rw [hl.len_eq] at q1 q2
  have HI := Lib.hid q3
  have hl1 := hl.alloc (.cells #[.slice a n ca] 22)
  have C := Lib.hid (vander_Check_is hl1 hq)
  have p1 : (w.alloc (.cells #[.slice a n ca] 22)).cell? ⟨w.heap.size, 0, none⟩ = some (.slice a n ca) := by simp
  have k1 := below_al (Below.refl _ w) (.cells #[.slice a n ca] 22)
  have hs1 : w.heap.size < (w.alloc (.cells #[.slice a n ca] 22)).heap.size := by simp
  obtain ⟨bx, ox, rfl, lx, cx⟩ := hl.at (k := 0) (by omega)
  clear q3 hq
  refine (callsIn_wide (n := 6)).1 ?_
  refine callsIn_of_wp_marks Try.func31 rfl trivial ?_ rfl
  simp only [Try.ntmps31, List.size_toArray, List.length_cons, List.length_nil, Nat.reduceAdd, Nat.reduceSub, Array.replicate_succ, Array.replicate_zero, List.push_toArray, List.append_toArray, List.nil_append, List.cons_append]
  refine wpIn_wide.2 ?_
  go_wp2_with (first | (go_at_call 63; (with_reducible refine C.out.mono ?_); rintro e w' ⟨rfl, rfl⟩; simp only [errV]) | (go_at_call 64; refine (Grid_any n n _ (by omega) (by omega)).mono ?_; rintro e w3 ⟨a3, cap3, rfl, ho3, hb3⟩; have bx := alloc_keep (o := .cells #[.slice a3 n cap3] 43) ((hb3.cell (p := ⟨w.heap.size, 0, none⟩) hs1).trans p1)) | (go_at_call 65; fail))
  clear C
  have k2 := k1.trans (hb3.mono k1.size)
  have k3 := k2.alloc k2.size (.cells #[.slice a3 n cap3] 43)
  obtain ⟨g, D, C, hz, hd3⟩ := ho3.named (by omega) fun r hr => by rw [(Dm.replicate n n 0).2 r hr]; omega
  cases hz
  have hd4 := (hd3.mono k1.size).alloc (.cells #[.slice (some ⟨g, 0, none⟩) n cap3] 43)
  have px : (w3.alloc (.cells #[.slice (some ⟨g, 0, none⟩) n cap3] 43)).cell? ⟨w3.heap.size, 0, none⟩ = some (.slice (some ⟨g, 0, none⟩) n cap3) := by simp
  clear hd3 ho3 hb3 k2 p1 hs1 hl1 cx
  generalize (w3.alloc (.cells #[.slice (some ⟨g, 0, none⟩) n cap3] 43)) = W4 at *
  generalize w3.heap.size = PO at *
  refine (callsIn_wide.1 (each_in 0 (some ⟨g, 0, none⟩) n cap3 W4)).mono ?_
  rintro e w' ⟨rfl, rfl⟩
  go_wp2_with fail
  refine (wpIn_wide (n := 6)).1 ?_
  have hd5 := hd4.alloc (.cells #[.slice (some ⟨g, 0, none⟩) n cap3] 43)
  have hG : Grid n n g 0 D (fun _ => 0) C (fun _ _ _ => True) (W4.alloc (.cells #[.slice (some ⟨g, 0, none⟩) n cap3] 43)) := hd5.grid (Dm.replicate n n 0) fun _ _ _ _ => trivial
  have hBm : (W4.alloc (.cells #[.slice (some ⟨g, 0, none⟩) n cap3] 43)).cell? ⟨W4.heap.size, 0, none⟩ = some (.slice (some ⟨g, 0, none⟩) n cap3) := by simp
  have hBl : W4.heap.size < (W4.alloc (.cells #[.slice (some ⟨g, 0, none⟩) n cap3] 43)).heap.size := by simp
  have k5 := k3.alloc k3.size (.cells #[.slice (some ⟨g, 0, none⟩) n cap3] 43)
  have q5 := alloc_keep (o := .cells #[.slice (some ⟨g, 0, none⟩) n cap3] 43) px
  have r5 := alloc_keep (o := .cells #[.slice (some ⟨g, 0, none⟩) n cap3] 43) bx
  have h5w := k5.size
  have hbl : g < (W4.alloc (.cells #[.slice (some ⟨g, 0, none⟩) n cap3] 43)).heap.size := hd5.lowO.2
  have hDl : ∀ r, r < n → D r < (W4.alloc (.cells #[.slice (some ⟨g, 0, none⟩) n cap3] 43)).heap.size := fun r hr => (hd5.lowI hr).2
  clear px bx k3
  refine wpIn_rangeFunc_ownH rfl (by decide) (gf := 88) (lb := #[.pointer (some ⟨W4.heap.size, 0, none⟩)]) rfl trivial (enters_of Try.func88 (by kernel_rfl) rfl)
    (each_stops 5 (cap := cap3) (by omega) (by omega) _ hBm hBl hG hbl hDl) (fun h h' g => h' (h g)) (fun W l o o' _ h1 h2 _ g => g.passes (grownBy_putObj' W l o') (fun r e => by cases e; exact ⟨o, h1, h2⟩)) (Below.refl _ _) (fun _ => rfl)
    (fun pre W => (∃ P, OwMD W w.heap.size 22 3 g D C n cap3 P ∧ Dm n n P ∧ ∀ r s, (r, s) ∈ plcs pre → en P r s = powm (ix l r) s) ∧ W.cell? ⟨PO, 0, none⟩ = some (.slice (some ⟨g, 0, none⟩) n cap3) ∧ W.cell? ⟨w.heap.size, 0, none⟩ = some (.slice (some ⟨bx, ox, none⟩) n ca) ∧ Below w.heap.size w W)
    (fun _ _ _ => False)
    (fun s X Y row hs hgr hr => ⟨let ⟨P, e1, e2, e3⟩ := hs.1; ⟨P, e1.passes hgr (fun r e => (hr r e).2), e2, e3⟩, cell_kept hs.2.1 hgr (fun r e => (hr r e).2), cell_kept hs.2.2.1 hgr (fun r e => (hr r e).2), hs.2.2.2.grown hgr hs.2.2.2.size (fun r e => Nat.le_trans h5w (hr r e).1)⟩)
    (fun _ _ _ _ _ hs _ _ => hs)
    ⟨⟨_, hd5, Dm.replicate n n 0, fun r s hp => by cases hp⟩, q5, r5, k5⟩
    (fun x a' W => ∃ Bx, W.cell? ⟨Bx, 0, none⟩ = some (.int .i64 (x.1.1 : Int)) ∧ W.cell? ⟨Bx, 1, none⟩ = some (.int .i64 (x.1.2.1 : Int)) ∧ a' = { tmps := #[Value.slice (some { block := bx, off := ox }) n ca, Value.pointer (some { block := w.heap.size, off := 0 }), Value.slice none 0 0, Value.nilIface, Value.nilIface, Value.pointer (some { block := PO, off := 0 }), Value.pointer (some { block := Bx, off := 0 }), Value.slice (some { block := bx, off := ox }) n ca, Value.nilIface, Value.nilIface, Value.bool false, undef, Value.slice (some { block := bx, off := ox }) n ca, Value.int IntKind.i64 (n : Int), Value.slice (some { block := bx, off := ox }) n ca, Value.int IntKind.i64 (n : Int), Value.slice (some { block := g, off := 0 }) n cap3, Value.slice (some { block := g, off := 0 }) n cap3, Value.func (.func 88) #[] #[Value.pointer (some { block := W4.heap.size, off := 0 })], .agg #[.int .i64 (x.1.1 : Int), .int .i64 (x.1.2.1 : Int)], .int .i64 x.1.2.2, undef, undef, undef, undef, undef, undef, undef, undef, undef, undef, undef, undef, undef, undef, undef, undef, undef], defers := [] })
    (fun x a' _ X Y row hs hgr hr => let ⟨Bx, e1, e2, e3⟩ := hs; ⟨Bx, cell_kept e1 hgr (fun r e => (hr r e).2), cell_kept e2 hgr (fun r e => (hr r e).2), e3⟩)
    ?assign ?body ?done ?stop
  case assign =>
    rintro l pre x W K ⟨⟨P, e1, e2, e3⟩, c3, c4, hbW⟩ hK
    dsimp only [encP]
    gi_wp2
    exact hK _ _ ((KeepsOthers.alloc _ _).from _) (fun g => g.fresh ((Below.refl _ _).alloc (Nat.le_refl _) _)) ⟨⟨P, e1.alloc _, e2, e3⟩, alloc_keep c3, alloc_keep c4, hbW.alloc hbW.size _⟩ ⟨W.heap.size, by simp, by simp, rfl⟩
  case body =>
    rintro lp pre ⟨⟨i, j, v⟩, hi, hj, _⟩ a' W hlp ⟨r, hr⟩ ⟨⟨P, e1, e2, e3⟩, c3, c4, hbW⟩ ⟨Bx, y1, y2, rfl⟩ hlt
    clear hBm hBl q5 hd4 hd5 r5 hG
    dsimp only at y1 y2 hi hj ⊢
    obtain ⟨bz, oz, hz, _, cx⟩ := (hl.below hbW).at hi
    cases hz
    have x1 := cx i hi
    have bX := HI.out i (by rw [hl.len_eq]; exact hi)
    have a1 := e1.cellO hi
    have a2 := e1.cellI hi (j := j) (by rw [e2.2 i hi]; exact hj)
    have a3 := e1.frozenI hi (by rw [e2.2 i hi]; omega) j
    rw [e2.2 i hi] at a1
    have i1 : (i : Int) < (n : Int) := by omega
    have i2 : (j : Int) < (n : Int) := by omega
    clear cx
    gi_wp2
    refine region_round_tail 16 (by kernel_rfl) (by kernel_rfl) (fun ⟨_, _, h⟩ => h) (by kernel_rfl) ?_
    simp only [List.take_succ_cons, List.take_zero, List.drop_succ_cons, List.drop_zero]
    repeat still_step
    still_call (stillW (Power_any (ix l i) j _ bX.1 bX.2 (by omega)))
    repeat still_step
    refine wpStill_nil ?_
    change wpList _ _ _ _ _ W.drew
    go_wp2
    refine ⟨((KeepsOthers.setCell _ _ _).trans (KeepsOthers.drew _)).from _, fun g => (g.setInt a2 fun _ _ _ _ => trivial).fresh (Below.refl _ _).drew, ⟨_, (e1.set matTy.ne hi _).drew, e2.setE _ _ _, fun r s hp => ?_⟩, set_keepS c3 a2, set_keepS c4 a2, (hbW.setCell (p := ⟨D i, j, none⟩) (e1.lowI hi).1 _).drew⟩
    rw [plcs_snoc] at hp
    have hpl : r < n ∧ s < n := by
      rcases List.mem_append.1 hp with h | h
      · exact plcs_in h
      · cases List.mem_singleton.1 h
        exact ⟨hi, hj⟩
    rw [e2.en_set _ hpl.1 hpl.2]
    split
    · next h => rw [← h.1, ← h.2]
    · next h =>
      rcases List.mem_append.1 hp with h2 | h2
      · exact e3 r s h2
      · cases List.mem_singleton.1 h2
        exact absurd ⟨rfl, rfl⟩ h
  case done =>
    rintro Dd ys W hDd hS ⟨⟨P, e1, e2, e3⟩, c3, c4, hbW⟩ hK
    go_wp2
    refine ⟨by simp, .inl ⟨_, _, rfl, run_takeDeferred hK, ?_⟩⟩
    have hgr := grownBy_putObj' W Dd (.deferred none)
    have hno : ∀ r, some Dd = some r → ∃ o : Obj, W.heap[r]? = some o ∧ o.isCells = false := fun r e => by cases e; exact ⟨_, hK, rfl⟩
    exact ⟨_, results_tmp2 rfl _ _ _, _, _, P, rfl, (e1.passes hgr hno).toM, ⟨e2, fun i j hi hj => e3 i j (by rw [hS]; exact locs_mem hi hj)⟩, hbW.grown hgr hbW.size (fun r e => by cases e; exact Nat.le_trans h5w hDd)⟩
  case stop =>
    rintro D c pre W _ _ h _
    exact h.elim
end Go.Proofs.Ytoahegjjffggaaa
namespace Go.Proofs.Ytoahegjjffggaaa
open Go.RowKit Go.Rk

theorem prodTo_null {g : Nat → Int} {n t : Nat} (ht : t < n) (h : g t = 0) : prodTo g n = 0 := by
  induction n with
  | zero => exact absurd ht (Nat.not_lt_zero t)
  | succ n ih =>
    rw [prodTo]
    rcases Nat.lt_or_ge t n with h1 | h1
    · rw [ih h1, Int.zero_mul]
    · obtain rfl : t = n := by omega
      rw [h, Int.mul_zero]

/-- Newton's form from s on. -/
def nP (x : Nat → Int) (c : Nat → Nat → Int) (s : Nat) (z : Int) (r : Nat) : Int := sumTo (fun k => c k s * prodTo (fun j => z - x (s + j)) k) (r + 1)
theorem nP_succ (x : Nat → Int) (c : Nat → Nat → Int) (s : Nat) (z : Int) (r : Nat) : nP x c s z (r + 1) = nP x c s z r + c (r + 1) s * prodTo (fun j => z - x (s + j)) (r + 1) := rfl

section
variable {x : Nat → Int} {c : Nat → Nat → Int} {n : Nat}
theorem newton_shift (hc : ∀ r s, s + r + 1 < n → Eqm (c (r + 1) s * (x (s + r + 1) - x s)) (c r (s + 1) - c r s)) (z : Int) {s : Nat} : ∀ r, s + r + 1 < n → Eqm (nP x c s z (r + 1)) (nP x c (s + 1) z r + c (r + 1) s * ((z - x (s + r + 1)) * prodTo (fun j => z - x (s + 1 + j)) r)) := by
  intro r
  induction r with
  | zero =>
    intro hr
    have h := hc 0 s hr
    have e1 : nP x c s z 1 = c 0 s + c 1 s * (z - x s) := by
      show (0 + c 0 s * 1) + c 1 s * (1 * (z - x (s + 0))) = _
      rw [Nat.add_zero]; grind
    have e2 : nP x c (s + 1) z 0 + c (0 + 1) s * ((z - x (s + 0 + 1)) * prodTo (fun j => z - x (s + 1 + j)) 0) = c 0 (s + 1) + c 1 s * (z - x (s + 0 + 1)) := by
      show (0 + c 0 (s + 1) * 1) + c (0 + 1) s * ((z - x (s + 0 + 1)) * 1) = _
      grind
    rw [e1, e2]
    have h2 := (Eqm.refl (c 0 s + c (0 + 1) s * (z - x (s + 0 + 1)))).add h
    refine (Eqm.of_eq (by grind)).trans (h2.trans (Eqm.of_eq (by grind)))
  | succ r ih =>
    intro hr
    have h := hc (r + 1) s hr
    have i1 := ih (by omega)
    have w1 : prodTo (fun j => z - x (s + 1 + j)) (r + 1) = prodTo (fun j => z - x (s + 1 + j)) r * (z - x (s + r + 1)) := by
      rw [prodTo, show s + 1 + r = s + r + 1 by omega]
    have w2 : prodTo (fun j => z - x (s + j)) (r + 1 + 1) = (z - x s) * prodTo (fun j => z - x (s + 1 + j)) (r + 1) := by
      rw [prodTo_succ_left, Nat.add_zero]
      congr 1
      exact prodTo_congr fun j _ => by rw [show s + (j + 1) = s + 1 + j by omega]
    rw [nP_succ x c s z (r + 1), nP_succ x c (s + 1) z r, w2]
    rw [Int.mul_comm (z - x (s + r + 1)), ← w1] at i1
    obtain ⟨W, hW⟩ : ∃ W, W = prodTo (fun j => z - x (s + 1 + j)) (r + 1) := ⟨_, rfl⟩
    rw [← hW] at i1 ⊢
    have h2 := (i1.add (Eqm.refl (c (r + 1 + 1) s * ((z - x (s + (r + 1) + 1)) * W)))).add (h.mul (Eqm.refl W))
    refine (Eqm.of_eq ?_).trans (h2.trans (Eqm.of_eq ?_))
    · grind
    · grind
/-- Newton's form goes through the points. -/
theorem newton_at (hc : ∀ r s, s + r + 1 < n → Eqm (c (r + 1) s * (x (s + r + 1) - x s)) (c r (s + 1) - c r s)) : ∀ r s t, s + r < n → t ≤ r → Eqm (nP x c s (x (s + t)) r) (c 0 (s + t)) := by
  intro r
  induction r with
  | zero =>
    intro s t _ ht
    obtain rfl : t = 0 := by omega
    refine Eqm.of_eq ?_
    show 0 + c 0 s * 1 = c 0 s
    omega
  | succ r ih =>
    intro s t hs ht
    rcases Nat.lt_or_ge t (r + 1) with h1 | h1
    · rw [nP_succ, prodTo_null (t := t) h1 (Int.sub_self _), Int.mul_zero, Int.add_zero]
      exact ih s t (by omega) (by omega)
    · obtain rfl : t = r + 1 := by omega
      have e := newton_shift hc (x (s + (r + 1))) (s := s) r (by omega)
      rw [show s + (r + 1) = s + r + 1 by omega] at e ⊢
      rw [Int.sub_self, Int.zero_mul, Int.mul_zero, Int.add_zero] at e
      have e2 := ih (s + 1) r (by omega) (Nat.le_refl _)
      rw [show s + 1 + r = s + r + 1 by omega] at e2
      exact e.trans e2
end

/-- The divided differences as they are worked out. -/
def cN (x y : Nat → Int) : Nat → Nat → Int
  | 0, s => y s
  | r + 1, s => (cN x y r (s + 1) - cN x y r s) * powm ((x (s + r + 1) - x s) % 9973) 9971 % 9973
theorem cN_in {x y : Nat → Int} {n : Nat} (hy : ∀ j, j < n → 0 ≤ y j ∧ y j ≤ 9972) : ∀ r s, s + r < n → 0 ≤ cN x y r s ∧ cN x y r s ≤ 9972
  | 0, s, h => hy s h
  | r + 1, s, _ => by rw [cN]; omega
theorem cN_div {x y : Nat → Int} {r s : Nat} (h : (x (s + r + 1) - x s) % 9973 ≠ 0) : Eqm (cN x y (r + 1) s * (x (s + r + 1) - x s)) (cN x y r (s + 1) - cN x y r s) := by
  have e := over_inv h
  rw [cN]
  refine ((Eqm.mod _).mul (Eqm.refl _)).trans ?_
  have e2 := (Eqm.refl (cN x y r (s + 1) - cN x y r s)).mul e
  exact (Eqm.of_eq (by grind)).trans (e2.trans (Eqm.of_eq (by omega)))

/-- The order reached at place j: before b still the pass ahead. -/
def ordN (k b j : Nat) : Nat := if j < b then min j (k - 1) else min j k
def stV (x y : Nat → Int) (k b j : Nat) : Int := cN x y (ordN k b j) (j - ordN k b j)
theorem stV_first (x y : Nat → Int) {n j : Nat} (h : j < n) : stV x y 1 n j = y j := by
  unfold stV ordN
  rw [if_pos h, show min j (1 - 1) = 0 by omega]
  rfl
theorem stV_pass (x y : Nat → Int) {n k j : Nat} (h : j < n) : stV x y (k + 1) n j = stV x y k k j := by
  have : ordN (k + 1) n j = ordN k k j := by
    unfold ordN
    rw [if_pos h]
    split <;> omega
  unfold stV
  rw [this]
theorem stV_last (x y : Nat → Int) {n j : Nat} (h : j < n) : stV x y n n j = cN x y j 0 := by
  have : ordN n n j = j := by
    unfold ordN
    rw [if_pos h]; omega
  unfold stV
  rw [this, Nat.sub_self]
theorem stV_else (x y : Nat → Int) {k b j : Nat} (h : j ≠ b) : stV x y k b j = stV x y k (b + 1) j := by
  have : ordN k b j = ordN k (b + 1) j := by
    unfold ordN
    split <;> split <;> omega
  unfold stV
  rw [this]
theorem stV_step (x y : Nat → Int) {k i : Nat} (h1 : 1 ≤ k) (hk : k ≤ i) : (stV x y k (i + 1) i - stV x y k (i + 1) (i - 1)) * powm ((x i - x (i - k)) % 9973) 9971 % 9973 = stV x y k i i := by
  obtain ⟨r, rfl⟩ : ∃ r, k = r + 1 := ⟨k - 1, by omega⟩
  obtain ⟨s, rfl⟩ : ∃ s, i = s + r + 1 := ⟨i - r - 1, by omega⟩
  have o1 : ordN (r + 1) (s + r + 1 + 1) (s + r + 1) = r := by unfold ordN; rw [if_pos (by omega)]; omega
  have o2 : ordN (r + 1) (s + r + 1 + 1) (s + r + 1 - 1) = r := by unfold ordN; rw [if_pos (by omega)]; omega
  have o3 : ordN (r + 1) (s + r + 1) (s + r + 1) = r + 1 := by unfold ordN; rw [if_neg (by omega)]; omega
  unfold stV
  rw [o1, o2, o3, show s + r + 1 - (r + 1) = s by omega, show s + r + 1 - r = s + 1 by omega, show s + r + 1 - 1 - r = s by omega, cN]
theorem stV_in {x y : Nat → Int} {n : Nat} (hy : ∀ j, j < n → 0 ≤ y j ∧ y j ≤ 9972) {k b j : Nat} (hj : j < n) : 0 ≤ stV x y k b j ∧ stV x y k b j ≤ 9972 := by
  refine cN_in hy _ _ ?_
  have : ordN k b j ≤ j := by unfold ordN; split <;> omega
  omega

/-- Newton's form from the inside: from k on, m of them. -/
def tN (x d : Nat → Int) (z : Int) (k m : Nat) : Int := sumTo (fun i => d (k + i) * prodTo (fun j => z - x (k + j)) i) m
theorem tN_step (x d : Nat → Int) (z : Int) (k m : Nat) : tN x d z k (m + 1) = d k + (z - x k) * tN x d z (k + 1) m := by
  unfold tN
  rw [sumTo_succ_left, ← sumTo_mul]
  congr 1
  · show d (k + 0) * 1 = d k
    rw [Nat.add_zero, Int.mul_one]
  · refine sumTo_congr fun i _ => ?_
    rw [prodTo_succ_left, Nat.add_zero, show k + (i + 1) = k + 1 + i by omega, prodTo_congr (h := fun j => z - x (k + 1 + j)) fun j _ => by rw [show k + (j + 1) = k + 1 + j by omega]]
    grind
/-- Through all the points. -/
theorem tN_at {x y : Nat → Int} {n t : Nat} (hx : ∀ i j, i < j → j < n → (x j - x i) % 9973 ≠ 0) (ht : t < n) : Eqm (tN x (fun k => cN x y k 0) (x t) 0 n) (y t) := by
  have e := newton_at (x := x) (c := cN x y) (n := n) (fun r s h => cN_div (hx _ _ (by omega) h)) (n - 1) 0 t (by omega) (by omega)
  rw [Nat.zero_add] at e
  refine (Eqm.of_eq ?_).trans e
  unfold tN nP
  rw [show n - 1 + 1 = n by omega]
  exact sumTo_congr fun i _ => by rw [Nat.zero_add]

/-- But one of so few factors. -/
theorem one_through {n : Nat} {P : List (List Int)} {f g : List Int} (hd : det n (mx P) % 9973 ≠ 0) (lf : f.length = n) (lg : g.length = n) (hf : In 0 9972 f) (hg : In 0 9972 g)
    (h : ∀ i, i < n → Eqm (sumTo (fun j => en P i j * ix f j) n) (sumTo (fun j => en P i j * ix g j) n)) : f = g := by
  have n0 : ∀ k, k < n → 0 < n := fun k hk => Nat.lt_of_le_of_lt (Nat.zero_le k) hk
  have I := (invE_inv hd).left
  refine ix_ext (by rw [lf, lg]) fun k hk => ?_
  rw [lf] at hk
  have key : ∀ l : List Int, Eqm (mulM n (fun i j => invE n P i j) (mulM n (mx P) fun r _ => ix l r) k 0) (ix l k) := fun l => by
    rw [← mulM_go]
    exact ((EqM.mul I (EqM.refl n n fun r _ => ix l r)) k 0 hk (by omega)).trans (one_left (n := n) (fun r _ => ix l r) k 0 hk (by omega))
  have e1 : Eqm (mulM n (fun i j => invE n P i j) (mulM n (mx P) fun r _ => ix f r) k 0) (mulM n (fun i j => invE n P i j) (mulM n (mx P) fun r _ => ix g r) k 0) :=
    (EqM.mul (n := n) (c := n) (EqM.refl n n _) (fun i _ hi _ => h i hi)) k 0 hk (n0 k hk)
  exact Eqm.eq ((key f).symm.trans (e1.trans (key g))) (hf k (by omega)) (hg k (by omega))
end Go.Proofs.Ytoahegjjffggaaa
