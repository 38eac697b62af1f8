/-
  Rows that go on by factors, and the fewest of them: Berlekamp and Massey. Plain Lean, no program in sight.
-/
import Derived.Test.YtfocfgddlnjfmaaSum
import Derived.Test.YtfocfgddlnjfmaaElim
namespace Go.Rk

theorem inv_ex {x : Int} (h : ¬ Eqm x 0) : ∃ v, Eqm (v * x) 1 := by
  refine ⟨powm (x % 9973) 9971, ?_⟩
  have h0 : x % 9973 ≠ 0 := h
  have := over_mul (a := x % 9973) (by omega) (by omega) h0
  refine (Eqm.mul (Eqm.refl _) (Eqm.mod x)).symm.trans ?_
  exact this
/-- By how much a number differs from what factors say. -/
def Rz (s c : Nat → Int) (L t : Nat) : Int := s t - sumTo (fun k => c k * s (t - 1 - k)) L
/-- The first N numbers go on by L factors. -/
def GenF (s c : Nat → Int) (L N : Nat) : Prop := ∀ t, L ≤ t → t < N → Eqm (Rz s c L t) 0

theorem Rz_eqm {s c : Nat → Int} {L t : Nat} : Eqm (Rz s c L t) 0 ↔ Eqm (s t) (sumTo (fun k => c k * s (t - 1 - k)) L) := by
  unfold Rz Eqm; omega
theorem GenF.less {s c : Nat → Int} {L N M : Nat} (h : GenF s c L N) (hm : M ≤ N) : GenF s c L M := fun t h1 h2 => h t h1 (by omega)
theorem Rz_congr {s u c d : Nat → Int} {L t : Nat} (ht : L ≤ t) (e : ∀ k, k ≤ t → Eqm (s k) (u k)) (f : ∀ k, k < L → Eqm (c k) (d k)) : Eqm (Rz s c L t) (Rz u d L t) := by
  unfold Rz
  exact (e t (Nat.le_refl _)).sub (Eqm.sum fun k hk => (f k hk).mul (e _ (by omega)))
theorem GenF.congr {s u c d : Nat → Int} {L N : Nat} (h : GenF s c L N) (e : ∀ k, k < N → Eqm (s k) (u k)) (f : ∀ k, k < L → Eqm (c k) (d k)) : GenF u d L N := fun t h1 h2 =>
  (Rz_congr h1 (fun k hk => (e k (by omega)).symm) fun k hk => (f k hk).symm).trans (h t h1 h2)

/-- Massey: what goes on by factors where others miss has so many more. -/
theorem massey_low {s c h : Nat → Int} {L m i : Nat} (hc : GenF s c L i) (hm : ¬ Eqm (Rz s c L i) 0) (_ : L ≤ i) (hh : GenF s h m (i + 1)) : i + 1 ≤ m + L := by
  rcases Nat.lt_or_ge i (m + L) with h0 | h0
  · omega
  · exfalso
    apply hm
    rw [Rz_eqm]
    have e1 : Eqm (s i) (sumTo (fun k => h k * s (i - 1 - k)) m) := Rz_eqm.1 (hh i (by omega) (by omega))
    have e2 : Eqm (sumTo (fun k => h k * s (i - 1 - k)) m) (sumTo (fun k => h k * sumTo (fun j => c j * s (i - 1 - k - 1 - j)) L) m) := Eqm.sum fun k hk =>
      (Eqm.refl _).mul (Rz_eqm.1 (hc (i - 1 - k) (by omega) (by omega)))
    have e3 : sumTo (fun k => h k * sumTo (fun j => c j * s (i - 1 - k - 1 - j)) L) m = sumTo (fun j => c j * sumTo (fun k => h k * s (i - 1 - j - 1 - k)) m) L := by
      rw [sumTo_congr (h := fun k => sumTo (fun j => h k * (c j * s (i - 1 - k - 1 - j))) L) fun k _ => (sumTo_mul _ _ _).symm, sumTo_swap]
      refine sumTo_congr fun j _ => ?_
      rw [← sumTo_mul]
      refine sumTo_congr fun k _ => ?_
      rw [show i - 1 - k - 1 - j = i - 1 - j - 1 - k by omega]
      grind
    have e4 : Eqm (sumTo (fun j => c j * sumTo (fun k => h k * s (i - 1 - j - 1 - k)) m) L) (sumTo (fun j => c j * s (i - 1 - j)) L) := Eqm.sum fun j hj =>
      (Eqm.refl _).mul (Rz_eqm.1 (hh (i - 1 - j) (by omega) (by omega))).symm
    rw [e3] at e2
    exact (e1.trans e2).trans e4

/-- Factors from which so many of elder ones, so far behind, are taken away. -/
def corF (c : Nat → Int) (L : Nat) (g : Nat → Int) (L' gap : Nat) (by_ : Int) (k : Nat) : Int :=
  (if k < L then c k else 0) + (if k = gap then by_ else if gap < k ∧ k < gap + 1 + L' then -by_ * g (k - gap - 1) else 0)

theorem sumTo_ext0 {f : Nat → Int} {a b : Nat} (h : a ≤ b) (z : ∀ k, a ≤ k → k < b → f k = 0) : sumTo f b = sumTo f a := by
  obtain ⟨d, rfl⟩ : ∃ d, b = a + d := ⟨b - a, by omega⟩
  induction d with
  | zero => rfl
  | succ d ih => rw [← Nat.add_assoc, sumTo, ih (by omega) (fun k h1 h2 => z k h1 (by omega)), z _ (by omega) (by omega), Int.add_zero]
theorem sumTo_shift0 {f : Nat → Int} {a b : Nat} (z : ∀ k, k < a → f k = 0) : sumTo f (a + b) = sumTo (fun k => f (a + k)) b := by
  induction b with
  | zero => rw [Nat.add_zero, sumTo_congr z, sumTo_zero]; rfl
  | succ b ih => rw [← Nat.add_assoc, sumTo, ih, sumTo]

theorem cor_Rz {s c g : Nat → Int} {L L' gap n t : Nat} {by_ : Int} (h1 : L ≤ n) (h2 : gap + 1 + L' ≤ n) (_ : n ≤ t) : Rz s (corF c L g L' gap by_) n t = Rz s c L t - by_ * Rz s g L' (t - 1 - gap) := by
  unfold Rz
  have e1 : sumTo (fun k => corF c L g L' gap by_ k * s (t - 1 - k)) n = sumTo (fun k => (if k < L then c k else 0) * s (t - 1 - k)) n + sumTo (fun k => (if k = gap then by_ else if gap < k ∧ k < gap + 1 + L' then -by_ * g (k - gap - 1) else 0) * s (t - 1 - k)) n := by
    rw [← sumTo_add]
    exact sumTo_congr fun k _ => Int.add_mul _ _ _
  have e2 : sumTo (fun k => (if k < L then c k else 0) * s (t - 1 - k)) n = sumTo (fun k => c k * s (t - 1 - k)) L := by
    rw [sumTo_ext0 h1 fun k hk _ => by rw [if_neg (by omega), Int.zero_mul]]
    exact sumTo_congr fun k hk => by rw [if_pos hk]
  have e3 : sumTo (fun k => (if k = gap then by_ else if gap < k ∧ k < gap + 1 + L' then -by_ * g (k - gap - 1) else 0) * s (t - 1 - k)) n = by_ * s (t - 1 - gap) + sumTo (fun k => -by_ * (g k * s (t - 1 - gap - 1 - k))) L' := by
    rw [sumTo_ext0 h2 fun k hk _ => by rw [if_neg (by omega), if_neg (by omega), Int.zero_mul], show gap + 1 + L' = gap + (L' + 1) by omega, sumTo_shift0 fun k hk => by rw [if_neg (by omega), if_neg (by omega), Int.zero_mul], sumTo_succ_left]
    congr 1
    · rw [Nat.add_zero, if_pos rfl]
    · refine sumTo_congr fun k hk => ?_
      rw [if_neg (by omega), if_pos (by omega), show gap + (k + 1) - gap - 1 = k by omega, show t - 1 - (gap + (k + 1)) = t - 1 - gap - 1 - k by omega, Int.mul_assoc]
  rw [e1, e2, e3, sumTo_mul]
  grind

/-- What is known when i numbers are gone through. -/
structure BM (s : Nat → Int) (i : Nat) (c : Nat → Int) (L : Nat) : Prop where
  le : L ≤ i
  gen : GenF s c L i
  low : ∀ m h, GenF s h m i → L ≤ m
  eld : (L = 0 ∧ ∀ t, t < i → Eqm (s t) 0) ∨ ∃ g L' a, L' ≤ a ∧ a < i ∧ L + L' = a + 1 ∧ GenF s g L' a ∧ ¬ Eqm (Rz s g L' a) 0

section
variable {s c g : Nat → Int} {i L L' a : Nat}
theorem BM.start (s c : Nat → Int) : BM s 0 c 0 := ⟨Nat.le_refl _, fun _ _ h => absurd h (Nat.not_lt_zero _), fun _ _ _ => Nat.zero_le _, .inl ⟨rfl, fun _ h => absurd h (Nat.not_lt_zero _)⟩⟩
theorem BM.pass (h : BM s i c L) (z : Eqm (Rz s c L i) 0) : BM s (i + 1) c L := by
  refine ⟨by have := h.le; omega, fun t h1 h2 => ?_, fun m k hk => h.low m k (hk.less (by omega)), ?_⟩
  · rcases Nat.lt_or_ge t i with h3 | h3
    · exact h.gen t h1 h3
    · obtain rfl : t = i := by omega
      exact z
  · rcases h.eld with ⟨rfl, hz⟩ | ⟨g, L', a, h1, h2, h3, h4, h5⟩
    · refine .inl ⟨rfl, fun t ht => ?_⟩
      rcases Nat.lt_or_ge t i with h3 | h3
      · exact hz t h3
      · obtain rfl : t = i := by omega
        unfold Rz at z
        simp only [sumTo] at z
        rwa [Int.sub_zero] at z
    · exact .inr ⟨g, L', a, h1, by omega, h3, h4, h5⟩
theorem BM.low_next (h : BM s i c L) (z : ¬ Eqm (Rz s c L i) 0) {m : Nat} {k : Nat → Int} (hk : GenF s k m (i + 1)) : L ≤ m ∧ i + 1 ≤ m + L :=
  ⟨h.low m k (hk.less (by omega)), massey_low h.gen z h.le hk⟩
/-- The first number that is not 0. -/
theorem BM.first (h : BM s i c L) (hz : L = 0) (z : ¬ Eqm (s i) 0) (c' : Nat → Int) : BM s (i + 1) c' (i + 1) ∧ (∀ t, t < i → Eqm (s t) 0) := by
  subst hz
  have hzz : ∀ t, t < i → Eqm (s t) 0 := by
    rcases h.eld with ⟨_, hz⟩ | ⟨g, L', a, h1, h2, h3, _⟩
    · exact hz
    · omega
  have hR : ¬ Eqm (Rz s c 0 i) 0 := by
    unfold Rz
    simp only [sumTo]
    rwa [Int.sub_zero]
  refine ⟨⟨Nat.le_refl _, fun t h1 h2 => by omega, fun m k hk => by have := h.low_next hR hk; omega, .inr ⟨c, 0, i, Nat.zero_le _, by omega, by omega, h.gen, hR⟩⟩, hzz⟩
/-- The step. -/
theorem BM.step (h : BM s i c L) (hL' : L' ≤ a) (ha : a < i) (hs : L + L' = a + 1) (hg : GenF s g L' a) (hga : ¬ Eqm (Rz s g L' a) 0) {by_ : Int} (hby : Eqm (by_ * Rz s g L' a) (Rz s c L i)) (z : ¬ Eqm (Rz s c L i) 0) :
    BM s (i + 1) (corF c L g L' (i - a - 1) by_) (max L (i - a + L')) := by
  have hle := h.le
  refine ⟨by omega, fun t h1 h2 => ?_, fun m k hk => ?_, ?_⟩
  · rw [cor_Rz (by omega) (by omega) h1]
    rcases Nat.lt_or_ge t i with h3 | h3
    · have e1 := h.gen t (by omega) h3
      have e2 := hg (t - 1 - (i - a - 1)) (by omega) (by omega)
      have := e1.sub ((Eqm.refl by_).mul e2)
      rw [Int.mul_zero, Int.sub_zero] at this
      exact this
    · obtain rfl : t = i := by omega
      rw [show t - 1 - (t - a - 1) = a by omega]
      have := (Eqm.refl (Rz s c L t)).sub hby
      rw [Int.sub_self] at this
      exact this
  · have := h.low_next z hk
    omega
  · by_cases e : L < i - a + L'
    · exact .inr ⟨c, L, i, hle, by omega, by omega, h.gen, z⟩
    · exact .inr ⟨g, L', a, hL', by omega, by omega, hg, hga⟩
end

/-- One number more. -/
theorem BM.more {s c : Nat → Int} {i L : Nat} (h : BM s i c L) : ∃ c' L', BM s (i + 1) c' L' ∧ (L' = L ∨ (L < L' ∧ L' + L = i + 1)) := by
  by_cases z : Eqm (Rz s c L i) 0
  · exact ⟨c, L, h.pass z, .inl rfl⟩
  · rcases h.eld with ⟨hz, hzz⟩ | ⟨g, L', a, h1, h2, h3, h4, h5⟩
    · have hsi : ¬ Eqm (s i) 0 := fun e => z (by subst hz; unfold Rz; simp only [sumTo]; rwa [Int.sub_zero])
      exact ⟨c, i + 1, (h.first hz hsi c).1, .inr (by omega)⟩
    · -- a number whose product with the elder one's miss is that
      obtain ⟨v, hv⟩ : ∃ v, Eqm (v * Rz s g L' a) 1 := by
        exact inv_ex h5
      refine ⟨_, _, h.step (by_ := v * Rz s c L i) h1 h2 h3 h4 h5 ?_ z, ?_⟩
      · have := hv.mul (Eqm.refl (Rz s c L i))
        rw [Int.one_mul] at this
        rw [show v * Rz s c L i * Rz s g L' a = v * Rz s g L' a * Rz s c L i by grind]
        exact this
      · have := h.le
        omega
theorem BM.same {s u c d : Nat → Int} {i L M : Nat} (h : BM s i c L) (k : BM u i d M) (e : ∀ t, t < i → Eqm (s t) (u t)) : L = M := by
  have h1 := h.low M d (k.gen.congr (fun t ht => (e t ht).symm) fun _ _ => Eqm.refl _)
  have h2 := k.low L c (h.gen.congr e fun _ _ => Eqm.refl _)
  omega
theorem BM.congr {s u c : Nat → Int} {i L : Nat} (h : BM s i c L) (e : ∀ t, t < i → Eqm (s t) (u t)) : BM u i c L := by
  refine ⟨h.le, h.gen.congr e fun _ _ => Eqm.refl _, fun m k hk => h.low m k (hk.congr (fun t ht => (e t ht).symm) fun _ _ => Eqm.refl _), ?_⟩
  rcases h.eld with ⟨h1, h2⟩ | ⟨g, L', a, h1, h2, h3, h4, h5⟩
  · exact .inl ⟨h1, fun t ht => (e t ht).symm.trans (h2 t ht)⟩
  · exact .inr ⟨g, L', a, h1, h2, h3, h4.congr (fun t ht => e t (by omega)) fun _ _ => Eqm.refl _, fun z => h5 ((Rz_congr h1 (fun k hk => e k (by omega)) fun _ _ => Eqm.refl _).trans z)⟩

/-- Two that go on by factors and are the same so long are the same. -/
theorem gen_same {u v f l : Nat → Int} {K n many T : Nat} (hu : GenF u f K T) (hv : GenF v l n T) (hm : K + n ≤ many) (h0 : ∀ t, t < many → Eqm (u t) (v t)) : ∀ t, t < T → Eqm (u t) (v t) := by
  intro t
  induction t using Nat.strongRecOn with
  | ind t ih =>
    intro ht
    rcases Nat.lt_or_ge t many with h1 | h1
    · exact h0 t h1
    · have e1 := Rz_eqm.1 (hu t (by omega) ht)
      have e2 := Rz_eqm.1 (hv t (by omega) ht)
      have e3 : Eqm (sumTo (fun k => l k * v (t - 1 - k)) n) (sumTo (fun k => l k * sumTo (fun j => f j * u (t - 1 - k - 1 - j)) K) n) := Eqm.sum fun k hk =>
        (Eqm.refl _).mul ((ih (t - 1 - k) (by omega) (by omega)).symm.trans (Rz_eqm.1 (hu (t - 1 - k) (by omega) (by omega))))
      have e4 : sumTo (fun k => l k * sumTo (fun j => f j * u (t - 1 - k - 1 - j)) K) n = sumTo (fun j => f j * sumTo (fun k => l k * u (t - 1 - j - 1 - k)) n) K := by
        rw [sumTo_congr (h := fun k => sumTo (fun j => l k * (f j * u (t - 1 - k - 1 - j))) K) fun k _ => (sumTo_mul _ _ _).symm, sumTo_swap]
        refine sumTo_congr fun j _ => ?_
        rw [← sumTo_mul]
        refine sumTo_congr fun k _ => ?_
        rw [show t - 1 - k - 1 - j = t - 1 - j - 1 - k by omega]
        grind
      have e5 : Eqm (sumTo (fun j => f j * sumTo (fun k => l k * u (t - 1 - j - 1 - k)) n) K) (sumTo (fun j => f j * u (t - 1 - j)) K) := Eqm.sum fun j hj => by
        refine (Eqm.refl _).mul ?_
        have a1 := Rz_eqm.1 (hv (t - 1 - j) (by omega) (by omega))
        have a2 : Eqm (sumTo (fun k => l k * u (t - 1 - j - 1 - k)) n) (sumTo (fun k => l k * v (t - 1 - j - 1 - k)) n) := Eqm.sum fun k hk => (Eqm.refl _).mul (ih _ (by omega) (by omega))
        exact (a2.trans a1.symm).trans (ih (t - 1 - j) (by omega) (by omega)).symm
      rw [e4] at e3
      exact (e1.trans e5.symm).trans (e3.symm.trans e2.symm)
end Go.Rk
