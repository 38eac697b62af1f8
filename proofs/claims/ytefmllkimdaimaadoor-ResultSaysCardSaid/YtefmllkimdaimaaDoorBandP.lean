/-
  A band as a matrix: its determinant is the continuant, and where it takes a row. Plain Lean, no program in sight.
-/
import Derived.Test.YtefmllkimdaimaaDoorSum
import Derived.Test.YtefmllkimdaimaaDoorMat
import Derived.Test.YtefmllkimdaimaaDoorDet
import Derived.Test.YtefmllkimdaimaaDoorDetMore
import Derived.Test.YtefmllkimdaimaaDoorRect
import Derived.Test.YtefmllkimdaimaaDoorBand
import Derived.Test.YtefmllkimdaimaaDoorBandLaw
import Derived.Test.YtefmllkimdaimaaDoorBareissP
import Derived.Test.YtefmllkimdaimaaDoorTri
namespace Go.Proofs.YtefmllkimdaimaaDoor
open Go.Rk

theorem det_tri (m a b : Nat → Int) : ∀ n i, det n (triM (fun k => m (i + k)) (fun k => a (i + k)) (fun k => b (i + k))) = kont m (fun k => a k * b k) i n
  | 0, i => rfl
  | 1, i => by
    show 0 + sg 0 * (triM _ _ _ 0 0) * 1 = m i
    simp [sg, triM]
  | n + 2, i => by
    have h1 := det_tri m a b (n + 1) (i + 1)
    have h2 := det_tri m a b n (i + 2)
    rw [kont_left, ← h1, ← h2]
    obtain ⟨A, hA⟩ : ∃ A, A = triM (fun k => m (i + k)) (fun k => a (i + k)) (fun k => b (i + k)) := ⟨_, rfl⟩
    rw [← hA]
    show sumTo (fun j => sg j * A 0 j * det (n + 1) (minor A 0 j)) (n + 2) = _
    rw [sumTo_succ_left, sumTo_succ_left, sumTo_congr (h := fun _ => 0) fun j _ => by
      show sg (j + 1 + 1) * A 0 (j + 1 + 1) * _ = 0
      have : A 0 (j + 1 + 1) = 0 := by rw [hA]; simp [triM]
      rw [this, Int.mul_zero, Int.zero_mul], sumTo_zero, Int.add_zero]
    have e0 : A 0 0 = m i := by rw [hA]; simp [triM]
    have e1 : A 0 1 = a i := by rw [hA]; simp [triM]
    have e2 : minor A 0 0 = triM (fun k => m (i + 1 + k)) (fun k => a (i + 1 + k)) (fun k => b (i + 1 + k)) := by
      funext r c
      rw [hA]
      unfold minor triM
      dsimp only
      rw [skip_zero, skip_zero, show i + (r + 1) = i + 1 + r by omega, show i + (c + 1) = i + 1 + c by omega]
      (repeat' split) <;> first | rfl | (exfalso; omega)
    have e3 : det (n + 1) (minor A 0 1) = b i * det n (triM (fun k => m (i + 2 + k)) (fun k => a (i + 2 + k)) (fun k => b (i + 2 + k))) := by
      rw [det_first_col]
      · have f0 : minor A 0 1 0 0 = b i := by rw [hA]; simp [minor, triM, skip]
        rw [f0]
        refine congrArg (fun z => b i * z) (det_congr fun r c _ _ => ?_)
        rw [hA]
        unfold minor triM
        rw [skip_zero, show skip 1 (c + 1) = c + 2 by unfold skip; rw [if_neg (by omega)]]
        dsimp only
        rw [show i + (r + 1 + 1) = i + 2 + r by omega, show i + (c + 2) = i + 2 + c by omega]
        (repeat' split) <;> first | rfl | (exfalso; omega)
      · intro r _
        rw [hA]
        simp [minor, triM, skip]
    rw [e0, e1, e2, show minor A 0 (0 + 1) = minor A 0 1 from rfl, e3]
    simp [sg]
    grind

theorem fullN_dm (m a b : List Int) (n k : Nat) : Dm n n (fullN m a b n k) := fullN_len m a b n k

theorem fullN_en {m a b : List Int} {n : Nat} : ∀ k, k ≤ n → ∀ i j, i < n → j < n → en (fullN m a b n k) i j = if i < k ∧ j < k then triM (ix m) (ix a) (ix b) i j else 0
  | 0, _, i, j, hi, hj => by
    rw [if_neg (by omega), fullN]
    simp [en, rowOf, ix, List.getD, hi, hj]
  | k + 1, hk, i, j, hi, hj => by
    have ih := fullN_en (m := m) (a := a) (b := b) k (by omega) i j hi hj
    have d := fullN_dm m a b n k
    rw [fullN]
    by_cases h0 : k = 0
    · rw [if_pos h0, d.en_set _ hi hj, ih]
      unfold triM
      grind
    · rw [if_neg h0, ((d.setE _ _ _).setE _ _ _).en_set _ hi hj, (d.setE _ _ _).en_set _ hi hj, d.en_set _ hi hj, ih]
      unfold triM
      grind

theorem full_is (m a b : List Int) (n : Nat) : IsR n n (fullN m a b n n) (triM (ix m) (ix a) (ix b)) :=
  ⟨fullN_dm m a b n n, fun i j hi hj => by rw [fullN_en n (Nat.le_refl _) i j hi hj, if_pos ⟨hi, hj⟩]⟩

theorem full_det {m a b : List Int} {n : Nat} (h : In 0 9972 m) (h0 : 0 < m.length) : det n (mx (fullN m a b n n)) % 9973 = contB m a b n := by
  rw [contB_is h h0, det_congr (A := mx (fullN m a b n n)) (B := triM (ix m) (ix a) (ix b)) fun i j hi hj => (full_is m a b n).2 i j hi hj]
  have := det_tri (ix m) (ix a) (ix b) n 0
  simp only [Nat.zero_add] at this
  rw [this]

theorem full_ent {m a b : List Int} {n : Nat} (hm : In 0 9972 m) (ha : In 0 9972 a) (hb : In 0 9972 b) (l1 : m.length = n) (l2 : a.length = n - 1) (l3 : b.length = n - 1) : EntR 0 9972 n n (fullN m a b n n) := fun i j hi hj => by
  rw [(full_is m a b n).2 i j hi hj]
  unfold triM
  split
  · exact hm i (by omega)
  · split
    · exact ha i (by omega)
    · split
      · exact hb j (by omega)
      · omega

/-- Where a band takes a row, before what it leaves. -/
def mulBs (m a b x : List Int) (n i : Nat) : Int := ix m i * ix x i + (if 0 < i then ix b (i - 1) * ix x (i - 1) else 0) + (if i + 1 < n then ix a i * ix x (i + 1) else 0)
def mulB (m a b x : List Int) (n : Nat) : Nat → List Int
  | 0 => List.replicate n 0
  | k + 1 => (mulB m a b x n k).set k (mulBs m a b x n k % 9973)
theorem mulB_len (m a b x : List Int) (n k : Nat) : (mulB m a b x n k).length = n := by
  induction k with
  | zero => simp [mulB]
  | succ k ih => simp [mulB, ih]
theorem mulB_ix {m a b x : List Int} {n : Nat} : ∀ k, k ≤ n → ∀ i, i < k → ix (mulB m a b x n k) i = mulBs m a b x n i % 9973
  | 0, _, i, h => absurd h (Nat.not_lt_zero _)
  | k + 1, hk, i, h => by
    rw [mulB, ix_set, mulB_len]
    by_cases e : k = i
    · subst e; rw [if_pos ⟨rfl, by omega⟩]
    · rw [if_neg (fun h => e h.1)]
      exact mulB_ix k (by omega) i (by omega)

theorem tri_sum (m a b x : List Int) {n i : Nat} (hi : i < n) : sumTo (fun t => triM (ix m) (ix a) (ix b) i t * ix x t) n = mulBs m a b x n i := by
  have e : ∀ t, t < n → triM (ix m) (ix a) (ix b) i t * ix x t = ((if t = i then ix m t * ix x t else 0) + (if t = i - 1 then (if 0 < i then ix b t * ix x t else 0) else 0)) + (if t = i + 1 then ix a i * ix x t else 0) := fun t _ => by
    unfold triM
    grind
  rw [sumTo_congr e, sumTo_add, sumTo_add, sumTo_one (fun t => ix m t * ix x t), sumTo_one (fun t => if 0 < i then ix b t * ix x t else 0), sumTo_one (fun t => ix a i * ix x t)]
  unfold mulBs
  rw [if_pos hi, if_pos (by omega)]
end Go.Proofs.YtefmllkimdaimaaDoor
