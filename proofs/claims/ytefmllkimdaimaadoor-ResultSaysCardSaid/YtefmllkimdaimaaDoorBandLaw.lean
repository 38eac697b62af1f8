/-
  Continuants: from either end, of a part, turned about. Plain Lean on the words of the walks.
-/
import Derived.Test.YtefmllkimdaimaaDoorLib
import Derived.Test.YtefmllkimdaimaaDoorSum
import Derived.Test.YtefmllkimdaimaaDoorBand
namespace Go.Proofs.YtefmllkimdaimaaDoor
open Go.Rk

/-- n rows from i on, m in the middle, c the products beside it. -/
def kont (m c : Nat → Int) (i : Nat) : Nat → Int
  | 0 => 1
  | 1 => m i
  | n + 2 => m (i + n + 1) * kont m c i (n + 1) - c (i + n) * kont m c i n

theorem kont_left (m c : Nat → Int) (i : Nat) : ∀ n, kont m c i (n + 2) = m i * kont m c (i + 1) (n + 1) - c i * kont m c (i + 2) n
  | 0 => by simp only [kont]; grind
  | 1 => by simp only [kont]; grind
  | n + 2 => by
    have h1 := kont_left m c i n
    have h2 := kont_left m c i (n + 1)
    rw [kont, h1, h2]
    have e1 : kont m c (i + 1) (n + 2 + 1) = m (i + n + 3) * kont m c (i + 1) (n + 2) - c (i + n + 2) * kont m c (i + 1) (n + 1) := by
      rw [kont, show i + 1 + (n + 1) + 1 = i + n + 3 from by omega, show i + 1 + (n + 1) = i + n + 2 from by omega]
    have e2 : kont m c (i + 2) (n + 2) = m (i + n + 3) * kont m c (i + 2) (n + 1) - c (i + n + 2) * kont m c (i + 2) n := by
      rw [kont, show i + 2 + n + 1 = i + n + 3 from by omega, show i + 2 + n = i + n + 2 from by omega]
    rw [e1, e2, show i + (n + 2) + 1 = i + n + 3 from by omega, show i + (n + 2) = i + n + 2 from by omega]
    grind

theorem kont_rev (m c m' c' : Nat → Int) (N : Nat) (hm : ∀ j, j < N → m' j = m (N - 1 - j)) (hc : ∀ j, j + 1 < N → c' j = c (N - 2 - j)) : ∀ n, n ≤ N → kont m' c' 0 n = kont m c (N - n) n
  | 0, _ => rfl
  | 1, h => by simp only [kont]; rw [hm 0 (by omega)]; rfl
  | n + 2, h => by
    have h1 := kont_rev m c m' c' N hm hc n (by omega)
    have h2 := kont_rev m c m' c' N hm hc (n + 1) (by omega)
    rw [kont, kont_left, h1, h2, hm _ (by omega), hc _ (by omega)]
    rw [show N - 1 - (0 + n + 1) = N - (n + 2) from by omega, show N - 2 - (0 + n) = N - (n + 2) from by omega, show N - (n + 2) + 1 = N - (n + 1) from by omega, show N - (n + 2) + 2 = N - n from by omega]

theorem kont_congr (m c m' c' : Nat → Int) (N : Nat) (hm : ∀ j, j < N → m' j = m j) (hc : ∀ j, j + 1 < N → c' j = c j) : ∀ n, n ≤ N → kont m' c' 0 n = kont m c 0 n
  | 0, _ => rfl
  | 1, h => by simp only [kont]; rw [hm 0 (by omega)]
  | n + 2, h => by
    rw [kont, kont, kont_congr m c m' c' N hm hc n (by omega), kont_congr m c m' c' N hm hc (n + 1) (by omega), hm _ (by omega), hc _ (by omega)]

theorem contB_eqm (m a b : List Int) : ∀ n, Eqm (contB m a b n) (kont (ix m) (fun i => ix a i * ix b i) 0 n)
  | 0 => Eqm.refl _
  | 1 => Eqm.refl _
  | n + 2 => by
    rw [contB, kont]
    refine (Eqm.mod _).trans ?_
    have h1 := contB_eqm m a b n
    have h2 := contB_eqm m a b (n + 1)
    rw [Nat.zero_add]
    exact ((Eqm.refl _).mul h2).sub ((Eqm.mod _).mul h1)

theorem contB_is {m a b : List Int} (h : In 0 9972 m) (h0 : 0 < m.length) (n : Nat) : contB m a b n = kont (ix m) (fun i => ix a i * ix b i) 0 n % 9973 := by
  have h1 := contB_eqm m a b n
  have h2 := contB_in (a := a) (b := b) h h0 n
  unfold Eqm at h1
  omega

theorem contB_rev {m a b : List Int} (h : In 0 9972 m) (h0 : 0 < m.length) (ha : a.length = m.length - 1) (hb : b.length = m.length - 1) :
    contB m.reverse b.reverse a.reverse m.length = contB m a b m.length := by
  have hr : In 0 9972 m.reverse := fun k hk => by
    rw [List.length_reverse] at hk
    rw [ix_reverse hk]
    exact h _ (by omega)
  rw [contB_is h h0, contB_is hr (by simpa using h0), kont_rev (ix m) (fun i => ix a i * ix b i) _ _ m.length (fun j hj => ix_reverse hj) (fun j hj => ?_) m.length (Nat.le_refl _), Nat.sub_self]
  rw [ix_reverse (by omega), ix_reverse (by omega), ha, hb, show m.length - 1 - 1 - j = m.length - 2 - j from by omega, Int.mul_comm]

theorem contB_take {m a b : List Int} {n : Nat} (h : In 0 9972 m) (hn : 0 < n) (hm : n ≤ m.length) :
    contB (m.take n) (a.take (n - 1)) (b.take (n - 1)) n = contB m a b n := by
  have hl : (m.take n).length = n := by rw [List.length_take]; omega
  have hr : In 0 9972 (m.take n) := fun k hk => by
    rw [hl] at hk
    rw [ix_take hk]
    exact h _ (by omega)
  rw [contB_is h (by omega), contB_is hr (by omega), kont_congr (ix m) (fun i => ix a i * ix b i) _ _ n (fun j hj => ix_take hj) (fun j hj => ?_) n (Nat.le_refl _)]
  rw [ix_take (by omega), ix_take (by omega)]

theorem checkB_of {m a b : List Int} (h1 : 1 ≤ m.length) (h2 : m.length ≤ 10) (h3 : a.length = m.length - 1) (h4 : b.length = m.length - 1) (h5 : In 0 9972 m) (h6 : In 0 9972 a) (h7 : In 0 9972 b) : checkB m a b = none := by
  unfold checkB
  rw [if_neg (by omega), if_neg (by omega), if_neg (by omega), any_of_in h5, any_of_in h6, any_of_in h7]
  simp

theorem in_reverse {lo hi : Int} {l : List Int} (h : In lo hi l) : In lo hi l.reverse := fun k hk => by
  rw [List.length_reverse] at hk
  rw [ix_reverse hk]
  exact h _ (by omega)

theorem in_take {lo hi : Int} {l : List Int} (h : In lo hi l) (n : Nat) : In lo hi (l.take n) := fun k hk => by
  rw [List.length_take] at hk
  rw [ix_take (by omega)]
  exact h _ (by omega)
end Go.Proofs.YtefmllkimdaimaaDoor
