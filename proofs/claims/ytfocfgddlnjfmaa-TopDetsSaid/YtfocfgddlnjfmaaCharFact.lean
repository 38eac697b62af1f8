/-
  The closed fact of the statements on what takes a matrix to noughts; its ends.
-/
import Derived.Test.YtfocfgddlnjfmaaRows
import Derived.Test.YtfocfgddlnjfmaaLib
import Derived.Test.YtfocfgddlnjfmaaRef
import Derived.Test.YtfocfgddlnjfmaaCharW
import Derived.Test.YtfocfgddlnjfmaaMatFact
namespace Go.Rk

theorem det_scale (n : Nat) : ∀ (a : Int) (A : Mx), det n (fun i j => a * A i j) = a ^ n * det n A := by
  induction n with
  | zero => intro a A; simp [det]
  | succ n ih =>
    intro a A
    show sumTo (fun j => sg j * (a * A 0 j) * det n (minor (fun i j => a * A i j) 0 j)) (n + 1) = a ^ (n + 1) * sumTo (fun j => sg j * A 0 j * det n (minor A 0 j)) (n + 1)
    rw [← sumTo_mul]
    refine sumTo_congr fun j _ => ?_
    have : det n (minor (fun i j => a * A i j) 0 j) = a ^ n * det n (minor A 0 j) := ih a (minor A 0 j)
    rw [this, Int.pow_succ]
    grind
theorem neg_one_pow (n : Nat) : (-1 : Int) ^ n = sg n := by
  induction n with
  | zero => rfl
  | succ n ih => rw [Int.pow_succ, ih, sg_succ]; omega
theorem FL.end0 {n : Nat} {A : Mx} {e : Nat → Int} {b : Nat → Mx} (h : FL n A e b) : e 0 = sg n * det n A := by
  have h1 := h.chi 0
  rw [pv_zero_at] at h1
  rw [← h1, ← neg_one_pow, ← det_scale]
  exact det_congr fun i j _ _ => by show 0 * idM i j + -A i j = _; omega
theorem FL.end1 {n : Nat} {A : Mx} {e : Nat → Int} {b : Nat → Mx} (h : FL n A e b) (hn : 1 ≤ n) : e (n - 1) = -sumTo (fun i => A i i) n := by
  have h1 := h.mid (j := n - 1) (by omega)
  rw [sumTo_congr (h := fun i => A i i) fun i hi => by
    have : mulM n A (b (n - 1)) i i = mulM n A oneM i i := sumTo_congr fun t ht => by rw [h.last t i ht hi]
    rw [this, mulM_one A i hi]] at h1
  have e1 : ((n - 1 : Nat) : Int) - n = -1 := by omega
  rw [e1] at h1
  omega
/-- Turned, it is the same. -/
theorem FL.turned {n : Nat} {A B : Mx} {e e' : Nat → Int} {b b' : Nat → Mx} (h : FL n A e b) (g : FL n B e' b') (hB : ∀ i j, i < n → j < n → B i j = A j i) : ∀ k, k ≤ n → e k = e' k := fun k hk =>
  pv_same 0 (fun x _ => by
    rw [← h.chi, ← g.chi, ← det_tr]
    exact det_congr fun i j hi hj => by
      show x * unit_ j i + -A j i = x * unit_ i j + -B i j
      rw [hB i j hi hj]
      unfold unit_
      by_cases e : i = j
      · rw [if_pos e, if_pos e.symm]
      · rw [if_neg e, if_neg fun x => e x.symm]) k (by omega)
end Go.Rk
namespace Go.Proofs.Ytfocfgddlnjfmaa
open Go.RowKit Go.Rk

theorem rd3 {w : World} {b : Nat} {x y z : Int} (h0 : w.cell? ⟨b, 0, none⟩ = some (.int .i64 x)) (h1 : w.cell? ⟨b, 1, none⟩ = some (.int .i64 y)) (h2 : w.cell? ⟨b, 2, none⟩ = some (.int .i64 z)) : RdI w (some ⟨b, 0, none⟩) 3 3 [x, y, z] := by
  refine ⟨rfl, Nat.le_refl _, by decide, fun k hk => ⟨b, 0, rfl, ?_⟩⟩
  rcases k with _ | k
  · exact h0
  · rcases k with _ | k
    · exact h1
    · obtain rfl : k = 0 := by omega
      exact h2

theorem charIs {e : Nat → Int} {b : Nat → Mx} {l : List Int} (F : FL 2 (mx [[1, 2], [3, 4]]) e b) (h : ∀ k, k ≤ 2 → ix l k = e k % 9973) (hl : l.length = 3) : l = [9971, 9968, 1] := by
  have d : det 2 (mx [[1, 2], [3, 4]]) = -2 := by decide
  have t : sumTo (fun i => mx [[1, 2], [3, 4]] i i) 2 = 5 := by decide
  have h0 := h 0 (by omega)
  have h1 := h 1 (by omega)
  have h2 := h 2 (by omega)
  rw [F.end0, d] at h0
  rw [show (1 : Nat) = 2 - 1 from rfl, F.end1 (by omega), t] at h1
  rw [F.top] at h2
  refine ix_ext hl fun k hk => ?_
  rw [hl] at hk
  rcases (show k = 0 ∨ k = 1 ∨ k = 2 by omega) with rfl | rfl | rfl
  · rw [h0]; rfl
  · exact h1.trans rfl
  · rw [h2]; rfl

end Go.Proofs.Ytfocfgddlnjfmaa
