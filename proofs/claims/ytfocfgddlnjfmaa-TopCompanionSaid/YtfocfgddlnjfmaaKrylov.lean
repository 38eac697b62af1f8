/-
  The numbers at a place of a matrix's powers go by its factors (Krylov). Plain Lean, no program in sight.
-/
import Derived.Test.YtfocfgddlnjfmaaCharP
import Derived.Test.YtfocfgddlnjfmaaMx
import Derived.Test.YtfocfgddlnjfmaaMasseyP
import Derived.Test.YtfocfgddlnjfmaaLib
namespace Go.Proofs.Ytfocfgddlnjfmaa
open Go.RowKit Go.Rk

theorem sumTo_rev2 (f : Nat → Int) : ∀ n, sumTo (fun i => f (n - 1 - i)) n = sumTo f n
  | 0 => rfl
  | n + 1 => by
    rw [sumTo_succ_left]
    have e : sumTo (fun i => f (n + 1 - 1 - (i + 1))) n = sumTo (fun i => f (n - 1 - i)) n := sumTo_congr fun i _ => by congr 1; omega
    rw [e, sumTo_rev2 f n]
    show f (n + 1 - 1 - 0) + sumTo f n = sumTo f n + f n
    rw [show n + 1 - 1 - 0 = n by omega, Int.add_comm]

theorem krylov {n N : Nat} (hn : 1 ≤ n) {A : Mx} {e : Nat → Int} {b : Nat → Mx} (F : FL n A e b) {i j : Nat} (hi : i < n) (hj : j < n) {s c : Nat → Int} (hs : ∀ k, k < N → Eqm (s k) (powM n A k i j)) (hc : ∀ t, t < n → Eqm (c t) (-e (n - 1 - t))) : GenF s c n N := by
  intro t h1 h2
  rw [Rz_eqm]
  -- the factors, times the powers from t - n on
  have key : Eqm (sumTo (fun k => e k * powM n A (t - n + k) i j) (n + 1)) 0 := by
    have e1 : Eqm (sumTo (fun k => e k * powM n A (t - n + k) i j) (n + 1)) (sumTo (fun k => e k * mulM n (powM n A (t - n)) (powM n A k) i j) (n + 1)) := sumTo_eqm fun k _ => Eqm.mul (Eqm.refl _) (powM_add A (t - n) k i j hi hj).symm
    refine e1.trans (Eqm.of_eq ?_)
    rw [sumTo_congr (h := fun k => sumTo (fun r => powM n A (t - n) i r * (e k * powM n A k r j)) n) fun k _ => by
      unfold mulM
      rw [← sumTo_mul]
      exact sumTo_congr fun r _ => by grind, sumTo_swap]
    rw [sumTo_congr (h := fun _ => 0) fun r hr => by rw [sumTo_mul, F.cayley hn hr hj, Int.mul_zero]]
    exact sumTo_zero _
  rw [sumTo, F.top, show t - n + n = t by omega, Int.one_mul] at key
  have e2 : Eqm (sumTo (fun k => c k * s (t - 1 - k)) n) (sumTo (fun k => -1 * (e (n - 1 - k) * powM n A (t - n + (n - 1 - k)) i j)) n) := sumTo_eqm fun k hk => by
    refine (Eqm.mul (hc k hk) (hs (t - 1 - k) (by omega))).trans (Eqm.of_eq ?_)
    rw [show t - n + (n - 1 - k) = t - 1 - k by omega]
    grind
  rw [sumTo_mul, sumTo_rev2 (fun k => e k * powM n A (t - n + k) i j)] at e2
  have e3 := hs t h2
  unfold Eqm at key e2 e3 ⊢
  omega
end Go.Proofs.Ytfocfgddlnjfmaa
