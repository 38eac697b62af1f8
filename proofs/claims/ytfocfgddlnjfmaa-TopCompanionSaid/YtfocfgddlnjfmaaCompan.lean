/-
  The matrix of a recurrence: its factors, and its powers tell the row. Plain Lean, no program in sight.
-/
import Derived.Test.YtfocfgddlnjfmaaCharP
import Derived.Test.YtfocfgddlnjfmaaKrylov
import Derived.Test.YtfocfgddlnjfmaaRecurTerm
import Derived.Test.YtfocfgddlnjfmaaMx
namespace Go.Proofs.Ytfocfgddlnjfmaa
open Go.RowKit Go.Rk

def compM (f : Nat → Int) : Mx := fun i j => if i = 0 then f j else if j + 1 = i then 1 else 0
def gM (h : Nat → Int) (x : Int) : Mx := fun i j => if i = 0 then h j else if j + 1 = i then -1 else if j = i then x else 0
theorem prodTo_same (x : Int) (n : Nat) : prodTo (fun _ => x) n = x ^ n := by
  induction n with
  | zero => simp [prodTo]
  | succ n ih => rw [prodTo, ih, Int.pow_succ]
theorem det_g (x : Int) : ∀ (n : Nat) (h : Nat → Int), det (n + 1) (gM h x) = sumTo (fun k => h k * x ^ (n - k)) (n + 1)
  | 0, h => by
    rw [det_col]
    simp only [sumTo]
    rw [show gM h x 0 0 = h 0 from rfl, show det 0 (minor (gM h x) 0 0) = 1 from rfl, show sg 0 = 1 from rfl]
    simp
  | n + 1, h => by
    rw [det_col, sumTo_succ_left, sumTo_succ_left]
    have z : sumTo (fun i => sg (i + 1 + 1) * gM h x (i + 1 + 1) 0 * det (n + 1) (minor (gM h x) (i + 1 + 1) 0)) n = 0 := by
      rw [sumTo_congr (h := fun _ => 0) fun i _ => by
        rw [show gM h x (i + 1 + 1) 0 = 0 from by unfold gM; rw [if_neg (by omega), if_neg (by omega), if_neg (by omega)], Int.mul_zero, Int.zero_mul]]
      exact sumTo_zero n
    rw [z]
    have d0 : det (n + 1) (minor (gM h x) 0 0) = x ^ (n + 1) := by
      rw [det_lower _ fun i j hi hj hij => by
        unfold minor gM skip
        rw [if_neg (Nat.not_lt_zero _), if_neg (Nat.not_lt_zero _), if_neg (by omega), if_neg (by omega), if_neg (by omega)]]
      rw [prodTo_congr (h := fun _ => x) fun i _ => by
        unfold minor gM skip
        rw [if_neg (Nat.not_lt_zero _), if_neg (by omega), if_neg (by omega), if_pos rfl]]
      exact prodTo_same x (n + 1)
    have d1 : det (n + 1) (minor (gM h x) 1 0) = det (n + 1) (gM (fun k => h (k + 1)) x) := det_congr fun i j _ _ => by
      unfold minor gM skip
      rw [if_neg (Nat.not_lt_zero _)]
      by_cases h0 : i = 0
      · subst h0
        rw [if_pos (show 0 < 1 by omega), if_pos rfl, if_pos rfl]
      · rw [if_neg (show ¬ i < 1 by omega), if_neg (by omega), if_neg h0]
        by_cases h1 : j + 1 = i
        · rw [if_pos (by omega), if_pos h1]
        · rw [if_neg (by omega), if_neg h1]
          by_cases h2 : j = i
          · rw [if_pos (by omega), if_pos h2]
          · rw [if_neg (by omega), if_neg h2]
    rw [d0, d1, det_g x n]
    rw [sumTo_succ_left (fun k => h k * x ^ (n + 1 - k)) (n + 1)]
    rw [show sumTo (fun i => h (i + 1) * x ^ (n + 1 - (i + 1))) (n + 1) = sumTo (fun k => h (k + 1) * x ^ (n - k)) (n + 1) from sumTo_congr fun k _ => by rw [show n + 1 - (k + 1) = n - k by omega]]
    rw [show gM h x 0 0 = h 0 from rfl, show gM h x (0 + 1) 0 = -1 from rfl, show sg 0 = 1 from rfl, show sg (0 + 1) = -1 from rfl, show n + 1 - 0 = n + 1 from rfl, Int.one_mul]
    omega

/-- The factors of such a matrix. -/
theorem comp_char {n : Nat} (hn : 1 ≤ n) {f : Nat → Int} {A : Mx} (hA : ∀ i j, i < n → j < n → A i j = compM f i j) {e : Nat → Int} {b : Nat → Mx} (F : FL n A e b) : ∀ t, t < n → e (n - 1 - t) = -f t := by
  obtain ⟨m, rfl⟩ : ∃ m, n = m + 1 := ⟨n - 1, by omega⟩
  have key : ∀ x, (0 : Int) ≤ x → pv e (m + 1 + 1) x = pv (fun j => if j = m + 1 then 1 else -f (m - j)) (m + 1 + 1) x := fun x _ => by
    rw [← F.chi x]
    have e1 : det (m + 1) (chiM A x) = det (m + 1) (gM (fun j => if j = 0 then x - f 0 else -f j) x) := det_congr fun i j hi hj => by
      unfold chiM linM gM
      dsimp only
      rw [hA i j hi hj]
      unfold compM idM unit_
      by_cases h0 : i = 0
      · subst h0
        rw [if_pos rfl, if_pos rfl]
        by_cases h1 : j = 0
        · subst h1; rw [if_pos rfl, if_pos rfl]; omega
        · rw [if_neg h1, if_neg h1]; omega
      · rw [if_neg h0, if_neg h0]
        by_cases h1 : j + 1 = i
        · rw [if_pos h1, if_pos h1, if_neg (by omega)]; omega
        · rw [if_neg h1, if_neg h1]
          by_cases h2 : j = i
          · rw [if_pos h2, if_pos h2]; omega
          · rw [if_neg h2, if_neg h2]; omega
    rw [e1, det_g x m, sumTo_succ_left]
    unfold pv
    rw [sumTo, if_pos rfl]
    have e2 : sumTo (fun k => (if k = m + 1 then 1 else -f (m - k)) * x ^ k) (m + 1) = sumTo (fun k => -f (m + 1 - 1 - k) * x ^ (m - (m + 1 - 1 - k))) (m + 1) := sumTo_congr fun k hk => by
      rw [if_neg (by omega), show m + 1 - 1 - k = m - k by omega, show m - (m - k) = k by omega]
    rw [e2, sumTo_rev2 (fun k => -f k * x ^ (m - k)), sumTo_succ_left]
    rw [sumTo_congr (h := fun k => -f (k + 1) * x ^ (m - (k + 1))) fun k _ => by rw [if_neg (by omega)]]
    dsimp only
    rw [if_pos rfl, show m - 0 = m from rfl, Int.sub_mul, Int.neg_mul, Int.one_mul, Int.pow_succ, Int.mul_comm (x ^ m) x]
    omega
  have same := pv_same 0 key
  intro t ht
  rw [same (m + 1 - 1 - t) (by omega), if_neg (by omega), show m - (m + 1 - 1 - t) = t by omega]

/-- The powers tell the row. -/
theorem comp_row {f s : List Int} (h0 : 1 ≤ f.length) (hs : s.length = f.length) : ∀ (t i : Nat), i < f.length → Eqm (sumTo (fun k => powM f.length (compM (ix f)) t i k * ix s (f.length - 1 - k)) f.length) (tm f s (t + (f.length - 1 - i)))
  | 0, i, hi => by
    rw [show sumTo (fun k => powM f.length (compM (ix f)) 0 i k * ix s (f.length - 1 - k)) f.length = sumTo (fun k => (if i = k then 1 else 0) * ix s (f.length - 1 - k)) f.length from sumTo_congr fun k _ => rfl, sumTo_pick (fun k => ix s (f.length - 1 - k)) hi, Nat.zero_add, tm_start f s (by omega)]
    exact Eqm.refl _
  | t + 1, i, hi => by
    have e1 : Eqm (sumTo (fun k => powM f.length (compM (ix f)) (t + 1) i k * ix s (f.length - 1 - k)) f.length) (sumTo (fun r => compM (ix f) i r * tm f s (t + (f.length - 1 - r))) f.length) := by
      rw [show powM f.length (compM (ix f)) (t + 1) = mulM f.length (compM (ix f)) (powM f.length (compM (ix f)) t) from rfl]
      rw [sumTo_congr (h := fun k => sumTo (fun r => compM (ix f) i r * (powM f.length (compM (ix f)) t r k * ix s (f.length - 1 - k))) f.length) fun k _ => by
        unfold mulM
        rw [Int.mul_comm, ← sumTo_mul]
        exact sumTo_congr fun r _ => by grind, sumTo_swap]
      refine sumTo_eqm fun r hr => ?_
      rw [sumTo_mul]
      exact Eqm.mul (Eqm.refl _) (comp_row h0 hs t r hr)
    refine e1.trans ?_
    by_cases hz : i = 0
    · subst hz
      rw [show t + 1 + (f.length - 1 - 0) = t + f.length by omega, tm_next f s (by omega) (by omega)]
      refine Eqm.trans (Eqm.of_eq ?_) (Eqm.mod _).symm
      refine sumTo_congr fun r hr => ?_
      show (if 0 = 0 then ix f r else _) * _ = _
      rw [if_pos rfl, show t + (f.length - 1 - r) = t + f.length - 1 - r by omega]
    · rw [sumTo_congr (h := fun r => (if i - 1 = r then 1 else 0) * tm f s (t + (f.length - 1 - r))) fun r hr => by
        unfold compM
        rw [if_neg hz]
        by_cases h1 : r + 1 = i
        · rw [if_pos h1, if_pos (by omega)]
        · rw [if_neg h1, if_neg (by omega)], sumTo_pick (fun r => tm f s (t + (f.length - 1 - r))) (by omega)]
      rw [show t + (f.length - 1 - (i - 1)) = t + 1 + (f.length - 1 - i) by omega]
      exact Eqm.refl _
end Go.Proofs.Ytfocfgddlnjfmaa
