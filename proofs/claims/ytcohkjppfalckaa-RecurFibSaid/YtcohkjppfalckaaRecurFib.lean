/-
  RecurFib walked: Cassini's identity, and the greatest common divisor of two of Fibonacci's numbers, at the places that the statement asks.
-/
import Derived.Test.YtcohkjppfalckaaRows
import Derived.Test.YtcohkjppfalckaaLib
import Derived.Test.YtcohkjppfalckaaRef
import Derived.Test.YtcohkjppfalckaaRecurTerm
import Derived.Test.YtcohkjppfalckaaRecurFact
namespace Go.Proofs.Ytcohkjppfalckaa
open Go.RowKit Go.Rk

def fibs : List Int := [0, 1, 1, 2, 3, 5, 8, 13, 21, 34, 55, 89, 144, 233, 377, 610, 987, 1597, 2584, 4181, 6765]

theorem fibs_row : rowN [1, 1] [0, 1] 21 = fibs := by decide +kernel
theorem fibs_cassini : ∀ n : Nat, n < 20 → 1 ≤ n → (ix fibs (n - 1) * ix fibs (n + 1) - ix fibs n * ix fibs n = (if n % 2 = 1 then -1 else 1)) ∧ 0 ≤ ix fibs n ∧ ix fibs n ≤ 4181 ∧ 0 ≤ ix fibs (n - 1) ∧ ix fibs (n - 1) ≤ 4181 ∧ 0 ≤ ix fibs (n + 1) ∧ ix fibs (n + 1) ≤ 6765 := by decide +kernel
theorem fibs_gcd : ∀ n : Nat, n < 20 → ∀ m : Nat, m < 20 → 1 ≤ n → 1 ≤ m → (Int.gcd (ix fibs n) (ix fibs m) : Int) = ix fibs (Nat.gcd n m) ∧ 1 ≤ Nat.gcd n m ∧ Nat.gcd n m < 20 := by decide +kernel

set_option maxHeartbeats 1000000 in
theorem recurFib_walk {n m : Int} {w : World} (_ : (Lit.int .i64 n).wf = true) (_ : (Lit.int .i64 m).wf = true) :
    Calls Try.prog 5 #[.int .i64 n, .int .i64 m] w fun e w' => e = .returned (.bool true) ∧ Below w.heap.size w w' := by
  rcases h1 : inB n 1 19
  · have H1 := Lib.hid h1
    clear h1
    go_enter Try.func5, Try.ntmps5
    go_wp2_with (first | (go_at_call 6; refine (recurFact_any _).mono ?_; rintro e w1 ⟨rfl, hb1⟩) | (go_at_call 8; refine (L3_in_any _ _ _ _).mono ?_; rintro e w' ⟨rfl, rfl⟩; rw [H1.out]))
    go_ret
    exact ⟨rfl, hb1⟩
  rcases h2 : inB m 1 19
  · have H1 := Lib.hid h1
    have H2 := Lib.hid h2
    clear h1 h2
    go_enter Try.func5, Try.ntmps5
    go_wp2_with (first | (go_at_call 6; refine (recurFact_any _).mono ?_; rintro e w1 ⟨rfl, hb1⟩) | (go_at_call 8; refine (L3_in_any _ _ _ _).mono ?_; rintro e w' ⟨rfl, rfl⟩; first | rw [H1.out] | rw [H2.out]))
    go_ret
    exact ⟨rfl, hb1⟩
  have b1 : 1 ≤ n ∧ n ≤ 19 := by unfold inB at h1; simp at h1; omega
  have b2 : 1 ≤ m ∧ m ≤ 19 := by unfold inB at h2; simp at h2; omega
  have H1 := Lib.hid h1
  have H2 := Lib.hid h2
  clear h1 h2
  obtain ⟨k, rfl⟩ := Int.eq_ofNat_of_zero_le (show 0 ≤ n from by omega)
  obtain ⟨j, rfl⟩ := Int.eq_ofNat_of_zero_le (show 0 ≤ m from by omega)
  have c1 := fibs_cassini k (by omega) (by omega)
  obtain ⟨c1, d1, d2, d3, d4, d5, d6⟩ := c1
  obtain ⟨_, d7, d8, _⟩ := fibs_cassini j (by omega) (by omega)
  obtain ⟨g1, g2, g3⟩ := fibs_gcd k (by omega) j (by omega) (by omega) (by omega)
  have C1 := Lib.hid c1
  have G1 := Lib.hid g1
  clear c1 g1
  have hpar : ∃ sg : Int, (if k % 2 = 1 then (-1 : Int) else 1) = sg ∧ (((k : Int) % 2 == 1) = true ∧ sg = -1 ∨ ((k : Int) % 2 == 1) = false ∧ sg = 1) := by
    by_cases h : k % 2 = 1
    · exact ⟨-1, by simp [h], .inl ⟨by simp; omega, rfl⟩⟩
    · exact ⟨1, by simp [h], .inr ⟨by simp; omega, rfl⟩⟩
  obtain ⟨sg, hsg, hpar⟩ := hpar
  have C2 : Hid (ix fibs (k - 1) * ix fibs (k + 1) - ix fibs k * ix fibs k = sg) := C1.out.trans hsg
  clear C1 hsg
  rcases hpar with ⟨hpar, hs⟩ | ⟨hpar, hs⟩
  all_goals
    subst hs
    go_enter Try.func5, Try.ntmps5
    go_wp2_with (first | (go_at_call 6; refine (recurFact_any _).mono ?_; rintro e w1 ⟨rfl, hb1⟩) | (go_at_call 8; refine (L3_in_any _ _ _ _).mono ?_; rintro e w' ⟨rfl, rfl⟩; first | rw [H1.out] | rw [H2.out]) | (go_at_call 7; fail))
    have R1 : Hid (RdI ((w1.alloc (.cells #[.int .i64 1, .int .i64 1] 3)).alloc (.cells #[.int .i64 0, .int .i64 1] 3)) (some ⟨w1.heap.size, 0, none⟩) 2 2 [1, 1]) := (RdI.lit w1 [1, 1] 3 (by decide)).alloc _
    have R2 : Hid (RdI ((w1.alloc (.cells #[.int .i64 1, .int .i64 1] 3)).alloc (.cells #[.int .i64 0, .int .i64 1] 3)) (some ⟨w1.heap.size + 1, 0, none⟩) 2 2 [0, 1]) := RdI.lit' _ [0, 1] 3 (by decide) (by simp)
    have b0 := hb1.trans (((Below.refl w.heap.size w1).alloc hb1.size (.cells #[.int .i64 1, .int .i64 1] 3)).alloc (by have := hb1.size; simp; omega) (.cells #[.int .i64 0, .int .i64 1] 3))
    have C3 := Lib.hid (Row_ok (f := [1, 1]) (s := [0, 1]) (many := 21) R1.out R2.out (by decide))
    refine C3.out.mono ?_
    rintro e w3 ⟨a, cap, rfl, ho, hb3⟩
    have hb4 := b0.trans (hb3.mono b0.size)
    have ho' : RdI w3 a 21 cap fibs := by rw [← fibs_row]; exact ho
    obtain ⟨b, off, rfl, _, hc⟩ := ho'.at (k := 0) (by decide)
    have A1 : Hid (allB 0 6765 fibs = true) := by unfold Hid; decide
    have hc1 : w3.cell? ⟨b, off + (k - 1), none⟩ = some (.int .i64 (ix fibs (k - 1))) := hc _ (by omega)
    have hc2 : w3.cell? ⟨b, off + (k + 1), none⟩ = some (.int .i64 (ix fibs (k + 1))) := hc _ (by omega)
    have hc3 := hc k (by omega)
    have hc4 := hc j (by omega)
    have hc5 := hc (Nat.gcd k j) (by omega)
    have A2 := Lib.hid (R_All_any 0 6765 ho')
    clear hc ho R1 R2 C3 b0
    go_wp2_with (go_at_call 12; refine A2.out.mono ?_; rintro e w' ⟨rfl, rfl⟩; rw [A1.out])
    clear A1 A2 H1 H2 ho'
    generalize ix fibs (k - 1) = xA at *
    generalize ix fibs (k + 1) = xB at *
    have eG : Hid (((Int.gcd (ix fibs k) (ix fibs j) : Int) == ix fibs (Nat.gcd k j)) = true) := by unfold Hid; rw [G1.out]; simp
    generalize ix fibs (Nat.gcd k j) = xG at *
    generalize ix fibs k = xC at *
    generalize ix fibs j = xD at *
    have p1 := mul_bd (a := xA) (b := xB) (by omega) (by omega)
    have p2 := mul_bd (a := xC) (b := xC) (by omega) (by omega)
    have q0 : (0 : Int) ≤ (k : Int) - 1 := by omega
    have q1 : (k : Int) - 1 < 21 := by omega
    have q2 : (k : Int) + 1 < 21 := by omega
    have q3 : (k : Int) < 21 := by omega
    have q4 : (j : Int) < 21 := by omega
    have q5 : ((Nat.gcd k j : Nat) : Int) < 21 := by omega
    have t1 : ((k : Int) - 1).toNat = k - 1 := by omega
    have t2 : ((k : Int) + 1).toNat = k + 1 := by omega
    have w1e : IntKind.i64.wrap (xA * xB) = xA * xB := Go.IntWalk.i64_in _ (by omega)
    have w2e : IntKind.i64.wrap (xC * xC) = xC * xC := Go.IntWalk.i64_in _ (by omega)
    have w3e : IntKind.i64.wrap (xA * xB - xC * xC) = xA * xB - xC * xC := Go.IntWalk.i64_in _ (by omega)
    have w4e : IntKind.i64.wrap ((k : Int) - 1) = (k : Int) - 1 := Go.IntWalk.i64_in _ (by omega)
    have w5e : IntKind.i64.wrap ((k : Int) + 1) = (k : Int) + 1 := Go.IntWalk.i64_in _ (by omega)
    have G2 : Hid (∀ (w : World), Calls Try.prog 13 #[.int .i64 xC, .int .i64 xD] w fun e w' => e = .returned (.int .i64 (Int.gcd xC xD : Int)) ∧ w = w') := fun w => R_Gcd_any _ _ _ w (by omega) (by omega) (Nat.le_refl _)
    have G3 : Hid (∀ (w : World), Calls Try.prog 13 #[.int .i64 k, .int .i64 j] w fun e w' => e = .returned (.int .i64 (Nat.gcd k j : Int)) ∧ w = w') := fun w => R_Gcd_any _ _ _ w (by omega) (by omega) (Nat.le_refl _)
    have eC := C2.out
    have eC2 : (xA * xB - xC * xC == _) = true := beq_iff_eq.2 eC
    have eG := eG.out
    clear G1 C2 eC p1 p2 d1 d2 d3 d4 d5 d6 d7 d8 b1 b2
    go_quiet ((first
      | ((with_reducible refine quietW (G2.out _)))
      | ((with_reducible refine quietW (G3.out _)))))
    clear w1e w2e w3e w4e w5e t1 t2
    go_wp2
    go_ret
    exact ⟨rfl, below_drewN hb4 _⟩
end Go.Proofs.Ytcohkjppfalckaa
