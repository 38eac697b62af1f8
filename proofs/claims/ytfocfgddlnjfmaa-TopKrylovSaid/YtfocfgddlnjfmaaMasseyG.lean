/-
  massey.Fewest, Factors, Goes walked.
-/
import Derived.Test.YtfocfgddlnjfmaaRows
import Derived.Test.YtfocfgddlnjfmaaLib
import Derived.Test.YtfocfgddlnjfmaaNum
import Derived.Test.YtfocfgddlnjfmaaTr
import Derived.Test.YtfocfgddlnjfmaaMasseyP
import Derived.Test.YtfocfgddlnjfmaaMasseyW
import Derived.Test.YtfocfgddlnjfmaaMasseyS
namespace Go.Proofs.Ytfocfgddlnjfmaa
open Go.RowKit Go.Rk

section
variable {a b : Option Addr} {n ca m cb : Nat} {l f : List Int} {w : World}
theorem Fewest_err {c : Int} (h : RdI w a n ca l) (hc : seqR l = some c) :
    Calls Try.prog 34 #[.slice a n ca] w fun e w' => e = .returned (.tuple #[.int .i64 0, .iface 64 (.int .i64 c)]) ∧ w = w' := by
  have C := Lib.hid (massey_Check_is h hc)
  clear hc
  go_enter Try.func34, Try.ntmps34
  go_wp2_with (go_at_call 76; refine C.out.mono ?_; rintro e w' ⟨rfl, rfl⟩; simp only [errV])
  go_ret2
  exact ⟨rfl, rfl⟩
theorem Fewest_ok (h : RdI w a n ca l) (hc : seqR l = none) :
    Calls Try.prog 34 #[.slice a n ca] w fun e w' => ∃ (L : Nat) (F : List Int), e = .returned (.tuple #[.int .i64 L, .nilIface]) ∧ BM (ix l) n (ix F) L ∧ F.length = L ∧ In 0 9972 F ∧ Below w.heap.size w w' := by
  have C := Lib.hid (massey_Check_is h hc)
  obtain ⟨g1, g2⟩ := seqR_none hc
  rw [h.len_eq] at g1
  have C2 := Lib.hid (shortest_any h g2 g1)
  clear hc
  go_enter Try.func34, Try.ntmps34
  go_wp2_with (first | (go_at_call 76; refine C.out.mono ?_; rintro e w' ⟨rfl, rfl⟩; simp only [errV]) | (go_at_call 77; (with_reducible refine C2.out.mono ?_); rintro e w' ⟨a', L, c', F, rfl, hF, hi, hB, hb⟩))
  go_ret2
  exact ⟨L, F, rfl, hB, hF.len_eq, hi, hb⟩
def firstE (a b : Option Int) : Option Int := match a with | some x => some x | none => b
theorem FirstE_any {x y : Option Int} {b : Nat} {w : World} (h0 : w.cell? ⟨b, 0, none⟩ = some (errV x)) (h1 : w.cell? ⟨b, 1, none⟩ = some (errV y)) :
    Calls Try.prog 78 #[.slice (some ⟨b, 0, none⟩) 2 2] w fun e w' => e = .returned (errV (firstE x y)) ∧ w = w' := by
  go_enter Try.func78, Try.ntmps78
  go_wp2
  go_loop [7] (fun i => ∃ k : Nat, k ≤ 2 ∧ i = .int .i64 k ∧ Hid (1 ≤ k → x = none) ∧ Hid (2 ≤ k → y = none)) (fun i => 2 - (intOf i).toNat)
  case atStart => exact ⟨0, by omega, rfl, fun h => absurd h (by omega), fun h => absurd h (by omega)⟩
  case round =>
    obtain ⟨k, hk, rfl, q1, q2⟩ := hrel
    rcases (show k = 0 ∨ k = 1 ∨ k = 2 by omega) with rfl | rfl | rfl
    · rcases x with _ | x
      · simp only [errV] at h0
        go_wp2
        go_round
        case rel => exact ⟨1, by omega, by go_num, fun _ => by first | rfl | trivial, fun h => absurd h (by omega)⟩
        case measure => simp [intOf]
      · simp only [errV] at h0
        go_wp2
        go_ret
        exact ⟨rfl, rfl⟩
    · have e := q1.out (by omega)
      subst e
      rcases y with _ | y
      · simp only [errV] at h1
        go_wp2
        go_round
        case rel => exact ⟨2, by omega, by go_num, fun _ => by first | rfl | trivial, fun _ => by first | rfl | trivial⟩
        case measure => simp [intOf]
      · simp only [errV] at h1
        go_wp2
        go_ret
        exact ⟨rfl, rfl⟩
    · have e := q1.out (by omega)
      have e2 := q2.out (by omega)
      subst e; subst e2
      go_wp2
      go_ret
      exact ⟨rfl, rfl⟩

/-- Does a sequence go by some factors? -/
def goB (l f : List Int) : Bool := (List.range l.length).all fun t => decide (t < f.length) || decide (Rz (ix l) (ix f) f.length t % 9973 = 0)
theorem goB_iff {l f : List Int} : goB l f = true ↔ GenF (ix l) (ix f) f.length l.length := by
  unfold goB
  rw [List.all_eq_true]
  constructor
  · intro h t h1 h2
    have := h t (List.mem_range.2 h2)
    rw [Bool.or_eq_true, decide_eq_true_eq, decide_eq_true_eq] at this
    rcases this with h3 | h3
    · omega
    · exact h3
  · intro h t ht
    rw [Bool.or_eq_true, decide_eq_true_eq, decide_eq_true_eq]
    rcases Nat.lt_or_ge t f.length with h3 | h3
    · exact .inl h3
    · exact .inr (h t h3 (List.mem_range.1 ht))
theorem Goes_err {c : Int} (h : RdI w a n ca l) (hf : RdI w b m cb f) (hc : firstE (seqR l) (seqR f) = some c) :
    Calls Try.prog 35 #[.slice a n ca, .slice b m cb] w fun e w' => e = .returned (.tuple #[.bool false, .iface 64 (.int .i64 c)]) ∧ Below w.heap.size w w' := by
  rcases h1 : seqR l with _ | c1 <;> rcases h2 : seqR f with _ | c2 <;> rw [h1, h2] at hc
  · cases hc
  · have HC := Lib.hid hc
    have C1 := Lib.hid (massey_Check_is h h1)
    have C2 := Lib.hid (massey_Check_is hf h2)
    simp only [errV] at C1 C2
    clear hc h1 h2
    go_enter Try.func35, Try.ntmps35
    go_wp2_with (first | (go_at_call 76; first | ((with_reducible refine C1.out.mono ?_); clear C1; rintro e w' ⟨rfl, rfl⟩) | ((with_reducible refine C2.out.mono ?_); rintro e w' ⟨rfl, rfl⟩)) | (go_at_call 78; refine (FirstE_any (x := none) (y := some c2) (by simp [errV]) (by simp [errV])).mono ?_; rintro e w' ⟨rfl, rfl⟩; rw [HC.out]; simp only [errV]))
    go_ret2
    exact ⟨rfl, (Below.refl w.heap.size w).alloc (Nat.le_refl _) _⟩
  · have HC := Lib.hid hc
    have C1 := Lib.hid (massey_Check_is h h1)
    have C2 := Lib.hid (massey_Check_is hf h2)
    simp only [errV] at C1 C2
    clear hc h1 h2
    go_enter Try.func35, Try.ntmps35
    go_wp2_with (first | (go_at_call 76; first | ((with_reducible refine C1.out.mono ?_); clear C1; rintro e w' ⟨rfl, rfl⟩) | ((with_reducible refine C2.out.mono ?_); rintro e w' ⟨rfl, rfl⟩)) | (go_at_call 78; refine (FirstE_any (x := some c1) (y := none) (by simp [errV]) (by simp [errV])).mono ?_; rintro e w' ⟨rfl, rfl⟩; rw [HC.out]; simp only [errV]))
    go_ret2
    exact ⟨rfl, (Below.refl w.heap.size w).alloc (Nat.le_refl _) _⟩
  · have HC := Lib.hid hc
    have C1 := Lib.hid (massey_Check_is h h1)
    have C2 := Lib.hid (massey_Check_is hf h2)
    simp only [errV] at C1 C2
    clear hc h1 h2
    go_enter Try.func35, Try.ntmps35
    go_wp2_with (first | (go_at_call 76; first | ((with_reducible refine C1.out.mono ?_); clear C1; rintro e w' ⟨rfl, rfl⟩) | ((with_reducible refine C2.out.mono ?_); rintro e w' ⟨rfl, rfl⟩)) | (go_at_call 78; refine (FirstE_any (x := some c1) (y := some c2) (by simp [errV]) (by simp [errV])).mono ?_; rintro e w' ⟨rfl, rfl⟩; rw [HC.out]; simp only [errV]))
    go_ret2
    exact ⟨rfl, (Below.refl w.heap.size w).alloc (Nat.le_refl _) _⟩
theorem Goes_ok (h : RdI w a n ca l) (hf : RdI w b m cb f) (h1 : seqR l = none) (h2 : seqR f = none) :
    Calls Try.prog 35 #[.slice a n ca, .slice b m cb] w fun e w' => e = .returned (.tuple #[.bool (goB l f), .nilIface]) ∧ Below w.heap.size w w' := by
  have C1 := Lib.hid (massey_Check_is h h1)
  have C2 := Lib.hid (massey_Check_is hf h2)
  simp only [errV] at C1 C2
  obtain ⟨g1, g2⟩ := seqR_none h1
  obtain ⟨g3, g4⟩ := seqR_none h2
  have e1 := h.len_eq
  have e2 := hf.len_eq
  have G2 := Lib.hid g2
  have G4 := Lib.hid g4
  have E1 := Lib.hid e1
  have E2 := Lib.hid e2
  clear h1 h2 g2 g4 e2
  go_enter Try.func35, Try.ntmps35
  go_wp2_with (first | (go_at_call 76; first | ((with_reducible refine C1.out.mono ?_); clear C1; rintro e w' ⟨rfl, rfl⟩) | ((with_reducible refine C2.out.mono ?_); rintro e w' ⟨rfl, rfl⟩)) | (go_at_call 78; refine (FirstE_any (x := none) (y := none) (by simp [errV]) (by simp [errV])).mono ?_; rintro e w' ⟨rfl, rfl⟩; simp only [firstE, errV]))
  have k1 := (Below.refl w.heap.size w).alloc (Nat.le_refl _) (.cells #[.nilIface, .nilIface] 27)
  generalize w.alloc (.cells #[.nilIface, .nilIface] 27) = w1 at *
  by_cases hmn : m ≤ n
  · go_loop [7] (fun v => ∃ i : Nat, m ≤ i ∧ i ≤ n ∧ v = .int .i64 i ∧ Hid (∀ t, m ≤ t → t < i → Rz (ix l) (ix f) m t % 9973 = 0)) (fun v => n - (intOf v).toNat)
    case atStart => exact ⟨m, Nat.le_refl _, hmn, rfl, fun t h1 h2 => absurd h2 (by omega)⟩
    case round =>
      obtain ⟨i, hmi, hi, rfl, HW⟩ := hrel
      by_cases hin : i < n
      · have i1 : (i : Int) < (n : Int) := by omega
        have C := misses_any (h.below k1) (hf.below k1) G2.out G4.out hmi hin (by omega)
        by_cases hz : Rz (ix l) (ix f) m i % 9973 = 0
        · rw [hz] at C
          have C := Lib.hid C
          have HZ := Lib.hid hz
          clear hz
          go_wp2_with (first | (go_at_call 79; (with_reducible refine C.out.mono ?_); rintro e w' ⟨rfl, rfl⟩))
          go_round
          case rel => exact ⟨i + 1, by omega, by omega, by go_num, fun t h1 h2 => by
            rcases Nat.lt_or_ge t i with h3 | h3
            · exact HW.out t h1 h3
            · obtain rfl : t = i := by omega
              exact HZ.out⟩
          case measure => simp [intOf]; omega
        · have hB : Hid (goB l f = false) := by
            unfold Hid
            rw [Bool.eq_false_iff]
            intro hg
            have h3 := goB_iff.1 hg i (by rw [E2.out]; exact hmi) (by rw [E1.out]; exact hin)
            rw [E2.out] at h3
            exact hz h3
          obtain ⟨d, hd⟩ : ∃ d, d = Rz (ix l) (ix f) m i % 9973 := ⟨_, rfl⟩
          rw [← hd] at C hz
          have C := Lib.hid C
          have z1 : (d != 0) = true := bne_iff_ne.2 hz
          clear hd hz
          go_wp2_with (first | (go_at_call 79; (with_reducible refine C.out.mono ?_); rintro e w' ⟨rfl, rfl⟩))
          go_ret2
          exact ⟨by rw [hB.out]; rfl, k1⟩
      · obtain rfl : i = n := by omega
        have hB : Hid (goB l f = true) := goB_iff.2 fun t h1 h2 => by
          rw [E2.out] at h1 ⊢
          rw [E1.out] at h2
          exact HW.out t h1 h2
        go_wp2
        go_ret2
        exact ⟨by rw [hB.out]; rfl, k1⟩
  · have hB : Hid (goB l f = true) := goB_iff.2 fun t h1 h2 => by
      rw [E2.out] at h1
      rw [E1.out] at h2
      omega
    have i1 : ¬ (m : Int) < (n : Int) := by omega
    refine wp_loop_rounds 1 ?_
    rw [rounds_succ]
    go_wp2
    go_ret2
    exact ⟨by rw [hB.out]; rfl, k1⟩
end
end Go.Proofs.Ytfocfgddlnjfmaa
