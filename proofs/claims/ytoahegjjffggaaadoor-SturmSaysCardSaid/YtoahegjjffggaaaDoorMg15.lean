/-
  Of one of up to four whole factors from -20 to 20 there is the chain of what comes to 0 once wherever it does, and its signs tell: all kinds. No program in sight.
  Package sturm walked: what divides all, and what is plain; num.Abs and num.Gcd.
  Package sturm walked: the slope, how often signs turn, and a chain at a number and far off.
  Package sturm walked: a chain at a number and far off.
-/
import Derived.Test.YtoahegjjffggaaaDoorRows
import Derived.BigQuiet
import Derived.Test.YtoahegjjffggaaaDoorMg0
import Derived.Test.YtoahegjjffggaaaDoorMg1
import Derived.Test.YtoahegjjffggaaaDoorMg2
import Derived.Test.YtoahegjjffggaaaDoorMg12
import Derived.Test.YtoahegjjffggaaaDoorMg13
import Derived.Test.YtoahegjjffggaaaDoorMg14
namespace Go.Rk
open Go.RowKit Go.Proofs.YtoahegjjffggaaaDoor

section
variable {a b c d u v w z k s : Int}
theorem ix0 {l : List Int} {k : Nat} (h : l.length ≤ k) : ix l k = 0 := ix_ge h
theorem quo_32 : Quo [v * v * z, v * v * w + 2 * u * v * z, u * u * z + 2 * u * v * w, u * u * w] [v, u] [v * z, u * z + v * w, u * w] := by
  refine ⟨rfl, fun i => ?_⟩
  match i with
  | 0 => show v * v * z = 0 + v * z * v + 0 + 0; grind
  | 1 => show v * v * w + 2 * u * v * z = 0 + v * z * u + (u * z + v * w) * v + 0; grind
  | 2 => show u * u * z + 2 * u * v * w = 0 + v * z * 0 + (u * z + v * w) * u + u * w * v; grind
  | 3 => show u * u * w = 0 + v * z * 0 + (u * z + v * w) * 0 + u * w * u; grind
  | i + 4 =>
    show _ = sumTo _ 3
    rw [ix0 (by simp), sumTo_congr (h := fun _ => 0) fun j hj => ?_, sumTo_zero]
    have hj : j < 3 := hj
    rw [if_pos (by omega), ix0 (l := [v, u]) (by show 2 ≤ i + 4 - j; omega), Int.mul_zero]
theorem quo_23 (hs : s * s = 1) : Quo [k * (v * v * v), 3 * k * (u * v * v), 3 * k * (u * u * v), k * (u * u * u)] [s * (v * v), s * (2 * (u * v)), s * (u * u)] [k * s * v, k * s * u] := by
  refine ⟨rfl, fun i => ?_⟩
  match i with
  | 0 => show k * (v * v * v) = 0 + k * s * v * (s * (v * v)) + 0; grind
  | 1 => show 3 * k * (u * v * v) = 0 + k * s * v * (s * (2 * (u * v))) + k * s * u * (s * (v * v)); grind
  | 2 => show 3 * k * (u * u * v) = 0 + k * s * v * (s * (u * u)) + k * s * u * (s * (2 * (u * v))); grind
  | 3 => show k * (u * u * u) = 0 + k * s * v * 0 + k * s * u * (s * (u * u)); grind
  | i + 4 =>
    show _ = sumTo _ 2
    rw [ix0 (by simp), sumTo_congr (h := fun _ => 0) fun j hj => ?_, sumTo_zero]
    have hj : j < 2 := hj
    rw [if_pos (by omega), ix0 (l := [s * (v * v), s * (2 * (u * v)), s * (u * u)]) (by show 3 ≤ i + 4 - j; omega), Int.mul_zero]
theorem quo_22 : Quo [k * (v * v), 2 * k * (u * v), k * (u * u)] [v, u] [k * v, k * u] := by
  refine ⟨rfl, fun i => ?_⟩
  match i with
  | 0 => show k * (v * v) = 0 + k * v * v + 0; grind
  | 1 => show 2 * k * (u * v) = 0 + k * v * u + k * u * v; grind
  | 2 => show k * (u * u) = 0 + k * v * 0 + k * u * u; grind
  | i + 3 =>
    show _ = sumTo _ 2
    rw [ix0 (by simp), sumTo_congr (h := fun _ => 0) fun j hj => ?_, sumTo_zero]
    have hj : j < 2 := hj
    rw [if_pos (by omega), ix0 (l := [v, u]) (by show 2 ≤ i + 3 - j; omega), Int.mul_zero]
theorem Pl.gcd (h : Pl [v, u]) : Int.gcd u v = 1 := by
  have e := h.one (by simp) (Int.gcd u v : Int) fun k => by
    rw [ix_two]
    split
    · exact Int.gcd_dvd_right _ _
    · split
      · exact Int.gcd_dvd_left _ _
      · exact Int.dvd_zero _
  have := Int.natAbs_dvd_natAbs.2 e
  simpa using this
/-- What is plain of two comes from them by a number above 0. -/
theorem plain_two (h : b ≠ 0) : ∃ v u n, plainL [a, b] = [v, u] ∧ Int.gcd u v = 1 ∧ u ≠ 0 ∧ a = n * v ∧ b = n * u := by
  obtain ⟨v, u, e⟩ := len_2 (plain_2 (x := a) h)
  obtain ⟨n, hn, hm⟩ := plainL_mul [a, b]
  have hp := plainL_pl [a, b]
  rw [e] at hm hp
  exact ⟨v, u, n, e, hp.gcd, hp.top (by simp), hm 0, hm 1⟩

theorem simp_1 (ha : a ≠ 0) : ∃ L, Simp [a] L ∧ Stm [a] L := by
  have i1 := unit_in ha
  have l1 := plain_1 ha
  refine ⟨_, .same ?_ ?_, stm1 ha⟩
  · rw [chain1]; show (plainL [a]).length < 2; omega
  · rw [chain1]; exact fitL1 (rowOk_of i1 (by omega) (by omega) (by decide))
theorem simp_2 (ha : a ≠ 0) (hi : In (-20) 20 [b, a]) : ∃ L, Simp [b, a] L ∧ Stm [b, a] L := by
  have l1 := plain_1 ha
  refine ⟨_, .same ?_ ?_, by rw [chain2 ha]; exact stm2 ha⟩
  · rw [chain2 ha]; show (plainL [a]).length < 2; omega
  · rw [chain2 ha]; exact fit2 (A := 20) ha (by decide) (by decide) hi
theorem simp_3 (hpl : Pl [c, b, a]) (ha : a ≠ 0) (hi : In (-20) 20 [c, b, a]) : ∃ L, Simp [c, b, a] L ∧ Stm [c, b, a] L := by
  have hf := fit3 (A := 20) ha (by decide) (by decide) hi
  by_cases hD : b * b - 4 * a * c = 0
  · obtain ⟨v, u, n, e, hg, hu, hv1, hu1⟩ := plain_two (a := b) (b := 2 * a) (by omega)
    obtain ⟨k, e1, e2, e3⟩ := sq_two ha hD hg hv1 hu1
    have hk : k ≠ 0 := fun q => ha (by rw [e1, q, Int.zero_mul])
    have b0 : -20 ≤ c ∧ c ≤ 20 := hi 0 (by simp)
    have b2 : -20 ≤ a ∧ a ≤ 20 := hi 2 (by simp)
    have bk := sq_bd2 (x := u) (y := k) hu (by rw [Int.mul_comm, ← e1]; exact b2)
    have bu := sq_bd (x := u) (y := k) hk (by rw [Int.mul_comm, ← e1]; exact b2)
    have bv := sq_bd (x := v) (y := k) hk (by rw [Int.mul_comm, ← e3]; exact b0)
    have p1 := prod_bd bk bu
    have p2 := prod_bd bk bv
    have hlast : lastL (chainL [c, b, a]) = [v, u] := by rw [chain3_two ha hD]; exact e
    have hku := mul_nz hk hu
    refine ⟨_, .cut [k * v, k * u] ?_ ?_ ?_ ?_ ?_ (by rw [chain3_two ha hD]; exact hf.1.step 0 (by simp)), by rw [chain2 hku, e1, e2, e3]; exact stm3_two hk hk hu⟩
    · rw [hlast]; exact Nat.le_refl _
    · rw [chain3_two ha hD]; exact hf.1
    · rw [hlast, hpl.plain, e1, e2, e3]; exact quo_22
    · exact in_2 (by omega) (by omega)
    · rw [chain2 hku]; exact fit2 (A := 80) hku (by decide) (by decide) (in_2 (by omega) (by omega))
  · have hAD := mul_nz ha hD
    have l2 := plain_1 hAD
    refine ⟨_, .same ?_ ?_, by rw [chain3_all ha hD]; exact stm3_all ha hD⟩
    · rw [chain3_all ha hD]; show (plainL [_]).length < 2; omega
    · rw [chain3_all ha hD]; exact hf.2 _ hAD
theorem simp_4 (hpl : Pl [d, c, b, a]) (ha : a ≠ 0) (hi : In (-20) 20 [d, c, b, a]) : ∃ L, Simp [d, c, b, a] L ∧ Stm [d, c, b, a] L := by
  have hf := fit4 ha hi
  have b0 : -20 ≤ d ∧ d ≤ 20 := hi 0 (by simp)
  have b1 : -20 ≤ c ∧ c ≤ 20 := hi 1 (by simp)
  have b2 : -20 ≤ b ∧ b ≤ 20 := hi 2 (by simp)
  have b3 : -20 ≤ a ∧ a ≤ 20 := hi 3 (by simp)
  by_cases hP : dPs a b c = 0
  · by_cases hQ : dQ a b c d = 0
    · -- three times at one place
      obtain ⟨v, u, n, e, hg, hu, hv1, hu1⟩ := plain_two (a := b) (b := 3 * a) (by omega)
      obtain ⟨k, e1, e2, e3, e4⟩ := cube_three ha hP hQ hg hv1 hu1
      have hk : k ≠ 0 := fun q => ha (by rw [e1, q, Int.zero_mul])
      have hku := mul_nz hk hu
      have sa := sgT_mul_pos hku
      have ss := sgT_sq (k * u)
      have hs0 := sgT_ne (k * u)
      have hpl2 : Pl [sgT (k * u) * (v * v), sgT (k * u) * (2 * (u * v)), sgT (k * u) * (u * u)] := by
        refine ⟨fun _ => mul_nz hs0 (mul_nz hu hu), fun _ m hm => ?_⟩
        have strip : ∀ x, m ∣ sgT (k * u) * x → m ∣ x := fun x hx => by
          obtain ⟨q, hq⟩ := hx
          refine ⟨sgT (k * u) * q, ?_⟩
          rw [← Int.one_mul x, ← ss, Int.mul_assoc, hq]; grind
        have m0 : m ∣ v * v := strip _ (hm 0)
        have m1 : m ∣ 2 * (u * v) := strip _ (hm 1)
        have m2 : m ∣ u * u := strip _ (hm 2)
        have := lg1 hg m0 (by rw [show u * v + v * u = 2 * (u * v) by grind]; exact m1) m2
        have g := Int.dvd_coe_gcd this.2 this.1
        rw [hg] at g
        exact g
      have hlast : lastL (chainL [d, c, b, a]) = [sgT (k * u) * (v * v), sgT (k * u) * (2 * (u * v)), sgT (k * u) * (u * u)] := by
        rw [chain4_three ha hP hQ]
        show plainL [c, 2 * b, 3 * a] = _
        rw [← hpl2.plain]
        refine plain_ray (a := 3 * (sgT (k * u) * (k * u))) (by omega) fun i => ?_
        rw [ix_three, ix_three, e1, e2, e3]
        split
        · grind
        · split
          · grind
          · split
            · grind
            · rw [Int.mul_zero]
      have he : k * sgT (k * u) ≠ 0 := mul_nz hk hs0
      have heu := mul_nz he hu
      have bku : -20 ≤ k * u ∧ k * u ≤ 20 := sq_bd2 (x := u) hu (by rw [show u * u * (k * u) = k * (u * u * u) by grind, ← e1]; exact b3)
      have bkv : -20 ≤ k * v ∧ k * v ≤ 20 := by
        by_cases h0 : v = 0
        · rw [h0, Int.mul_zero]; omega
        · exact sq_bd2 (x := v) h0 (by rw [show v * v * (k * v) = k * (v * v * v) by grind, ← e4]; exact b0)
      have bu : -20 ≤ k * sgT (k * u) * u ∧ k * sgT (k * u) * u ≤ 20 := by
        rw [show k * sgT (k * u) * u = sgT (k * u) * (k * u) by grind]
        rcases sgT_cases (k * u) with h | h <;> rw [h] <;> omega
      have bv : -20 ≤ k * sgT (k * u) * v ∧ k * sgT (k * u) * v ≤ 20 := by
        rw [show k * sgT (k * u) * v = sgT (k * u) * (k * v) by grind]
        rcases sgT_cases (k * u) with h | h <;> rw [h] <;> omega
      refine ⟨_, .cut [k * sgT (k * u) * v, k * sgT (k * u) * u] ?_ ?_ ?_ ?_ ?_ (by rw [chain4_three ha hP hQ]; exact hf.1.step 0 (by simp)), by rw [chain2 heu, e1, e2, e3, e4]; exact stm4_three hk he hu⟩
      · rw [hlast]; simp
      · rw [chain4_three ha hP hQ]; exact hf.1
      · rw [hlast, hpl.plain, e1, e2, e3, e4]; exact quo_23 ss
      · exact in_2 (by omega) (by omega)
      · rw [chain2 heu]; exact fit2 (A := 20) heu (by decide) (by decide) (in_2 bv bu)
    · have hAQ := mul_nz ha hQ
      have l2 := plain_1 hAQ
      refine ⟨_, .same ?_ ?_, by rw [chain4_flat ha hP hQ]; exact stm4_flat ha hP hQ⟩
      · rw [chain4_flat ha hP hQ]; show (plainL [_]).length < 2; omega
      · rw [chain4_flat ha hP hQ]; exact hf.2.2.1 _ hAQ
  · by_cases hD : dD a b c d = 0
    · -- twice at one place
      obtain ⟨v, u, n, e, hg, hu, hv1, hu1⟩ := plain_two (a := a * dQ a b c d) (b := a * (2 * dPs a b c)) (aP_nz ha hP)
      obtain ⟨w, z, e1, e2, e3, e4⟩ := cube_two ha hP hD hg hv1 hu1
      have hw : w ≠ 0 := fun q => ha (by rw [e1, q, Int.mul_zero])
      have hd : u * z - v * w ≠ 0 := fun q => hP (by
        have : dPs a b c = (u * u) * ((u * z - v * w) * (u * z - v * w)) := by rw [e1, e2, e3]; unfold dPs; grind
        rw [this, q, Int.mul_zero, Int.mul_zero])
      have hA := mul_nz hu hw
      have eD : (u * z + v * w) * (u * z + v * w) - 4 * (u * w) * (v * z) = (u * z - v * w) * (u * z - v * w) := by grind
      have hDD : (u * z + v * w) * (u * z + v * w) - 4 * (u * w) * (v * z) ≠ 0 := by rw [eD]; exact mul_nz hd hd
      have hlast : lastL (chainL [d, c, b, a]) = [v, u] := by rw [chain4_two ha hP hD]; exact e
      have bu := sq_bd (x := u) (y := w) hw (by rw [← e1]; exact b3)
      have bw := sq_bd2 (x := u) (y := w) hu (by rw [← e1]; exact b3)
      have bz : -20 ≤ z ∧ z ≤ 20 := by
        by_cases h0 : v = 0
        · exact sq_bd2 (x := u) hu (by rw [h0] at e2; have : u * u * z = b := by rw [e2]; grind
                                       rw [this]; exact b2)
        · exact sq_bd2 (x := v) h0 (by rw [← e4]; exact b0)
      have bv : -4 ≤ v ∧ v ≤ 4 := by
        by_cases h0 : z = 0
        · exact sq_bd (x := v) (y := w) hw (by rw [h0] at e3; have : v * v * w = c := by rw [e3]; grind
                                               rw [this]; exact b1)
        · exact sq_bd (x := v) (y := z) h0 (by rw [← e4]; exact b0)
      have p1 := prod_bd bv bz
      have p2 := prod_bd bu bz
      have p3 := prod_bd bv bw
      have p4 := prod_bd bu bw
      have hAD := mul_nz hA hDD
      refine ⟨_, .cut [v * z, u * z + v * w, u * w] ?_ ?_ ?_ ?_ ?_ (by rw [chain4_two ha hP hD]; exact hf.2.2.2.2 hP), by rw [chain3_all hA hDD, e1, e2, e3, e4]; exact stm4_two hu hw hd⟩
      · rw [hlast]; exact Nat.le_refl _
      · rw [chain4_two ha hP hD]; exact hf.2.1 hP
      · rw [hlast, hpl.plain, e1, e2, e3, e4]; exact quo_32
      · exact in_3 (by omega) (by omega) (by omega)
      · rw [chain3_all hA hDD]; exact (fit3 (A := 160) hA (by decide) (by decide) (in_3 (by omega) (by omega) (by omega))).2 _ hAD
    · have hAD := mul_nz ha hD
      have l2 := plain_1 hAD
      refine ⟨_, .same ?_ ?_, by rw [chain4_all ha hP hD]; exact stm4_all ha hP hD⟩
      · rw [chain4_all ha hP hD]; show (plainL [_]).length < 2; omega
      · rw [chain4_all ha hP hD]; exact hf.2.2.2.1 hP _ hAD
end
theorem simp_stm {f : List Int} (h1 : 1 ≤ f.length) (h4 : f.length ≤ 4) (hi : In (-20) 20 f) (ht : topL f ≠ 0) : ∃ L, Simp f L ∧ Stm f L := by
  have hl := plain_len_top ht
  have hp := plainL_pl f
  have ht' : topL (plainL f) ≠ 0 := hp.top (by omega)
  have hi' : In (-20) 20 (plainL f) := plainL_in (A := 20) hi
  have key : ∃ L, Simp (plainL f) L ∧ Stm (plainL f) L := by
    rcases (show (plainL f).length = 1 ∨ (plainL f).length = 2 ∨ (plainL f).length = 3 ∨ (plainL f).length = 4 by omega) with e | e | e | e
    · obtain ⟨a, e⟩ := len_1 e
      rw [e] at ht' ⊢
      exact simp_1 ht'
    · obtain ⟨b, a, e⟩ := len_2 e
      rw [e] at ht' hi' ⊢
      exact simp_2 ht' hi'
    · obtain ⟨c, b, a, e⟩ := len_3 e
      rw [e] at ht' hi' hp ⊢
      exact simp_3 hp ht' hi'
    · obtain ⟨d, c, b, a, e⟩ := len_4 e
      rw [e] at ht' hi' hp ⊢
      exact simp_4 hp ht' hi'
  obtain ⟨L, s, t⟩ := key
  obtain ⟨n, hn, hm⟩ := plainL_mul f
  exact ⟨L, s.plain ht, t.ray (plainL_ray f) hl.symm (nR_mul hn hl.symm h4 hm)⟩
end Go.Rk
namespace Go.Proofs.YtoahegjjffggaaaDoor
open Go.RowKit Go.Rk

theorem Abs_any (n : Int) (w : World) (h1 : -9223372036854775807 ≤ n) (h2 : n ≤ 9223372036854775807) :
    Calls Tryd.prog 83 #[.int .i64 n] w fun e w' => e = .returned (.int .i64 (n.natAbs : Int)) ∧ w = w' := by
  rcases Int.lt_or_le n 0 with h | h
  all_goals
    go_enter Tryd.func83, Tryd.ntmps83
    go_wp2
    go_ret
    exact ⟨congrArg (fun x => Ending.returned (.int .i64 x)) (by omega), rfl⟩
set_option maxHeartbeats 1000000 in
theorem Gcd_any (a b : Int) (w : World) (h1 : -9223372036854775807 ≤ a ∧ a ≤ 9223372036854775807) (h2 : -9223372036854775807 ≤ b ∧ b ≤ 9223372036854775807) :
    Calls Tryd.prog 70 #[.int .i64 a, .int .i64 b] w fun e w' => e = .returned (.int .i64 (Int.gcd a b : Int)) ∧ Below w.heap.size w w' := by
  have A1 := Lib.hid (Abs_any a w h1.1 h1.2)
  have A2 := Lib.hid (Abs_any b w h2.1 h2.2)
  have hb0 := Below.refl w.heap.size w
  go_enter Tryd.func70, Tryd.ntmps70
  go_wp2_with (go_at_call 83; first | ((with_reducible refine A1.out.mono ?_); clear A1; rintro e w' ⟨rfl, rfl⟩) | ((with_reducible refine A2.out.mono ?_); clear A2; rintro e w' ⟨rfl, rfl⟩))
  go_loopw [0, 1] (fun x y wt => ∃ p q : Nat, x = .int .i64 p ∧ y = .int .i64 q ∧ (p : Int) ≤ 9223372036854775807 ∧ (q : Int) ≤ 9223372036854775807 ∧ Hid (Nat.gcd p q = Int.gcd a b) ∧ Below w.heap.size w wt) (fun _ y _ => (intOf y).toNat)
  case atStart => exact ⟨a.natAbs, b.natAbs, rfl, rfl, by omega, by omega, rfl, hb0⟩
  case round =>
    obtain ⟨p, q, rfl, rfl, hp, hq, hg, hb⟩ := hrel
    by_cases h0 : q = 0
    · subst h0
      go_wp2
      go_ret
      refine ⟨congrArg (fun x => Ending.returned (.int .i64 x)) ?_, hb⟩
      have := hg.out
      rw [Nat.gcd_zero_right] at this
      rw [this]
    · have z : ((q : Int) != 0) = true := bne_iff_ne.2 (by omega)
      have z2 : ((q : Int) == 0) = false := beq_eq_false_iff_ne.2 (by omega)
      have z3 : (q : Int) ≠ 0 := by omega
      have t : (p : Int).tmod (q : Int) = ((p % q : Nat) : Int) := by rw [Int.tmod_eq_emod_of_nonneg (by omega)]; rfl
      have hm : p % q < q := Nat.mod_lt _ (by omega)
      have HG : Hid (Nat.gcd q (p % q) = Int.gcd a b) := by unfold Hid; rw [← hg.out, Nat.gcd_comm p q, Nat.gcd_rec q p, Nat.gcd_comm]
      clear h0
      go_wp2_with fail
      go_quiet (fail)
      go_wp2
      go_roundw
      case rel => exact ⟨q, p % q, rfl, by go_num, hq, by omega, HG.out, below_drewN hb _⟩
      case measure => simp [intOf]; omega

theorem prod_bd' {x y A B : Int} (hx : -A ≤ x ∧ x ≤ A) (hy : -B ≤ y ∧ y ≤ B) : -(A * B) ≤ x * y ∧ x * y ≤ A * B := by
  have h1 := Int.mul_nonneg (show 0 ≤ A - x by omega) (show 0 ≤ B - y by omega)
  have h2 := Int.mul_nonneg (show 0 ≤ A + x by omega) (show 0 ≤ B + y by omega)
  have h3 := Int.mul_nonneg (show 0 ≤ A - x by omega) (show 0 ≤ B + y by omega)
  have h4 := Int.mul_nonneg (show 0 ≤ A + x by omega) (show 0 ≤ B - y by omega)
  rw [show (A - x) * (B - y) = A * B - A * y - x * B + x * y by grind] at h1
  rw [show (A + x) * (B + y) = A * B + A * y + x * B + x * y by grind] at h2
  rw [show (A - x) * (B + y) = A * B + A * y - x * B - x * y by grind] at h3
  rw [show (A + x) * (B - y) = A * B - A * y + x * B - x * y by grind] at h4
  omega
theorem in_takeS {lo hi : Int} {l : List Int} (h : In lo hi l) (n : Nat) : In lo hi (l.take n) := fun k hk => by
  rw [List.length_take] at hk
  rw [ix_take (by omega)]
  exact h k (by omega)
theorem contL_bd {f : List Int} (h : In (-4611686018427387904) 4611686018427387904 f) (k : Nat) : contL (f.take k) ≤ 4611686018427387904 := contL_le (A := 4611686018427387904) (in_takeS h k)
set_option maxHeartbeats 1000000 in
theorem content_any {a : Option Addr} {n ca : Nat} {f : List Int} {w : World} (hf : RdI w a n ca f) (hi : In (-4611686018427387904) 4611686018427387904 f) :
    Calls Tryd.prog 51 #[.slice a n ca] w fun e w' => e = .returned (.int .i64 (contL f : Int)) ∧ Below w.heap.size w w' := by
  have hmx := hf.len_max
  have HL := Lib.hid hf.len_eq
  have HI := Lib.hid hi
  have HC := Lib.hid (contL_bd hi)
  have hb0 := Below.refl w.heap.size w
  clear hi
  go_enter Tryd.func51, Tryd.ntmps51
  go_wp2
  go_loopw [3, 8] (fun x y wt => ∃ k : Nat, k ≤ n ∧ x = .int .i64 (contL (f.take k) : Int) ∧ y = .int .i64 k ∧ Below w.heap.size w wt) (fun _ y _ => n - (intOf y).toNat)
  case atStart => exact ⟨0, Nat.zero_le _, rfl, rfl, hb0⟩
  case round =>
    obtain ⟨k, hk, rfl, rfl, hb⟩ := hrel
    by_cases hlt : k < n
    · have i1 : (k : Int) < (n : Int) := by omega
      obtain ⟨bf, of_, rfl, hbf, hc⟩ := hf.at hlt
      have y1 := hb.keep hbf (hc k hlt)
      have c1 := HC.out k
      have hx := HI.out k (by rw [HL.out]; exact hlt)
      have E := Lib.hid (contL_take (f := f) (k := k) (by rw [HL.out]; exact hlt))
      obtain ⟨X, hX⟩ : ∃ X, ix f k = X := ⟨_, rfl⟩
      obtain ⟨N, hN⟩ : ∃ N, contL (f.take k) = N := ⟨_, rfl⟩
      rw [hX] at y1 hx
      rw [hN] at c1
      have C := Lib.hid (Gcd_any (N : Int) X wr (by omega) (by omega))
      simp only [hN]
      have E2 : Hid (contL (f.take (k + 1)) = Int.gcd (N : Int) X) := by unfold Hid; rw [E.out, hX, hN]
      clear hX hN hc hx E
      go_wp2_with (go_at_call 70; (with_reducible refine C.out.mono ?_); clear C; rintro e w' ⟨rfl, b'⟩; have hb := below_tr hb b')
      go_roundw
      case rel => exact ⟨k + 1, by omega, by rw [E2.out], by go_num, hb⟩
      case measure => simp [intOf]; omega
    · obtain rfl : n = k := by omega
      go_wp2
      go_ret
      exact ⟨by rw [List.take_of_length_le (by have := HL.out; omega)]; rfl, hb⟩

theorem plainL_trim {f : List Int} (h : contL (trimL f) ≤ 1) : plainL f = trimL f := by
  rcases Nat.eq_zero_or_pos (trimL f).length with e | e
  · unfold plainL; rw [List.eq_nil_of_length_eq_zero e]; rfl
  · have h1 := contL_pos (trimL_top e)
    unfold plainL
    rw [show contL (trimL f) = 1 by omega]
    simp
theorem plainL_len' (f : List Int) : (plainL f).length = (trimL f).length := by rw [plainL, List.length_map]
set_option maxHeartbeats 4000000 in
theorem plain_any {a : Option Addr} {n ca : Nat} {f : List Int} {w : World} (hf : RdI w a n ca f) (hi : In (-4611686018427387904) 4611686018427387904 f) (hn : n ≤ 1000) :
    Calls Tryd.prog 80 #[.slice a n ca] w fun e w' => ∃ a' c', e = .returned (.slice a' (plainL f).length c') ∧ OwI w' w.heap.size 3 a' (plainL f).length c' (plainL f) ∧ Below w.heap.size w w' := by
  have HM := Lib.hid intTy
  have hle := hf.le
  have hmx := hf.max
  have HL := Lib.hid hf.len_eq
  have HI := Lib.hid (trimL_in hi)
  clear hi
  go_enter Tryd.func80, Tryd.ntmps80
  go_wp2
  go_loop [3] (fun x => ∃ k : Nat, k ≤ n ∧ x = .int .i64 k ∧ Hid (trimN f n = trimN f k)) (fun x => (intOf x).toNat)
  case atStart => exact ⟨n, Nat.le_refl _, rfl, rfl⟩
  case round =>
    obtain ⟨k, hk, rfl, hT⟩ := hrel
    have fin : ∀ _ : trimN f k = k, Hid (trimL f = f.take k ∧ (trimL f).length = k) := fun e => by
      have e1 : trimN f f.length = k := by rw [HL.out, hT.out, e]
      exact ⟨by unfold trimL; rw [e1], by rw [trimL_len, e1]⟩
    have hrt := hf.take (n := k) hk
    by_cases hgo : 0 < k ∧ ix f (k - 1) = 0
    · obtain ⟨q, rfl⟩ : ∃ q, k = q + 1 := ⟨k - 1, by omega⟩
      obtain ⟨bf, of_, rfl, _, hc⟩ := hf.at (k := q) (by omega)
      have y1 := hc q (by omega)
      have t1 : ((q + 1 : Nat) : Int) - 1 = (q : Int) := by omega
      have t2 : (((q : Nat) : Int) + 1) - 1 = (q : Int) := by omega
      have i1 : (q : Int) < (n : Int) := by omega
      have i2 : (0 : Int) < ((q + 1 : Nat) : Int) := by omega
      have hz : ix f q = 0 := hgo.2
      have z : (ix f q == 0) = true := beq_iff_eq.2 hz
      have HN : Hid (trimN f n = trimN f q) := by unfold Hid; rw [hT.out, trimN, if_pos hz]
      clear hz fin hc hgo hrt
      go_wp2
      go_round
      case rel => exact ⟨q, by omega, by go_num, HN.out⟩
      case measure => simp [intOf]
    · have HF : Hid (trimL f = f.take k ∧ (trimL f).length = k) := by
        refine fin ?_
        match k, hgo with
        | 0, _ => rfl
        | q + 1, hgo => rw [trimN, if_neg (show ¬ ix f q = 0 from fun e => hgo ⟨Nat.succ_pos q, e⟩)]
      have hb0 := Below.refl w.heap.size w
      by_cases h0 : 0 < k
      · obtain ⟨q, rfl⟩ : ∃ q, k = q + 1 := ⟨k - 1, by omega⟩
        obtain ⟨bf, of_, rfl, _, hc⟩ := hf.at (k := q) (by omega)
        have y1 := hc q (by omega)
        have t1 : ((q + 1 : Nat) : Int) - 1 = (q : Int) := by omega
        have t2 : (((q : Nat) : Int) + 1) - 1 = (q : Int) := by omega
        have i1 : (q : Int) < (n : Int) := by omega
        have i2 : (0 : Int) < ((q + 1 : Nat) : Int) := by omega
        have i3 : ((q + 1 : Nat) : Int) ≤ (n : Int) := by omega
        have i4 : ((q + 1 : Nat) : Int) ≤ (ca : Int) := by omega
        have z : (ix f q == 0) = false := beq_eq_false_iff_ne.2 fun e => hgo ⟨Nat.succ_pos q, e⟩
        clear fin hc hgo hT
        go_wp2_with (first | (at_builtin; refine wpList_append_ints HM.out rfl (.const (.slice none 0 0)) (.tmp 23) rfl rfl rfl (OwI.nil w w.heap.size _) hrt (by omega) (Nat.le_refl _) ?_; intro a3 cap3 w3 ho3 hg3; have hb3 := below_of_grown hg3) | (go_at_call 51; fail))
        rw [Nat.zero_add, List.nil_append] at ho3
        have eT : Hid (f.take (q + 1) = trimL f) := HF.out.1.symm
        rw [eT.out] at ho3
        have hl3 : Hid ((trimL f).length = q + 1) := HF.out.2
        refine (content_any ho3.rd HI.out).mono ?_
        rintro e w4 ⟨rfl, b4⟩
        have ho4 := ho3.below b4
        have k4 := below_tr hb3 b4
        have hc4 := HI.out
        obtain ⟨C, hC⟩ : ∃ C, contL (trimL f) = C := ⟨_, rfl⟩
        have bC : C ≤ 4611686018427387904 := by rw [← hC]; exact contL_le (A := 4611686018427387904) HI.out
        simp only [hC]
        have HC := Lib.hid hC
        clear hC hc4 ho3
        by_cases h1 : 1 < C
        · have j1 : (1 : Int) < (C : Int) := by omega
          have z0 : ((C : Int) == 0) = false := beq_eq_false_iff_ne.2 (by omega)
          have z1 : (C : Int) ≠ 0 := by omega
          have t3 : ((q : Int) + 1).toNat = q + 1 := by omega
          obtain ⟨g, hz, _, _, _, _⟩ := ho4.at (by omega)
          subst hz
          go_wp2_with fail
          go_loopw [31] (fun x wt => ∃ (j : Nat) (P : List Int), j ≤ q + 1 ∧ x = .int .i64 j ∧ OwI wt w.heap.size 3 (some ⟨g, 0, none⟩) (q + 1) cap3 P ∧ Hid (∀ i, ix P i = if i < j then ix f i / (C : Int) else ix (trimL f) i) ∧ Below w.heap.size w wt) (fun x _ => q + 1 - (intOf x).toNat)
          case atStart => exact ⟨0, trimL f, Nat.zero_le _, rfl, ho4, fun i => by rw [if_neg (Nat.not_lt_zero i)], k4⟩
          case round =>
            clear ho4 k4
            obtain ⟨j, P, hj, rfl, hO, hP, hb⟩ := hrel
            by_cases hlt : j < q + 1
            · have j2 : (j : Int) < ((q + 1 : Nat) : Int) := by omega
              have j3 : (j : Int) < (q : Int) + 1 := by omega
              obtain ⟨gz, hz, hgz, _, hcO, hfO⟩ := hO.at (by omega)
              cases hz
              have x1 := hcO j hlt
              have f1 := hfO j
              obtain ⟨X, hX⟩ : ∃ X, ix P j = X := ⟨_, rfl⟩
              have eX : X = ix f j := by rw [← hX, hP.out, if_neg (Nat.lt_irrefl j), trimL_ix]
              have bX := HI.out j (by rw [hl3.out]; exact hlt)
              rw [trimL_ix, ← eX] at bX
              have dX : (C : Int) ∣ X := by rw [eX, ← trimL_ix, ← HC.out]; exact contL_dvd _ _
              have u1 : X.tdiv (C : Int) = X / (C : Int) := Int.tdiv_eq_ediv_of_dvd dX
              have u2 : IntKind.i64.wrap (X / (C : Int)) = X / (C : Int) := by
                obtain ⟨Y, hY⟩ := dX
                have e : X / (C : Int) = Y := by rw [hY, Int.mul_ediv_cancel_left _ z1]
                refine Go.IntWalk.i64_in _ ?_
                rw [e]
                rcases Int.lt_or_le Y 0 with h | h
                · have := Int.mul_le_mul_of_nonpos_right (show (1 : Int) ≤ (C : Int) by omega) (show Y ≤ 0 by omega)
                  omega
                · have := Int.mul_le_mul_of_nonneg_right (show (1 : Int) ≤ (C : Int) by omega) h
                  omega
              rw [hX] at x1
              have HLP := Lib.hid hO.len_eq
              have hO1 := hO.set (k := j) (X / (C : Int))
              have hb1 := hb.setCell (p := ⟨g, j, none⟩) hgz (.int .i64 (X / (C : Int)))
              have HP1 : Hid (∀ i, ix (P.set j (X / (C : Int))) i = if i < j + 1 then ix f i / (C : Int) else ix (trimL f) i) := fun i => by
                rw [ix_set, HLP.out, hP.out, eX]
                by_cases e1 : j = i
                · subst e1
                  rw [if_pos ⟨rfl, hlt⟩, if_pos (Nat.lt_succ_self j)]
                · rw [if_neg (fun q => e1 q.1)]
                  by_cases e2 : i < j
                  · rw [if_pos e2, if_pos (by omega)]
                  · rw [if_neg e2, if_neg (by omega)]
              clear hX eX bX dX hcO hfO hO hP hb
              go_wp2
              generalize wr.setCell ⟨g, j, none⟩ (.int .i64 (X / (C : Int))) = W1 at *
              go_roundw
              case rel => exact ⟨j + 1, _, by omega, by go_num, hO1, HP1.out, hb1⟩
              case measure => simp [intOf]; omega
            · obtain rfl : q + 1 = j := by omega
              have eL : Hid ((plainL f).length = q + 1 ∧ plainL f = P) := by
                have e1 : (plainL f).length = q + 1 := by rw [plainL_len', hl3.out]
                refine ⟨e1, ix_ext (by rw [e1, hO.len_eq]) fun i hi => ?_⟩
                rw [hP.out, if_pos (by omega), plainL_ix, HC.out]
              go_wp2
              go_ret
              refine ⟨some ⟨g, 0, none⟩, cap3, ?_, ?_, hb⟩
              · rw [eL.out.1]; rfl
              · rw [eL.out.1, eL.out.2]; exact hO
        · have j1 : ¬ (1 : Int) < (C : Int) := by omega
          have j2 : (C : Int) ≤ 1 := by omega
          have HE : Hid (plainL f = trimL f) := plainL_trim (by rw [HC.out]; omega)
          clear h1
          go_wp2
          go_ret
          refine ⟨a3, cap3, ?_, ?_, k4⟩
          · rw [HE.out, hl3.out]; rfl
          · rw [HE.out, hl3.out]; exact ho4
      · obtain rfl : k = 0 := by omega
        have i4 : (0 : Int) ≤ (ca : Int) := by omega
        clear fin hT hgo
        go_wp2_with (first | (at_builtin; refine wpList_append_ints HM.out rfl (.const (.slice none 0 0)) (.tmp 23) rfl rfl rfl (OwI.nil w w.heap.size _) hrt (by omega) (Nat.le_refl _) ?_; intro a3 cap3 w3 ho3 hg3; have hb3 := below_of_grown hg3) | (go_at_call 51; fail))
        rw [Nat.zero_add, List.nil_append] at ho3
        refine (content_any ho3.rd (fun k hk => absurd hk (by simp))).mono ?_
        rintro e w4 ⟨rfl, b4⟩
        have ho4 := ho3.below b4
        have k4 := below_tr hb3 b4
        have eT : Hid (trimL f = []) := by unfold Hid; rw [HF.out.1]; rfl
        have HE : Hid (plainL f = []) := by unfold Hid plainL; rw [eT.out]; rfl
        have e0 : contL (f.take 0) = 0 := rfl
        simp only [e0]
        go_wp2
        go_ret
        refine ⟨a3, cap3, ?_, ?_, k4⟩
        · rw [HE.out]; rfl
        · rw [HE.out]; exact ho4
end Go.Proofs.YtoahegjjffggaaaDoor
namespace Go.Proofs.YtoahegjjffggaaaDoor
open Go.RowKit Go.Rk

set_option maxHeartbeats 2000000 in
theorem slope_any {a : Option Addr} {n ca : Nat} {f : List Int} {w : World} (hf : RdI w a n ca f) (hi : In (-1000000) 1000000 f) (h1 : 1 ≤ n) (h4 : n ≤ 4) :
    Calls Tryd.prog 81 #[.slice a n ca] w fun e w' => ∃ a' c', e = .returned (.slice a' (slopeL f).length c') ∧ OwI w' w.heap.size 3 a' (slopeL f).length c' (slopeL f) ∧ Below w.heap.size w w' := by
  have HM := Lib.hid intTy
  have HI := Lib.hid hi
  have HL := Lib.hid hf.len_eq
  have b0 := Below.refl w.heap.size w
  clear hi
  go_enter Tryd.func81, Tryd.ntmps81
  go_wp2
  go_loopw [3, 4] (fun v x wt => ∃ (k : Nat) (p : Option Addr) (cp : Nat), k + 1 ≤ n ∧ x = .int .i64 ((k : Int) + 1) ∧ v = .slice p k cp ∧ OwI wt w.heap.size 3 p k cp (rowF (fun i => ((i : Int) + 1) * ix f (i + 1)) k) ∧ Below w.heap.size w wt) (fun _ x _ => n - (intOf x).toNat)
  case atStart => exact ⟨0, none, 0, h1, by go_num, rfl, OwI.nil _ _ _, b0⟩
  case round =>
    obtain ⟨k, p, cp, hk, rfl, rfl, ho, hb⟩ := hrel
    by_cases hlt : k + 1 < n
    · have i1 : (k : Int) + 1 < (n : Int) := by omega
      have t1 : ((k : Int) + 1).toNat = k + 1 := by omega
      obtain ⟨bf, of_, rfl, hbf, hc⟩ := hf.at (k := k + 1) hlt
      have y1 := hb.keep hbf (hc (k + 1) hlt)
      have bX := HI.out (k + 1) (by rw [HL.out]; exact hlt)
      obtain ⟨X, hX⟩ : ∃ X, ix f (k + 1) = X := ⟨_, rfl⟩
      rw [hX] at y1 bX
      have pb := prod_bd' (x := (k : Int) + 1) (y := X) (A := 4) (B := 1000000) (by omega) bX
      have u1 : IntKind.i64.wrap (((k : Int) + 1) * X) = ((k : Int) + 1) * X := Go.IntWalk.i64_in _ (by omega)
      have HX : Hid (rowF (fun i => ((i : Int) + 1) * ix f (i + 1)) (k + 1) = rowF (fun i => ((i : Int) + 1) * ix f (i + 1)) k ++ [((k : Int) + 1) * X]) := by unfold Hid; rw [rowF_succ, hX]
      have hs := hb.size
      clear hX bX hc pb
      go_wp2_with (at_builtin; refine wpList_push_int HM.out rfl (.tmp 11) (.tmp 18) rfl rfl rfl (ho.alloc _) (z := ((k : Int) + 1) * X) (by simp) (by decide) (by decide) (by omega) (by simp; omega) ?_; intro a6 cap6 w6 ho6 hg6)
      have hb6 := (hb.alloc hs _).grown hg6 (by simp; omega) (fun r e => (ho.own.lt r e).1)
      go_roundw
      case rel => exact ⟨k + 1, a6, cap6, by omega, by go_num, rfl, by rw [HX.out]; exact ho6, hb6⟩
      case measure => simp [intOf]; omega
    · obtain rfl : n = k + 1 := by omega
      have i1 : ¬ (k : Int) + 1 < ((k + 1 : Nat) : Int) := by omega
      have hr : Hid (slopeL f = plainL (rowF (fun i => ((i : Int) + 1) * ix f (i + 1)) k)) := by unfold Hid slopeL; rw [HL.out]; rfl
      have hin : In (-4611686018427387904) 4611686018427387904 (rowF (fun i => ((i : Int) + 1) * ix f (i + 1)) k) := fun i hi => by
        rw [rowF_len] at hi
        rw [rowF_ix hi]
        have := prod_bd' (x := (i : Int) + 1) (y := ix f (i + 1)) (A := 4) (B := 1000000) (by omega) (HI.out (i + 1) (by rw [HL.out]; omega))
        omega
      have C := Lib.hid (plain_any ho.rd hin (by omega))
      clear hin
      go_wp2_with (go_at_call 80; fail)
      (with_reducible refine C.out.mono ?_)
      clear C
      rintro e w3 ⟨a', c', rfl, ho3, b3⟩
      have hb3 := below_tr hb b3
      have ho3 := ho3.mono hb.size
      go_wp2
      go_ret
      refine ⟨a', c', ?_, ?_, hb3⟩
      · rw [hr.out]; rfl
      · rw [hr.out]; exact ho3

theorem chg_drop {f : List Int} {k : Nat} (h : k < f.length) (s : Int) : chg s (f.drop k) = if ix f k = 0 then chg s (f.drop (k + 1)) else (if s ≠ 0 ∧ ¬ (0 < ix f k ↔ 0 < s) then 1 else 0) + chg (ix f k) (f.drop (k + 1)) := by
  rw [List.drop_eq_getElem_cons h, chg, ix_lt h]
set_option maxHeartbeats 2000000 in
theorem changes_any {a : Option Addr} {n ca : Nat} {f : List Int} {w : World} (hf : RdI w a n ca f) :
    Calls Tryd.prog 49 #[.slice a n ca] w fun e w' => e = .returned (.int .i64 (changesL f : Int)) ∧ w = w' := by
  have hmx := hf.len_max
  have HL := Lib.hid hf.len_eq
  go_enter Tryd.func49, Tryd.ntmps49
  go_wp2
  go_loop [3, 4, 9] (fun x y z => ∃ (m k : Nat) (s : Int), k ≤ n ∧ m ≤ k ∧ x = .int .i64 m ∧ y = .int .i64 s ∧ z = .int .i64 k ∧ Hid (m + chg s (f.drop k) = changesL f)) (fun _ _ z => n - (intOf z).toNat)
  case atStart => exact ⟨0, 0, 0, Nat.zero_le _, Nat.le_refl _, rfl, rfl, rfl, by unfold Hid changesL; simp⟩
  case round =>
    obtain ⟨m, k, s, hk, hm, rfl, rfl, rfl, hR⟩ := hrel
    by_cases hlt : k < n
    · have i1 : (k : Int) < (n : Int) := by omega
      obtain ⟨bf, of_, rfl, _, hc⟩ := hf.at hlt
      have y1 := hc k hlt
      have E := Lib.hid (chg_drop (f := f) (k := k) (by rw [HL.out]; exact hlt) s)
      obtain ⟨X, hX⟩ : ∃ X, ix f k = X := ⟨_, rfl⟩
      rw [hX] at y1 E
      clear hX hc
      by_cases h0 : X = 0
      · have z : (X == 0) = true := beq_iff_eq.2 h0
        have HR : Hid (m + chg s (f.drop (k + 1)) = changesL f) := by unfold Hid; rw [← hR.out, E.out, if_pos h0]
        clear h0
        go_wp2
        go_round
        case rel => exact ⟨m, k + 1, s, by omega, by omega, rfl, rfl, by go_num, HR.out⟩
        case measure => simp [intOf]; omega
      · have z : (X == 0) = false := beq_eq_false_iff_ne.2 h0
        have u1 : ((m : Int) + 1) = ((m + 1 : Nat) : Int) := by omega
        have HU := Lib.hid u1
        clear u1
        by_cases h1 : s = 0
        · have z1 : (s != 0) = false := bne_eq_false_iff_eq.2 h1
          have HR : Hid (m + chg X (f.drop (k + 1)) = changesL f) := by unfold Hid; rw [← hR.out, E.out, if_neg h0, if_neg (fun q => q.1 h1), Nat.zero_add]
          clear h0 h1
          go_wp2
          go_round
          case rel => exact ⟨m, k + 1, X, by omega, by omega, rfl, rfl, by go_num, HR.out⟩
          case measure => simp [intOf]; omega
        · have z1 : (s != 0) = true := bne_iff_ne.2 h1
          by_cases h2 : 0 < X
          · by_cases h3 : 0 < s
            · have HR : Hid (m + chg X (f.drop (k + 1)) = changesL f) := by unfold Hid; rw [← hR.out, E.out, if_neg h0, if_neg (fun q => q.2 ⟨fun _ => h3, fun _ => h2⟩), Nat.zero_add]
              clear h0 h1
              go_wp2
              go_round
              case rel => exact ⟨m, k + 1, X, by omega, by omega, rfl, rfl, by go_num, HR.out⟩
              case measure => simp [intOf]; omega
            · have HR : Hid (m + 1 + chg X (f.drop (k + 1)) = changesL f) := by unfold Hid; rw [← hR.out, E.out, if_neg h0, if_pos ⟨h1, fun q => h3 (q.1 h2)⟩]; omega
              have h4 : s ≤ 0 := by omega
              clear h0 h1
              go_wp2
              go_round
              case rel => exact ⟨m + 1, k + 1, X, by omega, by omega, by go_num, rfl, by go_num, HR.out⟩
              case measure => simp [intOf]; omega
          · have h5 : X ≤ 0 := by omega
            by_cases h3 : 0 < s
            · have HR : Hid (m + 1 + chg X (f.drop (k + 1)) = changesL f) := by unfold Hid; rw [← hR.out, E.out, if_neg h0, if_pos ⟨h1, fun q => h2 (q.2 h3)⟩]; omega
              clear h0 h1
              go_wp2
              go_round
              case rel => exact ⟨m + 1, k + 1, X, by omega, by omega, by go_num, rfl, by go_num, HR.out⟩
              case measure => simp [intOf]; omega
            · have HR : Hid (m + chg X (f.drop (k + 1)) = changesL f) := by unfold Hid; rw [← hR.out, E.out, if_neg h0, if_neg (fun q => q.2 ⟨fun h => absurd h h2, fun h => absurd h h3⟩), Nat.zero_add]
              have h4 : s ≤ 0 := by omega
              clear h0 h1
              go_wp2
              go_round
              case rel => exact ⟨m, k + 1, X, by omega, by omega, rfl, rfl, by go_num, HR.out⟩
              case measure => simp [intOf]; omega
    · obtain rfl : n = k := by omega
      go_wp2
      go_ret
      refine ⟨?_, rfl⟩
      have h := hR.out
      rw [List.drop_eq_nil_of_le (by rw [HL.out]; exact Nat.le_refl _)] at h
      rw [← h]
      rfl
end Go.Proofs.YtoahegjjffggaaaDoor
namespace Go.Proofs.YtoahegjjffggaaaDoor
open Go.RowKit Go.Rk

def bndE : Nat → Int
  | 0 => 0
  | m + 1 => bndE m * 100 + 1000000
theorem bndE_nn : ∀ m, 0 ≤ bndE m
  | 0 => Int.le_refl _
  | m + 1 => by have := bndE_nn m; show 0 ≤ bndE m * 100 + 1000000; omega
theorem ev_bd {x : Int} (hx : -100 ≤ x ∧ x ≤ 100) : ∀ (m : Nat) (l : List Int), In (-1000000) 1000000 l → l.length ≤ m → -(bndE m) ≤ evL l x ∧ evL l x ≤ bndE m
  | m, [], _, _ => by have := bndE_nn m; rw [evL]; omega
  | 0, _ :: _, _, h => by simp at h
  | m + 1, c :: l, hi, h => by
    have h1 := ev_bd hx m l (fun k hk => hi (k + 1) (by simpa using hk)) (by simpa using h)
    have h2 : -1000000 ≤ c ∧ c ≤ 1000000 := hi 0 (by simp)
    have h3 := prod_bd' (A := bndE m) (B := 100) h1 hx
    rw [evL]
    show -(bndE m * 100 + 1000000) ≤ _ ∧ _ ≤ bndE m * 100 + 1000000
    omega
theorem ev_bd4 {x : Int} (hx : -100 ≤ x ∧ x ≤ 100) {l : List Int} (hi : In (-1000000) 1000000 l) (h : l.length ≤ 4) (k : Nat) : -1010101000000 ≤ evL (l.drop k) x ∧ evL (l.drop k) x ≤ 1010101000000 := by
  have := ev_bd hx 4 (l.drop k) (fun j hj => by
    rw [List.length_drop] at hj
    rw [ix_drop]; exact hi (k + j) (by omega)) (by rw [List.length_drop]; omega)
  have e : bndE 4 = 1010101000000 := by decide
  rwa [e] at this
theorem rowF_map {L : List (List Int)} {n : Nat} (h : L.length = n) (g : List Int → Int) : rowF (fun i => g (rowOf L i)) n = L.map g := by
  refine ix_ext (by rw [rowF_len, List.length_map, h]) fun k hk => ?_
  rw [rowF_len] at hk
  rw [rowF_ix hk, ix_lt (by rw [List.length_map]; omega), List.getElem_map]
  congr 1
  simp [rowOf, List.getD, show k < L.length by omega]

set_option maxHeartbeats 2000000 in
theorem sturm_at_any {a : Option Addr} {n ca : Nat} {L : List (List Int)} {x : Int} {w : World} (hL : RdM w a n ca L) (hfit : ∀ i, i < n → (rowOf L i).length ≤ 4 ∧ In (-1000000) 1000000 (rowOf L i)) (hn : n ≤ 1000) (hx : -100 ≤ x ∧ x ≤ 100) :
    Calls Tryd.prog 54 #[.slice a n ca, .int .i64 x] w fun e w' => ∃ a' c', e = .returned (.slice a' n c') ∧ OwI w' w.heap.size 3 a' n c' (L.map fun p => evL p x) ∧ Below w.heap.size w w' := by
  have HM := Lib.hid intTy
  have HF := Lib.hid hfit
  have HL := Lib.hid hL.len_eq
  have b0 := Below.refl w.heap.size w
  clear hfit
  go_enter Tryd.func54, Tryd.ntmps54
  go_wp2
  go_loopw [5, 12] (fun v y wt => ∃ (k : Nat) (p : Option Addr) (cp : Nat), k ≤ n ∧ y = .int .i64 k ∧ v = .slice p k cp ∧ OwI wt w.heap.size 3 p k cp (rowF (fun i => evL (rowOf L i) x) k) ∧ Below w.heap.size w wt) (fun _ y _ => n - (intOf y).toNat)
  case atStart => exact ⟨0, none, 0, Nat.zero_le _, rfl, rfl, OwI.nil _ _ _, b0⟩
  case round =>
    obtain ⟨k, p, cp, hk, rfl, rfl, ho, hb⟩ := hrel
    by_cases hlt : k < n
    · have i1 : (k : Int) < (n : Int) := by omega
      obtain ⟨bm, om, rfl, hbm, hrows⟩ := hL.at hlt
      obtain ⟨ar, cr, hcell, hr0⟩ := hrows k hlt
      have y1 := hb.keep hbm hcell
      have hr := hr0.below hb
      obtain ⟨hl4, hin⟩ := HF.out k hlt
      obtain ⟨f, hf⟩ : ∃ f, rowOf L k = f := ⟨_, rfl⟩
      rw [hf] at y1 hr hl4 hin
      have HE := Lib.hid (ev_bd4 hx hin hl4)
      have HIn := Lib.hid hin
      have HX : Hid (rowF (fun i => evL (rowOf L i) x) (k + 1) = rowF (fun i => evL (rowOf L i) x) k ++ [evL f x]) := by unfold Hid; rw [rowF_succ, hf]
      have hs := hb.size
      clear hf hin hcell hr0 hrows
      obtain ⟨m, hm⟩ : ∃ m, f.length = m := ⟨_, rfl⟩
      rw [hm] at y1 hr hl4
      have HFL := Lib.hid hm
      clear hm
      go_wp2
      go_loop [8, 9] (fun y z => ∃ j : Nat, j ≤ m ∧ y = .int .i64 (evL (f.drop j) x) ∧ z = .int .i64 ((j : Int) - 1)) (fun _ z => (intOf z + 1).toNat)
      case atStart => exact ⟨m, Nat.le_refl _, by rw [List.drop_eq_nil_of_le (by rw [HFL.out]; exact Nat.le_refl _)]; rfl, by go_num⟩
      case round =>
        obtain ⟨j, hj, rfl, rfl⟩ := hrel
        by_cases h0 : 0 < j
        · obtain ⟨q, rfl⟩ : ∃ q, j = q + 1 := ⟨j - 1, by omega⟩
          have e1 : ((q + 1 : Nat) : Int) - 1 = (q : Int) := by omega
          have E := Lib.hid (evL_drop (f := f) (i := q) (by rw [HFL.out]; omega) x)
          have b1 := HE.out (q + 1)
          have b2 := HE.out q
          have b3 := HIn.out q (by rw [HFL.out]; omega)
          have b4 := prod_bd' (B := 100) b1 hx
          rw [E.out] at b2
          obtain ⟨bf, of_, rfl, _, hc⟩ := hr.at (k := q) (by omega)
          have y2 := hc q (by omega)
          obtain ⟨V, hV⟩ : ∃ V, evL (f.drop (q + 1)) x = V := ⟨_, rfl⟩
          obtain ⟨X, hX⟩ : ∃ X, ix f q = X := ⟨_, rfl⟩
          rw [hX] at y2 b3 E b2
          rw [hV] at b1 b2 b4 E
          simp only [hV, e1]
          have i2 : (q : Int) < (m : Int) := by omega
          have u1 : IntKind.i64.wrap (V * x) = V * x := Go.IntWalk.i64_in _ (by omega)
          have u2 : IntKind.i64.wrap (V * x + X) = V * x + X := Go.IntWalk.i64_in _ (by omega)
          clear hV hX hc e1
          go_wp2
          go_round
          case rel => exact ⟨q, by omega, by rw [E.out], by go_num⟩
          case measure => simp [intOf]
        · obtain rfl : j = 0 := by omega
          have e1 : ((0 : Nat) : Int) - 1 = -1 := by omega
          simp only [e1, List.drop_zero]
          obtain ⟨V, hV⟩ : ∃ V, evL f x = V := ⟨_, rfl⟩
          rw [hV] at HX
          simp only [hV]
          clear hV e1
          go_wp2_with (at_builtin; refine wpList_push_int HM.out rfl (.tmp 31) (.tmp 33) rfl rfl rfl (ho.alloc _) (z := V) (by simp) (by decide) (by decide) (by omega) (by simp; omega) ?_; intro a6 cap6 w6 ho6 hg6)
          have hb6 := (hb.alloc hs _).grown hg6 (by simp; omega) (fun r e => (ho.own.lt r e).1)
          go_roundw
          case rel => exact ⟨k + 1, a6, cap6, by omega, by go_num, rfl, by rw [HX.out]; exact ho6, hb6⟩
          case measure => simp [intOf]; omega
    · obtain rfl : n = k := by omega
      go_wp2
      go_ret
      have e := rowF_map HL.out fun p => evL p x
      rw [e] at ho
      exact ⟨p, cp, rfl, ho, hb⟩

/-- What leads on that side. -/
def farT (s : Int) (f : List Int) : Int := if s < 0 then lowT f else topL f
set_option maxHeartbeats 2000000 in
theorem far_any {a : Option Addr} {n ca : Nat} {L : List (List Int)} {s : Int} {w : World} (hL : RdM w a n ca L) (hfit : ∀ i, i < n → 1 ≤ (rowOf L i).length ∧ (rowOf L i).length ≤ 4 ∧ In (-1000000) 1000000 (rowOf L i)) (hn : n ≤ 1000) :
    Calls Tryd.prog 50 #[.slice a n ca, .int .i64 s] w fun e w' => ∃ a' c', e = .returned (.slice a' n c') ∧ OwI w' w.heap.size 3 a' n c' (L.map (farT s)) ∧ Below w.heap.size w w' := by
  have HM := Lib.hid intTy
  have HF := Lib.hid hfit
  have HL := Lib.hid hL.len_eq
  have b0 := Below.refl w.heap.size w
  clear hfit
  go_enter Tryd.func50, Tryd.ntmps50
  go_wp2
  go_loopw [5, 11] (fun v y wt => ∃ (k : Nat) (p : Option Addr) (cp : Nat), k ≤ n ∧ y = .int .i64 k ∧ v = .slice p k cp ∧ OwI wt w.heap.size 3 p k cp (rowF (fun i => farT s (rowOf L i)) k) ∧ Below w.heap.size w wt) (fun _ y _ => n - (intOf y).toNat)
  case atStart => exact ⟨0, none, 0, Nat.zero_le _, rfl, rfl, OwI.nil _ _ _, b0⟩
  case round =>
    obtain ⟨k, p, cp, hk, rfl, rfl, ho, hb⟩ := hrel
    by_cases hlt : k < n
    · have i1 : (k : Int) < (n : Int) := by omega
      obtain ⟨bm, om, rfl, hbm, hrows⟩ := hL.at hlt
      obtain ⟨ar, cr, hcell, hr0⟩ := hrows k hlt
      have y1 := hb.keep hbm hcell
      have hr := hr0.below hb
      obtain ⟨hl1, hl4, hin⟩ := HF.out k hlt
      obtain ⟨f, hf⟩ : ∃ f, rowOf L k = f := ⟨_, rfl⟩
      rw [hf] at y1 hr hl4 hin hl1
      have HX : Hid (rowF (fun i => farT s (rowOf L i)) (k + 1) = rowF (fun i => farT s (rowOf L i)) k ++ [farT s f]) := by unfold Hid; rw [rowF_succ, hf]
      have hs := hb.size
      clear hf hcell hr0 hrows
      obtain ⟨m, hm⟩ : ∃ m, f.length = m + 1 := ⟨f.length - 1, by omega⟩
      have HIn := Lib.hid hin
      rw [hm] at y1 hr hl4
      have b3 := HIn.out m (by rw [hm]; omega)
      have eT : topL f = ix f m := by unfold topL; rw [hm]; rfl
      obtain ⟨bf, of_, rfl, _, hc⟩ := hr.at (k := m) (by omega)
      have y2 := hc m (by omega)
      obtain ⟨X, hX⟩ : ∃ X, ix f m = X := ⟨_, rfl⟩
      rw [hX] at y2 b3 eT
      have t1 : ((m + 1 : Nat) : Int) - 1 = (m : Int) := by omega
      have t2 : ((m : Int) + 1) - 1 = (m : Int) := by omega
      have i2 : (m : Int) < (m : Int) + 1 := by omega
      have i3 : (m : Int) < ((m + 1 : Nat) : Int) := by omega
      have u1 : IntKind.i64.wrap (-X) = -X := Go.IntWalk.i64_in _ (by omega)
      clear hX hc hin hl1
      by_cases h0 : s < 0
      · by_cases h2 : (m + 1) % 2 = 0
        · have z0 : ((m : Int) + 1).tmod 2 = 0 := by rw [Int.tmod_eq_emod_of_nonneg (by omega)]; omega
          have z1 : (((m + 1 : Nat) : Int)).tmod 2 = 0 := by rw [Int.tmod_eq_emod_of_nonneg (by omega)]; omega
          have HV : Hid (farT s f = -X) := by unfold Hid farT lowT; rw [if_pos h0, if_pos (by rw [hm]; exact h2), eT]
          clear h2 hm eT
          go_wp2_with (at_builtin; refine wpList_push_int HM.out rfl (.tmp 31) (.tmp 33) rfl rfl rfl (ho.alloc _) (z := -X) (by simp) (by decide) (by decide) (by omega) (by simp; omega) ?_; intro a6 cap6 w6 ho6 hg6)
          have hb6 := (hb.alloc hs _).grown hg6 (by simp; omega) (fun r e => (ho.own.lt r e).1)
          go_roundw
          case rel => exact ⟨k + 1, a6, cap6, by omega, by go_num, rfl, by rw [HX.out, HV.out]; exact ho6, hb6⟩
          case measure => simp [intOf]; omega
        · have z0 : ((m : Int) + 1).tmod 2 = 1 := by rw [Int.tmod_eq_emod_of_nonneg (by omega)]; omega
          have z1 : (((m + 1 : Nat) : Int)).tmod 2 = 1 := by rw [Int.tmod_eq_emod_of_nonneg (by omega)]; omega
          have HV : Hid (farT s f = X) := by unfold Hid farT lowT; rw [if_pos h0, if_neg (by rw [hm]; exact h2), eT]
          clear h2 hm eT
          go_wp2_with (at_builtin; refine wpList_push_int HM.out rfl (.tmp 31) (.tmp 33) rfl rfl rfl (ho.alloc _) (z := X) (by simp) (by decide) (by decide) (by omega) (by simp; omega) ?_; intro a6 cap6 w6 ho6 hg6)
          have hb6 := (hb.alloc hs _).grown hg6 (by simp; omega) (fun r e => (ho.own.lt r e).1)
          go_roundw
          case rel => exact ⟨k + 1, a6, cap6, by omega, by go_num, rfl, by rw [HX.out, HV.out]; exact ho6, hb6⟩
          case measure => simp [intOf]; omega
      · have h1 : 0 ≤ s := by omega
        have HV : Hid (farT s f = X) := by unfold Hid farT; rw [if_neg h0, eT]
        clear hm eT h0
        go_wp2_with (at_builtin; refine wpList_push_int HM.out rfl (.tmp 31) (.tmp 33) rfl rfl rfl (ho.alloc _) (z := X) (by simp) (by decide) (by decide) (by omega) (by simp; omega) ?_; intro a6 cap6 w6 ho6 hg6)
        have hb6 := (hb.alloc hs _).grown hg6 (by simp; omega) (fun r e => (ho.own.lt r e).1)
        go_roundw
        case rel => exact ⟨k + 1, a6, cap6, by omega, by go_num, rfl, by rw [HX.out, HV.out]; exact ho6, hb6⟩
        case measure => simp [intOf]; omega
    · obtain rfl : n = k := by omega
      go_wp2
      go_ret
      have e := rowF_map HL.out (farT s)
      rw [e] at ho
      exact ⟨p, cp, rfl, ho, hb⟩
end Go.Proofs.YtoahegjjffggaaaDoor
