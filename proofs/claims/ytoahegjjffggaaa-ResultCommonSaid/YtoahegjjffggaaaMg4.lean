/-
  One step of elimination modulo 9973, and what it does with a determinant. Plain Lean, no program in sight.
  The walks of package det: the checks, the exchange of two rows, the determinant by elimination.
  The walk of det.of: elimination with the first element that is not 0 as pivot; and det.Of.
  Matrices by the prime: products go together, powers add up. No program in sight.
-/
import Derived.Test.YtoahegjjffggaaaRows
import Derived.Deep.QuietTactic
import Derived.BigQuiet
import Derived.Deep.RegionHeld3
import Derived.StillTailTactics
import Derived.Test.YtoahegjjffggaaaMg0
import Derived.Test.YtoahegjjffggaaaMg1
import Derived.Test.YtoahegjjffggaaaMg2
import Derived.Test.YtoahegjjffggaaaMg3
namespace Go.Rk

def pwN : Nat → Nat → Nat → Nat → Nat
  | 0, o, _, _ => o
  | f + 1, o, a, n => if n = 0 then o else pwN f (if n % 2 = 1 then o * a % 9973 else o) (a * a % 9973) (n / 2)

theorem pwN_eq (f : Nat) : ∀ (o a n : Nat), n < 2 ^ f → (pwN f o a n : Int) % 9973 = (o : Int) * (a : Int) ^ n % 9973 := by
  induction f with
  | zero =>
    intro o a n h
    obtain rfl : n = 0 := by simpa using h
    simp [pwN]
  | succ f ih =>
    intro o a n h
    rw [pwN]
    split
    · next h0 => subst h0; simp
    · next h0 =>
      rw [ih _ _ _ (by rw [Nat.pow_succ] at h; omega)]
      split
      · next h1 =>
        have := powm_odd (o := (o : Int)) (b := (a : Int)) (m := n) rfl h1
        rw [← this]
        congr 1
      · next h1 =>
        have := powm_even (o := (o : Int)) (b := (a : Int)) (m := n) rfl (by omega)
        rw [← this]
        congr 1

theorem fermat_all : (List.range 9973).all (fun a => a == 0 || pwN 14 1 a 9971 * a % 9973 == 1) = true := by decide +kernel

/-- FERMAT: what an element's reciprocal is. -/
theorem over_mul {a : Int} (h1 : 0 ≤ a) (h2 : a ≤ 9972) (h0 : a ≠ 0) : powm a 9971 * a % 9973 = 1 := by
  obtain ⟨k, rfl⟩ := Int.eq_ofNat_of_zero_le h1
  have h3 := List.all_eq_true.1 fermat_all k (List.mem_range.2 (by omega))
  simp only [Bool.or_eq_true, beq_iff_eq] at h3
  have h4 : pwN 14 1 k 9971 * k % 9973 = 1 := by
    rcases h3 with h3 | h3
    · omega
    · exact h3
  have h5 := pwN_eq 14 1 k 9971 (by decide)
  rw [Int.natCast_one, Int.one_mul] at h5
  unfold powm
  rw [← h5]
  have h6 : ((pwN 14 1 k 9971 * k : Nat) : Int) % 9973 = 1 := by omega
  rw [Int.natCast_mul] at h6
  have := (Eqm.mod (pwN 14 1 k 9971 : Int)).mul (Eqm.refl (k : Int))
  unfold Eqm at this
  omega

theorem powm_in (a : Int) (n : Nat) : 0 ≤ powm a n ∧ powm a n ≤ 9972 := by unfold powm; omega

theorem zeros_succ {f : Nat → Int} {c k : Nat} (h : ∀ r, c ≤ r → r < k → f r = 0) (h1 : f k = 0) : ∀ r, c ≤ r → r < k + 1 → f r = 0 := by
  intro r h2 h3
  rcases Nat.lt_or_ge r k with h4 | h4
  · exact h r h2 h4
  · obtain rfl : r = k := by omega
    exact h1

def mx (M : List (List Int)) : Mx := fun i j => en M i j
/-- Square, of n rows. -/
def Dim (n : Nat) (M : List (List Int)) : Prop := M.length = n ∧ ∀ i, i < n → (rowOf M i).length = n
/-- Each number between. -/
def Ent (lo hi : Int) (n : Nat) (M : List (List Int)) : Prop := ∀ i j, i < n → j < n → lo ≤ en M i j ∧ en M i j ≤ hi
/-- The matrix is F. -/
def Is (n : Nat) (M : List (List Int)) (F : Mx) : Prop := Dim n M ∧ ∀ i j, i < n → j < n → en M i j = F i j

theorem Is.set {n : Nat} {M : List (List Int)} {F : Mx} (h : Is n M F) {i j : Nat} (x : Int) : Is n (setE M i j x) (fun r c => if i = r ∧ j = c then x else F r c) := by
  refine ⟨⟨by rw [setE_len]; exact h.1.1, fun r hr => by rw [setE_row_len]; exact h.1.2 r hr⟩, fun r c hr hc => ?_⟩
  show _ = if i = r ∧ j = c then x else F r c
  rw [en_setE, h.1.1]
  by_cases e : i = r ∧ j = c
  · rw [if_pos ⟨e.1, e.2, hr, by rw [h.1.2 r hr]; exact hc⟩, if_pos e]
  · rw [if_neg fun e2 => e ⟨e2.1, e2.2.1⟩, if_neg e]; exact h.2 r c hr hc

theorem Is.congr {n : Nat} {M : List (List Int)} {F G : Mx} (h : Is n M F) (e : ∀ i j, i < n → j < n → F i j = G i j) : Is n M G :=
  ⟨h.1, fun i j hi hj => by rw [h.2 i j hi hj, e i j hi hj]⟩

theorem Is.self {n : Nat} {M : List (List Int)} (h : Dim n M) : Is n M (mx M) := ⟨h, fun _ _ _ _ => rfl⟩

/-- What elimination makes of an element: so many times row c from row i. -/
def elimE (M : List (List Int)) (c : Nat) (ov : Int) (i j : Nat) : Int := (en M i j - en M i c * ov % 9973 * en M c j) % 9973
/-- Done in the rows from c + 1 up to k, and in row k up to column j. -/
def elimP (M : List (List Int)) (c : Nat) (ov : Int) (k j : Nat) : Mx := fun r s => if (c < r ∧ r < k) ∨ (r = k ∧ s < j) then elimE M c ov r s else en M r s

theorem Is.next {n : Nat} {M M' : List (List Int)} {c k : Nat} {ov : Int} (hck : c < k) (h : Is n M' (elimP M c ov k n)) : Is n M' (elimP M c ov (k + 1) 0) := by
  refine h.congr fun r s _ hs => ?_
  simp only [elimP]
  by_cases e : (c < r ∧ r < k) ∨ (r = k ∧ s < n)
  · rw [if_pos e, if_pos (by omega)]
  · rw [if_neg e, if_neg (by omega)]

def trail (c : Nat) (M : List (List Int)) : Mx := fun i j => en M (c + i) (c + j)

/-- Between two steps of elimination. -/
structure DInv (n : Nat) (A : Mx) (c : Nat) (M : List (List Int)) (o : Int) : Prop where
  dim : Dim n M
  ent : Ent 0 9972 n M
  lo : 0 ≤ o
  hi : o ≤ 9972
  eqd : Eqm (det n A) (o * det (n - c) (trail c M))

theorem DInv.start {n : Nat} {M : List (List Int)} (h1 : Dim n M) (h2 : Ent 0 9972 n M) : DInv n (mx M) 0 M 1 :=
  ⟨h1, h2, by decide, by decide, Eqm.of_eq (by rw [Int.one_mul, Nat.sub_zero]; exact det_congr fun i j _ _ => by simp [mx, trail])⟩

theorem DInv.done {n : Nat} {A : Mx} {M : List (List Int)} {o : Int} (h : DInv n A n M o) : o = det n A % 9973 := by
  have h1 := h.eqd
  have h2 := h.lo
  have h3 := h.hi
  rw [Nat.sub_self] at h1
  simp only [det, Int.mul_one] at h1
  unfold Eqm at h1
  omega

theorem det_first_zero {n : Nat} (A : Mx) (h : ∀ i, i < n + 1 → A i 0 = 0) : det (n + 1) A = 0 := by
  rw [det_col, sumTo_congr (h := fun _ => 0) fun i hi => by rw [h i hi]; simp, sumTo_zero]

theorem DInv.zero {n : Nat} {A : Mx} {c : Nat} {M : List (List Int)} {o : Int} (h : DInv n A c M o) (hc : c < n) (hz : ∀ r, c ≤ r → r < n → en M r c = 0) : det n A % 9973 = 0 := by
  have h1 := h.eqd
  obtain ⟨m, hm⟩ : ∃ m, n - c = m + 1 := ⟨n - c - 1, by omega⟩
  rw [hm, det_first_zero (trail c M) fun i hi => hz (c + i) (by omega) (by omega), Int.mul_zero] at h1
  exact h1

theorem en_swapL {n : Nat} {M : List (List Int)} (h : Dim n M) {i k : Nat} (hi : i < n) (hk : k < n) (r s : Nat) : en (swapL M i k) r s = if r = k then en M i s else if r = i then en M k s else en M r s := by
  unfold en
  rw [rowOf_swapL (by rw [h.1]; exact hi) (by rw [h.1]; exact hk)]
  (repeat' split) <;> rfl

theorem Dim.swap {n : Nat} {M : List (List Int)} (h : Dim n M) {i k : Nat} (hi : i < n) (hk : k < n) : Dim n (swapL M i k) := by
  refine ⟨by rw [swapL_len]; exact h.1, fun r hr => ?_⟩
  rw [rowOf_swapL (by rw [h.1]; exact hi) (by rw [h.1]; exact hk)]
  (repeat' split) <;> exact h.2 _ (by assumption)

theorem Ent.swap {lo hi : Int} {n : Nat} {M : List (List Int)} (h : Dim n M) (he : Ent lo hi n M) {i k : Nat} (hi' : i < n) (hk : k < n) : Ent lo hi n (swapL M i k) := by
  intro r s hr hs
  rw [en_swapL h hi' hk]
  (repeat' split) <;> exact he _ _ (by assumption) hs

theorem trail_swap {n : Nat} {M : List (List Int)} (h : Dim n M) {c k : Nat} (hk : k < n) (hck : c < k) : det (n - c) (trail c (swapL M c k)) = -det (n - c) (trail c M) := by
  rw [← (det_alt (n - c)).swap (trail c M) (i := 0) (j := k - c) (by omega) (by omega) (by omega)]
  refine det_congr fun i j hi hj => ?_
  simp only [trail, swapM, setRow]
  rw [en_swapL h (by omega) hk]
  by_cases h1 : i = k - c
  · rw [if_pos (by omega), if_pos h1, Nat.add_zero]
  · by_cases h2 : i = 0
    · rw [if_neg (by omega), if_pos (by omega), if_neg h1, if_pos h2, show c + (k - c) = k from by omega]
    · rw [if_neg (by omega), if_neg (by omega), if_neg h1, if_neg h2]

theorem DInv.exch {n : Nat} {A : Mx} {c : Nat} {M : List (List Int)} {o : Int} (h : DInv n A c M o) {k : Nat} (hck : c ≤ k) (hk : k < n) :
    DInv n A c (if c = k then M else swapL M c k) (if c = k then o else -o % 9973) := by
  by_cases e : c = k
  · simp only [if_pos e]; exact h
  · simp only [if_neg e]
    refine ⟨h.dim.swap (by omega) hk, Ent.swap h.dim h.ent (by omega) hk, by omega, by omega, ?_⟩
    rw [trail_swap h.dim hk (by omega)]
    refine h.eqd.trans (Eqm.trans (Eqm.of_eq ?_) ((Eqm.mod (-o)).symm.mul (Eqm.refl _)))
    rw [Int.neg_mul_neg]

/-- Rows from the first one on less so many times the first one. -/
theorem det_clear {m : Nat} (A : Mx) (f : Nat → Int) : det (m + 1) (fun i j => if i = 0 then A 0 j else A i j - f i * A 0 j) = det (m + 1) A := by
  have k : ∀ q, q ≤ m → det (m + 1) (fun i j => if i = 0 then A 0 j else if i ≤ q then A i j - f i * A 0 j else A i j) = det (m + 1) A := by
    intro q
    induction q with
    | zero =>
      intro _
      refine det_congr fun i j _ _ => ?_
      by_cases h : i = 0
      · simp [h]
      · simp [h]
    | succ q ih =>
      intro hq
      rw [← ih (by omega), ← (det_alt (m + 1)).add_row (fun i j => if i = 0 then A 0 j else if i ≤ q then A i j - f i * A 0 j else A i j) (i := q + 1) (j := 0) (by omega) (by omega) (by omega) (-f (q + 1))]
      refine det_congr fun i j _ _ => ?_
      simp only [setRow, if_true]
      by_cases h0 : i = 0
      · subst h0; simp
      · by_cases h1 : i = q + 1
        · subst h1; simp; grind
        · by_cases h2 : i ≤ q
          · simp [h0, h1, h2, show i ≤ q + 1 from by omega]
          · simp [h0, h1, h2, show ¬ i ≤ q + 1 from by omega]
  rw [← k m (Nat.le_refl _)]
  refine det_congr fun i j hi _ => ?_
  by_cases h : i = 0
  · simp [h]
  · simp [h, show i ≤ m from by omega]

/-- With noughts beneath its first element. -/
theorem det_corner {m : Nat} (A : Mx) (h : ∀ i, i < m → Eqm (A (i + 1) 0) 0) : Eqm (det (m + 1) A) (A 0 0 * det m (fun i j => A (i + 1) (j + 1))) := by
  rw [det_col, sumTo_succ_left]
  have e : Eqm (sumTo (fun i => sg (i + 1) * A (i + 1) 0 * det m (minor A (i + 1) 0)) m) 0 := by
    have := Eqm.sum (g := fun i => sg (i + 1) * A (i + 1) 0 * det m (minor A (i + 1) 0)) (h := fun _ => 0) (n := m) fun i hi => by
      have := ((Eqm.refl (sg (i + 1))).mul (h i hi)).mul (Eqm.refl (det m (minor A (i + 1) 0)))
      simpa using this
    rwa [sumTo_zero] at this
  have e2 : minor A 0 0 = fun i j => A (i + 1) (j + 1) := by funext i j; simp [minor, skip_zero]
  rw [e2]
  have := (Eqm.refl (sg 0 * A 0 0 * det m (fun i j => A (i + 1) (j + 1)))).add e
  simpa [sg] using this

theorem DInv.step {n : Nat} {A : Mx} {c : Nat} {M M2 : List (List Int)} {o : Int} (h : DInv n A c M o) (hc : c < n) (hp : en M c c ≠ 0) (h2 : Is n M2 (elimP M c (powm (en M c c) 9971) n 0)) :
    DInv n A (c + 1) M2 (o * en M c c % 9973) := by
  have hpb := h.ent c c hc hc
  have hov := over_mul hpb.1 hpb.2 hp
  refine ⟨h2.1, fun i j hi hj => ?_, by omega, by omega, ?_⟩
  · rw [h2.2 i j hi hj]
    unfold elimP
    split
    · unfold elimE; omega
    · exact h.ent i j hi hj
  · obtain ⟨m, hm⟩ : ∃ m, n - c = m + 1 := ⟨n - c - 1, by omega⟩
    have hm' : n - (c + 1) = m := by omega
    rw [hm']
    have d1 := h.eqd
    rw [hm] at d1
    refine d1.trans ?_
    have d2 : Eqm (det (m + 1) (trail c M)) (det (m + 1) (trail c M2)) := by
      rw [← det_clear (trail c M) (fun i => en M (c + i) c * powm (en M c c) 9971 % 9973)]
      refine det_eqm fun i j hi hj => ?_
      simp only [trail]
      rw [h2.2 (c + i) (c + j) (by omega) (by omega)]
      unfold elimP
      by_cases h0 : i = 0
      · subst h0
        simp only [if_true, Nat.add_zero]
        rw [if_neg (by omega)]
        exact Eqm.refl _
      · rw [if_neg h0, if_pos (by omega)]
        unfold elimE
        exact (Eqm.mod _).symm
    have d3 : Eqm (det (m + 1) (trail c M2)) (trail c M2 0 0 * det m (fun i j => trail c M2 (i + 1) (j + 1))) := by
      refine det_corner _ fun i hi => ?_
      simp only [trail, Nat.add_zero]
      rw [h2.2 (c + (i + 1)) c (by omega) hc]
      unfold elimP
      rw [if_pos (by omega)]
      unfold elimE
      refine (Eqm.mod _).trans ?_
      have e1 : Eqm (en M (c + (i + 1)) c * powm (en M c c) 9971 % 9973 * en M c c) (en M (c + (i + 1)) c * 1) := by
        refine ((Eqm.mod _).mul (Eqm.refl _)).trans ?_
        rw [Int.mul_assoc]
        exact (Eqm.refl _).mul (by unfold Eqm; omega)
      have := (Eqm.refl (en M (c + (i + 1)) c)).sub e1
      simpa using this
    have e0 : trail c M2 0 0 = en M c c := by
      simp only [trail, Nat.add_zero]
      rw [h2.2 c c hc hc]
      unfold elimP
      rw [if_neg (by omega)]
    have e1 : (fun i j => trail c M2 (i + 1) (j + 1)) = trail (c + 1) M2 := by
      funext i j
      simp only [trail]
      rw [show c + (i + 1) = c + 1 + i from by omega, show c + (j + 1) = c + 1 + j from by omega]
    rw [e0, e1] at d3
    refine ((Eqm.refl o).mul (d2.trans d3)).trans ?_
    rw [← Int.mul_assoc]
    exact (Eqm.mod _).symm.mul (Eqm.refl _)
end Go.Rk
namespace Go.Proofs.Ytoahegjjffggaaa
open Go.RowKit Go.Rk

theorem mat_Check_any {a : Option Addr} {n cap : Nat} {M : List (List Int)} {w : World} (h : RdM w a n cap M) :
    Calls Try.prog 67 #[.slice a n cap] w fun e w' => e = .returned (errV (groundsR 5 0 9972 M)) ∧ w = w' := by
  have C := Lib.hid (Grounds_any 5 0 9972 h)
  go_enter Try.func67, Try.ntmps67
  go_wp2_with (go_at_call 89; refine C.out.mono ?_; rintro e w' ⟨rfl, rfl⟩)
  go_ret
  exact ⟨rfl, rfl⟩
theorem mat_Check_is {a : Option Addr} {n cap : Nat} {M : List (List Int)} {w : World} {o : Option Int} (h : RdM w a n cap M) (ho : groundsR 5 0 9972 M = o) :
    Calls Try.prog 67 #[.slice a n cap] w fun e w' => e = .returned (errV o) ∧ w = w' := by
  have := mat_Check_any h
  rw [ho] at this
  exact this
theorem det_Check_any {a : Option Addr} {n cap : Nat} {M : List (List Int)} {w : World} (h : RdM w a n cap M) :
    Calls Try.prog 73 #[.slice a n cap] w fun e w' => e = .returned (errV (squareR 5 0 9972 M)) ∧ w = w' := by
  have E1 := Lib.hid h.len_eq
  have hm := h.len_max
  rcases hg : groundsR 5 0 9972 M with _ | c
  · have HG := Lib.hid (mat_Check_is h hg)
    obtain ⟨g1, g2, _⟩ := groundsR_none hg
    have e1 := E1.out
    obtain ⟨b, off, rfl, hbl, hr⟩ := h.at (k := 0) (by omega)
    obtain ⟨ar0, cr0, hc0, hrd0⟩ := hr 0 (by omega)
    rw [Nat.add_zero] at hc0
    have hm0 := hrd0.len_max
    have hn0 : 0 < n := by omega
    by_cases hs : n = (rowOf M 0).length
    · have z : ((n : Int) != ((rowOf M 0).length : Int)) = false := bne_eq_false_iff_eq.2 (by omega)
      have HS := Lib.hid hs
      have Hg := Lib.hid hg
      clear hs hg e1
      go_enter Try.func73, Try.ntmps73
      go_wp2_with (go_at_call 67; refine HG.out.mono ?_; rintro e w' ⟨rfl, rfl⟩; simp only [errV])
      go_ret
      exact ⟨by unfold squareR; rw [if_pos Hg.out, if_pos (by rw [E1.out]; exact HS.out)]; rfl, rfl⟩
    · have z : ((n : Int) != ((rowOf M 0).length : Int)) = true := bne_iff_ne.2 (by omega)
      have HS := Lib.hid hs
      have Hg := Lib.hid hg
      clear hs hg e1
      go_enter Try.func73, Try.ntmps73
      go_wp2_with (go_at_call 67; refine HG.out.mono ?_; rintro e w' ⟨rfl, rfl⟩; simp only [errV])
      go_ret
      exact ⟨by unfold squareR; rw [if_pos Hg.out, if_neg (by rw [E1.out]; exact HS.out)]; rfl, rfl⟩
  · have HG := Lib.hid (mat_Check_is h hg)
    have Hg := Lib.hid hg
    clear hg
    go_enter Try.func73, Try.ntmps73
    go_wp2_with (go_at_call 67; refine HG.out.mono ?_; rintro e w' ⟨rfl, rfl⟩; simp only [errV])
    go_ret
    exact ⟨by unfold squareR; rw [if_neg (by rw [Hg.out]; simp), Hg.out]; rfl, rfl⟩
theorem det_Check_is {a : Option Addr} {n cap : Nat} {M : List (List Int)} {w : World} {o : Option Int} (h : RdM w a n cap M) (ho : squareR 5 0 9972 M = o) :
    Calls Try.prog 73 #[.slice a n cap] w fun e w' => e = .returned (errV o) ∧ w = w' := by
  have := det_Check_any h
  rw [ho] at this
  exact this
/-- What the exchange of two rows leaves. -/
def Exch (w : World) (L B g Bm Bo : Nat) (D C : Nat → Nat) (n cap : Nat) (M : List (List Int)) (o : Int) (i k : Nat) (e : Ending) (w' : World) : Prop :=
  e = .returned (.tuple #[]) ∧ OwMD w' B 22 3 g (if i = k then D else swapF D i k) (if i = k then C else swapF C i k) n cap (if i = k then M else swapL M i k) ∧
    w'.cell? ⟨Bm, 0, none⟩ = some (.slice (some ⟨g, 0, none⟩) n cap) ∧ w'.cell? ⟨Bo, 0, none⟩ = some (.int .i64 (if i = k then o else -o % 9973)) ∧ w'.frozen? ⟨Bo, 0, none⟩ = false ∧ Below L w w'

set_option maxHeartbeats 1000000 in
theorem exchange_any {L B g Bm Bo : Nat} {D C : Nat → Nat} {n cap : Nat} {M : List (List Int)} {o : Int} {i k : Nat} {w : World} (h : OwMD w B 22 3 g D C n cap M) (hi : i < n) (hk : k < n)
    (hm : w.cell? ⟨Bm, 0, none⟩ = some (.slice (some ⟨g, 0, none⟩) n cap)) (ho : w.cell? ⟨Bo, 0, none⟩ = some (.int .i64 o)) (hf : w.frozen? ⟨Bo, 0, none⟩ = false) (ho1 : 0 ≤ o) (ho2 : o ≤ 9972)
    (n1 : Bm ≠ g) (n2 : Bo ≠ g) (n3 : Bm ≠ Bo) (n4 : ∀ j, j < n → Bo ≠ D j) (hL : L ≤ g) (hL2 : L ≤ Bo) :
    Calls Try.prog 94 #[.int .i64 i, .int .i64 k, .pointer (some ⟨Bm, 0, none⟩), .pointer (some ⟨Bo, 0, none⟩)] w (Exch w L B g Bm Bo D C n cap M o i k) := by
  by_cases hik : i = k
  · have z : ((i : Int) != (k : Int)) = false := bne_eq_false_iff_eq.2 (by omega)
    have HK := Lib.hid hik
    clear hik
    go_enter Try.func94, Try.ntmps94
    go_wp2
    go_end0
    unfold Exch
    simp only [if_pos HK.out]
    exact ⟨by simp, h, hm, ho, hf, Below.refl _ _⟩
  · have z : ((i : Int) != (k : Int)) = true := bne_iff_ne.2 (by omega)
    have HK := Lib.hid hik
    have hki : ¬ k = i := fun e => hik e.symm
    have c1 := h.cellO hi
    have c2 := h.cellO hk
    have f1 := h.frozenO i
    have f2 := h.frozenO k
    have m1 : (i : Int) < (n : Int) := by omega
    have m2 : (k : Int) < (n : Int) := by omega
    have m3 : ¬ Bm = g := n1
    have m4 : ¬ Bo = g := n2
    have m5 : ¬ Bm = Bo := n3
    have m6 : ¬ g = Bm := fun e => n1 e.symm
    have m7 : ¬ g = Bo := fun e => n2 e.symm
    have c3 : (w.setCell ⟨g, i, none⟩ (.slice (some ⟨D k, 0, none⟩) (rowOf M k).length (C k))).cell? ⟨g, k, none⟩ = some (.slice (some ⟨D k, 0, none⟩) (rowOf M k).length (C k)) := by rw [World.cell?_setCell_other _ _ _ _ (by simp)]; exact c2
    have HNE := Lib.hid matTy.ne
    have N1 := Lib.hid n1
    have N2 := Lib.hid n2
    have N3 := Lib.hid n3
    clear n1 n2 n3
    go_enter Try.func94, Try.ntmps94
    go_wp2
    go_region
    go_wp2_with fail
    have hs := (h.swap HNE.out hi hk).drew
    have hm2 : (((w.setCell ⟨g, i, none⟩ (.slice (some ⟨D k, 0, none⟩) (rowOf M k).length (C k))).setCell ⟨g, k, none⟩ (.slice (some ⟨D i, 0, none⟩) (rowOf M i).length (C i))).drew).cell? ⟨Bm, 0, none⟩ = some (.slice (some ⟨g, 0, none⟩) n cap) := by
      show World.cell? ((w.setCell _ _).setCell _ _) _ = _
      rw [World.cell?_setCell_other _ _ _ _ (by simp), World.cell?_setCell_other _ _ _ _ (by simp)]; exact hm
    have ho2' : (((w.setCell ⟨g, i, none⟩ (.slice (some ⟨D k, 0, none⟩) (rowOf M k).length (C k))).setCell ⟨g, k, none⟩ (.slice (some ⟨D i, 0, none⟩) (rowOf M i).length (C i))).drew).cell? ⟨Bo, 0, none⟩ = some (.int .i64 o) := by
      show World.cell? ((w.setCell _ _).setCell _ _) _ = _
      rw [World.cell?_setCell_other _ _ _ _ (by simp), World.cell?_setCell_other _ _ _ _ (by simp)]; exact ho
    have hf2 : (((w.setCell ⟨g, i, none⟩ (.slice (some ⟨D k, 0, none⟩) (rowOf M k).length (C k))).setCell ⟨g, k, none⟩ (.slice (some ⟨D i, 0, none⟩) (rowOf M i).length (C i))).drew).frozen? ⟨Bo, 0, none⟩ = false := by
      show World.frozen? ((w.setCell _ _).setCell _ _) _ = _
      simp [hf]
    have hbl : Below L w (((w.setCell ⟨g, i, none⟩ (.slice (some ⟨D k, 0, none⟩) (rowOf M k).length (C k))).setCell ⟨g, k, none⟩ (.slice (some ⟨D i, 0, none⟩) (rowOf M i).length (C i))).drew) := (((Below.refl L w).setCell hL _).setCell hL _).drew
    clear c1 c2 c3 f1 f2 hm ho hf m6 m7
    generalize (((w.setCell ⟨g, i, none⟩ (.slice (some ⟨D k, 0, none⟩) (rowOf M k).length (C k))).setCell ⟨g, k, none⟩ (.slice (some ⟨D i, 0, none⟩) (rowOf M i).length (C i))).drew) = w2 at *
    refine (Field_any _ _).mono ?_
    rintro e w' ⟨rfl, rfl⟩
    go_wp2
    go_end0
    unfold Exch
    simp only [if_neg HK.out]
    refine ⟨by simp, hs.setElse (p := ⟨Bo, 0, none⟩) N2.out (fun j hj => ?_) _, ?_, World.cell?_setCell_same _ _ _ ho2', by simp [hf2], hbl.setCell hL2 _⟩
    · simp only [swapF]
      (repeat' split) <;> first | exact n4 _ hi | exact n4 _ hk | exact n4 _ hj
    · rw [World.cell?_setCell_other _ _ _ _ (by simp)]; exact hm2
end Go.Proofs.Ytoahegjjffggaaa
namespace Go.Proofs.Ytoahegjjffggaaa
open Go.RowKit Go.Rk

/-- What lies where while det.of runs. -/
structure DSt (w0 w : World) (Bm Bo g : Nat) (D C : Nat → Nat) (n cap : Nat) (M : List (List Int)) (o : Int) : Prop where
  own : OwMD w (w0.heap.size + 1) 22 3 g D C n cap M
  m : w.cell? ⟨Bm, 0, none⟩ = some (.slice (some ⟨g, 0, none⟩) n cap)
  o : w.cell? ⟨Bo, 0, none⟩ = some (.int .i64 o)
  fo : w.frozen? ⟨Bo, 0, none⟩ = false
  n1 : Bm ≠ g
  n2 : Bo ≠ g
  n3 : Bm ≠ Bo
  n4 : ∀ j, j < n → Bo ≠ D j
  n5 : ∀ j, j < n → Bm ≠ D j
  lo : w0.heap.size ≤ Bo
  lm : w0.heap.size ≤ Bm
  bel : Below w0.heap.size w0 w

section
variable {w0 w w' : World} {Bm Bo g : Nat} {D C : Nat → Nat} {n cap : Nat} {M : List (List Int)} {o : Int}
theorem DSt.drewN (h : DSt w0 w Bm Bo g D C n cap M o) (k : Nat) : DSt w0 (w.drewN k) Bm Bo g D C n cap M o :=
  ⟨h.own.drewN k, h.m, h.o, h.fo, h.n1, h.n2, h.n3, h.n4, h.n5, h.lo, h.lm, below_drewN h.bel k⟩
theorem DSt.drew (h : DSt w0 w Bm Bo g D C n cap M o) : DSt w0 w.drew Bm Bo g D C n cap M o :=
  ⟨h.own.drew, h.m, h.o, h.fo, h.n1, h.n2, h.n3, h.n4, h.n5, h.lo, h.lm, h.bel.drew⟩
theorem DSt.setO (h : DSt w0 w Bm Bo g D C n cap M o) (o' : Int) : DSt w0 (w.setCell ⟨Bo, 0, none⟩ (.int .i64 o')) Bm Bo g D C n cap M o' :=
  ⟨h.own.setElse (p := ⟨Bo, 0, none⟩) h.n2 h.n4 _, by rw [World.cell?_setCell_other _ _ _ _ (by simp; exact h.n3.symm)]; exact h.m, World.cell?_setCell_same _ _ _ h.o, by simp [h.fo], h.n1, h.n2, h.n3, h.n4, h.n5, h.lo, h.lm, h.bel.setCell h.lo _⟩
theorem DSt.setE (h : DSt w0 w Bm Bo g D C n cap M o) {i j : Nat} (hi : i < n) (x : Int) : DSt w0 (w.setCell ⟨D i, j, none⟩ (.int .i64 x)) Bm Bo g D C n cap (setE M i j x) o :=
  ⟨h.own.set matTy.ne hi x, by rw [World.cell?_setCell_other _ _ _ _ (by simp; exact fun e => absurd e.symm (h.n5 i hi))]; exact h.m, by rw [World.cell?_setCell_other _ _ _ _ (by simp; exact fun e => absurd e.symm (h.n4 i hi))]; exact h.o, by simp [h.fo], h.n1, h.n2, h.n3, h.n4, h.n5, h.lo, h.lm,
    h.bel.setCell (Nat.le_trans (Nat.le_succ _) (h.own.lowI hi).1) _⟩
theorem DSt.exch {i k : Nat} {e : Ending} (h : DSt w0 w Bm Bo g D C n cap M o) (hi : i < n) (hk : k < n) (hx : Exch w w0.heap.size (w0.heap.size + 1) g Bm Bo D C n cap M o i k e w') :
    DSt w0 w' Bm Bo g (if i = k then D else swapF D i k) (if i = k then C else swapF C i k) n cap (if i = k then M else swapL M i k) (if i = k then o else -o % 9973) := by
  obtain ⟨_, x1, x2, x3, x4, x5⟩ := hx
  refine ⟨x1, x2, x3, x4, h.n1, h.n2, h.n3, fun j hj => ?_, fun j hj => ?_, h.lo, h.lm, h.bel.trans x5⟩
  · split
    · exact h.n4 j hj
    · simp only [swapF]; (repeat' split) <;> first | exact h.n4 _ hi | exact h.n4 _ hk | exact h.n4 _ hj
  · split
    · exact h.n5 j hj
    · simp only [swapF]; (repeat' split) <;> first | exact h.n5 _ hi | exact h.n5 _ hk | exact h.n5 _ hj
end

set_option maxHeartbeats 4000000 in
set_option maxRecDepth 100000 in
theorem det_of_any {a : Option Addr} {n cap : Nat} {M : List (List Int)} {w : World} (h : RdM w a n cap M) (hd : Dim n M) (he : Ent 0 9972 n M) (h1 : 1 ≤ n) (h5 : n ≤ 5) :
    Calls Try.prog 80 #[.slice a n cap] w fun e w' => e = .returned (.int .i64 (det n (mx M) % 9973)) ∧ Below w.heap.size w w' := by
  have S0 := Lib.hid (DInv.start hd he)
  have hR := Lib.hid (show RdM (w.alloc (.cells #[.slice a n cap] 43)) a n cap M from h.below ((Below.refl _ _).alloc (Nat.le_refl _) _))
  have HD := Lib.hid hd
  have hmf : ∀ (fn : Fn) (first cap : Array Value) (w : World), (Instr.makeFunc fn first cap).run Try.prog w = .ok (.func fn first cap) w := fun _ _ _ _ => rfl
  clear hd he
  go_enter Try.func80, Try.ntmps80
  go_wp2_with fail
  refine (Copy_any hR.out (by omega) (fun k hk => by rw [HD.out.2 k hk]; omega)).mono ?_
  rintro e w1 ⟨z, cz, rfl, ho1, hb1⟩
  have hBm : w1.cell? ⟨w.heap.size, 0, none⟩ = some (.slice a n cap) := hb1.keep (by simp) (by rw [World.cell?_alloc_at _ _ _ _ rfl]; rfl)
  have hfm : w1.frozen? ⟨w.heap.size, 0, none⟩ = false := by rw [hb1.frozen (by simp)]; exact World.frozen?_alloc_at _ _ _ _ rfl
  have hz1 : w.heap.size + 1 ≤ w1.heap.size := by have := hb1.size; simpa using this
  have hz2 : ¬ w1.heap.size = w.heap.size := by omega
  have hz3 : w.heap.size < w1.heap.size := by omega
  obtain ⟨g, D, C, hzz, hd1⟩ := ho1.named (by omega) fun i hi => by rw [HD.out.2 i hi]; omega
  subst hzz
  have g1 := hd1.lowO
  have hb0 : Below w.heap.size w w1 := ((Below.refl _ _).alloc (Nat.le_refl _) _).trans (hb1.mono (by simp))
  go_wp2
  have hst : DSt w ((w1.setCell ⟨w.heap.size, 0, none⟩ (.slice (some ⟨g, 0, none⟩) n cz)).alloc (.cells #[.int .i64 1] 3)) w.heap.size w1.heap.size g D C n cz M 1 := by
    simp at hd1 g1
    refine ⟨(hd1.setElse (p := ⟨w.heap.size, 0, none⟩) (by simp; omega) (fun i hi => by have := (hd1.lowI hi).1; simp; omega) _).alloc _, ?_, ?_, ?_, by omega, by omega, by omega, fun j hj => by have := (hd1.lowI hj).2; omega, fun j hj => by have := (hd1.lowI hj).1; omega, by omega, Nat.le_refl _, (hb0.setCell (Nat.le_refl _) _).alloc (by simp; omega) _⟩
    · rw [World.cell?_alloc_past _ _ _ (by simpa using hz3)]; exact World.cell?_setCell_same _ _ _ hBm
    · rw [World.cell?_alloc_at _ _ _ _ (by simp)]; rfl
    · exact World.frozen?_alloc_at _ _ _ _ (by simp)
  generalize ((w1.setCell ⟨w.heap.size, 0, none⟩ (.slice (some ⟨g, 0, none⟩) n cz)).alloc (.cells #[.int .i64 1] 3)) = w3 at *
  clear hBm hfm hz1 hz2 hz3 g1 hb0 hd1 ho1 hb1
  generalize w1.heap.size = Bo at *
  clear hmf
  go_loopw [16] (fun i wr => ∃ (c : Nat) (D C : Nat → Nat) (M' : List (List Int)) (o : Int), c ≤ n ∧ i = .int .i64 c ∧ DSt w wr w.heap.size Bo g D C n cz M' o ∧ Hid (DInv n (mx M) c M' o)) (fun i _ => n - (intOf i).toNat)
  case atStart => exact ⟨0, D, C, M, 1, Nat.zero_le _, rfl, hst, S0⟩
  case round =>
    obtain ⟨c, D, C, M', o, hc, rfl, hs, hi⟩ := hrel
    have hcm := hs.m
    have hco := hs.o
    by_cases hlt : c < n
    · go_wp2
      go_loop [6] (fun i => ∃ k : Nat, c ≤ k ∧ k ≤ n ∧ i = .int .i64 k ∧ Hid (∀ r, c ≤ r → r < k → en M' r c = 0)) (fun i => n - (intOf i).toNat)
      case atStart => exact ⟨c, Nat.le_refl _, hc, rfl, fun r h1 h2 => absurd h2 (by omega)⟩
      case round =>
        obtain ⟨k, hk1, hk2, rfl, hz⟩ := hrel
        by_cases hkn : k < n
        · have x1 := hs.own.cellO hkn
          rw [hi.out.dim.2 k hkn] at x1
          have x2 := hs.own.cellI hkn (j := c) (by rw [hi.out.dim.2 k hkn]; exact hlt)
          by_cases hp : en M' k c = 0
          · have hp' : (en M' k c == 0) = true := beq_iff_eq.2 hp
            have HP := Lib.hid hp
            clear hp
            go_wp2
            go_round
            case rel => exact ⟨k + 1, by omega, by omega, by go_num, zeros_succ hz.out HP.out⟩
            case measure => simp [intOf]; omega
          · have hp' : (en M' k c == 0) = false := beq_eq_false_iff_ne.2 hp
            have HP := Lib.hid hp
            clear hp
            go_wp2_with fail
            refine (exchange_any (L := w.heap.size) hs.own hlt hkn hs.m hs.o hs.fo hi.out.lo hi.out.hi hs.n1 hs.n2 hs.n3 hs.n4 (Nat.le_trans (Nat.le_succ _) hs.own.lowO.1) hs.lo).mono ?_
            rintro e w4 hx
            have hs4 := hs.exch hlt hkn hx
            obtain rfl := hx.1
            have hpc : en (if c = k then M' else swapL M' c k) c c ≠ 0 := by
              by_cases e : c = k
              · subst e; rw [if_pos rfl]; exact HP.out
              · rw [if_neg e, en_swapL hi.out.dim hlt hkn, if_neg e, if_pos rfl]; exact HP.out
            have hi4 := hi.out.exch hk1 hkn
            clear hx hs hi hz hcm hco x1 x2 hp' HP hst S0
            generalize (if c = k then D else swapF D c k) = D4 at *
            generalize (if c = k then C else swapF C c k) = C4 at *
            generalize (if c = k then M' else swapL M' c k) = M4 at *
            generalize (if c = k then o else -o % 9973) = o4 at *
            have y1 := hs4.m
            have y2 := hs4.o
            have y3 := hs4.own.cellO hlt
            rw [hi4.dim.2 c hlt] at y3
            have y4 := hs4.own.cellI hlt (j := c) (by rw [hi4.dim.2 c hlt]; exact hlt)
            have y5 := hs4.fo
            have b1 := hi4.ent c c hlt hlt
            have b2 := hi4.lo
            have b3 := hi4.hi
            have p1 := mul_bd ⟨b2, b3⟩ b1
            have HI4 := Lib.hid hi4
            have HPC := Lib.hid hpc
            have t1 : IntKind.i64.wrap (o4 * en M4 c c) = o4 * en M4 c c := Go.IntWalk.i64_in _ (by omega)
            have t2 : (o4 * en M4 c c).tmod 9973 = o4 * en M4 c c % 9973 := Int.tmod_eq_emod_of_nonneg (by omega)
            have t3 : IntKind.i64.wrap (o4 * en M4 c c % 9973) = o4 * en M4 c c % 9973 := Go.IntWalk.i64_in _ (by omega)
            have c1 : (c : Int) < (n : Int) := by omega
            clear hi4 hpc
            go_wp2
            go_still_tail 10, (by kernel_rfl)
            change wpList _ _ _ _ _ w4.drew
            clear t1 t2 t3
            have hs5 := hs4.setO (o4 * en M4 c c % 9973)
            have v1 := hs5.m
            have v2 := hs5.own.cellO hlt
            rw [HI4.out.dim.2 c hlt] at v2
            have v3 := hs5.own.cellI hlt (j := c) (by rw [HI4.out.dim.2 c hlt]; exact hlt)
            go_wp2_with fail
            refine (Over_any _ _ b1.1 b1.2).mono ?_
            rintro e w' ⟨rfl, rfl⟩
            have hs6 := hs5.drew
            clear hs5 hs4 v1 v2 v3 y1 y2 y3 y4 y5
            generalize (w4.setCell ⟨Bo, 0, none⟩ (.int .i64 (o4 * en M4 c c % 9973))).drew = w5 at *
            have z1 := hs6.m
            have ovb := powm_in (en M4 c c) 9971
            go_wp2
            generalize hov : powm (en M4 c c) 9971 = ov at *
            have HOV := Lib.hid hov
            clear hov
            generalize ho5 : o4 * en M4 c c % 9973 = o5 at *
            have HO5 := Lib.hid ho5
            clear ho5 b1 b2 b3 p1
            go_loopw [8] (fun i wr => ∃ (k : Nat) (M' : List (List Int)), c + 1 ≤ k ∧ k ≤ n ∧ i = .int .i64 k ∧ DSt w wr w.heap.size Bo g D4 C4 n cz M' o5 ∧ Hid (Is n M' (elimP M4 c ov k 0))) (fun i _ => n - (intOf i).toNat)
            case atStart => exact ⟨c + 1, M4, Nat.le_refl _, by omega, by go_num, hs6, ⟨HI4.out.dim, fun i j _ _ => by unfold elimP; rw [if_neg (by omega)]⟩⟩
            case round =>
              obtain ⟨k2, M5, hk3, hk4, rfl, hs7, hi7⟩ := hrel
              have z2 := hs7.m
              by_cases hlt2 : k2 < n
              · have x1 := hs7.own.cellO hlt2
                have x2 := hs7.own.cellI hlt2 (j := c) (by rw [hi7.out.1.2 k2 hlt2]; exact hlt)
                rw [hi7.out.1.2 k2 hlt2] at x1
                have e1 : en M5 k2 c = en M4 k2 c := by rw [hi7.out.2 k2 c hlt2 hlt]; unfold elimP; rw [if_neg (by omega)]
                rw [e1] at x2
                have b4 := HI4.out.ent k2 c hlt2 hlt
                have p2 := mul_bd b4 ovb
                clear e1
                go_wp2
                generalize hby : en M4 k2 c * ov % 9973 = by_ at *
                have byb : 0 ≤ by_ ∧ by_ ≤ 9972 := by omega
                have HBY := Lib.hid hby
                clear hby x1 x2 b4 p2
                go_loopw [85] (fun i wr => ∃ (j : Nat) (M' : List (List Int)), j ≤ n ∧ i = .int .i64 j ∧ DSt w wr w.heap.size Bo g D4 C4 n cz M' o5 ∧ Hid (Is n M' (elimP M4 c ov k2 j))) (fun i _ => n - (intOf i).toNat)
                case atStart => exact ⟨0, M5, Nat.zero_le _, rfl, hs7, hi7⟩
                case round =>
                  obtain ⟨j, M6, hj1, rfl, hs8, hi8⟩ := hrel
                  by_cases hlt3 : j < n
                  · have y1 := hs8.m
                    have y2 := hs8.own.cellO hlt2
                    have y3 := hs8.own.cellO hlt
                    have y4 := hs8.own.cellI hlt2 (j := j) (by rw [hi8.out.1.2 k2 hlt2]; exact hlt3)
                    have y5 := hs8.own.cellI hlt (j := j) (by rw [hi8.out.1.2 c hlt]; exact hlt3)
                    have y6 := hs8.own.frozenI hlt2 (by rw [hi8.out.1.2 k2 hlt2]; omega) j
                    rw [hi8.out.1.2 k2 hlt2] at y2
                    rw [hi8.out.1.2 c hlt] at y3
                    have e2 : en M6 k2 j = en M4 k2 j := by rw [hi8.out.2 k2 j hlt2 hlt3]; unfold elimP; rw [if_neg (by omega)]
                    have e3 : en M6 c j = en M4 c j := by rw [hi8.out.2 c j hlt hlt3]; unfold elimP; rw [if_neg (by omega)]
                    have b5 := HI4.out.ent k2 j hlt2 hlt3
                    have b6 := HI4.out.ent c j hlt hlt3
                    have p3 := mul_bd byb b6
                    have hset := (hs8.setE (j := j) hlt2 (elimE M4 c ov k2 j)).drew
                    have hset2 : Hid (Is n (setE M6 k2 j (elimE M4 c ov k2 j)) (elimP M4 c ov k2 (j + 1))) := by
                      refine Is.congr (hi8.out.set _) fun r s hr hs => ?_
                      simp only [elimP]
                      by_cases e4 : k2 = r ∧ j = s
                      · obtain ⟨rfl, rfl⟩ := e4
                        rw [if_pos ⟨rfl, rfl⟩, if_pos (by omega)]
                      · rw [if_neg e4]
                        by_cases e5 : (c < r ∧ r < k2) ∨ (r = k2 ∧ s < j)
                        · rw [if_pos e5, if_pos (by omega)]
                        · rw [if_neg e5, if_neg (by omega)]
                    rw [e2] at y4
                    rw [e3] at y5
                    clear e2 e3
                    have HEE : Hid (elimE M4 c ov k2 j = (en M4 k2 j - by_ * en M4 c j) % 9973) := by unfold Hid elimE; rw [HBY.out]
                    rw [HEE.out] at hset hset2
                    have u1 : IntKind.i64.wrap (by_ * en M4 c j) = by_ * en M4 c j := Go.IntWalk.i64_in _ (by omega)
                    have u2 : IntKind.i64.wrap (en M4 k2 j - by_ * en M4 c j) = en M4 k2 j - by_ * en M4 c j := Go.IntWalk.i64_in _ (by omega)
                    have c1 : (c : Int) < (n : Int) := by omega
                    have c2 : (k2 : Int) < (n : Int) := by omega
                    have c3 : (j : Int) < (n : Int) := by omega
                    clear b5 b6 p3
                    go_wp2
                    go_still_tail 24, (by kernel_rfl)
                    still_call (stillW (Field_any _ _))
                    repeat still_step
                    refine wpStill_nil ?_
                    change wpList _ _ _ _ _ wr.drew
                    clear u1 u2
                    go_wp2
                    go_roundw
                    case rel => exact ⟨j + 1, _, by omega, by go_num, hset, hset2⟩
                    case measure => simp [intOf]; omega
                  · obtain rfl : j = n := by omega
                    go_wp2
                    go_roundw
                    case rel => exact ⟨k2 + 1, M6, by omega, by omega, by go_num, hs8, hi8.out.next (by omega)⟩
                    case measure => simp [intOf]; omega
              · obtain rfl : k2 = n := by omega
                go_wp2
                go_roundw
                case rel => exact ⟨c + 1, D4, C4, M5, o5, by omega, by go_num, hs7, by unfold Hid; rw [← HO5.out]; exact HI4.out.step hlt HPC.out (by rw [HOV.out]; exact hi7.out)⟩
                case measure => simp [intOf]; omega
        · obtain rfl : k = n := by omega
          go_wp2
          go_ret
          exact ⟨congrArg (fun x => Ending.returned (.int .i64 x)) (hi.out.zero hlt hz.out).symm, hs.bel⟩
    · obtain rfl : c = n := by omega
      go_wp2
      go_ret
      exact ⟨congrArg (fun x => Ending.returned (.int .i64 x)) hi.out.done, hs.bel⟩

theorem squareR_none {most lo hi : Int} {M : List (List Int)} (h : squareR most lo hi M = none) : 1 ≤ M.length ∧ (M.length : Int) ≤ most ∧ Dim M.length M ∧ Ent lo hi M.length M := by
  unfold squareR at h
  split at h
  · next h1 =>
    split at h
    · next h2 =>
      obtain ⟨g1, g2, g3, g4, g5⟩ := groundsR_none h1
      refine ⟨g1, g3, ⟨rfl, fun i hi => by rw [(g5 i hi).1, h2]⟩, fun i j hi hj => (g5 i hi).2 j ?_⟩
      rw [(g5 i hi).1, ← h2]
      exact hj
    · cases h
  · next h1 => exact absurd h h1

section
variable {a : Option Addr} {n cap : Nat} {M : List (List Int)} {w : World}
theorem det_Of_err {c : Int} (h : RdM w a n cap M) (hc : squareR 5 0 9972 M = some c) :
    Calls Try.prog 44 #[.slice a n cap] w fun e w' => e = .returned (.tuple #[.int .i64 0, .iface 59 (.int .i64 c)]) ∧ w = w' := by
  have C := Lib.hid (det_Check_is h hc)
  clear hc
  go_enter Try.func44, Try.ntmps44
  go_wp2_with (go_at_call 73; refine C.out.mono ?_; rintro e w' ⟨rfl, rfl⟩; simp only [errV])
  go_ret2
  exact ⟨rfl, rfl⟩
theorem det_Of_ok (h : RdM w a n cap M) (hc : squareR 5 0 9972 M = none) :
    Calls Try.prog 44 #[.slice a n cap] w fun e w' => e = .returned (.tuple #[.int .i64 (det n (mx M) % 9973), .nilIface]) ∧ Below w.heap.size w w' := by
  have C := Lib.hid (det_Check_is h hc)
  obtain ⟨g1, g2, g3, g4⟩ := squareR_none hc
  have e1 := h.len_eq
  rw [e1] at g1 g2 g3 g4
  have C2 := Lib.hid (det_of_any h g3 g4 g1 (by omega))
  clear hc e1 g1 g2 g3 g4
  go_enter Try.func44, Try.ntmps44
  go_wp2_with (first | (go_at_call 73; refine C.out.mono ?_; rintro e w' ⟨rfl, rfl⟩; simp only [errV]) | (go_at_call 80; refine C2.out.mono ?_; rintro e w' ⟨rfl, hb⟩))
  go_ret2
  exact ⟨rfl, hb⟩
end
end Go.Proofs.Ytoahegjjffggaaa
namespace Go.Rk
open Go.RowKit

/-- A matrix of so many rows and columns, written out. -/
def mkM (n c : Nat) (F : Nat → Nat → Int) : List (List Int) := (List.range n).map fun i => (List.range c).map fun j => F i j
theorem mkM_row {n c : Nat} {F : Nat → Nat → Int} {i : Nat} (hi : i < n) : rowOf (mkM n c F) i = (List.range c).map fun j => F i j := by
  rw [rowOf_lt (by simp [mkM]; exact hi)]; simp [mkM]
theorem mkM_is (n c : Nat) (F : Nat → Nat → Int) : IsR n c (mkM n c F) F := by
  refine ⟨⟨by simp [mkM], fun i hi => by rw [mkM_row hi]; simp⟩, fun i j hi hj => ?_⟩
  unfold en
  rw [mkM_row hi, ix_lt (by simp; exact hj)]
  simp
theorem IsR.eq {n c : Nat} {M : List (List Int)} {F : Nat → Nat → Int} (h : IsR n c M F) : M = mkM n c F :=
  h.1.ext (mkM_is n c F).1 fun i j hi hj => by rw [h.2 i j hi hj, (mkM_is n c F).2 i j hi hj]

/-- Two matrices that are one by the prime, in the first n rows and c columns. -/
def EqM (n c : Nat) (A B : Mx) : Prop := ∀ i j, i < n → j < c → Eqm (A i j) (B i j)
theorem EqM.refl (n c : Nat) (A : Mx) : EqM n c A A := fun _ _ _ _ => Eqm.refl _
theorem EqM.symm {n c : Nat} {A B : Mx} (h : EqM n c A B) : EqM n c B A := fun i j hi hj => (h i j hi hj).symm
theorem EqM.trans {n c : Nat} {A B C : Mx} (h : EqM n c A B) (k : EqM n c B C) : EqM n c A C := fun i j hi hj => (h i j hi hj).trans (k i j hi hj)
theorem sumTo_eqm {g h : Nat → Int} {n : Nat} (e : ∀ i, i < n → Eqm (g i) (h i)) : Eqm (sumTo g n) (sumTo h n) := by
  induction n with
  | zero => exact Eqm.refl _
  | succ n ih => exact Eqm.add (ih fun i hi => e i (by omega)) (e n (by omega))
theorem EqM.mul {n k c : Nat} {A A' B B' : Mx} (h : EqM n k A A') (g : EqM k c B B') : EqM n c (mulM k A B) (mulM k A' B') :=
  fun i j hi hj => sumTo_eqm fun t ht => Eqm.mul (h i t hi ht) (g t j ht hj)
theorem mulM_go (k c : Nat) (A B C : Mx) : mulM c (mulM k A B) C = mulM k A (mulM c B C) := by
  funext i j
  unfold mulM
  rw [sumTo_congr (h := fun t => sumTo (fun s => A i s * B s t * C t j) k) fun t _ => by rw [Int.mul_comm, ← sumTo_mul]; exact sumTo_congr fun s _ => Int.mul_comm _ _]
  rw [sumTo_swap]
  refine sumTo_congr fun s _ => ?_
  rw [← sumTo_mul]
  exact sumTo_congr fun t _ => Int.mul_assoc _ _ _
theorem mulM_add (k : Nat) (A B C : Mx) : mulM k A (fun i j => B i j + C i j) = fun i j => mulM k A B i j + mulM k A C i j := by
  funext i j
  unfold mulM
  rw [← sumTo_add]
  exact sumTo_congr fun t _ => Int.mul_add _ _ _
theorem mulM_tr (k : Nat) (A B : Mx) : trM (mulM k A B) = mulM k (trM B) (trM A) := by
  funext i j
  unfold trM mulM
  exact sumTo_congr fun t _ => Int.mul_comm _ _

/-- The one that changes nothing. -/
def oneM : Mx := fun i j => if i = j then 1 else 0
theorem sumTo_pick (g : Nat → Int) {n i : Nat} (hi : i < n) : sumTo (fun t => (if i = t then 1 else 0) * g t) n = g i := by
  induction n with
  | zero => omega
  | succ n ih =>
    rw [sumTo]
    by_cases e : i = n
    · subst e
      rw [if_pos rfl, sumTo_congr (h := fun _ => 0) fun t ht => by rw [if_neg (by omega), Int.zero_mul], sumTo_zero]
      omega
    · rw [ih (by omega), if_neg e]
      omega
theorem one_mulM {n : Nat} (A : Mx) {i : Nat} (hi : i < n) (j : Nat) : mulM n oneM A i j = A i j := sumTo_pick (fun t => A t j) hi
theorem mulM_one {n : Nat} (A : Mx) (i : Nat) {j : Nat} (hj : j < n) : mulM n A oneM i j = A i j := by
  unfold mulM oneM
  have e (t : Nat) : A i t * (if t = j then 1 else 0) = (if j = t then 1 else 0) * A i t := by
    rw [Int.mul_comm]
    by_cases h : t = j
    · rw [if_pos h, if_pos h.symm]
    · rw [if_neg h, if_neg fun h2 => h h2.symm]
  rw [sumTo_congr fun t _ => e t]
  exact sumTo_pick (fun t => A i t) hj

def powM (n : Nat) (A : Mx) : Nat → Mx
  | 0 => oneM
  | e + 1 => mulM n A (powM n A e)
theorem powM_congr {n : Nat} {A B : Mx} (h : EqM n n A B) : ∀ e, EqM n n (powM n A e) (powM n B e)
  | 0 => EqM.refl _ _ _
  | e + 1 => EqM.mul h (powM_congr h e)
theorem powM_add {n : Nat} (A : Mx) (a b : Nat) : EqM n n (mulM n (powM n A a) (powM n A b)) (powM n A (a + b)) := by
  induction a with
  | zero => rw [Nat.zero_add]; exact fun i _ hi _ => Eqm.of_eq (one_mulM _ hi _)
  | succ a ih =>
    rw [show a + 1 + b = (a + b) + 1 by omega, powM, mulM_go]
    exact EqM.mul (EqM.refl _ _ _) ih
theorem powM_one {n : Nat} (A : Mx) : EqM n n (powM n A 1) A := fun i _ _ hj => Eqm.of_eq (mulM_one A i hj)
theorem powM_mul {n : Nat} (A : Mx) (a b : Nat) : EqM n n (powM n (powM n A a) b) (powM n A (a * b)) := by
  induction b with
  | zero => exact EqM.refl _ _ _
  | succ b ih =>
    rw [powM, Nat.mul_succ, Nat.add_comm]
    exact (EqM.mul (EqM.refl _ _ _) ih).trans (powM_add A a (a * b))
theorem powM_two {n : Nat} (A : Mx) (k : Nat) : EqM n n (powM n (mulM n A A) k) (powM n A (2 * k)) := by
  refine (powM_congr ?_ k).trans (powM_mul A 2 k)
  exact EqM.mul (EqM.refl _ _ _) (powM_one A).symm
/-- A step of powers by halves. -/
theorem pow_even {n : Nat} (X A : Mx) (k : Nat) : EqM n n (mulM n X (powM n (mulM n A A) k)) (mulM n X (powM n A (2 * k))) := EqM.mul (EqM.refl _ _ _) (powM_two A k)
theorem pow_odd {n : Nat} (X A : Mx) (k : Nat) : EqM n n (mulM n (mulM n X A) (powM n (mulM n A A) k)) (mulM n X (powM n A (2 * k + 1))) := by
  rw [mulM_go]
  exact EqM.mul (EqM.refl _ _ _) (EqM.mul (EqM.refl _ _ _) (powM_two A k))
end Go.Rk
