/-
  One step of elimination modulo 9973, and what it does with a determinant. Plain Lean, no program in sight.
  The walks of package det: the checks, the exchange of two rows, the determinant by elimination.
-/
import Derived.Test.YtkielldinghmbaaDoorRows
import Derived.Deep.QuietTactic
import Derived.BigQuiet
import Derived.Deep.RegionHeld3
import Derived.Test.YtkielldinghmbaaDoorMgTopRankF0
import Derived.Test.YtkielldinghmbaaDoorMgTopRankF2
import Derived.Test.YtkielldinghmbaaDoorMgTopRankF3
import Derived.Test.YtkielldinghmbaaDoorMgTopRankF4
import Derived.Test.YtkielldinghmbaaDoorMgTopRankF5
namespace Go.Rk

def pwN : Nat → Nat → Nat → Nat → Nat
  | 0, o, _, _ => o
  | f + 1, o, a, n => if n = 0 then o else pwN f (if n % 2 = 1 then o * a % 9973 else o) (a * a % 9973) (n / 2)

theorem pwN_eq (f : Nat) : ∀ (o a n : Nat), n < 2 ^ f → (pwN f o a n : Int) % 9973 = (o : Int) * (a : Int) ^ n % 9973 := by
  induction f with
  | zero =>
    intro o a n h
    obtain rfl : n = 0 := by simpa using h
    simp [pwN]
  | succ f ih =>
    intro o a n h
    rw [pwN]
    split
    · next h0 => subst h0; simp
    · next h0 =>
      rw [ih _ _ _ (by rw [Nat.pow_succ] at h; omega)]
      split
      · next h1 =>
        have := powm_odd (o := (o : Int)) (b := (a : Int)) (m := n) rfl h1
        rw [← this]
        congr 1
      · next h1 =>
        have := powm_even (o := (o : Int)) (b := (a : Int)) (m := n) rfl (by omega)
        rw [← this]
        congr 1

theorem fermat_all : (List.range 9973).all (fun a => a == 0 || pwN 14 1 a 9971 * a % 9973 == 1) = true := by decide +kernel

/-- FERMAT: what an element's reciprocal is. -/
theorem over_mul {a : Int} (h1 : 0 ≤ a) (h2 : a ≤ 9972) (h0 : a ≠ 0) : powm a 9971 * a % 9973 = 1 := by
  obtain ⟨k, rfl⟩ := Int.eq_ofNat_of_zero_le h1
  have h3 := List.all_eq_true.1 fermat_all k (List.mem_range.2 (by omega))
  simp only [Bool.or_eq_true, beq_iff_eq] at h3
  have h4 : pwN 14 1 k 9971 * k % 9973 = 1 := by
    rcases h3 with h3 | h3
    · omega
    · exact h3
  have h5 := pwN_eq 14 1 k 9971 (by decide)
  rw [Int.natCast_one, Int.one_mul] at h5
  unfold powm
  rw [← h5]
  have h6 : ((pwN 14 1 k 9971 * k : Nat) : Int) % 9973 = 1 := by omega
  rw [Int.natCast_mul] at h6
  have := (Eqm.mod (pwN 14 1 k 9971 : Int)).mul (Eqm.refl (k : Int))
  unfold Eqm at this
  omega

theorem powm_in (a : Int) (n : Nat) : 0 ≤ powm a n ∧ powm a n ≤ 9972 := by unfold powm; omega

theorem zeros_succ {f : Nat → Int} {c k : Nat} (h : ∀ r, c ≤ r → r < k → f r = 0) (h1 : f k = 0) : ∀ r, c ≤ r → r < k + 1 → f r = 0 := by
  intro r h2 h3
  rcases Nat.lt_or_ge r k with h4 | h4
  · exact h r h2 h4
  · obtain rfl : r = k := by omega
    exact h1

def mx (M : List (List Int)) : Mx := fun i j => en M i j
/-- Square, of n rows. -/
def Dim (n : Nat) (M : List (List Int)) : Prop := M.length = n ∧ ∀ i, i < n → (rowOf M i).length = n
/-- Each number between. -/
def Ent (lo hi : Int) (n : Nat) (M : List (List Int)) : Prop := ∀ i j, i < n → j < n → lo ≤ en M i j ∧ en M i j ≤ hi
/-- The matrix is F. -/
def Is (n : Nat) (M : List (List Int)) (F : Mx) : Prop := Dim n M ∧ ∀ i j, i < n → j < n → en M i j = F i j

theorem Is.set {n : Nat} {M : List (List Int)} {F : Mx} (h : Is n M F) {i j : Nat} (x : Int) : Is n (setE M i j x) (fun r c => if i = r ∧ j = c then x else F r c) := by
  refine ⟨⟨by rw [setE_len]; exact h.1.1, fun r hr => by rw [setE_row_len]; exact h.1.2 r hr⟩, fun r c hr hc => ?_⟩
  show _ = if i = r ∧ j = c then x else F r c
  rw [en_setE, h.1.1]
  by_cases e : i = r ∧ j = c
  · rw [if_pos ⟨e.1, e.2, hr, by rw [h.1.2 r hr]; exact hc⟩, if_pos e]
  · rw [if_neg fun e2 => e ⟨e2.1, e2.2.1⟩, if_neg e]; exact h.2 r c hr hc

theorem Is.congr {n : Nat} {M : List (List Int)} {F G : Mx} (h : Is n M F) (e : ∀ i j, i < n → j < n → F i j = G i j) : Is n M G :=
  ⟨h.1, fun i j hi hj => by rw [h.2 i j hi hj, e i j hi hj]⟩

theorem Is.self {n : Nat} {M : List (List Int)} (h : Dim n M) : Is n M (mx M) := ⟨h, fun _ _ _ _ => rfl⟩

/-- What elimination makes of an element: so many times row c from row i. -/
def elimE (M : List (List Int)) (c : Nat) (ov : Int) (i j : Nat) : Int := (en M i j - en M i c * ov % 9973 * en M c j) % 9973
/-- Done in the rows from c + 1 up to k, and in row k up to column j. -/
def elimP (M : List (List Int)) (c : Nat) (ov : Int) (k j : Nat) : Mx := fun r s => if (c < r ∧ r < k) ∨ (r = k ∧ s < j) then elimE M c ov r s else en M r s

theorem Is.next {n : Nat} {M M' : List (List Int)} {c k : Nat} {ov : Int} (hck : c < k) (h : Is n M' (elimP M c ov k n)) : Is n M' (elimP M c ov (k + 1) 0) := by
  refine h.congr fun r s _ hs => ?_
  simp only [elimP]
  by_cases e : (c < r ∧ r < k) ∨ (r = k ∧ s < n)
  · rw [if_pos e, if_pos (by omega)]
  · rw [if_neg e, if_neg (by omega)]

def trail (c : Nat) (M : List (List Int)) : Mx := fun i j => en M (c + i) (c + j)

/-- Between two steps of elimination. -/
structure DInv (n : Nat) (A : Mx) (c : Nat) (M : List (List Int)) (o : Int) : Prop where
  dim : Dim n M
  ent : Ent 0 9972 n M
  lo : 0 ≤ o
  hi : o ≤ 9972
  eqd : Eqm (det n A) (o * det (n - c) (trail c M))

theorem DInv.start {n : Nat} {M : List (List Int)} (h1 : Dim n M) (h2 : Ent 0 9972 n M) : DInv n (mx M) 0 M 1 :=
  ⟨h1, h2, by decide, by decide, Eqm.of_eq (by rw [Int.one_mul, Nat.sub_zero]; exact det_congr fun i j _ _ => by simp [mx, trail])⟩

theorem DInv.done {n : Nat} {A : Mx} {M : List (List Int)} {o : Int} (h : DInv n A n M o) : o = det n A % 9973 := by
  have h1 := h.eqd
  have h2 := h.lo
  have h3 := h.hi
  rw [Nat.sub_self] at h1
  simp only [det, Int.mul_one] at h1
  unfold Eqm at h1
  omega

theorem det_first_zero {n : Nat} (A : Mx) (h : ∀ i, i < n + 1 → A i 0 = 0) : det (n + 1) A = 0 := by
  rw [det_col, sumTo_congr (h := fun _ => 0) fun i hi => by rw [h i hi]; simp, sumTo_zero]

theorem DInv.zero {n : Nat} {A : Mx} {c : Nat} {M : List (List Int)} {o : Int} (h : DInv n A c M o) (hc : c < n) (hz : ∀ r, c ≤ r → r < n → en M r c = 0) : det n A % 9973 = 0 := by
  have h1 := h.eqd
  obtain ⟨m, hm⟩ : ∃ m, n - c = m + 1 := ⟨n - c - 1, by omega⟩
  rw [hm, det_first_zero (trail c M) fun i hi => hz (c + i) (by omega) (by omega), Int.mul_zero] at h1
  exact h1

theorem en_swapL {n : Nat} {M : List (List Int)} (h : Dim n M) {i k : Nat} (hi : i < n) (hk : k < n) (r s : Nat) : en (swapL M i k) r s = if r = k then en M i s else if r = i then en M k s else en M r s := by
  unfold en
  rw [rowOf_swapL (by rw [h.1]; exact hi) (by rw [h.1]; exact hk)]
  (repeat' split) <;> rfl

theorem Dim.swap {n : Nat} {M : List (List Int)} (h : Dim n M) {i k : Nat} (hi : i < n) (hk : k < n) : Dim n (swapL M i k) := by
  refine ⟨by rw [swapL_len]; exact h.1, fun r hr => ?_⟩
  rw [rowOf_swapL (by rw [h.1]; exact hi) (by rw [h.1]; exact hk)]
  (repeat' split) <;> exact h.2 _ (by assumption)

theorem Ent.swap {lo hi : Int} {n : Nat} {M : List (List Int)} (h : Dim n M) (he : Ent lo hi n M) {i k : Nat} (hi' : i < n) (hk : k < n) : Ent lo hi n (swapL M i k) := by
  intro r s hr hs
  rw [en_swapL h hi' hk]
  (repeat' split) <;> exact he _ _ (by assumption) hs

theorem trail_swap {n : Nat} {M : List (List Int)} (h : Dim n M) {c k : Nat} (hk : k < n) (hck : c < k) : det (n - c) (trail c (swapL M c k)) = -det (n - c) (trail c M) := by
  rw [← (det_alt (n - c)).swap (trail c M) (i := 0) (j := k - c) (by omega) (by omega) (by omega)]
  refine det_congr fun i j hi hj => ?_
  simp only [trail, swapM, setRow]
  rw [en_swapL h (by omega) hk]
  by_cases h1 : i = k - c
  · rw [if_pos (by omega), if_pos h1, Nat.add_zero]
  · by_cases h2 : i = 0
    · rw [if_neg (by omega), if_pos (by omega), if_neg h1, if_pos h2, show c + (k - c) = k from by omega]
    · rw [if_neg (by omega), if_neg (by omega), if_neg h1, if_neg h2]

theorem DInv.exch {n : Nat} {A : Mx} {c : Nat} {M : List (List Int)} {o : Int} (h : DInv n A c M o) {k : Nat} (hck : c ≤ k) (hk : k < n) :
    DInv n A c (if c = k then M else swapL M c k) (if c = k then o else -o % 9973) := by
  by_cases e : c = k
  · simp only [if_pos e]; exact h
  · simp only [if_neg e]
    refine ⟨h.dim.swap (by omega) hk, Ent.swap h.dim h.ent (by omega) hk, by omega, by omega, ?_⟩
    rw [trail_swap h.dim hk (by omega)]
    refine h.eqd.trans (Eqm.trans (Eqm.of_eq ?_) ((Eqm.mod (-o)).symm.mul (Eqm.refl _)))
    rw [Int.neg_mul_neg]

/-- Rows from the first one on less so many times the first one. -/
theorem det_clear {m : Nat} (A : Mx) (f : Nat → Int) : det (m + 1) (fun i j => if i = 0 then A 0 j else A i j - f i * A 0 j) = det (m + 1) A := by
  have k : ∀ q, q ≤ m → det (m + 1) (fun i j => if i = 0 then A 0 j else if i ≤ q then A i j - f i * A 0 j else A i j) = det (m + 1) A := by
    intro q
    induction q with
    | zero =>
      intro _
      refine det_congr fun i j _ _ => ?_
      by_cases h : i = 0
      · simp [h]
      · simp [h]
    | succ q ih =>
      intro hq
      rw [← ih (by omega), ← (det_alt (m + 1)).add_row (fun i j => if i = 0 then A 0 j else if i ≤ q then A i j - f i * A 0 j else A i j) (i := q + 1) (j := 0) (by omega) (by omega) (by omega) (-f (q + 1))]
      refine det_congr fun i j _ _ => ?_
      simp only [setRow, if_true]
      by_cases h0 : i = 0
      · subst h0; simp
      · by_cases h1 : i = q + 1
        · subst h1; simp; grind
        · by_cases h2 : i ≤ q
          · simp [h0, h1, h2, show i ≤ q + 1 from by omega]
          · simp [h0, h1, h2, show ¬ i ≤ q + 1 from by omega]
  rw [← k m (Nat.le_refl _)]
  refine det_congr fun i j hi _ => ?_
  by_cases h : i = 0
  · simp [h]
  · simp [h, show i ≤ m from by omega]

/-- With noughts beneath its first element. -/
theorem det_corner {m : Nat} (A : Mx) (h : ∀ i, i < m → Eqm (A (i + 1) 0) 0) : Eqm (det (m + 1) A) (A 0 0 * det m (fun i j => A (i + 1) (j + 1))) := by
  rw [det_col, sumTo_succ_left]
  have e : Eqm (sumTo (fun i => sg (i + 1) * A (i + 1) 0 * det m (minor A (i + 1) 0)) m) 0 := by
    have := Eqm.sum (g := fun i => sg (i + 1) * A (i + 1) 0 * det m (minor A (i + 1) 0)) (h := fun _ => 0) (n := m) fun i hi => by
      have := ((Eqm.refl (sg (i + 1))).mul (h i hi)).mul (Eqm.refl (det m (minor A (i + 1) 0)))
      simpa using this
    rwa [sumTo_zero] at this
  have e2 : minor A 0 0 = fun i j => A (i + 1) (j + 1) := by funext i j; simp [minor, skip_zero]
  rw [e2]
  have := (Eqm.refl (sg 0 * A 0 0 * det m (fun i j => A (i + 1) (j + 1)))).add e
  simpa [sg] using this

theorem DInv.step {n : Nat} {A : Mx} {c : Nat} {M M2 : List (List Int)} {o : Int} (h : DInv n A c M o) (hc : c < n) (hp : en M c c ≠ 0) (h2 : Is n M2 (elimP M c (powm (en M c c) 9971) n 0)) :
    DInv n A (c + 1) M2 (o * en M c c % 9973) := by
  have hpb := h.ent c c hc hc
  have hov := over_mul hpb.1 hpb.2 hp
  refine ⟨h2.1, fun i j hi hj => ?_, by omega, by omega, ?_⟩
  · rw [h2.2 i j hi hj]
    unfold elimP
    split
    · unfold elimE; omega
    · exact h.ent i j hi hj
  · obtain ⟨m, hm⟩ : ∃ m, n - c = m + 1 := ⟨n - c - 1, by omega⟩
    have hm' : n - (c + 1) = m := by omega
    rw [hm']
    have d1 := h.eqd
    rw [hm] at d1
    refine d1.trans ?_
    have d2 : Eqm (det (m + 1) (trail c M)) (det (m + 1) (trail c M2)) := by
      rw [← det_clear (trail c M) (fun i => en M (c + i) c * powm (en M c c) 9971 % 9973)]
      refine det_eqm fun i j hi hj => ?_
      simp only [trail]
      rw [h2.2 (c + i) (c + j) (by omega) (by omega)]
      unfold elimP
      by_cases h0 : i = 0
      · subst h0
        simp only [if_true, Nat.add_zero]
        rw [if_neg (by omega)]
        exact Eqm.refl _
      · rw [if_neg h0, if_pos (by omega)]
        unfold elimE
        exact (Eqm.mod _).symm
    have d3 : Eqm (det (m + 1) (trail c M2)) (trail c M2 0 0 * det m (fun i j => trail c M2 (i + 1) (j + 1))) := by
      refine det_corner _ fun i hi => ?_
      simp only [trail, Nat.add_zero]
      rw [h2.2 (c + (i + 1)) c (by omega) hc]
      unfold elimP
      rw [if_pos (by omega)]
      unfold elimE
      refine (Eqm.mod _).trans ?_
      have e1 : Eqm (en M (c + (i + 1)) c * powm (en M c c) 9971 % 9973 * en M c c) (en M (c + (i + 1)) c * 1) := by
        refine ((Eqm.mod _).mul (Eqm.refl _)).trans ?_
        rw [Int.mul_assoc]
        exact (Eqm.refl _).mul (by unfold Eqm; omega)
      have := (Eqm.refl (en M (c + (i + 1)) c)).sub e1
      simpa using this
    have e0 : trail c M2 0 0 = en M c c := by
      simp only [trail, Nat.add_zero]
      rw [h2.2 c c hc hc]
      unfold elimP
      rw [if_neg (by omega)]
    have e1 : (fun i j => trail c M2 (i + 1) (j + 1)) = trail (c + 1) M2 := by
      funext i j
      simp only [trail]
      rw [show c + (i + 1) = c + 1 + i from by omega, show c + (j + 1) = c + 1 + j from by omega]
    rw [e0, e1] at d3
    refine ((Eqm.refl o).mul (d2.trans d3)).trans ?_
    rw [← Int.mul_assoc]
    exact (Eqm.mod _).symm.mul (Eqm.refl _)
end Go.Rk
namespace Go.Proofs.YtkielldinghmbaaDoor
open Go.RowKit Go.Rk

theorem mat_Check_any {a : Option Addr} {n cap : Nat} {M : List (List Int)} {w : World} (h : RdM w a n cap M) :
    Calls Tryd.prog 18 #[.slice a n cap] w fun e w' => e = .returned (errV (groundsR 5 0 9972 M)) ∧ w = w' := by
  have C := Lib.hid (Grounds_any 5 0 9972 h)
  go_enter Tryd.func18, Tryd.ntmps18
  go_wp2_with (go_at_call 63; refine C.out.mono ?_; rintro e w' ⟨rfl, rfl⟩)
  go_ret
  exact ⟨rfl, rfl⟩
theorem mat_Check_is {a : Option Addr} {n cap : Nat} {M : List (List Int)} {w : World} {o : Option Int} (h : RdM w a n cap M) (ho : groundsR 5 0 9972 M = o) :
    Calls Tryd.prog 18 #[.slice a n cap] w fun e w' => e = .returned (errV o) ∧ w = w' := by
  have := mat_Check_any h
  rw [ho] at this
  exact this
theorem det_Check_any {a : Option Addr} {n cap : Nat} {M : List (List Int)} {w : World} (h : RdM w a n cap M) :
    Calls Tryd.prog 37 #[.slice a n cap] w fun e w' => e = .returned (errV (squareR 5 0 9972 M)) ∧ w = w' := by
  have E1 := Lib.hid h.len_eq
  have hm := h.len_max
  rcases hg : groundsR 5 0 9972 M with _ | c
  · have HG := Lib.hid (mat_Check_is h hg)
    obtain ⟨g1, g2, _⟩ := groundsR_none hg
    have e1 := E1.out
    obtain ⟨b, off, rfl, hbl, hr⟩ := h.at (k := 0) (by omega)
    obtain ⟨ar0, cr0, hc0, hrd0⟩ := hr 0 (by omega)
    rw [Nat.add_zero] at hc0
    have hm0 := hrd0.len_max
    have hn0 : 0 < n := by omega
    by_cases hs : n = (rowOf M 0).length
    · have z : ((n : Int) != ((rowOf M 0).length : Int)) = false := bne_eq_false_iff_eq.2 (by omega)
      have HS := Lib.hid hs
      have Hg := Lib.hid hg
      clear hs hg e1
      go_enter Tryd.func37, Tryd.ntmps37
      go_wp2_with (go_at_call 18; refine HG.out.mono ?_; rintro e w' ⟨rfl, rfl⟩; simp only [errV])
      go_ret
      exact ⟨by unfold squareR; rw [if_pos Hg.out, if_pos (by rw [E1.out]; exact HS.out)]; rfl, rfl⟩
    · have z : ((n : Int) != ((rowOf M 0).length : Int)) = true := bne_iff_ne.2 (by omega)
      have HS := Lib.hid hs
      have Hg := Lib.hid hg
      clear hs hg e1
      go_enter Tryd.func37, Tryd.ntmps37
      go_wp2_with (go_at_call 18; refine HG.out.mono ?_; rintro e w' ⟨rfl, rfl⟩; simp only [errV])
      go_ret
      exact ⟨by unfold squareR; rw [if_pos Hg.out, if_neg (by rw [E1.out]; exact HS.out)]; rfl, rfl⟩
  · have HG := Lib.hid (mat_Check_is h hg)
    have Hg := Lib.hid hg
    clear hg
    go_enter Tryd.func37, Tryd.ntmps37
    go_wp2_with (go_at_call 18; refine HG.out.mono ?_; rintro e w' ⟨rfl, rfl⟩; simp only [errV])
    go_ret
    exact ⟨by unfold squareR; rw [if_neg (by rw [Hg.out]; simp), Hg.out]; rfl, rfl⟩
theorem det_Check_is {a : Option Addr} {n cap : Nat} {M : List (List Int)} {w : World} {o : Option Int} (h : RdM w a n cap M) (ho : squareR 5 0 9972 M = o) :
    Calls Tryd.prog 37 #[.slice a n cap] w fun e w' => e = .returned (errV o) ∧ w = w' := by
  have := det_Check_any h
  rw [ho] at this
  exact this
/-- What the exchange of two rows leaves. -/
def Exch (w : World) (L B g Bm Bo : Nat) (D C : Nat → Nat) (n cap : Nat) (M : List (List Int)) (o : Int) (i k : Nat) (e : Ending) (w' : World) : Prop :=
  e = .returned (.tuple #[]) ∧ OwMD w' B 32 3 g (if i = k then D else swapF D i k) (if i = k then C else swapF C i k) n cap (if i = k then M else swapL M i k) ∧
    w'.cell? ⟨Bm, 0, none⟩ = some (.slice (some ⟨g, 0, none⟩) n cap) ∧ w'.cell? ⟨Bo, 0, none⟩ = some (.int .i64 (if i = k then o else -o % 9973)) ∧ w'.frozen? ⟨Bo, 0, none⟩ = false ∧ Below L w w'

set_option maxHeartbeats 1000000 in
theorem exchange_any {L B g Bm Bo : Nat} {D C : Nat → Nat} {n cap : Nat} {M : List (List Int)} {o : Int} {i k : Nat} {w : World} (h : OwMD w B 32 3 g D C n cap M) (hi : i < n) (hk : k < n)
    (hm : w.cell? ⟨Bm, 0, none⟩ = some (.slice (some ⟨g, 0, none⟩) n cap)) (ho : w.cell? ⟨Bo, 0, none⟩ = some (.int .i64 o)) (hf : w.frozen? ⟨Bo, 0, none⟩ = false) (ho1 : 0 ≤ o) (ho2 : o ≤ 9972)
    (n1 : Bm ≠ g) (n2 : Bo ≠ g) (n3 : Bm ≠ Bo) (n4 : ∀ j, j < n → Bo ≠ D j) (hL : L ≤ g) (hL2 : L ≤ Bo) :
    Calls Tryd.prog 89 #[.int .i64 i, .int .i64 k, .pointer (some ⟨Bm, 0, none⟩), .pointer (some ⟨Bo, 0, none⟩)] w (Exch w L B g Bm Bo D C n cap M o i k) := by
  by_cases hik : i = k
  · have z : ((i : Int) != (k : Int)) = false := bne_eq_false_iff_eq.2 (by omega)
    have HK := Lib.hid hik
    clear hik
    go_enter Tryd.func89, Tryd.ntmps89
    go_wp2
    go_end0
    unfold Exch
    simp only [if_pos HK.out]
    exact ⟨by simp, h, hm, ho, hf, Below.refl _ _⟩
  · have z : ((i : Int) != (k : Int)) = true := bne_iff_ne.2 (by omega)
    have HK := Lib.hid hik
    have hki : ¬ k = i := fun e => hik e.symm
    have c1 := h.cellO hi
    have c2 := h.cellO hk
    have f1 := h.frozenO i
    have f2 := h.frozenO k
    have m1 : (i : Int) < (n : Int) := by omega
    have m2 : (k : Int) < (n : Int) := by omega
    have m3 : ¬ Bm = g := n1
    have m4 : ¬ Bo = g := n2
    have m5 : ¬ Bm = Bo := n3
    have m6 : ¬ g = Bm := fun e => n1 e.symm
    have m7 : ¬ g = Bo := fun e => n2 e.symm
    have c3 : (w.setCell ⟨g, i, none⟩ (.slice (some ⟨D k, 0, none⟩) (rowOf M k).length (C k))).cell? ⟨g, k, none⟩ = some (.slice (some ⟨D k, 0, none⟩) (rowOf M k).length (C k)) := by rw [World.cell?_setCell_other _ _ _ _ (by simp)]; exact c2
    have HNE := Lib.hid matTy.ne
    have N1 := Lib.hid n1
    have N2 := Lib.hid n2
    have N3 := Lib.hid n3
    clear n1 n2 n3
    go_enter Tryd.func89, Tryd.ntmps89
    go_wp2
    go_region
    go_wp2_with fail
    have hs := (h.swap HNE.out hi hk).drew
    have hm2 : (((w.setCell ⟨g, i, none⟩ (.slice (some ⟨D k, 0, none⟩) (rowOf M k).length (C k))).setCell ⟨g, k, none⟩ (.slice (some ⟨D i, 0, none⟩) (rowOf M i).length (C i))).drew).cell? ⟨Bm, 0, none⟩ = some (.slice (some ⟨g, 0, none⟩) n cap) := by
      show World.cell? ((w.setCell _ _).setCell _ _) _ = _
      rw [World.cell?_setCell_other _ _ _ _ (by simp), World.cell?_setCell_other _ _ _ _ (by simp)]; exact hm
    have ho2' : (((w.setCell ⟨g, i, none⟩ (.slice (some ⟨D k, 0, none⟩) (rowOf M k).length (C k))).setCell ⟨g, k, none⟩ (.slice (some ⟨D i, 0, none⟩) (rowOf M i).length (C i))).drew).cell? ⟨Bo, 0, none⟩ = some (.int .i64 o) := by
      show World.cell? ((w.setCell _ _).setCell _ _) _ = _
      rw [World.cell?_setCell_other _ _ _ _ (by simp), World.cell?_setCell_other _ _ _ _ (by simp)]; exact ho
    have hf2 : (((w.setCell ⟨g, i, none⟩ (.slice (some ⟨D k, 0, none⟩) (rowOf M k).length (C k))).setCell ⟨g, k, none⟩ (.slice (some ⟨D i, 0, none⟩) (rowOf M i).length (C i))).drew).frozen? ⟨Bo, 0, none⟩ = false := by
      show World.frozen? ((w.setCell _ _).setCell _ _) _ = _
      simp [hf]
    have hbl : Below L w (((w.setCell ⟨g, i, none⟩ (.slice (some ⟨D k, 0, none⟩) (rowOf M k).length (C k))).setCell ⟨g, k, none⟩ (.slice (some ⟨D i, 0, none⟩) (rowOf M i).length (C i))).drew) := (((Below.refl L w).setCell hL _).setCell hL _).drew
    clear c1 c2 c3 f1 f2 hm ho hf m6 m7
    generalize (((w.setCell ⟨g, i, none⟩ (.slice (some ⟨D k, 0, none⟩) (rowOf M k).length (C k))).setCell ⟨g, k, none⟩ (.slice (some ⟨D i, 0, none⟩) (rowOf M i).length (C i))).drew) = w2 at *
    refine (Field_any _ _).mono ?_
    rintro e w' ⟨rfl, rfl⟩
    go_wp2
    go_end0
    unfold Exch
    simp only [if_neg HK.out]
    refine ⟨by simp, hs.setElse (p := ⟨Bo, 0, none⟩) N2.out (fun j hj => ?_) _, ?_, World.cell?_setCell_same _ _ _ ho2', by simp [hf2], hbl.setCell hL2 _⟩
    · simp only [swapF]
      (repeat' split) <;> first | exact n4 _ hi | exact n4 _ hk | exact n4 _ hj
    · rw [World.cell?_setCell_other _ _ _ _ (by simp)]; exact hm2
end Go.Proofs.YtkielldinghmbaaDoor
