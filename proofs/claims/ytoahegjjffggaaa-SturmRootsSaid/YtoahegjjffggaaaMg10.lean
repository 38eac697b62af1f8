/-
  The references' To (a matrix taken to a row), Unit, Pow walked.
  The reference's Flip walked: rows as columns.
  A row of a matrix, read at once. No program in sight.
  The reference's Unit, MatMul and MatAdd walked.
  The closed fact of the statements on determinants.
  mat.Turn walked: the transpose.
  DetMul walked: the determinant of a product is the product; turned a matrix has the same.
  mat.one, mat.One and mat.Pow walked.
  A matrix without a row and a column; num.Cut walked.
  mat.Pow where something is wrong; the closed fact of the statements on matrices.
-/
import Derived.Test.YtoahegjjffggaaaRows
import Derived.Deep.QuietTactic
import Derived.BigQuiet
import Derived.StillTailTactics
import Derived.Test.YtoahegjjffggaaaMg0
import Derived.Test.YtoahegjjffggaaaMg1
import Derived.Test.YtoahegjjffggaaaMg2
import Derived.Test.YtoahegjjffggaaaMg3
import Derived.Test.YtoahegjjffggaaaMg4
import Derived.Test.YtoahegjjffggaaaMg5
import Derived.Test.YtoahegjjffggaaaMg6
namespace Go.Proofs.Ytoahegjjffggaaa
open Go.RowKit Go.Rk

/-- What a matrix takes a row to, by the prime. -/
def toV (M : List (List Int)) (l : List Int) (c i : Nat) : Int := sumTo (fun j => en M i j * ix l j) c % 9973
def toN (M : List (List Int)) (l : List Int) (c n : Nat) : List Int := (List.range n).map fun i => toV M l c i
theorem toN_len (M : List (List Int)) (l : List Int) (c n : Nat) : (toN M l c n).length = n := by simp [toN]
theorem toN_ix {M : List (List Int)} {l : List Int} {c n i : Nat} (h : i < n) : ix (toN M l c n) i = toV M l c i := by rw [ix_lt (by rw [toN_len]; exact h)]; simp [toN]
theorem toN_succ (M : List (List Int)) (l : List Int) (c n : Nat) : toN M l c (n + 1) = toN M l c n ++ [toV M l c n] := by simp [toN, List.range_succ]
theorem toV_in (M : List (List Int)) (l : List Int) (c i : Nat) : 0 ≤ toV M l c i ∧ toV M l c i ≤ 9972 := by unfold toV; omega
theorem toV_step (M : List (List Int)) (l : List Int) (c i : Nat) : (toV M l c i + en M i c * ix l c) % 9973 = toV M l (c + 1) i := by
  unfold toV
  rw [sumTo, Int.emod_add_emod]
/-- The first k rows of the matrix that changes nothing. -/
def unitN (n k : Nat) : List (List Int) := (List.range k).map fun i => (List.replicate n 0).set i 1
theorem unitN_succ (n k : Nat) : unitN n (k + 1) = unitN n k ++ [(List.replicate n 0).set k 1] := by simp [unitN, List.range_succ]
theorem unitN_len (n k : Nat) : (unitN n k).length = k := by simp [unitN]
theorem unitN_is (n : Nat) : IsR n n (unitN n n) (fun i j => if i = j then 1 else 0) := by
  have hr : ∀ i, i < n → rowOf (unitN n n) i = (List.replicate n 0).set i 1 := fun i hi => by rw [rowOf_lt (by rw [unitN_len]; exact hi)]; simp [unitN]
  refine ⟨⟨unitN_len n n, fun i hi => by rw [hr i hi]; simp⟩, fun i j hi hj => ?_⟩
  unfold en
  rw [hr i hi, ix_set]
  by_cases e : i = j
  · rw [if_pos ⟨e, by simp; exact hj⟩]
    exact (if_pos e).symm
  · rw [if_neg fun h => e h.1, ix_lt (by simp; exact hj)]
    show _ = if i = j then _ else _
    rw [if_neg e]
    simp
set_option maxHeartbeats 2000000 in
theorem Unit_any (n : Nat) (w : World) (hn : n ≤ 1000) :
    Calls Try.prog 40 #[.int .i64 n] w fun e w' => ∃ a' cap', e = .returned (.slice a' n cap') ∧ OwM w' w.heap.size 22 3 a' n cap' (unitN n n) ∧ Below w.heap.size w w' := by
  have HM := Lib.hid matTy
  go_enter Try.func40, Try.ntmps40
  go_wp2
  go_loopw [3, 4] (fun v x wr => ∃ (k : Nat) (q : Option Addr) (cq : Nat), k ≤ n ∧ x = .int .i64 k ∧ v = .slice q k cq ∧ OwM wr w.heap.size 22 3 q k cq (unitN n k) ∧ Below w.heap.size w wr) (fun _ x _ => n - (intOf x).toNat)
  case atStart => exact ⟨0, none, 0, Nat.zero_le _, rfl, rfl, OwM.nil _ _ _ _, Below.refl _ _⟩
  case round =>
    obtain ⟨k, q, cq, hk, rfl, rfl, ho, hb⟩ := hrel
    by_cases hlt : k < n
    · have hlt' : (k : Int) < (n : Int) := by omega
      have hsz := hb.size
      go_wp2_with (first
        | (at_builtin; refine wpList_push_row HM.out rfl (.tmp 16) (.tmp 18) rfl rfl rfl ho (hb5.alloc hb5.size _) ((ho4.set (k := k) 1).below ((Below.refl _ _).alloc (Nat.le_refl _) _)) (by rw [World.cell?_alloc_at _ _ _ _ (by simp)]; rfl) (by omega) hsz ?_; intro a5 cap5 w5 ho5 hb6)
        | (refine wpList_make_ints HM.out.int rfl (.tmp 11) (.tmp 11) rfl rfl rfl (by omega) ?_; intro w4 ho4 hb4; obtain ⟨g4, hz, hg41, hg42, hc4, hf4⟩ := ho4.at (by omega); cases hz; have y3 := hc4 k hlt; have y4 := hf4 k; have hb5 := hb4.setCell (p := ⟨wr.heap.size, k, none⟩) (Nat.le_refl _) (.int .i64 1); clear hc4 hf4))
      have hb7 := ((hb.trans (hb5.mono hsz)).alloc (by have := hb5.size; omega) _).trans hb6
      go_roundw
      case rel => exact ⟨k + 1, a5, cap5, by omega, by go_num, rfl, by rw [unitN_succ]; exact ho5, hb7⟩
      case measure => simp [intOf]; omega
    · obtain rfl : k = n := by omega
      go_wp2
      go_ret
      exact ⟨q, cq, rfl, ho, hb⟩
theorem powm_half (a : Int) (n : Nat) (h : Int) (hh : h = powm (a * a % 9973) (n / 2)) : (n % 2 = 1 → h * a % 9973 = powm a n) ∧ (n % 2 = 0 → h = powm a n) := by
  have e : h = a ^ (2 * (n / 2)) % 9973 := by
    rw [hh]
    unfold powm
    rw [pow_emod, sq_pow]
  refine ⟨fun h1 => ?_, fun h1 => ?_⟩
  · rw [e, Int.mul_emod, Int.emod_emod_of_dvd _ (Int.dvd_refl _), ← Int.mul_emod, ← Int.pow_succ, show (2 * (n / 2)).succ = n by omega]
    rfl
  · rw [e, show 2 * (n / 2) = n by omega]
    rfl
theorem R_Pow_any : ∀ (m n : Nat) (a : Int) (w : World) (_ : n ≤ m) (_ : n ≤ 1000000) (_ : 0 ≤ a ∧ a ≤ 9972),
    Calls Try.prog 38 #[.int .i64 a, .int .i64 n] w fun e w' => e = .returned (.int .i64 (powm a n)) ∧ w = w' := by
  intro m
  induction m with
  | zero =>
    intro n a w hn _ ha
    obtain rfl : n = 0 := by omega
    go_enter Try.func38, Try.ntmps38
    go_wp2
    go_ret
    exact ⟨by show _ = Ending.returned (.int .i64 (a ^ 0 % 9973)); rw [Int.pow_zero]; rfl, rfl⟩
  | succ m ih =>
    intro n a w hn hn2 ha
    by_cases h0 : n = 0
    · subst h0
      go_enter Try.func38, Try.ntmps38
      go_wp2
      go_ret
      exact ⟨by show _ = Ending.returned (.int .i64 (a ^ 0 % 9973)); rw [Int.pow_zero]; rfl, rfl⟩
    · have C := Lib.hid (ih (n / 2) (a * a % 9973) w (by omega) (by omega) (by omega))
      have H := powm_half a n _ rfl
      obtain ⟨h, hh⟩ : ∃ h, powm (a * a % 9973) (n / 2) = h := ⟨_, rfl⟩
      have bh : 0 ≤ h ∧ h ≤ 9972 := by rw [← hh]; unfold powm; omega
      rw [hh] at C H
      clear hh ih
      have b1 : 0 ≤ a * a ∧ a * a ≤ 9972 * 9972 := ⟨Int.mul_nonneg ha.1 ha.1, Int.mul_le_mul ha.2 ha.2 ha.1 (by omega)⟩
      have b2 : 0 ≤ h * a ∧ h * a ≤ 9972 * 9972 := ⟨Int.mul_nonneg bh.1 ha.1, Int.mul_le_mul bh.2 ha.2 ha.1 (by omega)⟩
      have u1 : IntKind.i64.wrap (a * a) = a * a := Go.IntWalk.i64_in _ (by omega)
      have u2 : IntKind.i64.wrap (h * a) = h * a := Go.IntWalk.i64_in _ (by omega)
      have u3 : (a * a).tmod 9973 = a * a % 9973 := Int.tmod_eq_emod_of_nonneg b1.1
      have u4 : (h * a).tmod 9973 = h * a % 9973 := Int.tmod_eq_emod_of_nonneg b2.1
      have u5 : (n : Int).tdiv 2 = ((n / 2 : Nat) : Int) := by rw [Int.tdiv_eq_ediv_of_nonneg (by omega)]; omega
      have z0 : ((n : Int) == 0) = false := beq_eq_false_iff_ne.2 (by omega)
      by_cases hp : n % 2 = 1
      · have u6 : (n : Int).tmod 2 = 1 := by rw [Int.tmod_eq_emod_of_nonneg (by omega)]; omega
        have HR := Lib.hid (H.1 hp)
        clear H hp
        go_enter Try.func38, Try.ntmps38
        go_wp2_with (go_at_call 38; refine C.out.mono ?_; rintro e w' ⟨rfl, rfl⟩)
        go_ret
        exact ⟨by rw [← HR.out]; rfl, rfl⟩
      · have u6 : (n : Int).tmod 2 = 0 := by rw [Int.tmod_eq_emod_of_nonneg (by omega)]; omega
        have HR := Lib.hid (H.2 (by omega))
        clear H hp
        go_enter Try.func38, Try.ntmps38
        go_wp2_with (go_at_call 38; refine C.out.mono ?_; rintro e w' ⟨rfl, rfl⟩)
        go_ret
        exact ⟨by rw [← HR.out]; rfl, rfl⟩
end Go.Proofs.Ytoahegjjffggaaa
namespace Go.Proofs.Ytoahegjjffggaaa
open Go.RowKit Go.Rk

/-- Rows as columns. -/
def flipL (M : List (List Int)) (n c : Nat) : List (List Int) := rowsF (fun j i => en M i j) n c
theorem flipL_is (M : List (List Int)) (n c : Nat) : IsR c n (flipL M n c) (fun j i => en M i j) := rowsF_is _ _ _
theorem flipL_ent {lo hi : Int} {M : List (List Int)} {n c : Nat} (h : EntR lo hi n c M) : EntR lo hi c n (flipL M n c) := fun i j hi hj => by
  rw [(flipL_is M n c).2 i j hi hj]; exact h j i hj hi

set_option maxHeartbeats 2000000 in
set_option maxRecDepth 100000 in
theorem R_Flip_any {a : Option Addr} {n c cap : Nat} {M : List (List Int)} {w : World} (h : RdM w a n cap M) (d : Dm n c M) (h1 : 1 ≤ n) (hn : n ≤ 1000) (hc : c ≤ 1000) :
    Calls Try.prog 41 #[.slice a n cap] w fun e w' => ∃ a' c', e = .returned (.slice a' c c') ∧ OwM w' w.heap.size 22 3 a' c c' (flipL M n c) ∧ Below w.heap.size w w' := by
  have HM := Lib.hid matTy
  have HD := Lib.hid d
  obtain ⟨b, off, rfl, hbl, hr⟩ := h.at (k := 0) (by omega)
  have HR : Hid (∀ k, k < n → ∃ ar cr, w.cell? ⟨b, off + k, none⟩ = some (.slice ar c cr) ∧ RdI w ar c cr (rowOf M k)) := fun k hk => by
    obtain ⟨ar, cr, e1, e2⟩ := hr k hk
    rw [d.2 k hk] at e1 e2
    exact ⟨ar, cr, e1, e2⟩
  obtain ⟨a0, c0, y0, _⟩ := HR.out 0 (by omega)
  rw [Nat.add_zero] at y0
  have b1 : (0 : Int) < (n : Int) := by omega
  have b2 : (1 : Int) ≤ (n : Int) := by omega
  clear hr d
  go_enter Try.func41, Try.ntmps41
  go_wp2
  go_loopw [3, 4] (fun v x wr => ∃ (j : Nat) (q : Option Addr) (cq : Nat), j ≤ c ∧ x = .int .i64 j ∧ v = .slice q j cq ∧ OwM wr w.heap.size 22 3 q j cq (rowsF (fun j i => en M i j) n j) ∧ Below w.heap.size w wr) (fun _ x _ => c - (intOf x).toNat)
  case atStart => exact ⟨0, none, 0, Nat.zero_le _, rfl, rfl, OwM.nil _ _ _ _, Below.refl _ _⟩
  case round =>
    obtain ⟨j, q, cq, hj, rfl, rfl, ho, hb⟩ := hrel
    obtain ⟨wo, rfl⟩ : ∃ x, x = wr := ⟨_, rfl⟩
    have y0 := hb.keep hbl y0
    have hsz := hb.size
    by_cases hjc : j < c
    · have i1 : (j : Int) < (c : Int) := by omega
      go_wp2
      go_loopw [5, 6] (fun v x wt => ∃ (i : Nat) (p : Option Addr) (cp : Nat), i ≤ n ∧ x = .int .i64 i ∧ v = .slice p i cp ∧ OwI wt wo.heap.size 3 p i cp (rowF (fun i => en M i j) i) ∧ Below wo.heap.size wo wt) (fun _ x _ => n - (intOf x).toNat)
      case atStart => exact ⟨0, none, 0, Nat.zero_le _, rfl, rfl, OwI.nil _ _ _, Below.refl _ _⟩
      case round =>
        obtain ⟨i, p, cp, hi, rfl, rfl, hp, hbt⟩ := hrel
        by_cases hin : i < n
        · have i2 : (i : Int) < (n : Int) := by omega
          have kt := hb.trans (hbt.mono hsz)
          obtain ⟨ar, cr, e1, e2⟩ := HR.out i hin
          have y1 := kt.keep hbl e1
          obtain ⟨pr, orr, rfl, hprl, hcc⟩ := e2.at hjc
          have y2 : wr.cell? ⟨pr, orr + j, none⟩ = some (.int .i64 (en M i j)) := kt.keep hprl (hcc j hjc)
          have hs1 := hbt.size
          clear e1 e2 hcc
          go_wp2_with (first | (at_builtin; refine wpList_push_int HM.out.int rfl (.tmp 21) (.tmp 29) rfl rfl rfl (hp.alloc _) (z := en M i j) (by simp) (by decide) (by decide) (by omega) (by simp; omega) ?_; intro a4 c4 w4 ho4 hg4))
          have hb4 := below_grown (hbt.alloc hbt.size (.cells #[.int .i64 (en M i j)] 3)) (hp.alloc _) (by simp; omega) hg4
          go_roundw
          case rel => exact ⟨i + 1, a4, c4, by omega, by go_num, rfl, by rw [rowF_succ]; exact ho4, hb4⟩
          case measure => simp [intOf]; omega
        · obtain rfl : n = i := by omega
          go_wp2_with (first | (at_builtin; refine wpList_push_row HM.out rfl (.tmp 31) (.tmp 33) rfl rfl rfl ho (hbt.alloc hbt.size _) (hp.alloc _) (by simp) (by omega) hsz ?_; intro a5 c5 w5 ho5 hb5))
          go_roundw
          case rel => exact ⟨j + 1, a5, c5, by omega, by go_num, rfl, by rw [rowsF_succ]; exact ho5, (hb.trans ((hbt.alloc hbt.size _).mono hsz)).trans (hb5.mono (Nat.le_refl _))⟩
          case measure => simp [intOf]; omega
    · obtain rfl : c = j := by omega
      go_wp2
      go_ret
      exact ⟨_, _, rfl, ho, hb⟩
end Go.Proofs.Ytoahegjjffggaaa
namespace Go.Rk
open Go.RowKit

/-- A row of a matrix, read at once. -/
theorem RdM.rowIn {w : World} {a : Option Addr} {n c cap : Nat} {M : List (List Int)} (h : RdM w a n cap M) (d : Dm n c M) {k : Nat} (hk : k < n) :
    ∃ b off, a = some ⟨b, off, none⟩ ∧ ∃ ar cr, w.cell? ⟨b, off + k, none⟩ = some (.slice ar c cr) ∧ RdI w ar c cr (rowOf M k) := by
  obtain ⟨b, off, rfl, _, hr⟩ := h.at hk
  obtain ⟨ar, cr, hc, hrd⟩ := hr k hk
  rw [d.2 k hk] at hc hrd
  exact ⟨b, off, rfl, ar, cr, hc, hrd⟩

end Go.Rk
namespace Go.Proofs.Ytoahegjjffggaaa
open Go.RowKit Go.Rk

theorem unit_row {n i : Nat} (_ : i < n) : (List.replicate n (0 : Int)).set i 1 = rowF (oneM i) n := by
  refine ix_ext (by simp [rowF_len]) fun k hk => ?_
  have hk' : k < n := by simpa using hk
  rw [ix_set, rowF_ix hk']
  unfold oneM
  by_cases e : i = k
  · rw [if_pos e, if_pos ⟨e, by simpa using hk'⟩]
  · rw [if_neg e, if_neg fun h => e h.1, ix_lt (by simpa using hk')]
    simp
set_option maxHeartbeats 2000000 in
set_option maxRecDepth 100000 in
theorem R_Unit_any (n : Nat) (w : World) (hn : n ≤ 1000) :
    Calls Try.prog 40 #[.int .i64 n] w fun e w' => ∃ a' c', e = .returned (.slice a' n c') ∧ OwM w' w.heap.size 22 3 a' n c' (rowsF oneM n n) ∧ Below w.heap.size w w' := by
  have HM := Lib.hid matTy
  go_enter Try.func40, Try.ntmps40
  go_wp2
  go_loopw [3, 4] (fun v x wr => ∃ (i : Nat) (q : Option Addr) (cq : Nat), i ≤ n ∧ x = .int .i64 i ∧ v = .slice q i cq ∧ OwM wr w.heap.size 22 3 q i cq (rowsF oneM n i) ∧ Below w.heap.size w wr) (fun _ x _ => n - (intOf x).toNat)
  case atStart => exact ⟨0, none, 0, Nat.zero_le _, rfl, rfl, OwM.nil _ _ _ _, Below.refl _ _⟩
  case round =>
    obtain ⟨i, q, cq, hi, rfl, rfl, ho, hb⟩ := hrel
    have hsz := hb.size
    by_cases hin : i < n
    · have i1 : (i : Int) < (n : Int) := by omega
      go_wp2_with (first
        | (refine wpList_make_ints HM.out.int rfl (.tmp 11) (.tmp 11) rfl rfl rfl (by omega) ?_; intro w4 ho4 hb4; obtain ⟨g4, hz, hg41, hg42, hc4, hf4⟩ := ho4.at (by omega); cases hz; have y3 := hc4 i hin; have y4 := hf4 i; have hb5 := hb4.setCell (p := ⟨wr.heap.size, i, none⟩) (Nat.le_refl _) (.int .i64 1); have ho5 := ho4.set (k := i) 1; clear hc4 hf4)
        | (at_builtin; refine wpList_push_row HM.out rfl (.tmp 16) (.tmp 18) rfl rfl rfl ho (hb5.alloc hb5.size _) (ho5.below ((Below.refl _ _).alloc (Nat.le_refl _) _)) (by rw [World.cell?_alloc_at _ _ _ _ (by simp)]; rfl) (by omega) hsz ?_; intro a5 cap5 w5 ho6 hb6))
      have hb7 := ((hb.trans (hb5.mono hsz)).alloc (by have := hb5.size; omega) _).trans hb6
      go_roundw
      case rel => exact ⟨i + 1, a5, cap5, by omega, by go_num, rfl, by rw [rowsF_succ, ← unit_row hin]; exact ho6, hb7⟩
      case measure => simp [intOf]; omega
    · obtain rfl : n = i := by omega
      go_wp2
      go_ret
      exact ⟨_, _, rfl, ho, hb⟩
end Go.Proofs.Ytoahegjjffggaaa
namespace Go.Proofs.Ytoahegjjffggaaa
open Go.RowKit Go.Rk

end Go.Proofs.Ytoahegjjffggaaa
namespace Go.Proofs.Ytoahegjjffggaaa
open Go.RowKit Go.Shelf Go.Rk
attribute [local go_sem] Oper.semAt_some

end Go.Proofs.Ytoahegjjffggaaa
namespace Go.Proofs.Ytoahegjjffggaaa
open Go.RowKit Go.Rk

theorem squareR_grounds {most lo hi : Int} {M : List (List Int)} (h : squareR most lo hi M = none) : groundsR most lo hi M = none ∧ (rowOf M 0).length = M.length := by
  unfold squareR at h
  split at h
  · next h1 =>
    split at h
    · next h2 => exact ⟨h1, h2.symm⟩
    · cases h
  · next h1 => exact absurd h h1

/-- The determinant of the product, by the prime. -/
theorem det_prod {n : Nat} {A B P : List (List Int)} (h : IsR n n P (fun i j => mulE A B n i j % 9973)) : det n (mx P) % 9973 = (det n (mx A) % 9973) * (det n (mx B) % 9973) % 9973 := by
  have e : Eqm (det n (mx P)) (det n (mulM n (mx A) (mx B))) := det_eqm fun i j hi hj => by
    show Eqm (en P i j) _
    rw [h.2 i j hi hj]
    exact Int.emod_emod_of_dvd _ (Int.dvd_refl _)
  rw [det_mul] at e
  rw [e, Int.mul_emod]

theorem det_turned {n : Nat} {A P : List (List Int)} (h : IsR n n P (fun i j => en A j i)) : det n (mx P) = det n (mx A) := by
  rw [← det_tr (mx A)]
  exact det_congr fun i j hi hj => h.2 i j hi hj

end Go.Proofs.Ytoahegjjffggaaa
namespace Go.Proofs.Ytoahegjjffggaaa
open Go.RowKit Go.Rk

set_option maxHeartbeats 1000000 in
theorem one_any (n : Nat) (w : World) (h1 : 1 ≤ n) (h2 : n ≤ 1000) :
    Calls Try.prog 77 #[.int .i64 n] w fun e w' => ∃ a' cap' P, e = .returned (.slice a' n cap') ∧ OwM w' w.heap.size 22 3 a' n cap' P ∧ IsR n n P oneM ∧ Below w.heap.size w w' := by
  go_enter Try.func77, Try.ntmps77
  go_wp2_with (go_at_call 64; refine (Grid_any n n _ (by omega) (by omega)).mono ?_; rintro e w3 ⟨a3, cap3, rfl, ho3, hb3⟩)
  obtain ⟨g, D, C, hz, hd3⟩ := ho3.named (by omega) fun r hr => by rw [(Dm.replicate n n 0).2 r hr]; omega
  cases hz
  have h0 : ∀ i j, i < n → j < n → en (List.replicate n (List.replicate n (0 : Int))) i j = 0 := fun i j hi hj => by
    unfold en
    rw [rowOf_lt (by simp; exact hi), ix_lt (by simp; exact hj)]
    simp
  clear ho3
  go_loopw [10] (fun v wr => ∃ (k : Nat) (P : List (List Int)), k ≤ n ∧ v = .int .i64 k ∧ OwMD wr w.heap.size 22 3 g D C n cap3 P ∧ Hid (IsR n n P (fun i j => if i = j ∧ i < k then 1 else 0)) ∧ Below w.heap.size w wr) (fun v _ => n - (intOf v).toNat)
  case atStart => exact ⟨0, _, Nat.zero_le _, rfl, hd3, ⟨Dm.replicate n n 0, fun i j hi hj => by rw [h0 i j hi hj]; simp⟩, hb3⟩
  case round =>
    obtain ⟨k, P, hk, rfl, hd, hi, hb⟩ := hrel
    by_cases hlt : k < n
    · have a1 := hd.cellO hlt
      have a2 := hd.cellI hlt (j := k) (by rw [hi.out.1.2 k hlt]; exact hlt)
      have a3 := hd.frozenI hlt (by rw [hi.out.1.2 k hlt]; omega) k
      rw [hi.out.1.2 k hlt] at a1
      have b1 : (k : Int) < (n : Int) := by omega
      go_wp2
      go_roundw
      case rel => exact ⟨k + 1, _, by omega, by go_num, hd.set matTy.ne hlt 1, ⟨hi.out.1.setE _ _ _, fun i j h3 h4 => by
        rw [hi.out.1.en_set _ h3 h4]
        by_cases e : k = i ∧ k = j
        · rw [if_pos e]; dsimp only; rw [if_pos ⟨by omega, by omega⟩]
        · rw [if_neg e, hi.out.2 i j h3 h4]; dsimp only
          by_cases e2 : i = j ∧ i < k
          · rw [if_pos e2, if_pos ⟨e2.1, by omega⟩]
          · rw [if_neg e2, if_neg fun e3 => by omega]⟩, hb.setCell (p := ⟨D k, k, none⟩) (hd.lowI hlt).1 _⟩
      case measure => simp [intOf]; omega
    · obtain rfl : k = n := by omega
      go_wp2
      go_ret
      exact ⟨_, cap3, P, rfl, hd.toM, hi.out.congr fun i j h3 h4 => by
        unfold oneM
        by_cases e : i = j
        · simp only [e, if_true]; rw [if_pos ⟨trivial, by omega⟩]
        · simp [e], hb⟩

theorem One_any (n : Nat) (w : World) (h1 : 1 ≤ n) (h2 : n ≤ 5) :
    Calls Try.prog 74 #[.int .i64 n] w fun e w' => ∃ a' cap' P, e = .returned (.tuple #[.slice a' n cap', .nilIface]) ∧ OwM w' w.heap.size 22 3 a' n cap' P ∧ IsR n n P oneM ∧ Below w.heap.size w w' := by
  have HO : Hid (outB (n : Int) 1 5 = false) := by unfold Hid outB; simp; omega
  go_enter Try.func74, Try.ntmps74
  go_wp2_with (first | (go_at_call 50; refine (out_any _ _ _ _).mono ?_; rintro e w' ⟨rfl, rfl⟩; rw [HO.out]) | (go_at_call 77; refine (one_any n _ h1 (by omega)).mono ?_; rintro e w3 ⟨a3, cap3, P, rfl, ho3, hi3, hb3⟩))
  go_ret2
  exact ⟨a3, cap3, P, rfl, ho3, hi3, hb3⟩

theorem mulE_sq {n : Nat} {X Y P : List (List Int)} (h : IsR n n P (fun i j => mulE X Y n i j % 9973)) : (Dm n n P ∧ EntR 0 9972 n n P) ∧ EqM n n (mx P) (mulM n (mx X) (mx Y)) :=
  ⟨⟨h.1, fun i j hi hj => by rw [h.2 i j hi hj]; dsimp only; omega⟩, fun i j hi hj => by
    show Eqm (en P i j) _
    rw [h.2 i j hi hj]
    exact Eqm.mod _⟩

/-- What is wrong with a power. -/
def powErr (A : List (List Int)) (e : Int) : Option Int :=
  match squareR 5 0 9972 A with
  | some x => some x
  | none => if outB e 0 1000 then some 1 else none

set_option maxRecDepth 100000 in
set_option maxHeartbeats 2000000 in
theorem Pow_ok {a : Option Addr} {n ca e : Nat} {A : List (List Int)} {w : World} (hA : RdM w a n ca A) (hq : squareR 5 0 9972 A = none) (he : e ≤ 1000) :
    Calls Try.prog 39 #[.slice a n ca, .int .i64 e] w fun x w' => ∃ a' cap' P, x = .returned (.tuple #[.slice a' n cap', .nilIface]) ∧ OwM w' w.heap.size 22 3 a' n cap' P ∧ IsR n n P (fun i j => powM n (mx A) e i j % 9973) ∧ Below w.heap.size w w' := by
  obtain ⟨g1, g2⟩ := squareR_grounds hq
  have C1 := Lib.hid (mat_Check_is hA g1)
  have e1 := hA.len_eq
  obtain ⟨n1, _, dA, eA⟩ := grounds_dm e1 g1
  rw [e1] at g2
  rw [g2] at dA eA
  have HO : Hid (outB (e : Int) 0 1000 = false) := by unfold Hid outB; simp; omega
  have z1 : ((n : Int) != (n : Int)) = false := bne_eq_false_iff_eq.2 rfl
  obtain ⟨ba, oa, hz, _, hra⟩ := hA.at (k := 0) (by omega)
  subst hz
  obtain ⟨ai, ci, hc0, _⟩ := hra 0 (by omega)
  rw [Nat.add_zero, g2] at hc0
  have b1 : (0 : Int) < (n : Int) := by omega
  have b2 : (1 : Int) ≤ (n : Int) := by omega
  have HD := Lib.hid dA
  have HE := Lib.hid eA
  clear hq g1 g2 hra dA eA
  go_enter Try.func39, Try.ntmps39
  go_wp2_with (first | (go_at_call 67; (with_reducible refine C1.out.mono ?_); rintro e w' ⟨rfl, rfl⟩; simp only [errV]) | (go_at_call 50; refine (out_any _ _ _ _).mono ?_; rintro e w' ⟨rfl, rfl⟩; rw [HO.out]) | (go_at_call 77; refine (one_any n _ n1.1 (by omega)).mono ?_; rintro e w3 ⟨a3, cap3, P3, rfl, ho3, hi3, hb3⟩) | (go_at_call 78; fail))
  have C4 := Lib.hid (Copy_any (hA.below hb3) (by omega) fun r hr => by rw [HD.out.2 r hr]; omega)
  (with_reducible refine C4.out.mono ?_)
  clear C4
  rintro x w4 ⟨a4, cap4, rfl, ho4, hb4⟩
  have k4 := hb3.trans (hb4.mono hb3.size)
  have ho3 := ho3.below hb4
  have ho4 := ho4.mono hb3.size
  clear hb4
  go_wp2
  go_loopw [1, 7, 8] (fun ve vo vb wr => ∃ (e' : Nat) (ao ab : Option Addr) (co cb : Nat) (X Y : List (List Int)), e' ≤ e ∧ ve = .int .i64 e' ∧ vo = .slice ao n co ∧ vb = .slice ab n cb ∧ OwM wr w.heap.size 22 3 ao n co X ∧ OwM wr w.heap.size 22 3 ab n cb Y ∧
    Hid (Dm n n X ∧ EntR 0 9972 n n X) ∧ Hid (Dm n n Y ∧ EntR 0 9972 n n Y) ∧ Hid (EqM n n (mulM n (mx X) (powM n (mx Y) e')) (powM n (mx A) e)) ∧ Below w.heap.size w wr) (fun ve _ _ _ => (intOf ve).toNat)
  case atStart =>
    refine ⟨e, a3, a4, cap3, cap4, P3, A, Nat.le_refl _, rfl, rfl, rfl, ho3, ho4, ⟨hi3.1, fun i j hi hj => ?_⟩, ⟨HD.out, HE.out⟩, ?_, k4⟩
    · rw [hi3.2 i j hi hj]
      unfold oneM
      split <;> omega
    · intro i j hi hj
      refine (EqM.mul (n := n) (A' := oneM) (fun i j hi hj => Eqm.of_eq (hi3.2 i j hi hj)) (EqM.refl n n _) i j hi hj).trans (Eqm.of_eq (one_mulM _ hi j))
  case round =>
    obtain ⟨e', ao, ab, co, cb, X, Y, he', rfl, rfl, rfl, hX, hY, HX, HY, HI, hb⟩ := hrel
    by_cases h0 : 0 < e'
    · rcases Nat.mod_two_eq_zero_or_one e' with hp | hp
      · have hp' : ((e' : Int) % 2 == 1) = false := by simp; omega
        have Hp := Lib.hid hp
        have C5 := Lib.hid (mul_any hY.rd hY.rd HY.out.1 HY.out.1 HY.out.2 HY.out.2 ⟨n1.1, by omega⟩ ⟨n1.1, by omega⟩ ⟨n1.1, by omega⟩)
        clear hp
        go_wp2_with (go_at_call 79; fail)
        (with_reducible refine C5.out.mono ?_)
        clear C5
        rintro x w5 ⟨a5, cap5, P, rfl, ho5, hi5, hb5⟩
        have HP := Lib.hid (mulE_sq hi5)
        have hX5 := hX.below hb5
        have k5 := hb.trans (hb5.mono hb.size)
        go_wp2
        go_roundw
        case rel => exact ⟨e' / 2, ao, a5, co, cap5, X, P, by omega, by go_num, rfl, rfl, hX5, ho5.mono hb.size, HX, HP.out.1, by
          refine EqM.trans ?_ HI.out
          refine (EqM.mul (EqM.refl _ _ _) (powM_congr HP.out.2 _)).trans ((pow_even _ _ _).trans ?_)
          rw [show 2 * (e' / 2) = e' by have := Hp.out; omega]
          exact EqM.refl _ _ _, k5⟩
        case measure => simp [intOf]; omega
      · have hp' : ((e' : Int) % 2 == 1) = true := by simp; omega
        have Hp := Lib.hid hp
        have C5 := Lib.hid (mul_any hX.rd hY.rd HX.out.1 HY.out.1 HX.out.2 HY.out.2 ⟨n1.1, by omega⟩ ⟨n1.1, by omega⟩ ⟨n1.1, by omega⟩)
        clear hp
        go_wp2_with (go_at_call 79; fail)
        (with_reducible refine C5.out.mono ?_)
        clear C5
        rintro x w5 ⟨a5, cap5, P, rfl, ho5, hi5, hb5⟩
        have HP := Lib.hid (mulE_sq hi5)
        have hY5 := hY.below hb5
        have k5 := hb.trans (hb5.mono hb.size)
        have C6 := Lib.hid (mul_any hY5.rd hY5.rd HY.out.1 HY.out.1 HY.out.2 HY.out.2 ⟨n1.1, by omega⟩ ⟨n1.1, by omega⟩ ⟨n1.1, by omega⟩)
        go_wp2_with (go_at_call 79; fail)
        (with_reducible refine C6.out.mono ?_)
        clear C6
        rintro x w6 ⟨a6, cap6, R, rfl, ho6, hi6, hb6⟩
        have HR := Lib.hid (mulE_sq hi6)
        have hP6 := ho5.below hb6
        have k6 := k5.trans (hb6.mono k5.size)
        go_wp2
        go_roundw
        case rel => exact ⟨e' / 2, a5, a6, cap5, cap6, P, R, by omega, by go_num, rfl, rfl, hP6.mono hb.size, ho6.mono k5.size, HP.out.1, HR.out.1, by
          refine EqM.trans ?_ HI.out
          refine (EqM.mul HP.out.2 (powM_congr HR.out.2 _)).trans ((pow_odd _ _ _).trans ?_)
          rw [show 2 * (e' / 2) + 1 = e' by have := Hp.out; omega]
          exact EqM.refl _ _ _, k6⟩
        case measure => simp [intOf]; omega
    · obtain rfl : e' = 0 := by omega
      go_wp2
      go_ret2
      exact ⟨ao, co, X, rfl, hX, ⟨HX.out.1, fun i j hi hj => by
        have h1 := HX.out.2 i j hi hj
        have h2 := HI.out i j hi hj
        have h3 : mulM n (mx X) (powM n (mx Y) 0) i j = en X i j := mulM_one (mx X) i hj
        rw [h3] at h2
        unfold Eqm at h2
        dsimp only
        omega⟩, hb⟩
end Go.Proofs.Ytoahegjjffggaaa
namespace Go.Proofs.Ytoahegjjffggaaa
open Go.RowKit Go.Rk

/-- A row without place c, of its first k numbers. -/
def cutN (l : List Int) (c : Nat) : Nat → List Int
  | 0 => []
  | k + 1 => if k = c then cutN l c k else cutN l c k ++ [ix l k]
/-- The rows but row r, of the first k, without column c. -/
def woN (M : List (List Int)) (r c : Nat) : Nat → List (List Int)
  | 0 => []
  | k + 1 => if k = r then woN M r c k else woN M r c k ++ [cutN (rowOf M k) c (rowOf M k).length]

theorem cutN_len (l : List Int) (c : Nat) : ∀ k, (cutN l c k).length = if c < k then k - 1 else k := by
  intro k
  induction k with
  | zero => simp [cutN]
  | succ k ih =>
    rw [cutN]
    split
    · next h => rw [ih, if_neg (by omega), if_pos (by omega)]; omega
    · rw [List.length_append, ih]
      by_cases h2 : c < k
      · rw [if_pos h2, if_pos (by omega)]; simp; omega
      · rw [if_neg h2, if_neg (by omega)]; simp
theorem cutN_ix (l : List Int) (c : Nat) : ∀ k j, j < (cutN l c k).length → ix (cutN l c k) j = ix l (skip c j) := by
  intro k
  induction k with
  | zero => intro j hj; simp [cutN] at hj
  | succ k ih =>
    intro j hj
    rw [cutN] at hj ⊢
    split
    · next h => rw [if_pos h] at hj; exact ih j hj
    · next h =>
      rw [if_neg h, List.length_append] at hj
      have hl := cutN_len l c k
      rcases Nat.lt_or_ge j (cutN l c k).length with h1 | h1
      · rw [← ih j h1, ix_lt (by rw [List.length_append]; omega), ix_lt h1, List.getElem_append_left h1]
      · have hj2 : j = (cutN l c k).length := by simp at hj; omega
        subst hj2
        rw [ix_lt (by rw [List.length_append]; simp), List.getElem_append_right (Nat.le_refl _)]
        simp only [Nat.sub_self, List.getElem_cons_zero]
        congr 1
        rw [hl]
        unfold skip
        by_cases h2 : c < k
        · rw [if_pos h2, if_neg (by omega)]; omega
        · rw [if_neg h2, if_pos (by omega)]
theorem woN_len (M : List (List Int)) (r c : Nat) : ∀ k, (woN M r c k).length = if r < k then k - 1 else k := by
  intro k
  induction k with
  | zero => simp [woN]
  | succ k ih =>
    rw [woN]
    split
    · next h => rw [ih, if_neg (by omega), if_pos (by omega)]; omega
    · rw [List.length_append, ih]
      by_cases h2 : r < k
      · rw [if_pos h2, if_pos (by omega)]; simp; omega
      · rw [if_neg h2, if_neg (by omega)]; simp
theorem woN_row (M : List (List Int)) (r c : Nat) : ∀ k j, j < (woN M r c k).length → rowOf (woN M r c k) j = cutN (rowOf M (skip r j)) c (rowOf M (skip r j)).length := by
  intro k
  induction k with
  | zero => intro j hj; simp [woN] at hj
  | succ k ih =>
    intro j hj
    rw [woN] at hj ⊢
    split
    · next h => rw [if_pos h] at hj; exact ih j hj
    · next h =>
      rw [if_neg h, List.length_append] at hj
      have hl := woN_len M r c k
      rcases Nat.lt_or_ge j (woN M r c k).length with h1 | h1
      · rw [rowOf_append_left h1, ih j h1]
      · have hj2 : j = (woN M r c k).length := by simp at hj; omega
        subst hj2
        rw [rowOf_append_right (Nat.le_refl _), Nat.sub_self]
        have e : skip r (woN M r c k).length = k := by
          rw [hl]
          unfold skip
          by_cases h2 : r < k
          · rw [if_pos h2, if_neg (by omega)]; omega
          · rw [if_neg h2, if_pos (by omega)]
        rw [e]
        rfl
/-- What is left without a row and a column of a square matrix. -/
theorem woN_is {n r c : Nat} {M : List (List Int)} (hd : Dim (n + 1) M) (hr : r < n + 1) (hc : c < n + 1) : Is n (woN M r c (n + 1)) (minor (mx M) r c) := by
  have hl : (woN M r c (n + 1)).length = n := by rw [woN_len, if_pos hr]; omega
  have hrow : ∀ i, i < n → (rowOf M (skip r i)).length = n + 1 := fun i hi => hd.2 _ (skip_lt hi)
  have hcl : ∀ i, i < n → (cutN (rowOf M (skip r i)) c (n + 1)).length = n := fun i hi => by rw [cutN_len, if_pos hc]; omega
  refine ⟨⟨hl, fun i hi => ?_⟩, fun i j hi hj => ?_⟩
  · rw [woN_row M r c _ i (by rw [hl]; exact hi), hrow i hi]
    exact hcl i hi
  · unfold en
    rw [woN_row M r c _ i (by rw [hl]; exact hi), hrow i hi, cutN_ix _ _ _ _ (by rw [hcl i hi]; exact hj)]
    rfl

/-- The row in two parts. -/
theorem cutN_parts (l : List Int) {c : Nat} (hc : c < l.length) : cutN l c l.length = l.take c ++ l.drop (c + 1) := by
  have h1 := cutN_len l c l.length
  rw [if_pos hc] at h1
  have h2 : (l.take c ++ l.drop (c + 1)).length = l.length - 1 := by rw [List.length_append, List.length_take, List.length_drop]; omega
  refine ix_ext (h1.trans h2.symm) fun j hj => ?_
  rw [cutN_ix _ _ _ _ hj]
  unfold skip
  by_cases h : j < c
  · rw [if_pos h, ix_append_left (by rw [List.length_take]; omega), ix_take h]
  · rw [if_neg h, ix_append_right (by rw [List.length_take]; omega), ix_drop, List.length_take]
    congr 1
    omega
set_option maxHeartbeats 2000000 in
theorem Cut_any {a : Option Addr} {n cap c i j : Nat} {M : List (List Int)} {w : World} (h : RdM w a n cap M) (d : Dm n c M) (hn : n ≤ 1000) (hc : c ≤ 1000) (hj : j < c) :
    Calls Try.prog 98 #[.slice a n cap, .int .i64 i, .int .i64 j] w fun e w' => ∃ a' cap', e = .returned (.slice a' (woN M i j n).length cap') ∧ OwM w' w.heap.size 22 3 a' (woN M i j n).length cap' (woN M i j n) ∧ Below w.heap.size w w' := by
  have HM := Lib.hid matTy
  have HD := Lib.hid d
  clear d
  go_enter Try.func98, Try.ntmps98
  go_wp2
  go_loopw [7, 13] (fun v x wr => ∃ (k : Nat) (q : Option Addr) (cq : Nat), k ≤ n ∧ x = .int .i64 k ∧ v = .slice q (woN M i j k).length cq ∧ OwM wr w.heap.size 22 3 q (woN M i j k).length cq (woN M i j k) ∧ Below w.heap.size w wr) (fun _ x _ => n - (intOf x).toNat)
  case atStart => exact ⟨0, none, 0, Nat.zero_le _, rfl, rfl, OwM.nil _ _ _ _, Below.refl _ _⟩
  case round =>
    obtain ⟨k, q, cq, hk, rfl, rfl, ho, hb⟩ := hrel
    by_cases hlt : k < n
    · obtain ⟨b, off, rfl, _, hr⟩ := (h.below hb).at hlt
      obtain ⟨ar, cr, hcr, hrd⟩ := hr k hlt
      rw [HD.out.2 k hlt] at hcr hrd
      have hlt' : (k : Int) < (n : Int) := by omega
      by_cases hkr : k = i
      · have z1 : ((k : Int) == (i : Int)) = true := beq_iff_eq.2 (by omega)
        have HK := Lib.hid hkr
        clear hkr
        go_wp2
        go_roundw
        case rel => exact ⟨k + 1, q, cq, by omega, by go_num, by rw [woN, if_pos HK.out], by rw [woN, if_pos HK.out]; exact ho, hb⟩
        case measure => simp [intOf]; omega
      · have z1 : ((k : Int) == (i : Int)) = false := beq_eq_false_iff_ne.2 (by omega)
        have HK := Lib.hid hkr
        clear hkr
        obtain ⟨p, o, rfl, hp, _⟩ := hrd.at hj
        have hle := hrd.le
        have t1 := hrd.take (n := j) (by omega)
        have t2 := hrd.drop (n := j + 1) (by omega)
        have b1 : (j : Int) ≤ (cr : Int) := by omega
        have b2 : (j : Int) + 1 ≤ (c : Int) := by omega
        have b3 : (j : Int) + 1 ≤ (cr : Int) := by omega
        have hsz := hb.size
        have hwl := woN_len M i j k
        have hwl2 : (woN M i j k).length ≤ k := by rw [hwl]; split <;> omega
        clear hwl hr
        have tok1 : True := trivial
        have tok2 : True := trivial
        have e9 : ((j : Int) + 1).toNat = j + 1 := by omega
        by_cases hcc : cr = j + 1
        · subst hcc
          rw [if_pos rfl, show c - (j + 1) = 0 by omega, Nat.sub_self] at t2
          go_wp2_with (first | (at_builtin; have _t := tok1; refine wpList_append_ints HM.out.int rfl (.const (.slice none 0 0)) (.tmp 23) rfl rfl rfl (OwI.nil wr wr.heap.size _) t1 (by omega) (Nat.le_refl _) ?_; intro a3 cap3 w3 ho3 hg3; have hb3 := below_of_grown hg3; clear tok1; rw [Nat.zero_add, List.nil_append] at ho3) | (at_builtin; have _t := tok2; refine wpList_append_ints HM.out.int rfl (.tmp 26) (.tmp 30) rfl rfl rfl ho3 (t2.below hb3) (by omega) hb3.size ?_; intro a4 cap4 w4 ho4 hg4; have hb4 := below_grown hb3 ho3 hb3.size hg4; clear tok2) | (at_builtin; refine wpList_push_row HM.out rfl (.tmp 25) (.tmp 32) rfl rfl rfl ho (hb4.alloc hb4.size _) (ho4.below ((Below.refl _ _).alloc (Nat.le_refl _) _)) (by simp) (by omega) hsz ?_; intro a5 cap5 w5 ho5 hb5))
          have hL : Hid (woN M i j (k + 1) = woN M i j k ++ [(rowOf M k).take j ++ (rowOf M k).drop (j + 1)]) := by
            unfold Hid
            rw [woN, if_neg HK.out, cutN_parts _ (by rw [HD.out.2 k hlt]; exact hj)]
          have hL2 : (woN M i j (k + 1)).length = (woN M i j k).length + 1 := by rw [hL.out]; simp
          go_roundw
          case rel => exact ⟨k + 1, a5, cap5, by omega, by go_num, by rw [hL2], by rw [hL2, hL.out]; exact ho5, ((hb.trans (hb4.mono hsz)).alloc (Nat.le_trans hsz hb4.size) _).trans hb5⟩
          case measure => simp [intOf]; omega
        · rw [if_neg hcc] at t2
          simp only [Option.map_some, Addr.add] at t2
          go_wp2_with (first | (at_builtin; have _t := tok1; refine wpList_append_ints HM.out.int rfl (.const (.slice none 0 0)) (.tmp 23) rfl rfl rfl (OwI.nil wr wr.heap.size _) t1 (by omega) (Nat.le_refl _) ?_; intro a3 cap3 w3 ho3 hg3; have hb3 := below_of_grown hg3; clear tok1; rw [Nat.zero_add, List.nil_append] at ho3) | (at_builtin; have _t := tok2; refine wpList_append_ints HM.out.int rfl (.tmp 26) (.tmp 30) rfl rfl rfl ho3 (t2.below hb3) (by omega) hb3.size ?_; intro a4 cap4 w4 ho4 hg4; have hb4 := below_grown hb3 ho3 hb3.size hg4; clear tok2) | (at_builtin; refine wpList_push_row HM.out rfl (.tmp 25) (.tmp 32) rfl rfl rfl ho (hb4.alloc hb4.size _) (ho4.below ((Below.refl _ _).alloc (Nat.le_refl _) _)) (by simp) (by omega) hsz ?_; intro a5 cap5 w5 ho5 hb5))
          have hL : Hid (woN M i j (k + 1) = woN M i j k ++ [(rowOf M k).take j ++ (rowOf M k).drop (j + 1)]) := by
            unfold Hid
            rw [woN, if_neg HK.out, cutN_parts _ (by rw [HD.out.2 k hlt]; exact hj)]
          have hL2 : (woN M i j (k + 1)).length = (woN M i j k).length + 1 := by rw [hL.out]; simp
          go_roundw
          case rel => exact ⟨k + 1, a5, cap5, by omega, by go_num, by rw [hL2], by rw [hL2, hL.out]; exact ho5, ((hb.trans (hb4.mono hsz)).alloc (Nat.le_trans hsz hb4.size) _).trans hb5⟩
          case measure => simp [intOf]; omega
    · obtain rfl : k = n := by omega
      go_wp2
      go_ret
      exact ⟨q, cq, rfl, ho, hb⟩
end Go.Proofs.Ytoahegjjffggaaa
namespace Go.Proofs.Ytoahegjjffggaaa
open Go.RowKit Go.Rk

set_option maxHeartbeats 1000000 in
theorem Pow_err {a : Option Addr} {n ca : Nat} {e : Int} {A : List (List Int)} {w : World} {x : Int} (hA : RdM w a n ca A) (hq : powErr A e = some x) :
    Calls Try.prog 39 #[.slice a n ca, .int .i64 e] w fun r w' => r = .returned (.tuple #[.slice none 0 0, .iface 59 (.int .i64 x)]) ∧ Below w.heap.size w w' := by
  rcases hg : groundsR 5 0 9972 A with _ | y
  · have C1 := Lib.hid (mat_Check_is hA hg)
    have e1 := hA.len_eq
    obtain ⟨n1, n2, dA, _⟩ := grounds_dm e1 hg
    obtain ⟨ba, oa, hz, _, hra⟩ := hA.at (k := 0) (by omega)
    subst hz
    obtain ⟨ai, ci, hc0, _⟩ := hra 0 (by omega)
    rw [Nat.add_zero] at hc0
    have b1 : (0 : Int) < (n : Int) := by omega
    have b2 : (1 : Int) ≤ (n : Int) := by omega
    by_cases hs : n = (rowOf A 0).length
    · have hq2 : squareR 5 0 9972 A = none := by unfold squareR; rw [if_pos hg, if_pos (by rw [e1]; exact hs)]
      unfold powErr at hq
      rw [hq2] at hq
      dsimp only at hq
      split at hq
      · next ho =>
        injection hq with hq
        subst hq
        rw [← hs] at hc0
        have z1 : ((n : Int) != (n : Int)) = false := bne_eq_false_iff_eq.2 rfl
        have HO := Lib.hid ho
        clear ho hg hq2 hra dA hs
        go_enter Try.func39, Try.ntmps39
        go_wp2_with (first | (go_at_call 67; (with_reducible refine C1.out.mono ?_); rintro e w' ⟨rfl, rfl⟩; simp only [errV]) | (go_at_call 50; refine (out_any _ _ _ _).mono ?_; rintro e w' ⟨rfl, rfl⟩; rw [HO.out]))
        go_ret2
        exact ⟨rfl, Below.refl _ _⟩
      · cases hq
    · have hq2 : squareR 5 0 9972 A = some 3 := by unfold squareR; rw [if_pos hg, if_neg (by rw [e1]; exact hs)]
      unfold powErr at hq
      rw [hq2] at hq
      dsimp only at hq
      injection hq with hq
      subst hq
      have z1 : ((n : Int) != ((rowOf A 0).length : Int)) = true := bne_iff_ne.2 (by omega)
      clear hg hq2 hra dA hs
      go_enter Try.func39, Try.ntmps39
      go_wp2_with (first | (go_at_call 67; (with_reducible refine C1.out.mono ?_); rintro e w' ⟨rfl, rfl⟩; simp only [errV]))
      go_ret2
      exact ⟨rfl, Below.refl _ _⟩
  · have hq2 : squareR 5 0 9972 A = some y := by unfold squareR; rw [hg]; rfl
    unfold powErr at hq
    rw [hq2] at hq
    dsimp only at hq
    injection hq with hq
    subst hq
    have C1 := Lib.hid (mat_Check_is hA hg)
    clear hg hq2
    go_enter Try.func39, Try.ntmps39
    go_wp2_with (first | (go_at_call 67; (with_reducible refine C1.out.mono ?_); rintro e w' ⟨rfl, rfl⟩; simp only [errV]))
    go_ret2
    exact ⟨rfl, Below.refl _ _⟩


end Go.Proofs.Ytoahegjjffggaaa
