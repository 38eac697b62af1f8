/-
  The references' To (a matrix taken to a row), Unit, Pow walked.
  Matrices by a rule, row by row. No program in sight.
  A row of a matrix, read at once. No program in sight.
  The reference's Unit, MatMul and MatAdd walked.
  The reference's Flip walked: rows as columns.
  append onto a slice of the call's own: where what comes of it lies: in the same block, or in a new one. No program in sight.
  A matrix of the call's own, one row moved and another one renewed. No program in sight.
-/
import Derived.Test.YtkielldinghmbaaDoorRows
import Derived.Deep.QuietTactic
import Derived.BigQuiet
import Derived.StillTailTactics
import Derived.Test.YtkielldinghmbaaDoorMg0
import Derived.Test.YtkielldinghmbaaDoorMg1
import Derived.Test.YtkielldinghmbaaDoorMg2
import Derived.Test.YtkielldinghmbaaDoorMg3
import Derived.Test.YtkielldinghmbaaDoorMg4
import Derived.Test.YtkielldinghmbaaDoorMg5
import Derived.Test.YtkielldinghmbaaDoorMg6
namespace Go.Proofs.YtkielldinghmbaaDoor
open Go.RowKit Go.Rk

/-- What a matrix takes a row to, by the prime. -/
def toV (M : List (List Int)) (l : List Int) (c i : Nat) : Int := sumTo (fun j => en M i j * ix l j) c % 9973
def toN (M : List (List Int)) (l : List Int) (c n : Nat) : List Int := (List.range n).map fun i => toV M l c i
theorem toN_len (M : List (List Int)) (l : List Int) (c n : Nat) : (toN M l c n).length = n := by simp [toN]
theorem toN_ix {M : List (List Int)} {l : List Int} {c n i : Nat} (h : i < n) : ix (toN M l c n) i = toV M l c i := by rw [ix_lt (by rw [toN_len]; exact h)]; simp [toN]
theorem toN_succ (M : List (List Int)) (l : List Int) (c n : Nat) : toN M l c (n + 1) = toN M l c n ++ [toV M l c n] := by simp [toN, List.range_succ]
theorem toV_in (M : List (List Int)) (l : List Int) (c i : Nat) : 0 ≤ toV M l c i ∧ toV M l c i ≤ 9972 := by unfold toV; omega
theorem toV_step (M : List (List Int)) (l : List Int) (c i : Nat) : (toV M l c i + en M i c * ix l c) % 9973 = toV M l (c + 1) i := by
  unfold toV
  rw [sumTo, Int.emod_add_emod]
set_option maxHeartbeats 2000000 in
theorem To_any {a b : Option Addr} {n c ca cb : Nat} {M : List (List Int)} {l : List Int} {w : World} (hM : RdM w a n ca M) (d : Dm n c M) (he : EntR 0 9972 n c M) (hl : RdI w b c cb l) (hi : In 0 9972 l) (hn : n ≤ 1000) :
    Calls Tryd.prog 54 #[.slice a n ca, .slice b c cb] w fun e w' => ∃ a' cap', e = .returned (.slice a' n cap') ∧ OwI w' w.heap.size 3 a' n cap' (toN M l c n) ∧ Below w.heap.size w w' := by
  have HIT := Lib.hid intTy
  have HD := Lib.hid d
  have HE := Lib.hid he
  have HI := Lib.hid hi
  have hm := hl.len_max
  have hle := hl.len_eq
  clear d he hi
  go_enter Tryd.func54, Tryd.ntmps54
  go_wp2
  go_loopw [5, 6] (fun v x wr => ∃ (k : Nat) (q : Option Addr) (cq : Nat), k ≤ n ∧ x = .int .i64 k ∧ v = .slice q k cq ∧ OwI wr w.heap.size 3 q k cq (toN M l c k) ∧ Below w.heap.size w wr) (fun _ x _ => n - (intOf x).toNat)
  case atStart => exact ⟨0, none, 0, Nat.zero_le _, rfl, rfl, OwI.nil _ _ _, Below.refl _ _⟩
  case round =>
    obtain ⟨k, q, cq, hk, rfl, rfl, ho, hb⟩ := hrel
    obtain ⟨wo, hwo⟩ : ∃ wo, wo = wr := ⟨_, rfl⟩
    subst hwo
    by_cases hlt : k < n
    · have hlt' : (k : Int) < (n : Int) := by omega
      go_wp2
      go_loopw [7, 8] (fun s x wr => ∃ (t r : Nat) (S : Int), t ≤ c ∧ x = .int .i64 t ∧ s = .int .i64 S ∧ Hid (S = toV M l t k) ∧ Hid (wr = wo.drewN r)) (fun _ x _ => c - (intOf x).toNat)
      case atStart => exact ⟨0, 0, 0, Nat.zero_le _, rfl, rfl, rfl, (World.drewN_zero _).symm⟩
      case round =>
        obtain ⟨t, r, S, ht, rfl, rfl, HS, HW⟩ := hrel
        have bS : 0 ≤ S ∧ S ≤ 9972 := by rw [HS.out]; exact toV_in _ _ _ _
        have kr : Below wo.heap.size wo wr := by rw [HW.out]; exact below_drewN (Below.refl _ _) r
        have hb' := hb.trans (kr.mono hb.size)
        by_cases htc : t < c
        · obtain ⟨bm, om, rfl, _, hr⟩ := (hM.below hb').at hlt
          obtain ⟨ar, cr, hcr, hrd⟩ := hr k hlt
          rw [HD.out.2 k hlt] at hcr hrd
          obtain ⟨p, o, rfl, _, hx⟩ := hrd.at htc
          replace hx := hx t htc
          obtain ⟨p2, o2, rfl, _, hy⟩ := (hl.below hb').at htc
          replace hy := hy t htc
          have m1 := HE.out k t hlt htc
          have m2 := HI.out t (by rw [hle]; exact htc)
          rw [show ix (rowOf M k) t = en M k t from rfl] at hx
          have HT := Lib.hid (toV_step M l t k)
          generalize hX : en M k t = X at hx m1 HT
          generalize hY : ix l t = Y at hy m2 HT
          have m3 : 0 ≤ X * Y ∧ X * Y ≤ 9972 * 9972 := ⟨Int.mul_nonneg m1.1 m2.1, Int.mul_le_mul m1.2 m2.2 m2.1 (by omega)⟩
          have u1 : IntKind.i64.wrap (X * Y) = X * Y := Go.IntWalk.i64_in _ (by omega)
          have u2 : IntKind.i64.wrap (S + X * Y) = S + X * Y := Go.IntWalk.i64_in _ (by omega)
          have i3 : (t : Int) < (c : Int) := by omega
          clear hr hrd hX hY
          go_wp2
          go_quiet ((go_at_call 47; exact quietW (R_Mod_any _ _ (by omega) (by omega))))
          clear u1 u2
          go_wp2
          go_roundw
          case rel => exact ⟨t + 1, r + nq, _, by omega, by go_num, rfl, by unfold Hid; rw [← HT.out, HS.out], by unfold Hid; rw [HW.out, World.drewN_drewN]⟩
          case measure => simp [intOf]; omega
        · obtain rfl : t = c := by omega
          have hsz := hb'.size
          have ho' := ho.below kr
          go_wp2_with (at_builtin; refine wpList_push_int HIT.out rfl (.tmp 36) (.tmp 38) rfl rfl rfl (ho'.alloc _) (z := S) (by simp) (by decide) (by decide) (by omega) (by simp; omega) ?_; intro a4 cap4 w4 ho4 hg4)
          have hb4 := below_grown (hb'.alloc hsz (.cells #[.int .i64 S] 3)) (ho'.alloc (.cells #[.int .i64 S] 3)) (by simp; omega) hg4
          go_roundw
          case rel => exact ⟨k + 1, a4, cap4, by omega, by go_num, rfl, by rw [toN_succ, ← HS.out]; exact ho4, hb4⟩
          case measure => simp [intOf]; omega
    · obtain rfl : k = n := by omega
      go_wp2
      go_ret
      exact ⟨q, cq, rfl, ho, hb⟩
/-- The first k rows of the matrix that changes nothing. -/
def unitN (n k : Nat) : List (List Int) := (List.range k).map fun i => (List.replicate n 0).set i 1
theorem unitN_succ (n k : Nat) : unitN n (k + 1) = unitN n k ++ [(List.replicate n 0).set k 1] := by simp [unitN, List.range_succ]
theorem unitN_len (n k : Nat) : (unitN n k).length = k := by simp [unitN]
theorem unitN_is (n : Nat) : IsR n n (unitN n n) (fun i j => if i = j then 1 else 0) := by
  have hr : ∀ i, i < n → rowOf (unitN n n) i = (List.replicate n 0).set i 1 := fun i hi => by rw [rowOf_lt (by rw [unitN_len]; exact hi)]; simp [unitN]
  refine ⟨⟨unitN_len n n, fun i hi => by rw [hr i hi]; simp⟩, fun i j hi hj => ?_⟩
  unfold en
  rw [hr i hi, ix_set]
  by_cases e : i = j
  · rw [if_pos ⟨e, by simp; exact hj⟩]
    exact (if_pos e).symm
  · rw [if_neg fun h => e h.1, ix_lt (by simp; exact hj)]
    show _ = if i = j then _ else _
    rw [if_neg e]
    simp
set_option maxHeartbeats 2000000 in
theorem Unit_any (n : Nat) (w : World) (hn : n ≤ 1000) :
    Calls Tryd.prog 27 #[.int .i64 n] w fun e w' => ∃ a' cap', e = .returned (.slice a' n cap') ∧ OwM w' w.heap.size 32 3 a' n cap' (unitN n n) ∧ Below w.heap.size w w' := by
  have HM := Lib.hid matTy
  go_enter Tryd.func27, Tryd.ntmps27
  go_wp2
  go_loopw [3, 4] (fun v x wr => ∃ (k : Nat) (q : Option Addr) (cq : Nat), k ≤ n ∧ x = .int .i64 k ∧ v = .slice q k cq ∧ OwM wr w.heap.size 32 3 q k cq (unitN n k) ∧ Below w.heap.size w wr) (fun _ x _ => n - (intOf x).toNat)
  case atStart => exact ⟨0, none, 0, Nat.zero_le _, rfl, rfl, OwM.nil _ _ _ _, Below.refl _ _⟩
  case round =>
    obtain ⟨k, q, cq, hk, rfl, rfl, ho, hb⟩ := hrel
    by_cases hlt : k < n
    · have hlt' : (k : Int) < (n : Int) := by omega
      have hsz := hb.size
      go_wp2_with (first
        | (at_builtin; refine wpList_push_row HM.out rfl (.tmp 16) (.tmp 18) rfl rfl rfl ho (hb5.alloc hb5.size _) ((ho4.set (k := k) 1).below ((Below.refl _ _).alloc (Nat.le_refl _) _)) (by rw [World.cell?_alloc_at _ _ _ _ (by simp)]; rfl) (by omega) hsz ?_; intro a5 cap5 w5 ho5 hb6)
        | (refine wpList_make_ints HM.out.int rfl (.tmp 11) (.tmp 11) rfl rfl rfl (by omega) ?_; intro w4 ho4 hb4; obtain ⟨g4, hz, hg41, hg42, hc4, hf4⟩ := ho4.at (by omega); cases hz; have y3 := hc4 k hlt; have y4 := hf4 k; have hb5 := hb4.setCell (p := ⟨wr.heap.size, k, none⟩) (Nat.le_refl _) (.int .i64 1); clear hc4 hf4))
      have hb7 := ((hb.trans (hb5.mono hsz)).alloc (by have := hb5.size; omega) _).trans hb6
      go_roundw
      case rel => exact ⟨k + 1, a5, cap5, by omega, by go_num, rfl, by rw [unitN_succ]; exact ho5, hb7⟩
      case measure => simp [intOf]; omega
    · obtain rfl : k = n := by omega
      go_wp2
      go_ret
      exact ⟨q, cq, rfl, ho, hb⟩
theorem powm_half (a : Int) (n : Nat) (h : Int) (hh : h = powm (a * a % 9973) (n / 2)) : (n % 2 = 1 → h * a % 9973 = powm a n) ∧ (n % 2 = 0 → h = powm a n) := by
  have e : h = a ^ (2 * (n / 2)) % 9973 := by
    rw [hh]
    unfold powm
    rw [pow_emod, sq_pow]
  refine ⟨fun h1 => ?_, fun h1 => ?_⟩
  · rw [e, Int.mul_emod, Int.emod_emod_of_dvd _ (Int.dvd_refl _), ← Int.mul_emod, ← Int.pow_succ, show (2 * (n / 2)).succ = n by omega]
    rfl
  · rw [e, show 2 * (n / 2) = n by omega]
    rfl
theorem R_Pow_any : ∀ (m n : Nat) (a : Int) (w : World) (_ : n ≤ m) (_ : n ≤ 1000000) (_ : 0 ≤ a ∧ a ≤ 9972),
    Calls Tryd.prog 72 #[.int .i64 a, .int .i64 n] w fun e w' => e = .returned (.int .i64 (powm a n)) ∧ w = w' := by
  intro m
  induction m with
  | zero =>
    intro n a w hn _ ha
    obtain rfl : n = 0 := by omega
    go_enter Tryd.func72, Tryd.ntmps72
    go_wp2
    go_ret
    exact ⟨by show _ = Ending.returned (.int .i64 (a ^ 0 % 9973)); rw [Int.pow_zero]; rfl, rfl⟩
  | succ m ih =>
    intro n a w hn hn2 ha
    by_cases h0 : n = 0
    · subst h0
      go_enter Tryd.func72, Tryd.ntmps72
      go_wp2
      go_ret
      exact ⟨by show _ = Ending.returned (.int .i64 (a ^ 0 % 9973)); rw [Int.pow_zero]; rfl, rfl⟩
    · have C := Lib.hid (ih (n / 2) (a * a % 9973) w (by omega) (by omega) (by omega))
      have H := powm_half a n _ rfl
      obtain ⟨h, hh⟩ : ∃ h, powm (a * a % 9973) (n / 2) = h := ⟨_, rfl⟩
      have bh : 0 ≤ h ∧ h ≤ 9972 := by rw [← hh]; unfold powm; omega
      rw [hh] at C H
      clear hh ih
      have b1 : 0 ≤ a * a ∧ a * a ≤ 9972 * 9972 := ⟨Int.mul_nonneg ha.1 ha.1, Int.mul_le_mul ha.2 ha.2 ha.1 (by omega)⟩
      have b2 : 0 ≤ h * a ∧ h * a ≤ 9972 * 9972 := ⟨Int.mul_nonneg bh.1 ha.1, Int.mul_le_mul bh.2 ha.2 ha.1 (by omega)⟩
      have u1 : IntKind.i64.wrap (a * a) = a * a := Go.IntWalk.i64_in _ (by omega)
      have u2 : IntKind.i64.wrap (h * a) = h * a := Go.IntWalk.i64_in _ (by omega)
      have u3 : (a * a).tmod 9973 = a * a % 9973 := Int.tmod_eq_emod_of_nonneg b1.1
      have u4 : (h * a).tmod 9973 = h * a % 9973 := Int.tmod_eq_emod_of_nonneg b2.1
      have u5 : (n : Int).tdiv 2 = ((n / 2 : Nat) : Int) := by rw [Int.tdiv_eq_ediv_of_nonneg (by omega)]; omega
      have z0 : ((n : Int) == 0) = false := beq_eq_false_iff_ne.2 (by omega)
      by_cases hp : n % 2 = 1
      · have u6 : (n : Int).tmod 2 = 1 := by rw [Int.tmod_eq_emod_of_nonneg (by omega)]; omega
        have HR := Lib.hid (H.1 hp)
        clear H hp
        go_enter Tryd.func72, Tryd.ntmps72
        go_wp2_with (go_at_call 72; refine C.out.mono ?_; rintro e w' ⟨rfl, rfl⟩)
        go_ret
        exact ⟨by rw [← HR.out]; rfl, rfl⟩
      · have u6 : (n : Int).tmod 2 = 0 := by rw [Int.tmod_eq_emod_of_nonneg (by omega)]; omega
        have HR := Lib.hid (H.2 (by omega))
        clear H hp
        go_enter Tryd.func72, Tryd.ntmps72
        go_wp2_with (go_at_call 72; refine C.out.mono ?_; rintro e w' ⟨rfl, rfl⟩)
        go_ret
        exact ⟨by rw [← HR.out]; rfl, rfl⟩
end Go.Proofs.YtkielldinghmbaaDoor
namespace Go.Rk

def rowF (f : Nat → Int) (c : Nat) : List Int := (List.range c).map f
def rowsF (F : Nat → Nat → Int) (c n : Nat) : List (List Int) := (List.range n).map fun i => rowF (F i) c
theorem rowF_succ (f : Nat → Int) (c : Nat) : rowF f (c + 1) = rowF f c ++ [f c] := by simp [rowF, List.range_succ]
theorem rowF_len (f : Nat → Int) (c : Nat) : (rowF f c).length = c := by simp [rowF]
theorem rowF_ix {f : Nat → Int} {c k : Nat} (h : k < c) : ix (rowF f c) k = f k := by
  rw [ix_lt (by rw [rowF_len]; exact h)]; simp [rowF]
theorem rowsF_succ (F : Nat → Nat → Int) (c n : Nat) : rowsF F c (n + 1) = rowsF F c n ++ [rowF (F n) c] := by simp [rowsF, List.range_succ]
theorem rowsF_row {F : Nat → Nat → Int} {c n i : Nat} (h : i < n) : rowOf (rowsF F c n) i = rowF (F i) c := by
  rw [rowOf_lt (by simp [rowsF]; exact h)]; simp [rowsF]
theorem rowsF_is (F : Nat → Nat → Int) (c n : Nat) : IsR n c (rowsF F c n) F :=
  ⟨⟨by simp [rowsF], fun i hi => by rw [rowsF_row hi, rowF_len]⟩, fun i j hi hj => by unfold en; rw [rowsF_row hi, rowF_ix hj]⟩
theorem IsR.same {n c : Nat} {F : Nat → Nat → Int} {P Q : List (List Int)} (h : IsR n c P F) (k : IsR n c Q F) : P = Q := h.1.ext k.1 fun i j hi hj => by rw [h.2 i j hi hj, k.2 i j hi hj]
end Go.Rk
namespace Go.Rk
open Go.RowKit

/-- A row of a matrix, read at once. -/
theorem RdM.rowIn {w : World} {a : Option Addr} {n c cap : Nat} {M : List (List Int)} (h : RdM w a n cap M) (d : Dm n c M) {k : Nat} (hk : k < n) :
    ∃ b off, a = some ⟨b, off, none⟩ ∧ ∃ ar cr, w.cell? ⟨b, off + k, none⟩ = some (.slice ar c cr) ∧ RdI w ar c cr (rowOf M k) := by
  obtain ⟨b, off, rfl, _, hr⟩ := h.at hk
  obtain ⟨ar, cr, hc, hrd⟩ := hr k hk
  rw [d.2 k hk] at hc hrd
  exact ⟨b, off, rfl, ar, cr, hc, hrd⟩

end Go.Rk
namespace Go.Proofs.YtkielldinghmbaaDoor
open Go.RowKit Go.Rk

theorem unit_row {n i : Nat} (_ : i < n) : (List.replicate n (0 : Int)).set i 1 = rowF (oneM i) n := by
  refine ix_ext (by simp [rowF_len]) fun k hk => ?_
  have hk' : k < n := by simpa using hk
  rw [ix_set, rowF_ix hk']
  unfold oneM
  by_cases e : i = k
  · rw [if_pos e, if_pos ⟨e, by simpa using hk'⟩]
  · rw [if_neg e, if_neg fun h => e h.1, ix_lt (by simpa using hk')]
    simp
set_option maxHeartbeats 2000000 in
set_option maxRecDepth 100000 in
theorem R_Unit_any (n : Nat) (w : World) (hn : n ≤ 1000) :
    Calls Tryd.prog 27 #[.int .i64 n] w fun e w' => ∃ a' c', e = .returned (.slice a' n c') ∧ OwM w' w.heap.size 32 3 a' n c' (rowsF oneM n n) ∧ Below w.heap.size w w' := by
  have HM := Lib.hid matTy
  go_enter Tryd.func27, Tryd.ntmps27
  go_wp2
  go_loopw [3, 4] (fun v x wr => ∃ (i : Nat) (q : Option Addr) (cq : Nat), i ≤ n ∧ x = .int .i64 i ∧ v = .slice q i cq ∧ OwM wr w.heap.size 32 3 q i cq (rowsF oneM n i) ∧ Below w.heap.size w wr) (fun _ x _ => n - (intOf x).toNat)
  case atStart => exact ⟨0, none, 0, Nat.zero_le _, rfl, rfl, OwM.nil _ _ _ _, Below.refl _ _⟩
  case round =>
    obtain ⟨i, q, cq, hi, rfl, rfl, ho, hb⟩ := hrel
    have hsz := hb.size
    by_cases hin : i < n
    · have i1 : (i : Int) < (n : Int) := by omega
      go_wp2_with (first
        | (refine wpList_make_ints HM.out.int rfl (.tmp 11) (.tmp 11) rfl rfl rfl (by omega) ?_; intro w4 ho4 hb4; obtain ⟨g4, hz, hg41, hg42, hc4, hf4⟩ := ho4.at (by omega); cases hz; have y3 := hc4 i hin; have y4 := hf4 i; have hb5 := hb4.setCell (p := ⟨wr.heap.size, i, none⟩) (Nat.le_refl _) (.int .i64 1); have ho5 := ho4.set (k := i) 1; clear hc4 hf4)
        | (at_builtin; refine wpList_push_row HM.out rfl (.tmp 16) (.tmp 18) rfl rfl rfl ho (hb5.alloc hb5.size _) (ho5.below ((Below.refl _ _).alloc (Nat.le_refl _) _)) (by rw [World.cell?_alloc_at _ _ _ _ (by simp)]; rfl) (by omega) hsz ?_; intro a5 cap5 w5 ho6 hb6))
      have hb7 := ((hb.trans (hb5.mono hsz)).alloc (by have := hb5.size; omega) _).trans hb6
      go_roundw
      case rel => exact ⟨i + 1, a5, cap5, by omega, by go_num, rfl, by rw [rowsF_succ, ← unit_row hin]; exact ho6, hb7⟩
      case measure => simp [intOf]; omega
    · obtain rfl : n = i := by omega
      go_wp2
      go_ret
      exact ⟨_, _, rfl, ho, hb⟩
set_option maxHeartbeats 4000000 in
set_option maxRecDepth 100000 in
theorem R_MatMul_any {a b : Option Addr} {n k c ca cb : Nat} {A B : List (List Int)} {w : World} (hA : RdM w a n ca A) (hB : RdM w b k cb B) (dA : Dm n k A) (eA : EntR 0 9972 n k A) (dB : Dm k c B) (eB : EntR 0 9972 k c B) (hn : n ≤ 1000) (hk : 1 ≤ k ∧ k ≤ 1000) (hc : c ≤ 1000) :
    Calls Tryd.prog 24 #[.slice a n ca, .slice b k cb] w fun e w' => ∃ a' c', e = .returned (.slice a' n c') ∧ OwM w' w.heap.size 32 3 a' n c' (rowsF (fun i j => mulE A B k i j % 9973) c n) ∧ Below w.heap.size w w' := by
  have HM := Lib.hid matTy
  have HDA := Lib.hid dA
  have HDB := Lib.hid dB
  have HEA := Lib.hid eA
  have HEB := Lib.hid eB
  obtain ⟨bb0, ob0, rfl, ab0, cb0, hb00, _⟩ := hB.rowIn dB (k := 0) (by omega)
  rw [Nat.add_zero] at hb00
  have b1 : (0 : Int) < (k : Int) := by omega
  have b2 : (1 : Int) ≤ (k : Int) := by omega
  have hbl := World.block_lt_of_cell? _ _ hb00
  clear dA dB eA eB
  go_enter Tryd.func24, Tryd.ntmps24
  go_wp2
  go_loopw [5, 6] (fun v x wr => ∃ (i : Nat) (q : Option Addr) (cq : Nat), i ≤ n ∧ x = .int .i64 i ∧ v = .slice q i cq ∧ OwM wr w.heap.size 32 3 q i cq (rowsF (fun i j => mulE A B k i j % 9973) c i) ∧ Below w.heap.size w wr) (fun _ x _ => n - (intOf x).toNat)
  case atStart => exact ⟨0, none, 0, Nat.zero_le _, rfl, rfl, OwM.nil _ _ _ _, Below.refl _ _⟩
  case round =>
    obtain ⟨i, q, cq, hi, rfl, rfl, ho, hb⟩ := hrel
    obtain ⟨wo, rfl⟩ : ∃ x, x = wr := ⟨_, rfl⟩
    have hsz := hb.size
    by_cases hin : i < n
    · have i1 : (i : Int) < (n : Int) := by omega
      go_wp2
      go_loopw [7, 8] (fun v x wt => ∃ (j : Nat) (p : Option Addr) (cp : Nat), j ≤ c ∧ x = .int .i64 j ∧ v = .slice p j cp ∧ OwI wt wo.heap.size 3 p j cp (rowF (fun j => mulE A B k i j % 9973) j) ∧ Below wo.heap.size wo wt) (fun _ x _ => c - (intOf x).toNat)
      case atStart => exact ⟨0, none, 0, Nat.zero_le _, rfl, rfl, OwI.nil _ _ _, Below.refl _ _⟩
      case round =>
        obtain ⟨j, p, cp, hj, rfl, rfl, hp, hbt⟩ := hrel
        obtain ⟨wp, rfl⟩ : ∃ x, x = wr := ⟨_, rfl⟩
        have kt := hb.trans (hbt.mono hsz)
        have y0 := kt.keep hbl hb00
        have hs1 := hbt.size
        by_cases hjc : j < c
        · have i2 : (j : Int) < (c : Int) := by omega
          go_wp2
          go_loopw [9, 10] (fun v x wt => ∃ (t : Nat) (s : Int), t ≤ k ∧ x = .int .i64 t ∧ v = .int .i64 s ∧ Hid (s = mulE A B t i j % 9973) ∧ Below wp.heap.size wp wt) (fun _ x _ => k - (intOf x).toNat)
          case atStart => exact ⟨0, 0, Nat.zero_le _, rfl, rfl, by unfold Hid mulE; simp [sumTo], Below.refl _ _⟩
          case round =>
            obtain ⟨t, s, ht, rfl, rfl, hS, hbu⟩ := hrel
            have ku := kt.trans (hbu.mono (Nat.le_trans hsz hs1))
            by_cases htk : t < k
            · have i3 : (t : Int) < (k : Int) := by omega
              have bs : 0 ≤ s ∧ s ≤ 9972 := by rw [hS.out]; omega
              obtain ⟨ba, oa, rfl, ar, cr, hca, hra⟩ := (hA.below ku).rowIn HDA.out hin
              obtain ⟨pa, qa, rfl, _, hea⟩ := hra.at htk
              have x1 := hea t htk
              obtain ⟨_, _, hz, br, dr, hcb, hrb⟩ := (hB.below ku).rowIn HDB.out htk
              cases hz
              obtain ⟨pb, qb, rfl, _, heb⟩ := hrb.at hjc
              have x2 := heb j hjc
              have bX := HEA.out i t hin htk
              have bY := HEB.out t j htk hjc
              rw [show ix (rowOf A i) t = en A i t from rfl] at x1
              rw [show ix (rowOf B t) j = en B t j from rfl] at x2
              obtain ⟨X, hX⟩ : ∃ X, en A i t = X := ⟨_, rfl⟩
              obtain ⟨Y, hY⟩ : ∃ Y, en B t j = Y := ⟨_, rfl⟩
              have HS : Hid ((s + X * Y) % 9973 = mulE A B (t + 1) i j % 9973) := by
                unfold Hid mulE at *
                rw [sumTo, hS, Int.emod_add_emod, ← hX, ← hY]
              rw [hX] at x1 bX
              rw [hY] at x2 bY
              have bm := mul_bd bX bY
              have u1 : IntKind.i64.wrap (X * Y) = X * Y := Go.IntWalk.i64_in _ (by omega)
              have u2 : IntKind.i64.wrap (s + X * Y) = s + X * Y := Go.IntWalk.i64_in _ (by omega)
              clear hX hY hea heb hra hrb y0
              go_wp2
              go_quiet ((go_at_call 47; exact quietW (R_Mod_any _ _ (by omega) (by omega))))
              go_wp2
              go_roundw
              case rel => exact ⟨t + 1, _, by omega, by go_num, rfl, HS, below_tr hbu (below_drewN (Below.refl _ _) _)⟩
              case measure => simp [intOf]; omega
            · obtain rfl : k = t := by omega
              have hp2 := hp.below hbu
              have hs2 := hbu.size
              have hbv := hbt.trans (hbu.mono hs1)
              go_wp2_with (first | (at_builtin; refine wpList_push_int HM.out.int rfl (.tmp 49) (.tmp 51) rfl rfl rfl (hp2.alloc _) (z := s) (by simp) (by decide) (by decide) (by omega) (by simp; omega) ?_; intro a4 c4 w4 ho4 hg4))
              have hb4 := below_grown (hbv.alloc hbv.size (.cells #[.int .i64 s] 3)) (hp2.alloc _) (by simp; omega) hg4
              go_roundw
              case rel => exact ⟨j + 1, a4, c4, by omega, by go_num, rfl, by rw [rowF_succ, ← hS.out]; exact ho4, hb4⟩
              case measure => simp [intOf]; omega
        · obtain rfl : c = j := by omega
          go_wp2_with (first | (at_builtin; refine wpList_push_row HM.out rfl (.tmp 53) (.tmp 55) rfl rfl rfl ho (hbt.alloc hbt.size _) (hp.alloc _) (by simp) (by omega) hsz ?_; intro a5 c5 w5 ho5 hb5))
          go_roundw
          case rel => exact ⟨i + 1, a5, c5, by omega, by go_num, rfl, by rw [rowsF_succ]; exact ho5, (hb.trans ((hbt.alloc hbt.size _).mono hsz)).trans (hb5.mono (Nat.le_refl _))⟩
          case measure => simp [intOf]; omega
    · obtain rfl : n = i := by omega
      go_wp2
      go_ret
      exact ⟨_, _, rfl, ho, hb⟩
/-- The sums stand at all places ahead of one. -/
def addPart (A B : List (List Int)) (i j r s : Nat) : Int := if r < i ∨ (r = i ∧ s < j) then (en A r s + en B r s) % 9973 else en A r s
set_option maxHeartbeats 4000000 in
set_option maxRecDepth 100000 in
theorem R_MatAdd_any {a b : Option Addr} {n c ca cb : Nat} {A B : List (List Int)} {w : World} (hA : RdM w a n ca A) (hB : RdM w b n cb B) (dA : Dm n c A) (eA : EntR 0 9972 n c A) (dB : Dm n c B) (eB : EntR 0 9972 n c B) (hn : 1 ≤ n ∧ n ≤ 1000) (hc : 1 ≤ c ∧ c ≤ 1000) :
    Calls Tryd.prog 22 #[.slice a n ca, .slice b n cb] w fun e w' => ∃ a' c' P, e = .returned (.slice a' n c') ∧ OwM w' w.heap.size 32 3 a' n c' P ∧ IsR n c P (fun i j => (en A i j + en B i j) % 9973) ∧ Below w.heap.size w w' := by
  have HM := Lib.hid matTy
  have HDA := Lib.hid dA
  have HDB := Lib.hid dB
  have HEA := Lib.hid eA
  have HEB := Lib.hid eB
  clear dA dB eA eB
  go_enter Tryd.func22, Tryd.ntmps22
  go_wp2_with (go_at_call 60; fail)
  refine (R_Copy_any hA (by omega) (fun r hr => by rw [HDA.out.2 r hr]; omega)).mono ?_
  rintro e w3 ⟨a3, c3, rfl, ho3, b3⟩
  obtain ⟨g, D, Cp, hz, hd3⟩ := ho3.named (by omega) (fun r hr => by rw [HDA.out.2 r hr]; omega)
  cases hz
  clear ho3
  have hP0 : Hid (Dm n c A ∧ ∀ r s, r < n → s < c → en A r s = addPart A B 0 0 r s) := ⟨HDA.out, fun r s _ _ => by unfold addPart; rw [if_neg (by omega)]⟩
  go_wp2
  go_loopw [6] (fun x wt => ∃ (i : Nat) (P : List (List Int)), i ≤ n ∧ x = .int .i64 i ∧ OwMD wt w.heap.size 32 3 g D Cp n c3 P ∧ Hid (Dm n c P ∧ ∀ r s, r < n → s < c → en P r s = addPart A B i 0 r s) ∧ Below w.heap.size w wt) (fun x _ => n - (intOf x).toNat)
  case atStart => exact ⟨0, A, Nat.zero_le _, rfl, hd3, hP0, b3⟩
  case round =>
    clear hd3 hP0 b3
    obtain ⟨i, P, hi, rfl, hd, hP, hb⟩ := hrel
    by_cases hin : i < n
    · have i1 : (i : Int) < (n : Int) := by omega
      obtain ⟨ba, oa, rfl, ar, cr, hca0, hra0⟩ := hA.rowIn HDA.out hin
      have hba := World.block_lt_of_cell? _ _ hca0
      go_wp2
      go_loopw [7] (fun x wt => ∃ (j : Nat) (P : List (List Int)), j ≤ c ∧ x = .int .i64 j ∧ OwMD wt w.heap.size 32 3 g D Cp n c3 P ∧ Hid (Dm n c P ∧ ∀ r s, r < n → s < c → en P r s = addPart A B i j r s) ∧ Below w.heap.size w wt) (fun x _ => c - (intOf x).toNat)
      case atStart => exact ⟨0, P, Nat.zero_le _, rfl, hd, hP, hb⟩
      case round =>
        clear hd hP hb
        obtain ⟨j, P, hj, rfl, hd, hP, hb⟩ := hrel
        have hca := hb.keep hba hca0
        by_cases hjn : j < c
        · have i2 : (j : Int) < (c : Int) := by omega
          have a1 := hd.cellO hin
          have a2 := hd.cellI hin (j := j) (by rw [hP.out.1.2 i hin]; exact hjn)
          have a3 := hd.frozenI hin (by rw [hP.out.1.2 i hin]; omega) j
          rw [hP.out.1.2 i hin] at a1
          obtain ⟨pa, qa, rfl, _, hea⟩ := (hra0.below hb).at hjn
          have x1 := hea j hjn
          obtain ⟨bb, ob, rfl, br, dr, hcb, hrb⟩ := (hB.below hb).rowIn HDB.out hin
          obtain ⟨pb, qb, rfl, _, heb⟩ := hrb.at hjn
          have x2 := heb j hjn
          have bX := HEA.out i j hin hjn
          have bY := HEB.out i j hin hjn
          rw [show ix (rowOf A i) j = en A i j from rfl] at x1
          rw [show ix (rowOf B i) j = en B i j from rfl] at x2
          obtain ⟨X, hX⟩ : ∃ X, en A i j = X := ⟨_, rfl⟩
          obtain ⟨Y, hY⟩ : ∃ Y, en B i j = Y := ⟨_, rfl⟩
          rw [hX] at x1 bX
          rw [hY] at x2 bY
          have u1 : IntKind.i64.wrap (X + Y) = X + Y := Go.IntWalk.i64_in _ (by omega)
          have HX := Lib.hid hX
          have HY := Lib.hid hY
          clear hX hY hea heb hrb
          go_wp2
          go_still_tail 22, (by kernel_rfl)
          still_call (stillW (R_Mod_any _ _ (by omega) (by omega)))
          repeat still_step
          refine wpStill_nil ?_
          change wpList _ _ _ _ _ wr.drew
          clear u1
          go_wp2
          go_roundw
          case rel => exact ⟨j + 1, _, by omega, by go_num, (hd.set matTy.ne hin _).drew, ⟨hP.out.1.setE _ _ _, fun r s hr hs => by
            rw [hP.out.1.en_set _ hr hs]
            by_cases e : i = r ∧ j = s
            · rw [if_pos e, ← e.1, ← e.2]
              unfold addPart
              rw [if_pos (by omega), HX.out, HY.out]
            · rw [if_neg e, hP.out.2 r s hr hs]
              unfold addPart
              by_cases e2 : r < i ∨ (r = i ∧ s < j)
              · rw [if_pos e2, if_pos (by omega)]
              · rw [if_neg e2, if_neg (by omega)]⟩, (hb.setCell (p := ⟨D i, j, none⟩) (hd.lowI hin).1 _).drew⟩
          case measure => simp [intOf]; omega
        · obtain rfl : c = j := by omega
          go_wp2
          go_roundw
          case rel => exact ⟨i + 1, P, by omega, by go_num, hd, ⟨hP.out.1, fun r s hr hs => by
            rw [hP.out.2 r s hr hs]
            unfold addPart
            by_cases e2 : r < i ∨ (r = i ∧ s < c)
            · rw [if_pos e2, if_pos (by omega)]
            · rw [if_neg e2, if_neg (by omega)]⟩, hb⟩
          case measure => simp [intOf]; omega
    · obtain rfl : n = i := by omega
      go_wp2
      go_ret
      exact ⟨_, _, P, rfl, hd.toM, ⟨hP.out.1, fun r s hr hs => by rw [hP.out.2 r s hr hs]; unfold addPart; rw [if_pos (.inl hr)]⟩, hb⟩
end Go.Proofs.YtkielldinghmbaaDoor
namespace Go.Proofs.YtkielldinghmbaaDoor
open Go.RowKit Go.Rk

/-- Rows as columns. -/
def flipL (M : List (List Int)) (n c : Nat) : List (List Int) := rowsF (fun j i => en M i j) n c
theorem flipL_is (M : List (List Int)) (n c : Nat) : IsR c n (flipL M n c) (fun j i => en M i j) := rowsF_is _ _ _
theorem flipL_ent {lo hi : Int} {M : List (List Int)} {n c : Nat} (h : EntR lo hi n c M) : EntR lo hi c n (flipL M n c) := fun i j hi hj => by
  rw [(flipL_is M n c).2 i j hi hj]; exact h j i hj hi

set_option maxHeartbeats 2000000 in
set_option maxRecDepth 100000 in
theorem R_Flip_any {a : Option Addr} {n c cap : Nat} {M : List (List Int)} {w : World} (h : RdM w a n cap M) (d : Dm n c M) (h1 : 1 ≤ n) (hn : n ≤ 1000) (hc : c ≤ 1000) :
    Calls Tryd.prog 19 #[.slice a n cap] w fun e w' => ∃ a' c', e = .returned (.slice a' c c') ∧ OwM w' w.heap.size 32 3 a' c c' (flipL M n c) ∧ Below w.heap.size w w' := by
  have HM := Lib.hid matTy
  have HD := Lib.hid d
  obtain ⟨b, off, rfl, hbl, hr⟩ := h.at (k := 0) (by omega)
  have HR : Hid (∀ k, k < n → ∃ ar cr, w.cell? ⟨b, off + k, none⟩ = some (.slice ar c cr) ∧ RdI w ar c cr (rowOf M k)) := fun k hk => by
    obtain ⟨ar, cr, e1, e2⟩ := hr k hk
    rw [d.2 k hk] at e1 e2
    exact ⟨ar, cr, e1, e2⟩
  obtain ⟨a0, c0, y0, _⟩ := HR.out 0 (by omega)
  rw [Nat.add_zero] at y0
  have b1 : (0 : Int) < (n : Int) := by omega
  have b2 : (1 : Int) ≤ (n : Int) := by omega
  clear hr d
  go_enter Tryd.func19, Tryd.ntmps19
  go_wp2
  go_loopw [3, 4] (fun v x wr => ∃ (j : Nat) (q : Option Addr) (cq : Nat), j ≤ c ∧ x = .int .i64 j ∧ v = .slice q j cq ∧ OwM wr w.heap.size 32 3 q j cq (rowsF (fun j i => en M i j) n j) ∧ Below w.heap.size w wr) (fun _ x _ => c - (intOf x).toNat)
  case atStart => exact ⟨0, none, 0, Nat.zero_le _, rfl, rfl, OwM.nil _ _ _ _, Below.refl _ _⟩
  case round =>
    obtain ⟨j, q, cq, hj, rfl, rfl, ho, hb⟩ := hrel
    obtain ⟨wo, rfl⟩ : ∃ x, x = wr := ⟨_, rfl⟩
    have y0 := hb.keep hbl y0
    have hsz := hb.size
    by_cases hjc : j < c
    · have i1 : (j : Int) < (c : Int) := by omega
      go_wp2
      go_loopw [5, 6] (fun v x wt => ∃ (i : Nat) (p : Option Addr) (cp : Nat), i ≤ n ∧ x = .int .i64 i ∧ v = .slice p i cp ∧ OwI wt wo.heap.size 3 p i cp (rowF (fun i => en M i j) i) ∧ Below wo.heap.size wo wt) (fun _ x _ => n - (intOf x).toNat)
      case atStart => exact ⟨0, none, 0, Nat.zero_le _, rfl, rfl, OwI.nil _ _ _, Below.refl _ _⟩
      case round =>
        obtain ⟨i, p, cp, hi, rfl, rfl, hp, hbt⟩ := hrel
        by_cases hin : i < n
        · have i2 : (i : Int) < (n : Int) := by omega
          have kt := hb.trans (hbt.mono hsz)
          obtain ⟨ar, cr, e1, e2⟩ := HR.out i hin
          have y1 := kt.keep hbl e1
          obtain ⟨pr, orr, rfl, hprl, hcc⟩ := e2.at hjc
          have y2 : wr.cell? ⟨pr, orr + j, none⟩ = some (.int .i64 (en M i j)) := kt.keep hprl (hcc j hjc)
          have hs1 := hbt.size
          clear e1 e2 hcc
          go_wp2_with (first | (at_builtin; refine wpList_push_int HM.out.int rfl (.tmp 21) (.tmp 29) rfl rfl rfl (hp.alloc _) (z := en M i j) (by simp) (by decide) (by decide) (by omega) (by simp; omega) ?_; intro a4 c4 w4 ho4 hg4))
          have hb4 := below_grown (hbt.alloc hbt.size (.cells #[.int .i64 (en M i j)] 3)) (hp.alloc _) (by simp; omega) hg4
          go_roundw
          case rel => exact ⟨i + 1, a4, c4, by omega, by go_num, rfl, by rw [rowF_succ]; exact ho4, hb4⟩
          case measure => simp [intOf]; omega
        · obtain rfl : n = i := by omega
          go_wp2_with (first | (at_builtin; refine wpList_push_row HM.out rfl (.tmp 31) (.tmp 33) rfl rfl rfl ho (hbt.alloc hbt.size _) (hp.alloc _) (by simp) (by omega) hsz ?_; intro a5 c5 w5 ho5 hb5))
          go_roundw
          case rel => exact ⟨j + 1, a5, c5, by omega, by go_num, rfl, by rw [rowsF_succ]; exact ho5, (hb.trans ((hbt.alloc hbt.size _).mono hsz)).trans (hb5.mono (Nat.le_refl _))⟩
          case measure => simp [intOf]; omega
    · obtain rfl : c = j := by omega
      go_wp2
      go_ret
      exact ⟨_, _, rfl, ho, hb⟩
end Go.Proofs.YtkielldinghmbaaDoor
namespace Go.Rk
open Go.RowKit

section
variable {P : Program} {T E : TypeId} {B : Nat} {w : World}
theorem run_push_fresh (hT : IntTy P T E) (ty : TypeId) {a : Option Addr} {n cap blk c2 : Nat} {l : List Int} {z : Int} (hown : OwI w B E a n cap l) (hc : w.cell? ⟨blk, 0, none⟩ = some (.int .i64 z)) (hc2 : 1 ≤ c2) (hm2 : c2 ≤ maxLen)
    (hn : (n + 1) * 8 ≤ 140737488355328) (hB : B ≤ w.heap.size) :
    ∃ a' cap' w', (Builtin.append_ #[T, T] ty #[.slice a n cap, .slice (some ⟨blk, 0, none⟩) 1 c2]).run P w = .ok (.slice a' (n + 1) cap') w' ∧ OwI w' B E a' (n + 1) cap' (l ++ [z]) ∧ w.grownBy w' (Value.slice a n cap).ownBlock ∧
      ∀ b, (Value.slice a' (n + 1) cap').ownBlock = some b → some b = (Value.slice a n cap).ownBlock ∨ w.heap.size ≤ b := by
  have hr := RdI.one hc hc2 hm2
  obtain ⟨a', cap', w', hrun, h2, h3⟩ := run_append_ints (ty := ty) hT hown hr hn hB
  refine ⟨a', cap', w', hrun, h2, h3, fun b hb => ?_⟩
  obtain ⟨i, hi, hz, hs, hby⟩ := hT.hi
  rcases hown.own.2 with ⟨hv, h0⟩ | ⟨g, c, cur, hv, _, hg, hnc, hcm, hcs, htake⟩
  · injection hv with v1 v2 v3
    subst v1; subst v2; subst v3
    obtain rfl : l = [] := List.eq_nil_of_length_eq_zero hown.len_eq
    obtain ⟨a2, cap2, w2, hrun2, h4, _⟩ := run_append_ints (ty := ty) (B := w.heap.size) hT (OwI.nil w w.heap.size E) hr hn (Nat.le_refl _)
    rw [hrun] at hrun2
    injection hrun2 with e1 e2
    injection e1 with e3 _ e4
    subst e3
    subst e4
    exact .inr (h4.own.lt b (by rw [← hb])).1
  · injection hv with v1 v2 v3
    subst v1; subst v3
    by_cases hroom : n + 1 ≤ cap
    · have h5 := run_append_room (P := P) w T ty E i hT.ht hi g n cap cur hg ⟨blk, 0, none⟩ 1 c2 [.int .i64 z] (by rw [hs]; rfl) (by simpa using rd_cells hr) (oneCell_ints [z]) hroom (by rw [hs, hcs]; simp; omega)
      rw [hrun] at h5
      injection h5 with e1 e2
      injection e1 with e3 _ _
      subst e3
      exact .inl hb.symm
    · have holds : ∀ j u, (l.map (Value.int .i64))[j]? = some u → w.cell? ((⟨g, 0, none⟩ : Addr).add j) = some u := hown.own.cells (g := g) rfl
      have h5 := run_append_grow (P := P) w T ty E i (.int .i64 0) hT.ht hi hz ⟨g, 0, none⟩ n cap (l.map (Value.int .i64)) (by rw [hs]; simp [hown.len_eq]) holds ⟨blk, 0, none⟩ 1 c2 [.int .i64 z] (by rw [hs]; rfl) (by simpa using rd_cells hr) (by omega) (by omega) (growslice_fits (by omega) (by rw [hby]; exact hn))
      rw [hrun] at h5
      injection h5 with e1 e2
      injection e1 with e3 _ _
      subst e3
      right
      injection hb with hb
      rw [← hb]
      exact Nat.le_refl _

/-- append(s, z), and where it lies. -/
theorem wpList_push_int2 (hT : IntTy P T E) {ops : Array Oper} {rest : List Oper} {o : Oper} {ac : Act} {Q : Exit → Act → World → Prop} (hgd : o.guard = none) (s x : Operand)
    (ho : o.op = .call { callee := .builtin .append, args := #[s, x], argTypes := #[T, T] })
    {a : Option Addr} {n cap blk c2 : Nat} {l : List Int} {z : Int} (hs : ac.eval s = .slice a n cap) (hx : ac.eval x = .slice (some ⟨blk, 0, none⟩) 1 c2) (hown : OwI w B E a n cap l)
    (hc : w.cell? ⟨blk, 0, none⟩ = some (.int .i64 z)) (hc2 : 1 ≤ c2) (hm2 : c2 ≤ maxLen) (hn : (n + 1) * 8 ≤ 140737488355328) (hB : B ≤ w.heap.size)
    (h : ∀ a' cap' w', OwI w' B E a' (n + 1) cap' (l ++ [z]) → w.grownBy w' (Value.slice a n cap).ownBlock → (∀ b, (Value.slice a' (n + 1) cap').ownBlock = some b → some b = (Value.slice a n cap).ownBlock ∨ w.heap.size ≤ b) → wpList P ops Q rest (ac.put o.dst (.slice a' (n + 1) cap')) w') : wpList P ops Q (o :: rest) ac w := by
  refine wpList_plain hgd fun K hK => ?_
  obtain ⟨a', cap', w', hrun, h2, h3, h4⟩ := run_push_fresh (ty := o.type) hT hown hc hc2 hm2 hn hB
  unfold Oper.wp execOp
  simp only [ho, resolve, invoke, builtin, Sem.run_bind, Sem.run_pure, Result.andThen_ok, List.map_toArray, List.map_cons, List.map_nil, hs, hx, hrun]
  exact hK _ _ (h a' cap' w' h2 h3 h4)
/-- The same as one step of a region that draws its order. -/
theorem step_push_int2 (hT : IntTy P T E) {ops : Array Oper} {o : Oper} {ac : Act} {K : Act → World → Prop} {Q : Exit → Act → World → Prop} {F : Prop} (hgd : o.guard = none) (s x : Operand)
    (ho : o.op = .call { callee := .builtin .append, args := #[s, x], argTypes := #[T, T] })
    {a : Option Addr} {n cap blk c2 : Nat} {l : List Int} {z : Int} (hs : ac.eval s = .slice a n cap) (hx : ac.eval x = .slice (some ⟨blk, 0, none⟩) 1 c2) (hown : OwI w B E a n cap l)
    (hc : w.cell? ⟨blk, 0, none⟩ = some (.int .i64 z)) (hc2 : 1 ≤ c2) (hm2 : c2 ≤ maxLen) (hn : (n + 1) * 8 ≤ 140737488355328) (hB : B ≤ w.heap.size)
    (h : ∀ a' cap' w', OwI w' B E a' (n + 1) cap' (l ++ [z]) → w.grownBy w' (Value.slice a n cap).ownBlock → (∀ b, (Value.slice a' (n + 1) cap').ownBlock = some b → some b = (Value.slice a n cap).ownBlock ∨ w.heap.size ≤ b) → K (ac.put o.dst (.slice a' (n + 1) cap')) w') :
    if Region.wanted o (yielded ops ac.tmps) = true then Oper.wp P o ac w K Q else F := by
  have hw : Region.wanted o (yielded ops ac.tmps) = true := by simp [Region.wanted, hgd]
  rw [if_pos hw]
  obtain ⟨a', cap', w', hrun, h2, h3, h4⟩ := run_push_fresh (ty := o.type) hT hown hc hc2 hm2 hn hB
  unfold Oper.wp execOp
  simp only [ho, resolve, invoke, builtin, Sem.run_bind, Sem.run_pure, Result.andThen_ok, List.map_toArray, List.map_cons, List.map_nil, hs, hx, hrun]
  exact h a' cap' w' h2 h3 h4
end
end Go.Rk
namespace Go.Rk
open Go.RowKit

def pivL (M : List (List Int)) (a t : Nat) (l : List Int) : List (List Int) := (M.set a (rowOf M t)).set t l
def pivF {α : Type} (D : Nat → α) (a t : Nat) (p : α) : Nat → α := fun j => if j = t then p else if j = a then D t else D j
theorem pivL_len (M : List (List Int)) (a t : Nat) (l : List Int) : (pivL M a t l).length = M.length := by simp [pivL]
theorem rowOf_pivL {M : List (List Int)} {a t : Nat} (ha : a < M.length) (ht : t < M.length) (l : List Int) (j : Nat) : rowOf (pivL M a t l) j = if j = t then l else if j = a then rowOf M t else rowOf M j := by
  unfold pivL
  rw [rowOf_set, rowOf_set, List.length_set]
  by_cases h1 : j = t
  · subst h1; simp [ht]
  · by_cases h2 : j = a
    · subst h2; simp [h1, Ne.symm h1, ha]
    · simp [h1, h2, Ne.symm h1, Ne.symm h2]

section
variable {w w2 : World} {B T E g : Nat} {D C : Nat → Nat} {n cap : Nat} {M : List (List Int)}
theorem OwMD.pivot (h : OwMD w B T E g D C n cap M) (hne : T ≠ E) {a t : Nat} (ha : a < n) (ht : t < n) {p cr : Nat} {l : List Int}
    (hb : Below w.heap.size (w.setCell ⟨g, a, none⟩ (.slice (some ⟨D t, 0, none⟩) (rowOf M t).length (C t))) w2) (ho : OwI w2 w.heap.size E (some ⟨p, 0, none⟩) l.length cr l) (hB : B ≤ w.heap.size) :
    OwMD (w2.setCell ⟨g, t, none⟩ (.slice (some ⟨p, 0, none⟩) l.length cr)) B T E g (pivF D a t p) (pivF C a t cr) n cap (pivL M a t l) := by
  have hal : a < M.length := by rw [h.len_eq]; exact ha
  have htl : t < M.length := by rw [h.len_eq]; exact ht
  have hb' : Below (w.setCell ⟨g, a, none⟩ (.slice (some ⟨D t, 0, none⟩) (rowOf M t).length (C t))).heap.size (w.setCell ⟨g, a, none⟩ (.slice (some ⟨D t, 0, none⟩) (rowOf M t).length (C t))) w2 := by simpa using hb
  have hpl := ho.own.lt p rfl
  have hgl := h.lowO
  have s1 := (h.outer.stored a (.slice (some ⟨D t, 0, none⟩) (rowOf M t).length (C t))).1
  have s2 := s1.kept (row := none) ⟨hb'.os, hb'.tape, hb'.output, hb'.size, fun k hk _ => hb'.block k hk⟩ (.inr (by simp [Value.ownBlock]))
  have s3 := (s2.stored t (.slice (some ⟨p, 0, none⟩) l.length cr)).1
  refine ⟨by rw [pivL_len]; exact h.len_eq, ?_, fun j hj => ?_, fun i j hi hj hij => ?_⟩
  · have : ((List.range n).map fun j => Value.slice (some ⟨pivF D a t p j, 0, none⟩) (rowOf (pivL M a t l) j).length (pivF C a t cr j)) =
        (((List.range n).map fun j => Value.slice (some ⟨D j, 0, none⟩) (rowOf M j).length (C j)).set a (.slice (some ⟨D t, 0, none⟩) (rowOf M t).length (C t))).set t (.slice (some ⟨p, 0, none⟩) l.length cr) := by
      apply List.ext_getElem?
      intro j
      rcases Nat.lt_or_ge j n with h1 | h1
      · rw [List.getElem?_set, List.getElem?_set]
        simp only [List.length_set, List.length_map, List.length_range, List.getElem?_map]
        rw [List.getElem?_range h1]
        simp only [Option.map_some, rowOf_pivL hal htl, pivF]
        by_cases h2 : j = t
        · subst h2; simp [h1]
        · by_cases h3 : j = a
          · subst h3; simp [h2, Ne.symm h2, h1]
          · simp [h2, h3, Ne.symm h2, Ne.symm h3]
      · rw [List.getElem?_eq_none (by simp; omega), List.getElem?_eq_none (by simp; omega)]
    rw [this]
    exact s3
  · rw [rowOf_pivL hal htl]
    have keep : ∀ m, m < n → OwI (w2.setCell ⟨g, t, none⟩ (.slice (some ⟨p, 0, none⟩) l.length cr)) B E (some ⟨D m, 0, none⟩) (rowOf M m).length (C m) (rowOf M m) :=
      fun m hm => (((h.rows m hm).setElse (h.neO hne hm).symm _).below hb').setElse (h.neO hne hm).symm _
    simp only [pivF]
    by_cases h2 : j = t
    · simp only [h2, if_true]
      exact (ho.mono hB).setElse (by show g ≠ p; omega) _
    · by_cases h3 : j = a
      · simp only [h3, if_true]
        by_cases h4 : a = t
        · exact absurd (h3.trans h4) h2
        · simp only [if_neg h4]; exact keep t ht
      · simp only [h2, h3, if_false]; exact keep j hj
  · have lo : ∀ m, m < n → D m ≠ p := fun m hm => by have := (h.lowI hm).2; omega
    simp only [pivF]
    by_cases h1 : i = t
    · subst h1
      rw [if_pos rfl, if_neg (Ne.symm hij)]
      by_cases h2 : j = a
      · rw [if_pos h2]; exact (lo i ht).symm
      · rw [if_neg h2]; exact (lo j hj).symm
    · rw [if_neg h1]
      by_cases h2 : j = t
      · rw [if_pos h2]
        by_cases h3 : i = a
        · rw [if_pos h3]; exact lo t ht
        · rw [if_neg h3]; exact lo i hi
      · rw [if_neg h2]
        by_cases h3 : i = a
        · rw [if_pos h3, if_neg (fun e => hij (h3.trans e.symm))]; exact h.inj t j ht hj (Ne.symm h2)
        · rw [if_neg h3]
          by_cases h4 : j = a
          · rw [if_pos h4]; exact h.inj i t hi ht h1
          · rw [if_neg h4]; exact h.inj i j hi hj hij
end
end Go.Rk
