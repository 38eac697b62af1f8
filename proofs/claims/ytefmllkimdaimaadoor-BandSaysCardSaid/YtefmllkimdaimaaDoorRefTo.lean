/-
  The references' To (a matrix taken to a row), Unit, Pow walked.
-/
import Derived.Test.YtefmllkimdaimaaDoorRows
import Derived.Test.YtefmllkimdaimaaDoorLib
import Derived.Test.YtefmllkimdaimaaDoorRef
import Derived.Test.YtefmllkimdaimaaDoorRect
import Derived.Test.YtefmllkimdaimaaDoorMx
import Derived.Test.YtefmllkimdaimaaDoorElim
import Derived.Deep.QuietTactic
import Derived.BigQuiet
import Derived.StillTailTactics
namespace Go.Proofs.YtefmllkimdaimaaDoor
open Go.RowKit Go.Rk

/-- What a matrix takes a row to, by the prime. -/
def toV (M : List (List Int)) (l : List Int) (c i : Nat) : Int := sumTo (fun j => en M i j * ix l j) c % 9973
def toN (M : List (List Int)) (l : List Int) (c n : Nat) : List Int := (List.range n).map fun i => toV M l c i
theorem toN_len (M : List (List Int)) (l : List Int) (c n : Nat) : (toN M l c n).length = n := by simp [toN]
theorem toN_ix {M : List (List Int)} {l : List Int} {c n i : Nat} (h : i < n) : ix (toN M l c n) i = toV M l c i := by rw [ix_lt (by rw [toN_len]; exact h)]; simp [toN]
theorem toN_succ (M : List (List Int)) (l : List Int) (c n : Nat) : toN M l c (n + 1) = toN M l c n ++ [toV M l c n] := by simp [toN, List.range_succ]
theorem toV_in (M : List (List Int)) (l : List Int) (c i : Nat) : 0 ≤ toV M l c i ∧ toV M l c i ≤ 9972 := by unfold toV; omega
theorem toV_step (M : List (List Int)) (l : List Int) (c i : Nat) : (toV M l c i + en M i c * ix l c) % 9973 = toV M l (c + 1) i := by
  unfold toV
  rw [sumTo, Int.emod_add_emod]
set_option maxHeartbeats 2000000 in
theorem To_any {a b : Option Addr} {n c ca cb : Nat} {M : List (List Int)} {l : List Int} {w : World} (hM : RdM w a n ca M) (d : Dm n c M) (he : EntR 0 9972 n c M) (hl : RdI w b c cb l) (hi : In 0 9972 l) (hn : n ≤ 1000) :
    Calls Tryd.prog 20 #[.slice a n ca, .slice b c cb] w fun e w' => ∃ a' cap', e = .returned (.slice a' n cap') ∧ OwI w' w.heap.size 3 a' n cap' (toN M l c n) ∧ Below w.heap.size w w' := by
  have HIT := Lib.hid intTy
  have HD := Lib.hid d
  have HE := Lib.hid he
  have HI := Lib.hid hi
  have hm := hl.len_max
  have hle := hl.len_eq
  clear d he hi
  go_enter Tryd.func20, Tryd.ntmps20
  go_wp2
  go_loopw [5, 6] (fun v x wr => ∃ (k : Nat) (q : Option Addr) (cq : Nat), k ≤ n ∧ x = .int .i64 k ∧ v = .slice q k cq ∧ OwI wr w.heap.size 3 q k cq (toN M l c k) ∧ Below w.heap.size w wr) (fun _ x _ => n - (intOf x).toNat)
  case atStart => exact ⟨0, none, 0, Nat.zero_le _, rfl, rfl, OwI.nil _ _ _, Below.refl _ _⟩
  case round =>
    obtain ⟨k, q, cq, hk, rfl, rfl, ho, hb⟩ := hrel
    obtain ⟨wo, hwo⟩ : ∃ wo, wo = wr := ⟨_, rfl⟩
    subst hwo
    by_cases hlt : k < n
    · have hlt' : (k : Int) < (n : Int) := by omega
      go_wp2
      go_loopw [7, 8] (fun s x wr => ∃ (t r : Nat) (S : Int), t ≤ c ∧ x = .int .i64 t ∧ s = .int .i64 S ∧ Hid (S = toV M l t k) ∧ Hid (wr = wo.drewN r)) (fun _ x _ => c - (intOf x).toNat)
      case atStart => exact ⟨0, 0, 0, Nat.zero_le _, rfl, rfl, rfl, (World.drewN_zero _).symm⟩
      case round =>
        obtain ⟨t, r, S, ht, rfl, rfl, HS, HW⟩ := hrel
        have bS : 0 ≤ S ∧ S ≤ 9972 := by rw [HS.out]; exact toV_in _ _ _ _
        have kr : Below wo.heap.size wo wr := by rw [HW.out]; exact below_drewN (Below.refl _ _) r
        have hb' := hb.trans (kr.mono hb.size)
        by_cases htc : t < c
        · obtain ⟨bm, om, rfl, _, hr⟩ := (hM.below hb').at hlt
          obtain ⟨ar, cr, hcr, hrd⟩ := hr k hlt
          rw [HD.out.2 k hlt] at hcr hrd
          obtain ⟨p, o, rfl, _, hx⟩ := hrd.at htc
          replace hx := hx t htc
          obtain ⟨p2, o2, rfl, _, hy⟩ := (hl.below hb').at htc
          replace hy := hy t htc
          have m1 := HE.out k t hlt htc
          have m2 := HI.out t (by rw [hle]; exact htc)
          rw [show ix (rowOf M k) t = en M k t from rfl] at hx
          have HT := Lib.hid (toV_step M l t k)
          generalize hX : en M k t = X at hx m1 HT
          generalize hY : ix l t = Y at hy m2 HT
          have m3 : 0 ≤ X * Y ∧ X * Y ≤ 9972 * 9972 := ⟨Int.mul_nonneg m1.1 m2.1, Int.mul_le_mul m1.2 m2.2 m2.1 (by omega)⟩
          have u1 : IntKind.i64.wrap (X * Y) = X * Y := Go.IntWalk.i64_in _ (by omega)
          have u2 : IntKind.i64.wrap (S + X * Y) = S + X * Y := Go.IntWalk.i64_in _ (by omega)
          have i3 : (t : Int) < (c : Int) := by omega
          clear hr hrd hX hY
          go_wp2
          go_quiet ((go_at_call 66; exact quietW (R_Mod_any _ _ (by omega) (by omega))))
          clear u1 u2
          go_wp2
          go_roundw
          case rel => exact ⟨t + 1, r + nq, _, by omega, by go_num, rfl, by unfold Hid; rw [← HT.out, HS.out], by unfold Hid; rw [HW.out, World.drewN_drewN]⟩
          case measure => simp [intOf]; omega
        · obtain rfl : t = c := by omega
          have hsz := hb'.size
          have ho' := ho.below kr
          go_wp2_with (at_builtin; refine wpList_push_int HIT.out rfl (.tmp 36) (.tmp 38) rfl rfl rfl (ho'.alloc _) (z := S) (by simp) (by decide) (by decide) (by omega) (by simp; omega) ?_; intro a4 cap4 w4 ho4 hg4)
          have hb4 := below_grown (hb'.alloc hsz (.cells #[.int .i64 S] 3)) (ho'.alloc (.cells #[.int .i64 S] 3)) (by simp; omega) hg4
          go_roundw
          case rel => exact ⟨k + 1, a4, cap4, by omega, by go_num, rfl, by rw [toN_succ, ← HS.out]; exact ho4, hb4⟩
          case measure => simp [intOf]; omega
    · obtain rfl : k = n := by omega
      go_wp2
      go_ret
      exact ⟨q, cq, rfl, ho, hb⟩
theorem powm_half (a : Int) (n : Nat) (h : Int) (hh : h = powm (a * a % 9973) (n / 2)) : (n % 2 = 1 → h * a % 9973 = powm a n) ∧ (n % 2 = 0 → h = powm a n) := by
  have e : h = a ^ (2 * (n / 2)) % 9973 := by
    rw [hh]
    unfold powm
    rw [pow_emod, sq_pow]
  refine ⟨fun h1 => ?_, fun h1 => ?_⟩
  · rw [e, Int.mul_emod, Int.emod_emod_of_dvd _ (Int.dvd_refl _), ← Int.mul_emod, ← Int.pow_succ, show (2 * (n / 2)).succ = n by omega]
    rfl
  · rw [e, show 2 * (n / 2) = n by omega]
    rfl
theorem R_Pow_any : ∀ (m n : Nat) (a : Int) (w : World) (_ : n ≤ m) (_ : n ≤ 1000000) (_ : 0 ≤ a ∧ a ≤ 9972),
    Calls Tryd.prog 79 #[.int .i64 a, .int .i64 n] w fun e w' => e = .returned (.int .i64 (powm a n)) ∧ w = w' := by
  intro m
  induction m with
  | zero =>
    intro n a w hn _ ha
    obtain rfl : n = 0 := by omega
    go_enter Tryd.func79, Tryd.ntmps79
    go_wp2
    go_ret
    exact ⟨by show _ = Ending.returned (.int .i64 (a ^ 0 % 9973)); rw [Int.pow_zero]; rfl, rfl⟩
  | succ m ih =>
    intro n a w hn hn2 ha
    by_cases h0 : n = 0
    · subst h0
      go_enter Tryd.func79, Tryd.ntmps79
      go_wp2
      go_ret
      exact ⟨by show _ = Ending.returned (.int .i64 (a ^ 0 % 9973)); rw [Int.pow_zero]; rfl, rfl⟩
    · have C := Lib.hid (ih (n / 2) (a * a % 9973) w (by omega) (by omega) (by omega))
      have H := powm_half a n _ rfl
      obtain ⟨h, hh⟩ : ∃ h, powm (a * a % 9973) (n / 2) = h := ⟨_, rfl⟩
      have bh : 0 ≤ h ∧ h ≤ 9972 := by rw [← hh]; unfold powm; omega
      rw [hh] at C H
      clear hh ih
      have b1 : 0 ≤ a * a ∧ a * a ≤ 9972 * 9972 := ⟨Int.mul_nonneg ha.1 ha.1, Int.mul_le_mul ha.2 ha.2 ha.1 (by omega)⟩
      have b2 : 0 ≤ h * a ∧ h * a ≤ 9972 * 9972 := ⟨Int.mul_nonneg bh.1 ha.1, Int.mul_le_mul bh.2 ha.2 ha.1 (by omega)⟩
      have u1 : IntKind.i64.wrap (a * a) = a * a := Go.IntWalk.i64_in _ (by omega)
      have u2 : IntKind.i64.wrap (h * a) = h * a := Go.IntWalk.i64_in _ (by omega)
      have u3 : (a * a).tmod 9973 = a * a % 9973 := Int.tmod_eq_emod_of_nonneg b1.1
      have u4 : (h * a).tmod 9973 = h * a % 9973 := Int.tmod_eq_emod_of_nonneg b2.1
      have u5 : (n : Int).tdiv 2 = ((n / 2 : Nat) : Int) := by rw [Int.tdiv_eq_ediv_of_nonneg (by omega)]; omega
      have z0 : ((n : Int) == 0) = false := beq_eq_false_iff_ne.2 (by omega)
      by_cases hp : n % 2 = 1
      · have u6 : (n : Int).tmod 2 = 1 := by rw [Int.tmod_eq_emod_of_nonneg (by omega)]; omega
        have HR := Lib.hid (H.1 hp)
        clear H hp
        go_enter Tryd.func79, Tryd.ntmps79
        go_wp2_with (go_at_call 79; refine C.out.mono ?_; rintro e w' ⟨rfl, rfl⟩)
        go_ret
        exact ⟨by rw [← HR.out]; rfl, rfl⟩
      · have u6 : (n : Int).tmod 2 = 0 := by rw [Int.tmod_eq_emod_of_nonneg (by omega)]; omega
        have HR := Lib.hid (H.2 (by omega))
        clear H hp
        go_enter Tryd.func79, Tryd.ntmps79
        go_wp2_with (go_at_call 79; refine C.out.mono ?_; rintro e w' ⟨rfl, rfl⟩)
        go_ret
        exact ⟨by rw [← HR.out]; rfl, rfl⟩
end Go.Proofs.YtefmllkimdaimaaDoor
