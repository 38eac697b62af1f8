/-
  The walks of package recur.
-/
import Derived.Test.YtfocfgddlnjfmaaRows
import Derived.Test.YtfocfgddlnjfmaaLib
import Derived.Test.YtfocfgddlnjfmaaNum
namespace Go.Proofs.Ytfocfgddlnjfmaa
open Go.RowKit Go.Rk

def checkR (f s : List Int) : Option Int :=
  if f.length = 0 then some 5 else if 5 < f.length then some 4 else if s.length ≠ f.length then some 3 else if anyB 0 9972 f || anyB 0 9972 s then some 1 else none

set_option maxHeartbeats 400000 in
theorem check_any (a1 a2 : Option Addr) (n1 c1 n2 c2 : Nat) (f s : List Int) (w : World) (hf : RdI w a1 n1 c1 f) (hs : RdI w a2 n2 c2 s) :
    Calls Try.prog 54 #[.slice a1 n1 c1, .slice a2 n2 c2] w fun e w' => e = .returned (errV (checkR f s)) ∧ w = w' := by
  have hm1 := hf.len_max
  have hm2 := hs.len_max
  have A1 := any_any a1 n1 c1 f 0 9972 w hf
  have A2 := any_any a2 n2 c2 s 0 9972 w hs
  have B1 := Lib.hid hf.len_eq
  have B2 := Lib.hid hs.len_eq
  rcases h1 : anyB 0 9972 f <;> rcases h2 : anyB 0 9972 s
  all_goals
    rw [h1] at A1
    rw [h2] at A2
    have H1 := Lib.hid h1
    have H2 := Lib.hid h2
    clear h1 h2
    have A1' := Lib.hid A1
    have A2' := Lib.hid A2
    clear A1 A2
    go_enter Try.func54, Try.ntmps54
    go_wp2_with (go_at_call 72; first | ((with_reducible refine A1'.out.mono ?_); rintro e w' ⟨rfl, rfl⟩) | ((with_reducible refine A2'.out.mono ?_); rintro e w' ⟨rfl, rfl⟩))
  all_goals
    go_ret
    refine ⟨?_, rfl⟩
    unfold checkR
    rw [B1.out, B2.out, H1.out, H2.out]
    (try simp only [beq_iff_eq, bne_iff_ne, beq_eq_false_iff_ne, bne_eq_false_iff_eq, ne_eq] at *)
    (repeat' split) <;> first | rfl | (exfalso; omega) | (exfalso; contradiction)

theorem ret_int' {k : IntKind} {a b : Int} (h : a = b) : Value.int k a = .int k b := by rw [h]

/-- The sum of the first k products for the next number of a row. -/
def sumR (f out : List Int) : Nat → Int
  | 0 => 0
  | k + 1 => sumR f out k + ix f k * ix out (out.length - 1 - k)
def nextR (f out : List Int) : Int := sumR f out f.length % 9973
/-- The first n numbers of the row. -/
def rowN (f s : List Int) : Nat → List Int
  | 0 => []
  | n + 1 => rowN f s n ++ [if n < s.length then ix s n else nextR f (rowN f s n)]

theorem rowN_len (f s : List Int) (n : Nat) : (rowN f s n).length = n := by
  induction n with
  | zero => rfl
  | succ n ih => simp [rowN, ih]

theorem rowN_take (f s : List Int) (n : Nat) (h : n ≤ s.length) : rowN f s n = s.take n := by
  induction n with
  | zero => rfl
  | succ n ih => rw [rowN, ih (by omega), if_pos (by omega), take_succ_ix (by omega)]

theorem in_append {lo hi : Int} {l : List Int} {x : Int} (h : In lo hi l) (h1 : lo ≤ x) (h2 : x ≤ hi) : In lo hi (l ++ [x]) := by
  intro k hk
  simp at hk
  rcases Nat.lt_or_ge k l.length with hlt | hge
  · rw [ix_append_left hlt]; exact h k hlt
  · rw [ix_append_right hge, show k - l.length = 0 from by omega]; exact ⟨h1, h2⟩

theorem rowN_in (f s : List Int) (n : Nat) (hs : In 0 9972 s) : In 0 9972 (rowN f s n) := by
  induction n with
  | zero => intro k hk; simp [rowN] at hk
  | succ n ih =>
    rw [rowN]
    split
    · next h => exact in_append ih (hs n h).1 (hs n h).2
    · exact in_append ih (by unfold nextR; omega) (by unfold nextR; omega)

theorem sumR_bd {f out : List Int} (hf : In 0 9972 f) (ho : In 0 9972 out) : ∀ k, k ≤ f.length → k ≤ out.length → 0 ≤ sumR f out k ∧ sumR f out k ≤ 99440784 * k := by
  intro k
  induction k with
  | zero => intro _ _; simp [sumR]
  | succ k ih =>
    intro h1 h2
    obtain ⟨i1, i2⟩ := ih (by omega) (by omega)
    obtain ⟨f1, f2⟩ := hf k (by omega)
    obtain ⟨o1, o2⟩ := ho (out.length - 1 - k) (by omega)
    have p1 := Int.mul_nonneg f1 o1
    have p2 : ix f k * ix out (out.length - 1 - k) ≤ 9972 * 9972 := Int.mul_le_mul f2 o2 o1 (by omega)
    rw [sumR]
    omega

set_option maxHeartbeats 1000000 in
theorem row_any (a1 a2 : Option Addr) (n1 c1 n2 c2 : Nat) (f s : List Int) (many : Nat) (w : World) (hf : RdI w a1 n1 c1 f) (hs : RdI w a2 n2 c2 s)
    (if_ : In 0 9972 f) (is_ : In 0 9972 s) (hlen : n1 ≤ n2) (h0 : 0 < n2) (h5 : n2 ≤ 1000) (hm : many ≤ 1001) :
    Calls Try.prog 55 #[.slice a1 n1 c1, .slice a2 n2 c2, .int .i64 many] w fun e w' =>
      ∃ a cap, e = .returned (.slice a many cap) ∧ OwI w' w.heap.size 3 a many cap (rowN f s many) ∧ Below w.heap.size w w' := by
  obtain ⟨b2, o2, rfl, hb2, hc2⟩ := hs.at h0
  have q1 := hs.le
  have q2 := hs.max
  have HS := Lib.hid hs.len_eq
  have HB := Lib.hid (rfl : w.heap.size = w.heap.size)
  have HF := Lib.hid hf.len_eq
  have HIT := Lib.hid intTy
  have hb1 : Below w.heap.size w w := Below.refl _ _
  rcases Nat.lt_or_ge n2 many with hlt | hge
  · go_enter Try.func55, Try.ntmps55
    go_wp2_with (at_builtin; refine wpList_append_ints HIT.out rfl (.const (.slice none 0 0)) (.tmp 16) rfl rfl rfl (OwI.nil w w.heap.size _) hs (by omega) (Nat.le_refl _) ?_; intro a3 cap3 w3 hown3 hg3)
    have hb3 := below_grown hb1 (OwI.nil w w.heap.size 3) (Nat.le_refl _) hg3
    go_loopw [7] (fun v wr => ∃ (n : Nat) (a : Option Addr) (cap : Nat), v = .slice a n cap ∧ n ≤ many ∧ n2 ≤ n ∧ OwI wr w.heap.size 3 a n cap (rowN f s n) ∧ Below w.heap.size w wr) (fun v _ => many - lenOf v)
    case atStart => exact ⟨n2, a3, cap3, by simp, by omega, by omega, by rw [rowN_take f s n2 (by rw [HS.out]; exact Nat.le_refl _), List.take_of_length_le (by rw [HS.out]; exact Nat.le_refl _)]; simpa using hown3, hb3⟩
    case round =>
      obtain ⟨n, a, cap, rfl, hn1, hn2, hown, hb⟩ := hrel
      have hrd := hown.rd
      have hf' := hf.below hb
      have hcap := hown.caps
      unfold maxLen at hcap
      by_cases hl : n < many
      · go_wp2_with fail
        have hout := rowN_in f s n is_
        have hln := rowN_len f s n
        have bd := sumR_bd if_ hout
        obtain ⟨g, rfl, hg1, hg2, hcell, hfrz⟩ := hown.at (by omega)
        have hf0 := hf'.len_eq
        have HO := Lib.hid hout
        have HL := Lib.hid hln
        have HBd := Lib.hid bd
        have HF0 := Lib.hid hf0
        clear hout hln bd hf0
        go_loop [8, 24] (fun v i => ∃ k : Nat, k ≤ n1 ∧ i = .int .i64 k ∧ v = .int .i64 (sumR f (rowN f s n) k)) (fun _ i => n1 - (intOf i).toNat)
        case atStart => exact ⟨0, by omega, rfl, rfl⟩
        case round =>
          obtain ⟨k, hk, rfl, rfl⟩ := hrel
          by_cases hkl : k < n1
          · obtain ⟨b1, o1, rfl, _, hc1⟩ := hf'.at hkl
            have hc1 := hc1 k hkl
            have hc3 : wr.cell? ⟨g, n - 1 - k, none⟩ = some (.int .i64 (ix (rowN f s n) (n - 1 - k))) := hcell _ (by omega)
            have bd1 := HBd.out k (by rw [HF0.out]; omega) (by rw [HL.out]; omega)
            have bf := if_ k (by rw [HF0.out]; omega)
            have bo := HO.out (n - 1 - k) (by rw [HL.out]; omega)
            have bp := mul_bd bf bo
            go_wp2
            go_round
            case rel => exact ⟨k + 1, by omega, by go_num, ret_int' (by rw [sumR, HL.out])⟩
            case measure => simp [intOf]; omega
          · obtain rfl : k = n1 := by omega
            have bd1 := HBd.out k (by rw [HF0.out]; exact Nat.le_refl _) (by rw [HL.out]; omega)
            have hz : sumR f (rowN f s n) k % 9973 = nextR f (rowN f s n) := by unfold nextR; rw [HF0.out]
            have HZ := Lib.hid hz
            clear hz
            go_wp2_with (at_builtin; refine wpList_push_int HIT.out rfl (.tmp 42) (.tmp 45) rfl rfl rfl (hown.alloc _) (z := nextR f (rowN f s n)) (by simp; exact HZ.out) (by decide) (by decide) (by omega) (by simp; omega) ?_; intro a4 cap4 w4 hown4 hg4)
            have hb4 := below_grown (hb.alloc (by omega) _) (hown.alloc _) (by simp; omega) hg4
            go_roundw
            case rel => exact ⟨n + 1, a4, cap4, rfl, by omega, by omega, by rw [rowN, if_neg (by rw [HS.out]; omega)]; exact hown4, hb4⟩
            case measure => simp [lenOf]; omega
      · obtain rfl : n = many := by omega
        go_wp2
        go_ret
        exact ⟨a, cap, rfl, hown, hb⟩
  · go_enter Try.func55, Try.ntmps55
    have hs' := hs.take hge
    go_wp2_with (at_builtin; refine wpList_append_ints HIT.out rfl (.const (.slice none 0 0)) (.tmp 16) rfl rfl rfl (OwI.nil w w.heap.size _) hs' (by omega) (Nat.le_refl _) ?_; intro a3 cap3 w3 hown3 hg3)
    have hb3 := below_grown hb1 (OwI.nil w w.heap.size 3) (Nat.le_refl _) hg3
    refine wp_loop_rounds 1 ?_
    rw [rounds_succ]
    go_wp2
    go_ret
    refine ⟨a3, cap3, by simp, ?_, hb3⟩
    rw [rowN_take f s many (by rw [HS.out]; exact hge)]
    simpa using hown3

theorem check_is {r : Option Int} {a1 a2 : Option Addr} {n1 c1 n2 c2 : Nat} {f s : List Int} {w : World} (hf : RdI w a1 n1 c1 f) (hs : RdI w a2 n2 c2 s) (h : checkR f s = r) :
    Calls Try.prog 54 #[.slice a1 n1 c1, .slice a2 n2 c2] w fun e w' => e = .returned (errV r) ∧ w = w' := by
  have := check_any a1 a2 n1 c1 n2 c2 f s w hf hs
  rw [h] at this
  exact this

/-- What is wrong with a call of Row or Term. -/
def rowErr (f s : List Int) (many : Int) : Option Int := if checkR f s = none then (if outB many 0 1000 then some 1 else none) else checkR f s

theorem checkR_none {f s : List Int} (h : checkR f s = none) : 1 ≤ f.length ∧ f.length ≤ 5 ∧ s.length = f.length ∧ In 0 9972 f ∧ In 0 9972 s := by
  unfold checkR at h
  split at h
  · cases h
  split at h
  · cases h
  split at h
  · cases h
  split at h
  · cases h
  next h1 h2 h3 h4 =>
    simp at h4
    exact ⟨by omega, by omega, by omega, in_of_any h4.1, in_of_any h4.2⟩

theorem rowErr_none {f s : List Int} {many : Int} (h : rowErr f s many = none) : checkR f s = none ∧ 0 ≤ many ∧ many ≤ 1000 := by
  unfold rowErr at h
  split at h
  · next h1 =>
    refine ⟨h1, ?_⟩
    split at h
    · cases h
    · next h2 => simp [outB] at h2; omega
  · next h1 => exact absurd h h1

section
variable {a1 a2 : Option Addr} {n1 c1 n2 c2 : Nat} {f s : List Int} {w : World}

set_option maxHeartbeats 1000000 in
theorem Term_err {many c : Int} (hf : RdI w a1 n1 c1 f) (hs : RdI w a2 n2 c2 s) (h : rowErr f s many = some c) :
    Calls Try.prog 24 #[.slice a1 n1 c1, .slice a2 n2 c2, .int .i64 many] w fun e w' => e = .returned (.tuple #[.int .i64 0, .iface 64 (.int .i64 c)]) ∧ w = w' := by
  unfold rowErr at h
  split at h
  · next h1 =>
    have A1 := Lib.hid (check_is hf hs h1)
    split at h
    · next h2 =>
      injection h with h
      subst h
      have H2 := Lib.hid h2
      clear h1 h2
      go_enter Try.func24, Try.ntmps24
      go_wp2_with (first | (go_at_call 54; refine A1.out.mono ?_; rintro e w' ⟨rfl, rfl⟩; simp only [errV]) | (go_at_call 50; refine (out_any _ _ _ _).mono ?_; rintro e w' ⟨rfl, rfl⟩; rw [H2.out]))
      go_ret2
      exact ⟨rfl, rfl⟩
    · cases h
  · have A1 := Lib.hid (check_is hf hs h)
    clear h
    go_enter Try.func24, Try.ntmps24
    go_wp2_with (go_at_call 54; refine A1.out.mono ?_; rintro e w' ⟨rfl, rfl⟩; simp only [errV])
    go_ret2
    exact ⟨rfl, rfl⟩

theorem rowN_ix (f s : List Int) (n m : Nat) (k : Nat) (h : k < n) (hm : n ≤ m) : ix (rowN f s m) k = ix (rowN f s n) k := by
  induction m with
  | zero => omega
  | succ m ih =>
    rcases Nat.lt_or_ge m n with h1 | h1
    · obtain rfl : n = m + 1 := by omega
      rfl
    · rw [rowN, ix_append_left (by rw [rowN_len]; omega), ih h1]

set_option maxHeartbeats 1000000 in
theorem Term_okN {many : Nat} (hf : RdI w a1 n1 c1 f) (hs : RdI w a2 n2 c2 s) (h : rowErr f s many = none) :
    Calls Try.prog 24 #[.slice a1 n1 c1, .slice a2 n2 c2, .int .i64 many] w fun e w' =>
      e = .returned (.tuple #[.int .i64 (ix (rowN f s (many + 1)) many), .nilIface]) ∧ Below w.heap.size w w' := by
  obtain ⟨h1, h2, h3⟩ := rowErr_none h
  obtain ⟨g1, g2, g3, g4, g5⟩ := checkR_none h1
  have A1 := Lib.hid (check_is hf hs h1)
  have H2 : Hid (outB (many : Int) 0 1000 = false) := by unfold Hid outB; simp; omega
  have e1 := hf.len_eq
  have e2 := hs.len_eq
  have A2 := Lib.hid (row_any a1 a2 n1 c1 n2 c2 f s (many + 1) w hf hs g4 g5 (by omega) (by omega) (by omega) (by omega))
  clear e1 e2 h1 h g3
  go_enter Try.func24, Try.ntmps24
  go_wp2_with (first | (go_at_call 54; refine A1.out.mono ?_; rintro e w' ⟨rfl, rfl⟩; simp only [errV]) | (go_at_call 50; refine (out_any _ _ _ _).mono ?_; rintro e w' ⟨rfl, rfl⟩; rw [H2.out]) | (go_at_call 55; refine A2.out.mono ?_; rintro e w' ⟨a, cap, rfl, ho, hb⟩; obtain ⟨g, rfl, _, _, hc, _⟩ := ho.at (Nat.succ_pos _); have hc0 := hc many (Nat.lt_succ_self _)))
  go_ret2
  exact ⟨rfl, hb⟩

theorem Term_ok {many : Int} (hf : RdI w a1 n1 c1 f) (hs : RdI w a2 n2 c2 s) (h : rowErr f s many = none) :
    Calls Try.prog 24 #[.slice a1 n1 c1, .slice a2 n2 c2, .int .i64 many] w fun e w' =>
      e = .returned (.tuple #[.int .i64 (ix (rowN f s (many.toNat + 1)) many.toNat), .nilIface]) ∧ Below w.heap.size w w' := by
  obtain ⟨_, h2, _⟩ := rowErr_none h
  obtain ⟨m, rfl⟩ := Int.eq_ofNat_of_zero_le h2
  exact Term_okN hf hs h
end

end Go.Proofs.Ytfocfgddlnjfmaa
