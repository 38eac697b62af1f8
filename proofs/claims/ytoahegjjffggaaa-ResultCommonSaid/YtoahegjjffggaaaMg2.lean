/-
  The walks of the functions of package num and of the references' small ones.
  Short words: what grows, and grows again; slices and matrices of two, read off their cells. No program in sight.
  The walks of the references' small functions, and of the small functions of the statements' own packages.
  Matrices of a call's own whose rows' places are known by name: for loops that store into them. No program in sight.
-/
import Derived.Test.YtoahegjjffggaaaRows
import Derived.Deep.QuietTactic
import Derived.BigQuiet
import Derived.Test.YtoahegjjffggaaaMg0
import Derived.Test.YtoahegjjffggaaaMg1
namespace Go.Proofs.Ytoahegjjffggaaa
open Go.RowKit Go.Rk

theorem infoInt : (Try.prog.info? 3).map (fun i => (i.zero, i.size, i.bytes)) = some (some (.int .i64 0), 1, 8) := by kernel_rfl
theorem intTy : IntTy Try.prog 22 3 := by
  obtain ⟨i0, hi, h0, h1, h2⟩ := info_parts infoInt
  exact ⟨Try.underlying22, ⟨i0, hi, h0, h1, h2⟩⟩

/-- An error: none, or its number. -/
def errV : Option Int → Value
  | none => .nilIface
  | some c => .iface 59 (.int .i64 c)

theorem infoInts : (Try.prog.info? 22).map (fun i => (i.zero, i.size, i.bytes)) = some (some (.slice none 0 0), 1, 24) := by kernel_rfl
theorem matTy : MatTy Try.prog 43 22 3 := by
  obtain ⟨i0, hi, h0, h1, h2⟩ := info_parts infoInts
  exact ⟨Try.underlying43, ⟨i0, hi, h0, h1, h2⟩, intTy, by decide⟩
theorem ret_bool {a b : Bool} (h : a = b) : Ending.returned (.bool a) = .returned (.bool b) := by rw [h]
theorem ret_int {k : IntKind} {a b : Int} (h : a = b) : Ending.returned (.int k a) = .returned (.int k b) := by rw [h]

def outB (n lo hi : Int) : Bool := decide (n < lo) || decide (hi < n)

theorem out_any (n lo hi : Int) (w : World) :
    Calls Try.prog 50 #[.int .i64 n, .int .i64 lo, .int .i64 hi] w fun e w' => e = .returned (.bool (outB n lo hi)) ∧ w = w' := by
  go_enter Try.func50, Try.ntmps50
  go_wp2
  all_goals (go_ret; refine ⟨ret_bool ?_, rfl⟩; unfold outB; simp; try omega)

def anyB (lo hi : Int) (l : List Int) : Bool := l.any fun n => outB n lo hi

theorem anyB_take (lo hi : Int) {l : List Int} {k : Nat} (h : k < l.length) (h0 : anyB lo hi (l.take k) = false) (h1 : outB (ix l k) lo hi = false) : anyB lo hi (l.take (k + 1)) = false := by
  rw [take_succ_ix h]
  unfold anyB at *
  simp [h0, h1]
theorem anyB_hit (lo hi : Int) {l : List Int} {k : Nat} (h : k < l.length) (h1 : outB (ix l k) lo hi = true) : anyB lo hi l = true := by
  unfold anyB
  exact List.any_eq_true.2 ⟨_, ix_mem h, h1⟩

theorem any_of_in {l : List Int} {lo hi : Int} (h : In lo hi l) : anyB lo hi l = false := by
  refine List.any_eq_false.2 fun x hx => ?_
  obtain ⟨k, hk, rfl⟩ := List.mem_iff_getElem.1 hx
  have := h k hk
  rw [ix_lt hk] at this
  simp [outB]
  omega

theorem in_of_any {l : List Int} {lo hi : Int} (h : anyB lo hi l = false) : In lo hi l := by
  intro k hk
  have h1 := List.any_eq_false.1 h (ix l k) (ix_mem hk)
  simp [outB] at h1
  omega

set_option maxHeartbeats 400000 in
theorem any_any (a : Option Addr) (len cap : Nat) (l : List Int) (lo hi : Int) (w : World) (h : RdI w a len cap l) :
    Calls Try.prog 68 #[.slice a len cap, .int .i64 lo, .int .i64 hi] w fun e w' => e = .returned (.bool (anyB lo hi l)) ∧ w = w' := by
  have hm := h.len_max
  go_enter Try.func68, Try.ntmps68
  go_wp2
  go_loop [11] (fun i => ∃ k : Nat, k ≤ len ∧ i = .int .i64 k ∧ Hid (anyB lo hi (l.take k) = false)) (fun i => len - (intOf i).toNat)
  case atStart => exact ⟨0, Nat.zero_le _, rfl, rfl⟩
  case round =>
    obtain ⟨k, hk, rfl, hno⟩ := hrel
    by_cases hlt : k < len
    · obtain ⟨b, off, rfl, _, hc⟩ := h.at hlt
      have hc := hc k hlt
      have hl : k < l.length := by have := h.len_eq; omega
      rcases ho : outB (ix l k) lo hi
      · have Ho := Lib.hid ho
        clear ho
        go_wp2_with (go_at_call 50; refine (out_any _ _ _ _).mono ?_; rintro e w' ⟨rfl, rfl⟩; rw [Ho.out])
        go_round
        case rel => exact ⟨k + 1, by omega, by go_num, anyB_take _ _ hl hno Ho.out⟩
        case measure => simp [intOf]; omega
      · have Ho := Lib.hid ho
        clear ho
        go_wp2_with (go_at_call 50; refine (out_any _ _ _ _).mono ?_; rintro e w' ⟨rfl, rfl⟩; rw [Ho.out])
        go_ret
        exact ⟨ret_bool (anyB_hit _ _ hl Ho.out).symm, rfl⟩
    · go_wp2
      go_ret
      refine ⟨ret_bool ?_, rfl⟩
      rw [← hno.out, List.take_of_length_le (by have := h.len_eq; omega)]

theorem Mod_any (n m : Int) (w : World) (hm : 0 < m) (h2 : m ≤ 1000000) :
    Calls Try.prog 87 #[.int .i64 n, .int .i64 m] w fun e w' => e = .returned (.int .i64 (n % m)) ∧ w = w' := by
  obtain ⟨b1, b2, b3⟩ := tmod_facts n hm
  have B3 := Lib.hid b3
  have h5 : (m == 0) = false := by simp; omega
  clear b3
  go_enter Try.func87, Try.ntmps87
  go_wp2
  all_goals
    go_ret
    refine ⟨ret_int ?_, rfl⟩
    first | exact B3.out | (rw [← Int.tmod_eq_emod_of_nonneg (by omega)]; exact B3.out) | (rw [Int.emod_eq_of_lt (by omega) (by omega)]; exact B3.out)
theorem Field_any (n : Int) (w : World) :
    Calls Try.prog 62 #[.int .i64 n] w fun e w' => e = .returned (.int .i64 (n % 9973)) ∧ w = w' := by
  have C := Lib.hid (Mod_any n 9973 w (by decide) (by decide))
  go_enter Try.func62, Try.ntmps62
  go_wp2_with (go_at_call 87; refine C.out.mono ?_; rintro e w' ⟨rfl, rfl⟩)
  go_ret
  exact ⟨rfl, rfl⟩
set_option maxHeartbeats 1000000 in
theorem Power_any (a : Int) (n : Nat) (w : World) (h1 : 0 ≤ a) (h2 : a ≤ 9972) (h3 : n ≤ 1000000) :
    Calls Try.prog 66 #[.int .i64 a, .int .i64 n] w fun e w' => e = .returned (.int .i64 (powm a n)) ∧ w = w' := by
  go_enter Try.func66, Try.ntmps66
  go_wp2
  go_loop [0, 1, 5] (fun x k o => ∃ (b o' : Int) (m : Nat), x = .int .i64 b ∧ k = .int .i64 m ∧ o = .int .i64 o' ∧ 0 ≤ b ∧ b ≤ 9972 ∧ 0 ≤ o' ∧ o' ≤ 9972 ∧ m ≤ n ∧ Hid (o' * b ^ m % 9973 = powm a n)) (fun _ k _ => (intOf k).toNat)
  case atStart => exact ⟨a, 1, n, rfl, rfl, rfl, h1, h2, by decide, by decide, Nat.le_refl _, by unfold Hid powm; rw [Int.one_mul]⟩
  case round =>
    obtain ⟨b, o', m, rfl, rfl, rfl, hb1, hb2, ho1, ho2, hm, he⟩ := hrel
    have p1 := mul_bd ⟨ho1, ho2⟩ ⟨hb1, hb2⟩
    have p2 := mul_bd ⟨hb1, hb2⟩ ⟨hb1, hb2⟩
    by_cases h0 : 0 < m
    · rcases Nat.mod_two_eq_zero_or_one m with hp | hp
      · have hp' : ((m : Int) % 2 == 1) = false := by simp; omega
        have Hp := Lib.hid hp
        clear hp
        go_wp2
        go_round
        case rel => exact ⟨b * b % 9973, o', m / 2, rfl, by go_num, rfl, by omega, by omega, ho1, ho2, by omega, powm_even he.out Hp.out⟩
        case measure => simp [intOf]; omega
      · have hp' : ((m : Int) % 2 == 1) = true := by simp; omega
        have Hp := Lib.hid hp
        clear hp
        go_wp2
        go_round
        case rel => exact ⟨b * b % 9973, o' * b % 9973, m / 2, rfl, by go_num, rfl, by omega, by omega, by omega, by omega, by omega, powm_odd he.out Hp.out⟩
        case measure => simp [intOf]; omega
    · obtain rfl : m = 0 := by omega
      go_wp2
      go_ret
      refine ⟨ret_int ?_, rfl⟩
      rw [← he.out]
      simp
      omega
theorem Over_any (a : Int) (w : World) (h1 : 0 ≤ a) (h2 : a ≤ 9972) :
    Calls Try.prog 52 #[.int .i64 a] w fun e w' => e = .returned (.int .i64 (powm a 9971)) ∧ w = w' := by
  have C := Lib.hid (Power_any a 9971 w h1 h2 (by decide))
  go_enter Try.func52, Try.ntmps52
  go_wp2_with (go_at_call 66; refine C.out.mono ?_; rintro e w' ⟨rfl, rfl⟩)
  go_ret
  exact ⟨rfl, rfl⟩
set_option maxHeartbeats 1000000 in
theorem Grid_any (n m : Nat) (w : World) (hn : n ≤ 1000) (hm : m ≤ 1000) :
    Calls Try.prog 64 #[.int .i64 n, .int .i64 m] w fun e w' => ∃ a cap, e = .returned (.slice a n cap) ∧ OwM w' w.heap.size 22 3 a n cap (List.replicate n (List.replicate m 0)) ∧ Below w.heap.size w w' := by
  have HM := Lib.hid matTy
  go_enter Try.func64, Try.ntmps64
  go_wp2_with (at_make; refine wpList_make_rows HM.out rfl (.tmp 7) (.tmp 7) rfl rfl rfl (by omega) ?_; intro w1 ho1 hb1)
  go_loopw [11] (fun i wr => ∃ (k : Nat), k ≤ n ∧ i = .int .i64 k ∧ OwM wr w.heap.size 22 3 (some ⟨w.heap.size, 0, none⟩) n n (gridN n m k) ∧ Below w.heap.size w wr) (fun i _ => n - (intOf i).toNat)
  case atStart => exact ⟨0, Nat.zero_le _, rfl, ho1, hb1⟩
  case round =>
    obtain ⟨k, hk, rfl, ho, hb⟩ := hrel
    by_cases hlt : k < n
    · have hsz := hb.size
      go_wp2_with (at_make; refine wpList_make_ints HM.out.int rfl (.tmp 16) (.tmp 16) rfl rfl rfl (by omega) ?_; intro w2 ho2 hb2; obtain ⟨g, hg, hg1, hg2, hfz, hrow⟩ := (ho.below hb2).at hlt; injection hg with hg; injection hg with hg; subst hg; obtain ⟨ar, cr, hc, _⟩ := hrow k hlt; have hf := hfz k)
      have hs := ho.setFresh (g := w.heap.size) (k := k) hlt rfl hb2 ho2 hsz HM.out.ne
      go_roundw
      case rel => exact ⟨k + 1, by omega, by go_num, hs, (hb.trans (hb2.mono hsz)).setCell (by simp) _⟩
      case measure => simp [intOf]; omega
    · obtain rfl : k = n := by omega
      go_wp2
      go_ret
      exact ⟨_, _, rfl, by rw [← gridN_full]; exact ho, hb⟩
set_option maxHeartbeats 1000000 in
theorem Copy_any {a : Option Addr} {n cap : Nat} {M : List (List Int)} {w : World} (h : RdM w a n cap M) (hn : n ≤ 1000) (hl : ∀ k, k < n → (rowOf M k).length ≤ 1000) :
    Calls Try.prog 78 #[.slice a n cap] w fun e w' => ∃ a' cap', e = .returned (.slice a' n cap') ∧ OwM w' w.heap.size 22 3 a' n cap' M ∧ Below w.heap.size w w' := by
  have HM := Lib.hid matTy
  have E1 := Lib.hid h.len_eq
  go_enter Try.func78, Try.ntmps78
  go_wp2_with (at_make; refine wpList_make_rows HM.out rfl (.tmp 7) (.tmp 7) rfl rfl rfl (by omega) ?_; intro w1 ho1 hb1)
  go_loopw [11] (fun i wr => ∃ (k : Nat), k ≤ n ∧ i = .int .i64 k ∧ OwM wr w.heap.size 22 3 (some ⟨w.heap.size, 0, none⟩) n n (copyN M n k) ∧ Below w.heap.size w wr) (fun i _ => n - (intOf i).toNat)
  case atStart => exact ⟨0, Nat.zero_le _, rfl, ho1, hb1⟩
  case round =>
    obtain ⟨k, hk, rfl, ho, hb⟩ := hrel
    by_cases hlt : k < n
    · have hsz := hb.size
      obtain ⟨b, off, rfl, hbl, hr⟩ := h.at hlt
      obtain ⟨ar, cr, hc, hrd⟩ := hr k hlt
      have hc := hb.keep hbl hc
      have hrd := hrd.below hb
      have hlk := hl k hlt
      have hrl := hrd.le
      go_wp2_with (at_builtin; refine wpList_append_ints HM.out.int rfl (.const (.slice none 0 0)) (.tmp 18) rfl rfl rfl (OwI.nil wr wr.heap.size _) hrd (by omega) (Nat.le_refl _) ?_; intro a3 cap3 w3 ho3 hg3; have hb3 := below_of_grown hg3; obtain ⟨g, hg, hg1, hg2, hfz, hrow⟩ := (ho.below hb3).at hlt; injection hg with hg; injection hg with hg; subst hg; obtain ⟨ar2, cr2, hc2, _⟩ := hrow k hlt; have hf := hfz k; have hc2 := hc2)
      rw [Nat.zero_add] at ho3
      have hs := ho.setFresh (g := w.heap.size) (k := k) hlt rfl hb3 ho3 hsz HM.out.ne
      go_roundw
      case rel => exact ⟨k + 1, by omega, by go_num, by rw [copyN]; simpa using hs, (hb.trans (hb3.mono hsz)).setCell (by simp) _⟩
      case measure => simp [intOf]; omega
    · obtain rfl : k = n := by omega
      go_wp2
      go_ret
      exact ⟨_, _, rfl, by rw [← copyN_full E1.out]; exact ho, hb⟩
/-- What is wrong with a row beside the first one. -/
def rowErr1 (lo hi : Int) (m : Nat) (l : List Int) : Option Int := if l.length ≠ m then some 3 else if anyB lo hi l then some 1 else none
/-- What is wrong with the first row with which something is. -/
def rowsErr (lo hi : Int) (m : Nat) (M : List (List Int)) : Option Int := M.foldl (fun r l => match r with | none => rowErr1 lo hi m l | some c => some c) none

theorem rowsErr_take {lo hi : Int} {m : Nat} {M : List (List Int)} {k : Nat} (h : k < M.length) :
    rowsErr lo hi m (M.take (k + 1)) = match rowsErr lo hi m (M.take k) with | none => rowErr1 lo hi m (rowOf M k) | some c => some c := by
  rw [List.take_succ_eq_append_getElem h]
  unfold rowsErr
  rw [List.foldl_append, rowOf_lt h]
  rfl

theorem rowsErr_at {lo hi : Int} {m : Nat} {M : List (List Int)} {k : Nat} {c : Int} (h : k < M.length) (h0 : rowsErr lo hi m (M.take k) = none) (h1 : rowErr1 lo hi m (rowOf M k) = some c) : rowsErr lo hi m M = some c := by
  have h2 := rowsErr_take (lo := lo) (hi := hi) (m := m) h
  rw [h0] at h2
  simp only [h1] at h2
  rw [← List.take_append_drop (k + 1) M]
  unfold rowsErr at h2 ⊢
  rw [List.foldl_append, h2]
  generalize M.drop (k + 1) = N
  induction N with
  | nil => rfl
  | cons x N ih => exact ih

theorem rowsErr_none {lo hi : Int} {m : Nat} {M : List (List Int)} (h : rowsErr lo hi m M = none) : ∀ k, k < M.length → (rowOf M k).length = m ∧ In lo hi (rowOf M k) := by
  have key : ∀ j, j ≤ M.length → rowsErr lo hi m (M.take j) = none := by
    intro j hj
    have : M.length - j ≤ M.length := Nat.sub_le _ _
    generalize hd : M.length - j = d at this
    induction d generalizing j with
    | zero =>
      rw [List.take_of_length_le (by omega)]
      exact h
    | succ d ih =>
      have h1 := ih (j + 1) (by omega) (by omega) (by omega)
      rw [rowsErr_take (by omega)] at h1
      split at h1
      · next e => exact e
      · cases h1
  intro k hk
  have h1 := key (k + 1) (by omega)
  rw [rowsErr_take hk, key k (by omega)] at h1
  simp only [rowErr1] at h1
  split at h1
  · cases h1
  · next e1 =>
    split at h1
    · cases h1
    · next e2 =>
      refine ⟨by omega, fun j hj => ?_⟩
      have e3 := List.any_eq_false.1 (by simpa [anyB] using e2) (ix (rowOf M k) j) (ix_mem hj)
      simp [outB] at e3
      omega

/-- What is wrong with its lengths. -/
def groundsPre (most : Int) (M : List (List Int)) : Option Int :=
  if M.length = 0 ∨ (rowOf M 0).length = 0 then some 5 else if most < M.length ∨ most < (rowOf M 0).length then some 4 else none

/-- What is wrong with a matrix. -/
def groundsR (most : Int) (lo hi : Int) (M : List (List Int)) : Option Int :=
  if M.length = 0 ∨ (rowOf M 0).length = 0 then some 5 else if most < M.length ∨ most < (rowOf M 0).length then some 4 else
    rowsErr lo hi (rowOf M 0).length M
theorem groundsPre_none {most : Int} {M : List (List Int)} (h : groundsPre most M = none) : 0 < (rowOf M 0).length ∧ (M.length : Int) ≤ most ∧ ((rowOf M 0).length : Int) ≤ most := by
  unfold groundsPre at h
  split at h
  · cases h
  · split at h
    · cases h
    · next h1 h2 => omega
theorem groundsPre_some {most lo hi : Int} {M : List (List Int)} {c : Int} (h : groundsPre most M = some c) : groundsR most lo hi M = some c := by
  unfold groundsPre at h
  unfold groundsR
  split at h
  · next e => rw [if_pos e]; exact h
  · next e =>
    rw [if_neg e]
    split at h
    · next e2 => rw [if_pos e2]; exact h
    · cases h
theorem groundsPre_cases {most : Int} {M : List (List Int)} {c : Int} (h : groundsPre most M = some c) (hM : 0 < M.length) : (c = 5 ∧ (rowOf M 0).length = 0) ∨ (c = 4 ∧ 0 < (rowOf M 0).length ∧ most < M.length) ∨
    (c = 4 ∧ 0 < (rowOf M 0).length ∧ (M.length : Int) ≤ most ∧ most < (rowOf M 0).length) := by
  unfold groundsPre at h
  split at h
  · next e => injection h with h; exact .inl ⟨h.symm, by omega⟩
  · split at h
    · next e1 e2 => injection h with h; exact .inr (by omega)
    · cases h
/-- What is wrong with a matrix that should be square. -/
def squareR (most lo hi : Int) (M : List (List Int)) : Option Int := if groundsR most lo hi M = none then (if M.length = (rowOf M 0).length then none else some 3) else groundsR most lo hi M
theorem groundsR_none {most lo hi : Int} {M : List (List Int)} (h : groundsR most lo hi M = none) : 0 < M.length ∧ 0 < (rowOf M 0).length ∧ (M.length : Int) ≤ most ∧ ((rowOf M 0).length : Int) ≤ most ∧ ∀ k, k < M.length → (rowOf M k).length = (rowOf M 0).length ∧ In lo hi (rowOf M k) := by
  unfold groundsR at h
  split at h
  · cases h
  · split at h
    · cases h
    · next h1 h2 => exact ⟨by omega, by omega, by omega, by omega, rowsErr_none h⟩
set_option maxHeartbeats 2000000 in
theorem Grounds_any {a : Option Addr} {n cap : Nat} {M : List (List Int)} (most lo hi : Int) {w : World} (h : RdM w a n cap M) :
    Calls Try.prog 89 #[.slice a n cap, .int .i64 most, .int .i64 lo, .int .i64 hi] w fun e w' => e = .returned (errV (groundsR most lo hi M)) ∧ w = w' := by
  have E1 := Lib.hid h.len_eq
  have hm := h.len_max
  by_cases h0 : n = 0
  · subst h0
    go_enter Try.func89, Try.ntmps89
    go_wp2
    go_ret
    refine ⟨?_, rfl⟩
    unfold groundsR
    rw [if_pos (.inl E1.out)]
    rfl
  obtain ⟨b, off, rfl, hbl, hr⟩ := h.at (k := 0) (by omega)
  obtain ⟨ar0, cr0, hc0, hrd0⟩ := hr 0 (by omega)
  rw [Nat.add_zero] at hc0
  have hm0 := hrd0.len_max
  have z1 : ((n : Int) == 0) = false := by simp; omega
  rcases hq : groundsPre most M with _ | c
  · obtain ⟨p1, p2, p3⟩ := groundsPre_none hq
    have HR : Hid (groundsR most lo hi M = rowsErr lo hi (rowOf M 0).length M) := by
      unfold Hid groundsR
      rw [if_neg (by rw [E1.out]; omega), if_neg (by omega)]
    have p2' : (n : Int) ≤ most := by rw [← E1.out]; exact p2
    have z2 : (((rowOf M 0).length : Int) == 0) = false := beq_eq_false_iff_ne.2 (by omega)
    clear hq p2
    go_enter Try.func89, Try.ntmps89
    go_wp2
    go_loop [39] (fun i => ∃ k : Nat, k ≤ n ∧ i = .int .i64 k ∧ Hid (rowsErr lo hi (rowOf M 0).length (M.take k) = none)) (fun i => n - (intOf i).toNat)
    case atStart => exact ⟨0, Nat.zero_le _, rfl, rfl⟩
    case round =>
      obtain ⟨k, hk, rfl, hno⟩ := hrel
      by_cases hlt : k < n
      · obtain ⟨ar, cr, hc, hrd⟩ := hr k hlt
        have hmk := hrd.len_max
        have hl : k < M.length := by rw [E1.out]; exact hlt
        by_cases hw : (rowOf M k).length = (rowOf M 0).length
        · have z3 : (((rowOf M k).length : Int) != ((rowOf M 0).length : Int)) = false := bne_eq_false_iff_eq.2 (by omega)
          rcases hany : anyB lo hi (rowOf M k)
          · have Ha := Lib.hid hany
            have Hw := Lib.hid hw
            clear hany hw
            go_wp2_with (go_at_call 68; refine (any_any _ _ _ _ _ _ _ hrd).mono ?_; rintro e w' ⟨rfl, rfl⟩; rw [Ha.out])
            go_round
            case rel => exact ⟨k + 1, by omega, by go_num, by unfold Hid; rw [rowsErr_take hl, hno.out, rowErr1, Ha.out, if_neg (by rw [Hw.out]; simp)]; rfl⟩
            case measure => simp [intOf]; omega
          · have Ha := Lib.hid hany
            have Hw := Lib.hid hw
            clear hany hw
            go_wp2_with (go_at_call 68; refine (any_any _ _ _ _ _ _ _ hrd).mono ?_; rintro e w' ⟨rfl, rfl⟩; rw [Ha.out])
            go_ret
            refine ⟨?_, rfl⟩
            rw [HR.out, rowsErr_at hl hno.out (c := 1) (by rw [rowErr1, Ha.out, if_neg (by rw [Hw.out]; simp)]; rfl)]
            rfl
        · have z3 : (((rowOf M k).length : Int) != ((rowOf M 0).length : Int)) = true := bne_iff_ne.2 (by omega)
          have Hw := Lib.hid hw
          clear hw
          go_wp2
          go_ret
          refine ⟨?_, rfl⟩
          rw [HR.out, rowsErr_at hl hno.out (c := 3) (by rw [rowErr1, if_pos Hw.out])]
          rfl
      · go_wp2
        go_ret
        refine ⟨?_, rfl⟩
        have hfin := hno.out
        rw [List.take_of_length_le (by rw [E1.out]; omega)] at hfin
        rw [HR.out, hfin]
        rfl
  · have HR : Hid (groundsR most lo hi M = some c) := groundsPre_some hq
    have hq2 := groundsPre_cases hq (by rw [E1.out]; omega)
    have p5 : (n : Int) = M.length := by rw [E1.out]
    rcases hq2 with ⟨rfl, hz⟩ | ⟨rfl, hz1, hz2⟩ | ⟨rfl, hz1, hz2, hz3⟩
    · have z2 : (((rowOf M 0).length : Int) == 0) = true := beq_iff_eq.2 (by omega)
      have HP := Lib.hid p5
      clear hq hz p5
      go_enter Try.func89, Try.ntmps89
      go_wp2
      go_ret
      exact ⟨by rw [HR.out]; rfl, rfl⟩
    · have z2 : (((rowOf M 0).length : Int) == 0) = false := beq_eq_false_iff_ne.2 (by omega)
      have z4 : most < (n : Int) := by omega
      have HP := Lib.hid p5
      clear hq p5 hz1 hz2
      go_enter Try.func89, Try.ntmps89
      go_wp2
      go_ret
      exact ⟨by rw [HR.out]; rfl, rfl⟩
    · have z2 : (((rowOf M 0).length : Int) == 0) = false := beq_eq_false_iff_ne.2 (by omega)
      have z4 : (n : Int) ≤ most := by omega
      have z5 : most < ((rowOf M 0).length : Int) := hz3
      have HP := Lib.hid p5
      clear hq p5 hz1 hz2 hz3
      go_enter Try.func89, Try.ntmps89
      go_wp2
      go_ret
      exact ⟨by rw [HR.out]; rfl, rfl⟩
theorem Square_any {a : Option Addr} {n cap : Nat} {M : List (List Int)} (most lo hi : Int) {w : World} (h : RdM w a n cap M) :
    Calls Try.prog 85 #[.slice a n cap, .int .i64 most, .int .i64 lo, .int .i64 hi] w fun e w' => e = .returned (errV (squareR most lo hi M)) ∧ w = w' := by
  have G := Grounds_any most lo hi h
  have E1 := Lib.hid h.len_eq
  have hm := h.len_max
  rcases hg : groundsR most lo hi M with _ | c
  · rw [hg] at G
    obtain ⟨g1, g2, _⟩ := groundsR_none hg
    have e1 := E1.out
    obtain ⟨b, off, rfl, hbl, hr⟩ := h.at (k := 0) (by omega)
    obtain ⟨ar0, cr0, hc0, hrd0⟩ := hr 0 (by omega)
    rw [Nat.add_zero] at hc0
    have hm0 := hrd0.len_max
    have HG := Lib.hid G
    have hn0 : 0 < n := by omega
    by_cases hs : n = (rowOf M 0).length
    · have z : ((n : Int) != ((rowOf M 0).length : Int)) = false := bne_eq_false_iff_eq.2 (by omega)
      have HS := Lib.hid hs
      have Hg := Lib.hid hg
      clear hs hg G e1
      go_enter Try.func85, Try.ntmps85
      go_wp2_with (go_at_call 89; refine HG.out.mono ?_; rintro e w' ⟨rfl, rfl⟩; simp only [errV])
      go_ret
      exact ⟨by unfold squareR; rw [if_pos Hg.out, if_pos (by rw [E1.out]; exact HS.out)]; rfl, rfl⟩
    · have z : ((n : Int) != ((rowOf M 0).length : Int)) = true := bne_iff_ne.2 (by omega)
      have HS := Lib.hid hs
      have Hg := Lib.hid hg
      clear hs hg G e1
      go_enter Try.func85, Try.ntmps85
      go_wp2_with (go_at_call 89; refine HG.out.mono ?_; rintro e w' ⟨rfl, rfl⟩; simp only [errV])
      go_ret
      exact ⟨by unfold squareR; rw [if_pos Hg.out, if_neg (by rw [E1.out]; exact HS.out)]; rfl, rfl⟩
  · rw [hg] at G
    have HG := Lib.hid G
    have Hg := Lib.hid hg
    clear G hg
    go_enter Try.func85, Try.ntmps85
    go_wp2_with (go_at_call 89; refine HG.out.mono ?_; rintro e w' ⟨rfl, rfl⟩; simp only [errV])
    go_ret
    exact ⟨by unfold squareR; rw [if_neg (by rw [Hg.out]; simp), Hg.out]; rfl, rfl⟩
end Go.Proofs.Ytoahegjjffggaaa
namespace Go.Proofs.Ytoahegjjffggaaa
open Go.RowKit Go.Rk

theorem rd2 {w : World} {b : Nat} {x y : Int} (h0 : w.cell? ⟨b, 0, none⟩ = some (.int .i64 x)) (h1 : w.cell? ⟨b, 1, none⟩ = some (.int .i64 y)) : RdI w (some ⟨b, 0, none⟩) 2 2 [x, y] := by
  refine ⟨rfl, Nat.le_refl _, by decide, fun k hk => ⟨b, 0, rfl, ?_⟩⟩
  rcases k with _ | k
  · exact h0
  · obtain rfl : k = 0 := by omega
    exact h1
/-- A written matrix of two rows of two numbers. -/
theorem rd22 {w : World} {b p q : Nat} {x y z u : Int} (h0 : w.cell? ⟨b, 0, none⟩ = some (.slice (some ⟨p, 0, none⟩) 2 2)) (h1 : w.cell? ⟨b, 1, none⟩ = some (.slice (some ⟨q, 0, none⟩) 2 2))
    (c0 : w.cell? ⟨p, 0, none⟩ = some (.int .i64 x)) (c1 : w.cell? ⟨p, 1, none⟩ = some (.int .i64 y)) (c2 : w.cell? ⟨q, 0, none⟩ = some (.int .i64 z)) (c3 : w.cell? ⟨q, 1, none⟩ = some (.int .i64 u)) :
    RdM w (some ⟨b, 0, none⟩) 2 2 [[x, y], [z, u]] := RdM.two h0 (rd2 c0 c1) h1 (rd2 c2 c3)

theorem below_al {w w' : World} (h : Below w.heap.size w w') (o : Obj) : Below w.heap.size w (w'.alloc o) := h.alloc h.size o
theorem below_tr {w w' w2 : World} (h : Below w.heap.size w w') (k : Below w'.heap.size w' w2) : Below w.heap.size w w2 := h.trans (k.mono h.size)
end Go.Proofs.Ytoahegjjffggaaa
namespace Go.Proofs.Ytoahegjjffggaaa
open Go.RowKit Go.Rk

def inB (n lo hi : Int) : Bool := decide (lo ≤ n) && decide (n ≤ hi)
theorem inB_true {a lo hi : Int} (h : inB a lo hi = true) : lo ≤ a ∧ a ≤ hi := by
  unfold inB at h
  simp only [Bool.and_eq_true, decide_eq_true_eq] at h
  exact h

theorem R_in_any (n lo hi : Int) (w : World) :
    Calls Try.prog 48 #[.int .i64 n, .int .i64 lo, .int .i64 hi] w fun e w' => e = .returned (.bool (inB n lo hi)) ∧ w = w' := by
  by_cases h : lo ≤ n
  all_goals
    go_enter Try.func48, Try.ntmps48
    go_wp2
    all_goals (go_ret; refine ⟨congrArg (fun b => Ending.returned (.bool b)) ?_, rfl⟩; unfold inB; simp; try omega)
theorem L3_in_any (n lo hi : Int) (w : World) :
    Calls Try.prog 16 #[.int .i64 n, .int .i64 lo, .int .i64 hi] w fun e w' => e = .returned (.bool (inB n lo hi)) ∧ w = w' := by
  by_cases h : lo ≤ n
  all_goals
    go_enter Try.func16, Try.ntmps16
    go_wp2
    all_goals (go_ret; refine ⟨congrArg (fun b => Ending.returned (.bool b)) ?_, rfl⟩; unfold inB; simp; try omega)
theorem R_Mod_any (n : Int) (w : World) (h1 : -9223372036854775808 ≤ n) (h2 : n ≤ 9223372036854775807) :
    Calls Try.prog 17 #[.int .i64 n] w fun e w' => e = .returned (.int .i64 (n % 9973)) ∧ w = w' := by
  rcases Int.lt_or_le n 0 with h | h
  · have t := tmod_neg n h
    rcases Int.lt_or_le (n.tmod 9973) 0 with h3 | h3
    · have t1 := t.1
      have T2 := Lib.hid (t.2.1 h3)
      clear t
      go_enter Try.func17, Try.ntmps17
      go_wp2
      go_ret
      exact ⟨congrArg (fun x => Ending.returned (.int .i64 x)) T2.out.symm, rfl⟩
    · have t1 := t.1
      have T2 := Lib.hid (t.2.2 h3)
      clear t
      go_enter Try.func17, Try.ntmps17
      go_wp2
      go_ret
      exact ⟨congrArg (fun x => Ending.returned (.int .i64 x)) T2.out.symm, rfl⟩
  · go_enter Try.func17, Try.ntmps17
    go_wp2
    go_ret
    exact ⟨rfl, rfl⟩
def allB (lo hi : Int) (l : List Int) : Bool := l.all fun n => inB n lo hi
theorem allB_take (lo hi : Int) {l : List Int} {k : Nat} (h : k < l.length) (h0 : allB lo hi (l.take k) = true) (h1 : inB (ix l k) lo hi = true) : allB lo hi (l.take (k + 1)) = true := by
  rw [take_succ_ix h]
  unfold allB at *
  simp only [List.all_append, h0, List.all_cons, h1, List.all_nil, Bool.and_true]
theorem allB_miss (lo hi : Int) {l : List Int} {k : Nat} (h : k < l.length) (h1 : inB (ix l k) lo hi = false) : allB lo hi l = false := by
  unfold allB
  exact List.all_eq_false.2 ⟨_, ix_mem h, by rw [h1]; simp⟩
set_option maxHeartbeats 400000 in
theorem R_All_any {a : Option Addr} {len cap : Nat} {l : List Int} (lo hi : Int) {w : World} (h : RdI w a len cap l) :
    Calls Try.prog 18 #[.slice a len cap, .int .i64 lo, .int .i64 hi] w fun e w' => e = .returned (.bool (allB lo hi l)) ∧ w = w' := by
  have hm := h.len_max
  go_enter Try.func18, Try.ntmps18
  go_wp2
  go_loop [7] (fun i => ∃ k : Nat, k ≤ len ∧ i = .int .i64 k ∧ Hid (allB lo hi (l.take k) = true)) (fun i => len - (intOf i).toNat)
  case atStart => exact ⟨0, Nat.zero_le _, rfl, rfl⟩
  case round =>
    obtain ⟨k, hk, rfl, hno⟩ := hrel
    by_cases hlt : k < len
    · obtain ⟨b, off, rfl, _, hc⟩ := h.at hlt
      have hc := hc k hlt
      have hl : k < l.length := by have := h.len_eq; omega
      rcases ho : inB (ix l k) lo hi
      · have Ho := Lib.hid ho
        clear ho
        go_wp2_with (go_at_call 48; refine (R_in_any _ _ _ _).mono ?_; rintro e w' ⟨rfl, rfl⟩; rw [Ho.out])
        go_ret
        exact ⟨congrArg (fun b => Ending.returned (.bool b)) (allB_miss _ _ hl Ho.out).symm, rfl⟩
      · have Ho := Lib.hid ho
        clear ho
        go_wp2_with (go_at_call 48; refine (R_in_any _ _ _ _).mono ?_; rintro e w' ⟨rfl, rfl⟩; rw [Ho.out])
        go_round
        case rel => exact ⟨k + 1, by omega, by go_num, allB_take _ _ hl hno Ho.out⟩
        case measure => simp [intOf]; omega
    · go_wp2
      go_ret
      refine ⟨congrArg (fun b => Ending.returned (.bool b)) ?_, rfl⟩
      rw [← hno.out, List.take_of_length_le (by have := h.len_eq; omega)]
theorem allB_in {l : List Int} {lo hi : Int} (h : allB lo hi l = true) : In lo hi l := by
  intro k hk
  have h1 := List.all_eq_true.1 h (ix l k) (ix_mem hk)
  simp [inB] at h1
  omega
set_option maxHeartbeats 400000 in
theorem Ints_q {a a2 : Option Addr} {len cap len2 cap2 : Nat} {l m : List Int} {w : World} (h : RdI w a len cap l) (h2 : RdI w a2 len2 cap2 m) :
    Calls Try.prog 32 #[.slice a len cap, .slice a2 len2 cap2] w fun e w' => e = .returned (.bool (decide (l = m))) ∧ ∃ q, w' = w.drewN q := by
  have hm := h.len_max
  have E1 := Lib.hid h.len_eq
  have E2 := Lib.hid h2.len_eq
  by_cases hl : len = len2
  · subst hl
    go_enter Try.func32, Try.ntmps32
    go_wp2
    go_loopw [5] (fun i wr => ∃ k : Nat, k ≤ len ∧ i = .int .i64 k ∧ Hid (l.take k = m.take k) ∧ ∃ q, wr = w.drewN q) (fun i _ => len - (intOf i).toNat)
    case atStart => exact ⟨0, Nat.zero_le _, rfl, rfl, 0, rfl⟩
    case round =>
      obtain ⟨k, hk, rfl, heq, q, rfl⟩ := hrel
      by_cases hlt : k < len
      · obtain ⟨b, off, rfl, _, hc⟩ := h.at hlt
        obtain ⟨b2, off2, rfl, _, hc2⟩ := h2.at hlt
        have hc := hc k hlt
        have hc2 := hc2 k hlt
        have hlt' : (k : Int) < (len : Int) := by omega
        by_cases he : ix l k = ix m k
        · have He : (ix l k != ix m k) = false := by simp [he]
          have He2 := Lib.hid he
          clear he
          go_wp2
          go_quiet (fail)
          go_wp2
          go_roundw
          case rel => exact ⟨k + 1, by omega, by go_num, by unfold Hid; rw [take_succ_ix (by rw [E1.out]; exact hlt), take_succ_ix (by rw [E2.out]; exact hlt), heq.out, He2.out], q + nq, by simp⟩
          case measure => simp [intOf]; omega
        · have He : (ix l k != ix m k) = true := by simp [he]
          have He2 := Lib.hid he
          clear he
          go_wp2
          go_quiet (fail)
          go_wp2
          go_ret
          refine ⟨congrArg (fun b => Ending.returned (.bool b)) (decide_eq_false ?_).symm, q + nq, by simp [World.drewN_drewN]⟩
          intro hlm
          exact He2.out (by rw [hlm])
      · go_wp2
        go_ret
        refine ⟨congrArg (fun b => Ending.returned (.bool b)) (decide_eq_true ?_).symm, q, rfl⟩
        have := heq.out
        rwa [List.take_of_length_le (by rw [E1.out]; omega), List.take_of_length_le (by rw [E2.out]; omega)] at this
  · have hne : ((len : Int) != (len2 : Int)) = true := by simp; omega
    have Hl := Lib.hid hl
    clear hl
    go_enter Try.func32, Try.ntmps32
    go_wp2
    go_ret
    refine ⟨congrArg (fun b => Ending.returned (.bool b)) (decide_eq_false ?_).symm, 0, rfl⟩
    intro hlm
    exact Hl.out (by rw [← E1.out, ← E2.out, hlm])

theorem Ints_any {a a2 : Option Addr} {len cap len2 cap2 : Nat} {l m : List Int} {w : World} (h : RdI w a len cap l) (h2 : RdI w a2 len2 cap2 m) :
    Calls Try.prog 32 #[.slice a len cap, .slice a2 len2 cap2] w fun e w' => e = .returned (.bool (decide (l = m))) ∧ Below w.heap.size w w' :=
  (Ints_q h h2).mono fun _ _ ⟨he, q, hq⟩ => ⟨he, by rw [hq]; exact below_drewN (Below.refl _ _) q⟩
set_option maxHeartbeats 400000 in
theorem Rows_q {a a2 : Option Addr} {len cap len2 cap2 : Nat} {M N : List (List Int)} {w : World} (h : RdM w a len cap M) (h2 : RdM w a2 len2 cap2 N) :
    Calls Try.prog 42 #[.slice a len cap, .slice a2 len2 cap2] w fun e w' => e = .returned (.bool (decide (M = N))) ∧ ∃ q, w' = w.drewN q := by
  have hm := h.len_max
  have E1 := Lib.hid h.len_eq
  have E2 := Lib.hid h2.len_eq
  by_cases hl : len = len2
  · subst hl
    go_enter Try.func42, Try.ntmps42
    go_wp2
    go_loopw [5] (fun i wr => ∃ k : Nat, k ≤ len ∧ i = .int .i64 k ∧ Hid (M.take k = N.take k) ∧ ∃ q, wr = w.drewN q) (fun i _ => len - (intOf i).toNat)
    case atStart => exact ⟨0, Nat.zero_le _, rfl, rfl, 0, rfl⟩
    case round =>
      obtain ⟨k, hk, rfl, heq, q, hq⟩ := hrel
      have h' : RdM wr a len cap M := by rw [hq]; exact h.below (below_drewN (Below.refl _ _) q)
      have h2' : RdM wr a2 len cap2 N := by rw [hq]; exact h2.below (below_drewN (Below.refl _ _) q)
      have HQ := Lib.hid hq
      clear hq
      by_cases hlt : k < len
      · obtain ⟨b, off, rfl, _, hr⟩ := h'.at hlt
        obtain ⟨b2, off2, rfl, _, hr2⟩ := h2'.at hlt
        obtain ⟨ar, cr, hc, hrd⟩ := hr k hlt
        obtain ⟨ar2, cr2, hc2, hrd2⟩ := hr2 k hlt
        have hlt' : (k : Int) < (len : Int) := by omega
        have CI : ∀ q, Calls Try.prog 32 #[.slice ar (rowOf M k).length cr, .slice ar2 (rowOf N k).length cr2] (wr.drewN q) fun e w' => e = .returned (.bool (decide (rowOf M k = rowOf N k))) ∧ ∃ m, w' = (wr.drewN q).drewN m := fun q => Ints_q (hrd.drewN q) (hrd2.drewN q)
        by_cases he : rowOf M k = rowOf N k
        · have He : decide (rowOf M k = rowOf N k) = true := by simp [he]
          rw [He] at CI
          have HCI := Lib.hid CI
          have He2 := Lib.hid he
          clear he CI He
          go_wp2
          go_quiet ((go_at_call 32; exact Calls.quiet_of (HCI.out _)))
          go_wp2
          go_roundw
          case rel => exact ⟨k + 1, by omega, by go_num, by unfold Hid; rw [take_succ_row (by rw [E1.out]; exact hlt), take_succ_row (by rw [E2.out]; exact hlt), heq.out, He2.out], q + nq, by rw [HQ.out, World.drewN_drewN]⟩
          case measure => simp [intOf]; omega
        · have He : decide (rowOf M k = rowOf N k) = false := by simp [he]
          rw [He] at CI
          have HCI := Lib.hid CI
          have He2 := Lib.hid he
          clear he CI He
          go_wp2
          go_quiet ((go_at_call 32; exact Calls.quiet_of (HCI.out _)))
          go_wp2
          go_ret
          refine ⟨congrArg (fun b => Ending.returned (.bool b)) (decide_eq_false ?_).symm, q + nq, by rw [HQ.out, World.drewN_drewN]⟩
          intro hlm
          exact He2.out (by rw [hlm])
      · go_wp2
        go_ret
        refine ⟨congrArg (fun b => Ending.returned (.bool b)) (decide_eq_true ?_).symm, q, HQ.out⟩
        have := heq.out
        rwa [List.take_of_length_le (by rw [E1.out]; omega), List.take_of_length_le (by rw [E2.out]; omega)] at this
  · have hne : ((len : Int) != (len2 : Int)) = true := bne_iff_ne.2 (by omega)
    have Hl := Lib.hid hl
    clear hl
    go_enter Try.func42, Try.ntmps42
    go_wp2
    go_ret
    refine ⟨congrArg (fun b => Ending.returned (.bool b)) (decide_eq_false ?_).symm, 0, rfl⟩
    intro hlm
    exact Hl.out (by rw [← E1.out, ← E2.out, hlm])

theorem Rows_any {a a2 : Option Addr} {len cap len2 cap2 : Nat} {l m : List (List Int)} {w : World} (h : RdM w a len cap l) (h2 : RdM w a2 len2 cap2 m) :
    Calls Try.prog 42 #[.slice a len cap, .slice a2 len2 cap2] w fun e w' => e = .returned (.bool (decide (l = m))) ∧ Below w.heap.size w w' :=
  (Rows_q h h2).mono fun _ _ ⟨he, q, hq⟩ => ⟨he, by rw [hq]; exact below_drewN (Below.refl _ _) q⟩
set_option maxHeartbeats 400000 in
theorem R_Copy_any {a : Option Addr} {n cap : Nat} {M : List (List Int)} {w : World} (h : RdM w a n cap M) (hn : n ≤ 1000) (hl : ∀ k, k < n → (rowOf M k).length ≤ 1000) :
    Calls Try.prog 37 #[.slice a n cap] w fun e w' => ∃ a' cap', e = .returned (.slice a' n cap') ∧ OwM w' w.heap.size 22 3 a' n cap' M ∧ Below w.heap.size w w' := by
  have HM := Lib.hid matTy
  have E1 := Lib.hid h.len_eq
  have hb0 : Below w.heap.size w w := Below.refl _ _
  go_enter Try.func37, Try.ntmps37
  go_wp2
  go_loopw [3, 4] (fun v i wr => ∃ (k : Nat) (q : Option Addr) (cq : Nat), k ≤ n ∧ i = .int .i64 k ∧ v = .slice q k cq ∧ OwM wr w.heap.size 22 3 q k cq (M.take k) ∧ Below w.heap.size w wr) (fun _ i _ => n - (intOf i).toNat)
  case atStart => exact ⟨0, none, 0, Nat.zero_le _, rfl, rfl, OwM.nil _ _ _ _, hb0⟩
  case round =>
    obtain ⟨k, q, cq, hk, rfl, rfl, ho, hb⟩ := hrel
    by_cases hlt : k < n
    · have hsz := hb.size
      obtain ⟨b, off, rfl, hbl, hr⟩ := h.at hlt
      obtain ⟨ar, cr, hc, hrd⟩ := hr k hlt
      have hc := hb.keep hbl hc
      have hrd := hrd.below hb
      have hlk := hl k hlt
      have tok1 : True := trivial
      go_wp2_with (first
        | (at_builtin; have _t := tok1; refine wpList_append_ints HM.out.int rfl (.tmp 12) (.tmp 16) rfl rfl rfl (OwI.nil wr wr.heap.size _) hrd (by omega) (Nat.le_refl _) ?_; intro a3 cap3 w3 ho3 hg3; have hb3 := below_of_grown hg3; clear tok1; rw [Nat.zero_add, List.nil_append] at ho3)
        | (at_builtin; refine wpList_push_row HM.out rfl (.tmp 18) (.tmp 20) rfl rfl rfl ho (hb3.alloc hb3.size _) (ho3.below ((Below.refl _ _).alloc (Nat.le_refl _) _)) (by simp) (by omega) hsz ?_; intro a4 cap4 w4 ho4 hb4))
      have hb5 := ((hb.trans (hb3.mono hsz)).alloc (Nat.le_trans hsz hb3.size) _).trans hb4
      go_roundw
      case rel => exact ⟨k + 1, a4, cap4, by omega, by go_num, rfl, by rw [take_succ_row (by rw [E1.out]; exact hlt)]; exact ho4, hb5⟩
      case measure => simp [intOf]; omega
    · obtain rfl : k = n := by omega
      go_wp2
      go_ret
      refine ⟨q, cq, rfl, ?_, hb⟩
      rw [List.take_of_length_le (by rw [E1.out]; exact Nat.le_refl _)] at ho
      exact ho
end Go.Proofs.Ytoahegjjffggaaa
namespace Go.Rk
open Go.RowKit

/-- The outer block is g; row i lies in block D i, of capacity C i. -/
structure OwMD (w : World) (B T E g : Nat) (D C : Nat → Nat) (n cap : Nat) (M : List (List Int)) : Prop where
  len_eq : M.length = n
  outer : w.ownsRow B T 1 (.slice (some ⟨g, 0, none⟩) n cap) n ((List.range n).map fun i => Value.slice (some ⟨D i, 0, none⟩) (rowOf M i).length (C i))
  rows : ∀ i, i < n → OwI w B E (some ⟨D i, 0, none⟩) (rowOf M i).length (C i) (rowOf M i)
  inj : ∀ i j, i < n → j < n → i ≠ j → D i ≠ D j

section
variable {w w' : World} {B B' T E g : Nat} {D C : Nat → Nat} {n cap : Nat} {M : List (List Int)}

theorem OwM.named {a : Option Addr} (h : OwM w B T E a n cap M) (hn : 0 < n) (hp : ∀ i, i < n → 0 < (rowOf M i).length) : ∃ g D C, a = some ⟨g, 0, none⟩ ∧ OwMD w B T E g D C n cap M := by
  obtain ⟨vs, ho, hr, hd⟩ := h.own
  obtain ⟨g, c, hv, hb, hlt⟩ := ho.form hn
  injection hv with ha _ hc
  subst ha; subst hc
  have hr' : ∀ i, i < n → ∃ y : Nat × Nat, vs[i]? = some (.slice (some ⟨y.1, 0, none⟩) (rowOf M i).length y.2) ∧ OwI w B E (some ⟨y.1, 0, none⟩) (rowOf M i).length y.2 (rowOf M i) := by
    intro i hi
    obtain ⟨ar, cr, e, o⟩ := hr i hi
    obtain ⟨b, hab, _⟩ := o.at (hp i hi)
    subst hab
    exact ⟨(b, cr), e, o⟩
  obtain ⟨y, hy⟩ := Go.Deep.choose_lt hr'
  have hvl : vs.length = n := by have := ho.1; omega
  refine ⟨g, fun i => (y i).1, fun i => (y i).2, rfl, h.len_eq, ?_, fun i hi => (hy i hi).2, fun i j hi hj hij e => ?_⟩
  · have : vs = (List.range n).map fun i => Value.slice (some ⟨(y i).1, 0, none⟩) (rowOf M i).length (y i).2 := by
      apply List.ext_getElem?
      intro i
      rcases Nat.lt_or_ge i n with h1 | h1
      · rw [(hy i h1).1]; simp [h1]
      · rw [List.getElem?_eq_none (by omega), List.getElem?_eq_none (by simp; omega)]
    rw [← this]
    exact ho
  · refine hd i j (y i).1 hi hj hij ?_ ?_
    · simp [blk, (hy i hi).1, Value.ownBlock]
    · simp [blk, (hy j hj).1, Value.ownBlock]
      exact e.symm

theorem OwMD.toM (h : OwMD w B T E g D C n cap M) : OwM w B T E (some ⟨g, 0, none⟩) n cap M := by
  refine ⟨h.len_eq, _, h.outer, fun k hk => ⟨_, _, by simp [hk], h.rows k hk⟩, fun i j b hi hj hij e e2 => ?_⟩
  simp [blk, hi, hj, Value.ownBlock] at e e2
  exact h.inj i j hi hj hij (e.trans e2.symm)

theorem OwMD.cellO (h : OwMD w B T E g D C n cap M) {i : Nat} (hi : i < n) : w.cell? ⟨g, i, none⟩ = some (.slice (some ⟨D i, 0, none⟩) (rowOf M i).length (C i)) := by
  rw [h.outer.cellAt i (by omega)]; simp [hi]
theorem OwMD.frozenO (h : OwMD w B T E g D C n cap M) (i : Nat) : w.frozen? ⟨g, i, none⟩ = false := h.outer.frozenAt i
theorem OwMD.cellI (h : OwMD w B T E g D C n cap M) {i j : Nat} (hi : i < n) (hj : j < (rowOf M i).length) : w.cell? ⟨D i, j, none⟩ = some (.int .i64 (en M i j)) := by
  obtain ⟨b, hb, _, _, hc, _⟩ := (h.rows i hi).at (by omega)
  injection hb with hb
  injection hb with hb
  rw [hb]; exact hc j hj
theorem OwMD.frozenI (h : OwMD w B T E g D C n cap M) {i : Nat} (hi : i < n) (hp : 0 < (rowOf M i).length) (j : Nat) : w.frozen? ⟨D i, j, none⟩ = false := by
  obtain ⟨b, hb, _, _, _, hf⟩ := (h.rows i hi).at hp
  injection hb with hb
  injection hb with hb
  rw [hb]; exact hf j
theorem OwMD.lowO (h : OwMD w B T E g D C n cap M) : B ≤ g ∧ g < w.heap.size := h.outer.lt g rfl
theorem OwMD.lowI (h : OwMD w B T E g D C n cap M) {i : Nat} (hi : i < n) : B ≤ D i ∧ D i < w.heap.size := (h.rows i hi).own.lt _ rfl
theorem OwMD.neO (h : OwMD w B T E g D C n cap M) (hne : T ≠ E) {i : Nat} (hi : i < n) : D i ≠ g := by
  intro e
  have := own_ne hne h.outer (h.rows i hi).own (b := g) rfl
  exact this (by rw [← e]; rfl)

theorem OwMD.below (h : OwMD w B T E g D C n cap M) (hb : Below w.heap.size w w') : OwMD w' B T E g D C n cap M :=
  ⟨h.len_eq, h.outer.kept (row := none) ⟨hb.os, hb.tape, hb.output, hb.size, fun k hk _ => hb.block k hk⟩ (.inr (by simp [Value.ownBlock])), fun i hi => (h.rows i hi).below hb, h.inj⟩
theorem OwMD.drew (h : OwMD w B T E g D C n cap M) : OwMD w.drew B T E g D C n cap M := h.below (Below.refl _ _).drew
theorem OwMD.drewN (h : OwMD w B T E g D C n cap M) (k : Nat) : OwMD (w.drewN k) B T E g D C n cap M := h.below (below_drewN (Below.refl _ _) k)
theorem OwMD.alloc (h : OwMD w B T E g D C n cap M) (o : Obj) : OwMD (w.alloc o) B T E g D C n cap M := h.below ((Below.refl _ _).alloc (Nat.le_refl _) o)

/-- A store of an element. -/
theorem OwMD.set (h : OwMD w B T E g D C n cap M) (hne : T ≠ E) {i j : Nat} (hi : i < n) (x : Int) : OwMD (w.setCell ⟨D i, j, none⟩ (.int .i64 x)) B T E g D C n cap (setE M i j x) := by
  refine ⟨by rw [setE_len]; exact h.len_eq, ?_, fun k hk => ?_, h.inj⟩
  · have : ((List.range n).map fun k => Value.slice (some ⟨D k, 0, none⟩) (rowOf (setE M i j x) k).length (C k)) = (List.range n).map fun k => Value.slice (some ⟨D k, 0, none⟩) (rowOf M k).length (C k) :=
      List.map_congr_left fun k _ => by rw [setE_row_len]
    rw [this]
    exact h.outer.kept (grownBy_setCell w _ _) (.inr (by simp [Value.ownBlock]; exact fun e => h.neO hne hi e.symm))
  · rw [setE_row_len]
    by_cases hik : i = k
    · subst hik
      have : rowOf (setE M i j x) i = (rowOf M i).set j x := by
        unfold setE
        rw [rowOf_set, if_pos ⟨rfl, by rw [h.len_eq]; exact hi⟩]
      rw [this]
      exact (h.rows i hi).set x
    · have : rowOf (setE M i j x) k = rowOf M k := by
        unfold setE
        rw [rowOf_set, if_neg fun h2 => hik h2.1]
      rw [this]
      exact (h.rows k hk).setElse (h.inj i k hi hk hik) _

/-- A store beside it. -/
theorem OwMD.setElse (h : OwMD w B T E g D C n cap M) {p : Addr} (hg : p.block ≠ g) (hD : ∀ i, i < n → p.block ≠ D i) (u : Value) : OwMD (w.setCell p u) B T E g D C n cap M :=
  ⟨h.len_eq, h.outer.kept (grownBy_setCell w _ _) (.inr (by simp [Value.ownBlock]; exact fun e => hg e.symm)), fun i hi => (h.rows i hi).setElse (hD i hi) _, h.inj⟩

/-- Two rows in each other's place. -/
def swapL (M : List (List Int)) (i k : Nat) : List (List Int) := (M.set i (rowOf M k)).set k (rowOf M i)
def swapF (D : Nat → Nat) (i k : Nat) : Nat → Nat := fun j => if j = k then D i else if j = i then D k else D j

theorem swapL_len (M : List (List Int)) (i k : Nat) : (swapL M i k).length = M.length := by simp [swapL]
theorem rowOf_swapL {M : List (List Int)} {i k : Nat} (hi : i < M.length) (hk : k < M.length) (j : Nat) : rowOf (swapL M i k) j = if j = k then rowOf M i else if j = i then rowOf M k else rowOf M j := by
  unfold swapL
  rw [rowOf_set, rowOf_set, List.length_set]
  by_cases h1 : j = k
  · subst h1; simp [hk]
  · by_cases h2 : j = i
    · subst h2; simp [h1, Ne.symm h1, hi]
    · simp [h1, h2, Ne.symm h1, Ne.symm h2]

theorem OwMD.swap (h : OwMD w B T E g D C n cap M) (hne : T ≠ E) {i k : Nat} (hi : i < n) (hk : k < n) :
    OwMD ((w.setCell ⟨g, i, none⟩ (.slice (some ⟨D k, 0, none⟩) (rowOf M k).length (C k))).setCell ⟨g, k, none⟩ (.slice (some ⟨D i, 0, none⟩) (rowOf M i).length (C i))) B T E g (swapF D i k) (swapF C i k) n cap (swapL M i k) := by
  have hil : i < M.length := by rw [h.len_eq]; exact hi
  have hkl : k < M.length := by rw [h.len_eq]; exact hk
  have s1 := (h.outer.stored i (.slice (some ⟨D k, 0, none⟩) (rowOf M k).length (C k))).1
  have s2 := (s1.stored k (.slice (some ⟨D i, 0, none⟩) (rowOf M i).length (C i))).1
  refine ⟨by rw [swapL_len]; exact h.len_eq, ?_, fun j hj => ?_, fun a b ha hb hab => ?_⟩
  · have : ((List.range n).map fun j => Value.slice (some ⟨swapF D i k j, 0, none⟩) (rowOf (swapL M i k) j).length (swapF C i k j)) =
        (((List.range n).map fun j => Value.slice (some ⟨D j, 0, none⟩) (rowOf M j).length (C j)).set i (.slice (some ⟨D k, 0, none⟩) (rowOf M k).length (C k))).set k (.slice (some ⟨D i, 0, none⟩) (rowOf M i).length (C i)) := by
      apply List.ext_getElem?
      intro j
      rcases Nat.lt_or_ge j n with h1 | h1
      · rw [List.getElem?_set, List.getElem?_set]
        simp only [List.length_set, List.length_map, List.length_range, List.getElem?_map]
        rw [List.getElem?_range h1]
        simp only [Option.map_some, rowOf_swapL hil hkl, swapF]
        by_cases h2 : j = k
        · subst h2; simp [h1]
        · by_cases h3 : j = i
          · subst h3; simp [h2, Ne.symm h2, h1]
          · simp [h2, h3, Ne.symm h2, Ne.symm h3]
      · rw [List.getElem?_eq_none (by simp; omega), List.getElem?_eq_none (by simp; omega)]
    rw [this]
    exact s2
  · rw [rowOf_swapL hil hkl]
    have keep : ∀ m, m < n → OwI ((w.setCell ⟨g, i, none⟩ (.slice (some ⟨D k, 0, none⟩) (rowOf M k).length (C k))).setCell ⟨g, k, none⟩ (.slice (some ⟨D i, 0, none⟩) (rowOf M i).length (C i))) B E (some ⟨D m, 0, none⟩) (rowOf M m).length (C m) (rowOf M m) :=
      fun m hm => ((h.rows m hm).setElse (h.neO hne hm).symm _).setElse (h.neO hne hm).symm _
    simp only [swapF]
    by_cases h2 : j = k
    · simp only [h2, if_true]; exact keep i hi
    · by_cases h3 : j = i
      · simp only [h3, if_true]
        by_cases h4 : i = k
        · exact absurd (h3.trans h4) h2
        · simp only [if_neg h4]; exact keep k hk
      · simp only [h2, h3, if_false]; exact keep j hj
  · simp only [swapF]
    by_cases h1 : a = k
    · subst h1
      rw [if_pos rfl, if_neg (Ne.symm hab)]
      by_cases h2 : b = i
      · subst h2; rw [if_pos rfl]; exact fun e => hab (by rcases Nat.decEq a b with h3 | h3; exact absurd e.symm (h.inj a b ha hb h3); exact h3)
      · rw [if_neg h2]; exact h.inj i b hi hb (Ne.symm h2)
    · rw [if_neg h1]
      by_cases h3 : a = i
      · subst h3
        rw [if_pos rfl]
        by_cases h2 : b = k
        · subst h2; rw [if_pos rfl]; exact h.inj b a hb ha (Ne.symm hab)
        · rw [if_neg h2, if_neg (Ne.symm hab)]; exact h.inj k b hk hb (Ne.symm h2)
      · rw [if_neg h3]
        by_cases h2 : b = k
        · subst h2; rw [if_pos rfl]; exact h.inj a i ha hi h3
        · rw [if_neg h2]
          by_cases h4 : b = i
          · subst h4; rw [if_pos rfl]; exact h.inj a k ha hk h1
          · rw [if_neg h4]; exact h.inj a b ha hb hab
end
end Go.Rk
