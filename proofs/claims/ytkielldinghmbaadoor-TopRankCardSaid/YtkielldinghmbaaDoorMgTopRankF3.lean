/-
  The walks of the functions of package num and of the references' small ones.
  Short words: what grows, and grows again; slices and matrices of two, read off their cells. No program in sight.
-/
import Derived.Test.YtkielldinghmbaaDoorRows
import Derived.Test.YtkielldinghmbaaDoorMgTopRankF0
import Derived.Test.YtkielldinghmbaaDoorMgTopRankF2
namespace Go.Proofs.YtkielldinghmbaaDoor
open Go.RowKit Go.Rk

theorem infoInt : (Tryd.prog.info? 3).map (fun i => (i.zero, i.size, i.bytes)) = some (some (.int .i64 0), 1, 8) := by kernel_rfl
theorem intTy : IntTy Tryd.prog 32 3 := by
  obtain ⟨i0, hi, h0, h1, h2⟩ := info_parts infoInt
  exact ⟨Tryd.underlying32, ⟨i0, hi, h0, h1, h2⟩⟩

/-- An error: none, or its number. -/
def errV : Option Int → Value
  | none => .nilIface
  | some c => .iface 70 (.int .i64 c)

theorem infoInts : (Tryd.prog.info? 32).map (fun i => (i.zero, i.size, i.bytes)) = some (some (.slice none 0 0), 1, 24) := by kernel_rfl
theorem matTy : MatTy Tryd.prog 22 32 3 := by
  obtain ⟨i0, hi, h0, h1, h2⟩ := info_parts infoInts
  exact ⟨Tryd.underlying22, ⟨i0, hi, h0, h1, h2⟩, intTy, by decide⟩
theorem ret_bool {a b : Bool} (h : a = b) : Ending.returned (.bool a) = .returned (.bool b) := by rw [h]
theorem ret_int {k : IntKind} {a b : Int} (h : a = b) : Ending.returned (.int k a) = .returned (.int k b) := by rw [h]

def outB (n lo hi : Int) : Bool := decide (n < lo) || decide (hi < n)

theorem out_any (n lo hi : Int) (w : World) :
    Calls Tryd.prog 70 #[.int .i64 n, .int .i64 lo, .int .i64 hi] w fun e w' => e = .returned (.bool (outB n lo hi)) ∧ w = w' := by
  go_enter Tryd.func70, Tryd.ntmps70
  go_wp2
  all_goals (go_ret; refine ⟨ret_bool ?_, rfl⟩; unfold outB; simp; try omega)

def anyB (lo hi : Int) (l : List Int) : Bool := l.any fun n => outB n lo hi

theorem anyB_take (lo hi : Int) {l : List Int} {k : Nat} (h : k < l.length) (h0 : anyB lo hi (l.take k) = false) (h1 : outB (ix l k) lo hi = false) : anyB lo hi (l.take (k + 1)) = false := by
  rw [take_succ_ix h]
  unfold anyB at *
  simp [h0, h1]
theorem anyB_hit (lo hi : Int) {l : List Int} {k : Nat} (h : k < l.length) (h1 : outB (ix l k) lo hi = true) : anyB lo hi l = true := by
  unfold anyB
  exact List.any_eq_true.2 ⟨_, ix_mem h, h1⟩

theorem any_of_in {l : List Int} {lo hi : Int} (h : In lo hi l) : anyB lo hi l = false := by
  refine List.any_eq_false.2 fun x hx => ?_
  obtain ⟨k, hk, rfl⟩ := List.mem_iff_getElem.1 hx
  have := h k hk
  rw [ix_lt hk] at this
  simp [outB]
  omega

theorem in_of_any {l : List Int} {lo hi : Int} (h : anyB lo hi l = false) : In lo hi l := by
  intro k hk
  have h1 := List.any_eq_false.1 h (ix l k) (ix_mem hk)
  simp [outB] at h1
  omega

set_option maxHeartbeats 400000 in
theorem any_any (a : Option Addr) (len cap : Nat) (l : List Int) (lo hi : Int) (w : World) (h : RdI w a len cap l) :
    Calls Tryd.prog 78 #[.slice a len cap, .int .i64 lo, .int .i64 hi] w fun e w' => e = .returned (.bool (anyB lo hi l)) ∧ w = w' := by
  have hm := h.len_max
  go_enter Tryd.func78, Tryd.ntmps78
  go_wp2
  go_loop [11] (fun i => ∃ k : Nat, k ≤ len ∧ i = .int .i64 k ∧ Hid (anyB lo hi (l.take k) = false)) (fun i => len - (intOf i).toNat)
  case atStart => exact ⟨0, Nat.zero_le _, rfl, rfl⟩
  case round =>
    obtain ⟨k, hk, rfl, hno⟩ := hrel
    by_cases hlt : k < len
    · obtain ⟨b, off, rfl, _, hc⟩ := h.at hlt
      have hc := hc k hlt
      have hl : k < l.length := by have := h.len_eq; omega
      rcases ho : outB (ix l k) lo hi
      · have Ho := Lib.hid ho
        clear ho
        go_wp2_with (go_at_call 70; refine (out_any _ _ _ _).mono ?_; rintro e w' ⟨rfl, rfl⟩; rw [Ho.out])
        go_round
        case rel => exact ⟨k + 1, by omega, by go_num, anyB_take _ _ hl hno Ho.out⟩
        case measure => simp [intOf]; omega
      · have Ho := Lib.hid ho
        clear ho
        go_wp2_with (go_at_call 70; refine (out_any _ _ _ _).mono ?_; rintro e w' ⟨rfl, rfl⟩; rw [Ho.out])
        go_ret
        exact ⟨ret_bool (anyB_hit _ _ hl Ho.out).symm, rfl⟩
    · go_wp2
      go_ret
      refine ⟨ret_bool ?_, rfl⟩
      rw [← hno.out, List.take_of_length_le (by have := h.len_eq; omega)]

theorem Mod_any (n m : Int) (w : World) (hm : 0 < m) (h2 : m ≤ 1000000) :
    Calls Tryd.prog 86 #[.int .i64 n, .int .i64 m] w fun e w' => e = .returned (.int .i64 (n % m)) ∧ w = w' := by
  obtain ⟨b1, b2, b3⟩ := tmod_facts n hm
  have B3 := Lib.hid b3
  have h5 : (m == 0) = false := by simp; omega
  clear b3
  go_enter Tryd.func86, Tryd.ntmps86
  go_wp2
  all_goals
    go_ret
    refine ⟨ret_int ?_, rfl⟩
    first | exact B3.out | (rw [← Int.tmod_eq_emod_of_nonneg (by omega)]; exact B3.out) | (rw [Int.emod_eq_of_lt (by omega) (by omega)]; exact B3.out)
theorem Field_any (n : Int) (w : World) :
    Calls Tryd.prog 68 #[.int .i64 n] w fun e w' => e = .returned (.int .i64 (n % 9973)) ∧ w = w' := by
  have C := Lib.hid (Mod_any n 9973 w (by decide) (by decide))
  go_enter Tryd.func68, Tryd.ntmps68
  go_wp2_with (go_at_call 86; refine C.out.mono ?_; rintro e w' ⟨rfl, rfl⟩)
  go_ret
  exact ⟨rfl, rfl⟩
set_option maxHeartbeats 1000000 in
theorem Power_any (a : Int) (n : Nat) (w : World) (h1 : 0 ≤ a) (h2 : a ≤ 9972) (h3 : n ≤ 1000000) :
    Calls Tryd.prog 88 #[.int .i64 a, .int .i64 n] w fun e w' => e = .returned (.int .i64 (powm a n)) ∧ w = w' := by
  go_enter Tryd.func88, Tryd.ntmps88
  go_wp2
  go_loop [0, 1, 5] (fun x k o => ∃ (b o' : Int) (m : Nat), x = .int .i64 b ∧ k = .int .i64 m ∧ o = .int .i64 o' ∧ 0 ≤ b ∧ b ≤ 9972 ∧ 0 ≤ o' ∧ o' ≤ 9972 ∧ m ≤ n ∧ Hid (o' * b ^ m % 9973 = powm a n)) (fun _ k _ => (intOf k).toNat)
  case atStart => exact ⟨a, 1, n, rfl, rfl, rfl, h1, h2, by decide, by decide, Nat.le_refl _, by unfold Hid powm; rw [Int.one_mul]⟩
  case round =>
    obtain ⟨b, o', m, rfl, rfl, rfl, hb1, hb2, ho1, ho2, hm, he⟩ := hrel
    have p1 := mul_bd ⟨ho1, ho2⟩ ⟨hb1, hb2⟩
    have p2 := mul_bd ⟨hb1, hb2⟩ ⟨hb1, hb2⟩
    by_cases h0 : 0 < m
    · rcases Nat.mod_two_eq_zero_or_one m with hp | hp
      · have hp' : ((m : Int) % 2 == 1) = false := by simp; omega
        have Hp := Lib.hid hp
        clear hp
        go_wp2
        go_round
        case rel => exact ⟨b * b % 9973, o', m / 2, rfl, by go_num, rfl, by omega, by omega, ho1, ho2, by omega, powm_even he.out Hp.out⟩
        case measure => simp [intOf]; omega
      · have hp' : ((m : Int) % 2 == 1) = true := by simp; omega
        have Hp := Lib.hid hp
        clear hp
        go_wp2
        go_round
        case rel => exact ⟨b * b % 9973, o' * b % 9973, m / 2, rfl, by go_num, rfl, by omega, by omega, by omega, by omega, by omega, powm_odd he.out Hp.out⟩
        case measure => simp [intOf]; omega
    · obtain rfl : m = 0 := by omega
      go_wp2
      go_ret
      refine ⟨ret_int ?_, rfl⟩
      rw [← he.out]
      simp
      omega
theorem Over_any (a : Int) (w : World) (h1 : 0 ≤ a) (h2 : a ≤ 9972) :
    Calls Tryd.prog 74 #[.int .i64 a] w fun e w' => e = .returned (.int .i64 (powm a 9971)) ∧ w = w' := by
  have C := Lib.hid (Power_any a 9971 w h1 h2 (by decide))
  go_enter Tryd.func74, Tryd.ntmps74
  go_wp2_with (go_at_call 88; refine C.out.mono ?_; rintro e w' ⟨rfl, rfl⟩)
  go_ret
  exact ⟨rfl, rfl⟩
set_option maxHeartbeats 1000000 in
theorem Grid_any (n m : Nat) (w : World) (hn : n ≤ 1000) (hm : m ≤ 1000) :
    Calls Tryd.prog 64 #[.int .i64 n, .int .i64 m] w fun e w' => ∃ a cap, e = .returned (.slice a n cap) ∧ OwM w' w.heap.size 32 3 a n cap (List.replicate n (List.replicate m 0)) ∧ Below w.heap.size w w' := by
  have HM := Lib.hid matTy
  go_enter Tryd.func64, Tryd.ntmps64
  go_wp2_with (at_make; refine wpList_make_rows HM.out rfl (.tmp 7) (.tmp 7) rfl rfl rfl (by omega) ?_; intro w1 ho1 hb1)
  go_loopw [11] (fun i wr => ∃ (k : Nat), k ≤ n ∧ i = .int .i64 k ∧ OwM wr w.heap.size 32 3 (some ⟨w.heap.size, 0, none⟩) n n (gridN n m k) ∧ Below w.heap.size w wr) (fun i _ => n - (intOf i).toNat)
  case atStart => exact ⟨0, Nat.zero_le _, rfl, ho1, hb1⟩
  case round =>
    obtain ⟨k, hk, rfl, ho, hb⟩ := hrel
    by_cases hlt : k < n
    · have hsz := hb.size
      go_wp2_with (at_make; refine wpList_make_ints HM.out.int rfl (.tmp 16) (.tmp 16) rfl rfl rfl (by omega) ?_; intro w2 ho2 hb2; obtain ⟨g, hg, hg1, hg2, hfz, hrow⟩ := (ho.below hb2).at hlt; injection hg with hg; injection hg with hg; subst hg; obtain ⟨ar, cr, hc, _⟩ := hrow k hlt; have hf := hfz k)
      have hs := ho.setFresh (g := w.heap.size) (k := k) hlt rfl hb2 ho2 hsz HM.out.ne
      go_roundw
      case rel => exact ⟨k + 1, by omega, by go_num, hs, (hb.trans (hb2.mono hsz)).setCell (by simp) _⟩
      case measure => simp [intOf]; omega
    · obtain rfl : k = n := by omega
      go_wp2
      go_ret
      exact ⟨_, _, rfl, by rw [← gridN_full]; exact ho, hb⟩
set_option maxHeartbeats 1000000 in
theorem Copy_any {a : Option Addr} {n cap : Nat} {M : List (List Int)} {w : World} (h : RdM w a n cap M) (hn : n ≤ 1000) (hl : ∀ k, k < n → (rowOf M k).length ≤ 1000) :
    Calls Tryd.prog 67 #[.slice a n cap] w fun e w' => ∃ a' cap', e = .returned (.slice a' n cap') ∧ OwM w' w.heap.size 32 3 a' n cap' M ∧ Below w.heap.size w w' := by
  have HM := Lib.hid matTy
  have E1 := Lib.hid h.len_eq
  go_enter Tryd.func67, Tryd.ntmps67
  go_wp2_with (at_make; refine wpList_make_rows HM.out rfl (.tmp 7) (.tmp 7) rfl rfl rfl (by omega) ?_; intro w1 ho1 hb1)
  go_loopw [11] (fun i wr => ∃ (k : Nat), k ≤ n ∧ i = .int .i64 k ∧ OwM wr w.heap.size 32 3 (some ⟨w.heap.size, 0, none⟩) n n (copyN M n k) ∧ Below w.heap.size w wr) (fun i _ => n - (intOf i).toNat)
  case atStart => exact ⟨0, Nat.zero_le _, rfl, ho1, hb1⟩
  case round =>
    obtain ⟨k, hk, rfl, ho, hb⟩ := hrel
    by_cases hlt : k < n
    · have hsz := hb.size
      obtain ⟨b, off, rfl, hbl, hr⟩ := h.at hlt
      obtain ⟨ar, cr, hc, hrd⟩ := hr k hlt
      have hc := hb.keep hbl hc
      have hrd := hrd.below hb
      have hlk := hl k hlt
      have hrl := hrd.le
      go_wp2_with (at_builtin; refine wpList_append_ints HM.out.int rfl (.const (.slice none 0 0)) (.tmp 18) rfl rfl rfl (OwI.nil wr wr.heap.size _) hrd (by omega) (Nat.le_refl _) ?_; intro a3 cap3 w3 ho3 hg3; have hb3 := below_of_grown hg3; obtain ⟨g, hg, hg1, hg2, hfz, hrow⟩ := (ho.below hb3).at hlt; injection hg with hg; injection hg with hg; subst hg; obtain ⟨ar2, cr2, hc2, _⟩ := hrow k hlt; have hf := hfz k; have hc2 := hc2)
      rw [Nat.zero_add] at ho3
      have hs := ho.setFresh (g := w.heap.size) (k := k) hlt rfl hb3 ho3 hsz HM.out.ne
      go_roundw
      case rel => exact ⟨k + 1, by omega, by go_num, by rw [copyN]; simpa using hs, (hb.trans (hb3.mono hsz)).setCell (by simp) _⟩
      case measure => simp [intOf]; omega
    · obtain rfl : k = n := by omega
      go_wp2
      go_ret
      exact ⟨_, _, rfl, by rw [← copyN_full E1.out]; exact ho, hb⟩
/-- What is wrong with a row beside the first one. -/
def rowErr1 (lo hi : Int) (m : Nat) (l : List Int) : Option Int := if l.length ≠ m then some 3 else if anyB lo hi l then some 1 else none
/-- What is wrong with the first row with which something is. -/
def rowsErr (lo hi : Int) (m : Nat) (M : List (List Int)) : Option Int := M.foldl (fun r l => match r with | none => rowErr1 lo hi m l | some c => some c) none

theorem rowsErr_take {lo hi : Int} {m : Nat} {M : List (List Int)} {k : Nat} (h : k < M.length) :
    rowsErr lo hi m (M.take (k + 1)) = match rowsErr lo hi m (M.take k) with | none => rowErr1 lo hi m (rowOf M k) | some c => some c := by
  rw [List.take_succ_eq_append_getElem h]
  unfold rowsErr
  rw [List.foldl_append, rowOf_lt h]
  rfl

theorem rowsErr_at {lo hi : Int} {m : Nat} {M : List (List Int)} {k : Nat} {c : Int} (h : k < M.length) (h0 : rowsErr lo hi m (M.take k) = none) (h1 : rowErr1 lo hi m (rowOf M k) = some c) : rowsErr lo hi m M = some c := by
  have h2 := rowsErr_take (lo := lo) (hi := hi) (m := m) h
  rw [h0] at h2
  simp only [h1] at h2
  rw [← List.take_append_drop (k + 1) M]
  unfold rowsErr at h2 ⊢
  rw [List.foldl_append, h2]
  generalize M.drop (k + 1) = N
  induction N with
  | nil => rfl
  | cons x N ih => exact ih

theorem rowsErr_none {lo hi : Int} {m : Nat} {M : List (List Int)} (h : rowsErr lo hi m M = none) : ∀ k, k < M.length → (rowOf M k).length = m ∧ In lo hi (rowOf M k) := by
  have key : ∀ j, j ≤ M.length → rowsErr lo hi m (M.take j) = none := by
    intro j hj
    have : M.length - j ≤ M.length := Nat.sub_le _ _
    generalize hd : M.length - j = d at this
    induction d generalizing j with
    | zero =>
      rw [List.take_of_length_le (by omega)]
      exact h
    | succ d ih =>
      have h1 := ih (j + 1) (by omega) (by omega) (by omega)
      rw [rowsErr_take (by omega)] at h1
      split at h1
      · next e => exact e
      · cases h1
  intro k hk
  have h1 := key (k + 1) (by omega)
  rw [rowsErr_take hk, key k (by omega)] at h1
  simp only [rowErr1] at h1
  split at h1
  · cases h1
  · next e1 =>
    split at h1
    · cases h1
    · next e2 =>
      refine ⟨by omega, fun j hj => ?_⟩
      have e3 := List.any_eq_false.1 (by simpa [anyB] using e2) (ix (rowOf M k) j) (ix_mem hj)
      simp [outB] at e3
      omega

/-- What is wrong with its lengths. -/
def groundsPre (most : Int) (M : List (List Int)) : Option Int :=
  if M.length = 0 ∨ (rowOf M 0).length = 0 then some 5 else if most < M.length ∨ most < (rowOf M 0).length then some 4 else none

/-- What is wrong with a matrix. -/
def groundsR (most : Int) (lo hi : Int) (M : List (List Int)) : Option Int :=
  if M.length = 0 ∨ (rowOf M 0).length = 0 then some 5 else if most < M.length ∨ most < (rowOf M 0).length then some 4 else
    rowsErr lo hi (rowOf M 0).length M
theorem groundsPre_none {most : Int} {M : List (List Int)} (h : groundsPre most M = none) : 0 < (rowOf M 0).length ∧ (M.length : Int) ≤ most ∧ ((rowOf M 0).length : Int) ≤ most := by
  unfold groundsPre at h
  split at h
  · cases h
  · split at h
    · cases h
    · next h1 h2 => omega
theorem groundsPre_some {most lo hi : Int} {M : List (List Int)} {c : Int} (h : groundsPre most M = some c) : groundsR most lo hi M = some c := by
  unfold groundsPre at h
  unfold groundsR
  split at h
  · next e => rw [if_pos e]; exact h
  · next e =>
    rw [if_neg e]
    split at h
    · next e2 => rw [if_pos e2]; exact h
    · cases h
theorem groundsPre_cases {most : Int} {M : List (List Int)} {c : Int} (h : groundsPre most M = some c) (hM : 0 < M.length) : (c = 5 ∧ (rowOf M 0).length = 0) ∨ (c = 4 ∧ 0 < (rowOf M 0).length ∧ most < M.length) ∨
    (c = 4 ∧ 0 < (rowOf M 0).length ∧ (M.length : Int) ≤ most ∧ most < (rowOf M 0).length) := by
  unfold groundsPre at h
  split at h
  · next e => injection h with h; exact .inl ⟨h.symm, by omega⟩
  · split at h
    · next e1 e2 => injection h with h; exact .inr (by omega)
    · cases h
/-- What is wrong with a matrix that should be square. -/
def squareR (most lo hi : Int) (M : List (List Int)) : Option Int := if groundsR most lo hi M = none then (if M.length = (rowOf M 0).length then none else some 3) else groundsR most lo hi M
theorem groundsR_none {most lo hi : Int} {M : List (List Int)} (h : groundsR most lo hi M = none) : 0 < M.length ∧ 0 < (rowOf M 0).length ∧ (M.length : Int) ≤ most ∧ ((rowOf M 0).length : Int) ≤ most ∧ ∀ k, k < M.length → (rowOf M k).length = (rowOf M 0).length ∧ In lo hi (rowOf M k) := by
  unfold groundsR at h
  split at h
  · cases h
  · split at h
    · cases h
    · next h1 h2 => exact ⟨by omega, by omega, by omega, by omega, rowsErr_none h⟩
set_option maxHeartbeats 2000000 in
theorem Grounds_any {a : Option Addr} {n cap : Nat} {M : List (List Int)} (most lo hi : Int) {w : World} (h : RdM w a n cap M) :
    Calls Tryd.prog 63 #[.slice a n cap, .int .i64 most, .int .i64 lo, .int .i64 hi] w fun e w' => e = .returned (errV (groundsR most lo hi M)) ∧ w = w' := by
  have E1 := Lib.hid h.len_eq
  have hm := h.len_max
  by_cases h0 : n = 0
  · subst h0
    go_enter Tryd.func63, Tryd.ntmps63
    go_wp2
    go_ret
    refine ⟨?_, rfl⟩
    unfold groundsR
    rw [if_pos (.inl E1.out)]
    rfl
  obtain ⟨b, off, rfl, hbl, hr⟩ := h.at (k := 0) (by omega)
  obtain ⟨ar0, cr0, hc0, hrd0⟩ := hr 0 (by omega)
  rw [Nat.add_zero] at hc0
  have hm0 := hrd0.len_max
  have z1 : ((n : Int) == 0) = false := by simp; omega
  rcases hq : groundsPre most M with _ | c
  · obtain ⟨p1, p2, p3⟩ := groundsPre_none hq
    have HR : Hid (groundsR most lo hi M = rowsErr lo hi (rowOf M 0).length M) := by
      unfold Hid groundsR
      rw [if_neg (by rw [E1.out]; omega), if_neg (by omega)]
    have p2' : (n : Int) ≤ most := by rw [← E1.out]; exact p2
    have z2 : (((rowOf M 0).length : Int) == 0) = false := beq_eq_false_iff_ne.2 (by omega)
    clear hq p2
    go_enter Tryd.func63, Tryd.ntmps63
    go_wp2
    go_loop [39] (fun i => ∃ k : Nat, k ≤ n ∧ i = .int .i64 k ∧ Hid (rowsErr lo hi (rowOf M 0).length (M.take k) = none)) (fun i => n - (intOf i).toNat)
    case atStart => exact ⟨0, Nat.zero_le _, rfl, rfl⟩
    case round =>
      obtain ⟨k, hk, rfl, hno⟩ := hrel
      by_cases hlt : k < n
      · obtain ⟨ar, cr, hc, hrd⟩ := hr k hlt
        have hmk := hrd.len_max
        have hl : k < M.length := by rw [E1.out]; exact hlt
        by_cases hw : (rowOf M k).length = (rowOf M 0).length
        · have z3 : (((rowOf M k).length : Int) != ((rowOf M 0).length : Int)) = false := bne_eq_false_iff_eq.2 (by omega)
          rcases hany : anyB lo hi (rowOf M k)
          · have Ha := Lib.hid hany
            have Hw := Lib.hid hw
            clear hany hw
            go_wp2_with (go_at_call 78; refine (any_any _ _ _ _ _ _ _ hrd).mono ?_; rintro e w' ⟨rfl, rfl⟩; rw [Ha.out])
            go_round
            case rel => exact ⟨k + 1, by omega, by go_num, by unfold Hid; rw [rowsErr_take hl, hno.out, rowErr1, Ha.out, if_neg (by rw [Hw.out]; simp)]; rfl⟩
            case measure => simp [intOf]; omega
          · have Ha := Lib.hid hany
            have Hw := Lib.hid hw
            clear hany hw
            go_wp2_with (go_at_call 78; refine (any_any _ _ _ _ _ _ _ hrd).mono ?_; rintro e w' ⟨rfl, rfl⟩; rw [Ha.out])
            go_ret
            refine ⟨?_, rfl⟩
            rw [HR.out, rowsErr_at hl hno.out (c := 1) (by rw [rowErr1, Ha.out, if_neg (by rw [Hw.out]; simp)]; rfl)]
            rfl
        · have z3 : (((rowOf M k).length : Int) != ((rowOf M 0).length : Int)) = true := bne_iff_ne.2 (by omega)
          have Hw := Lib.hid hw
          clear hw
          go_wp2
          go_ret
          refine ⟨?_, rfl⟩
          rw [HR.out, rowsErr_at hl hno.out (c := 3) (by rw [rowErr1, if_pos Hw.out])]
          rfl
      · go_wp2
        go_ret
        refine ⟨?_, rfl⟩
        have hfin := hno.out
        rw [List.take_of_length_le (by rw [E1.out]; omega)] at hfin
        rw [HR.out, hfin]
        rfl
  · have HR : Hid (groundsR most lo hi M = some c) := groundsPre_some hq
    have hq2 := groundsPre_cases hq (by rw [E1.out]; omega)
    have p5 : (n : Int) = M.length := by rw [E1.out]
    rcases hq2 with ⟨rfl, hz⟩ | ⟨rfl, hz1, hz2⟩ | ⟨rfl, hz1, hz2, hz3⟩
    · have z2 : (((rowOf M 0).length : Int) == 0) = true := beq_iff_eq.2 (by omega)
      have HP := Lib.hid p5
      clear hq hz p5
      go_enter Tryd.func63, Tryd.ntmps63
      go_wp2
      go_ret
      exact ⟨by rw [HR.out]; rfl, rfl⟩
    · have z2 : (((rowOf M 0).length : Int) == 0) = false := beq_eq_false_iff_ne.2 (by omega)
      have z4 : most < (n : Int) := by omega
      have HP := Lib.hid p5
      clear hq p5 hz1 hz2
      go_enter Tryd.func63, Tryd.ntmps63
      go_wp2
      go_ret
      exact ⟨by rw [HR.out]; rfl, rfl⟩
    · have z2 : (((rowOf M 0).length : Int) == 0) = false := beq_eq_false_iff_ne.2 (by omega)
      have z4 : (n : Int) ≤ most := by omega
      have z5 : most < ((rowOf M 0).length : Int) := hz3
      have HP := Lib.hid p5
      clear hq p5 hz1 hz2 hz3
      go_enter Tryd.func63, Tryd.ntmps63
      go_wp2
      go_ret
      exact ⟨by rw [HR.out]; rfl, rfl⟩
end Go.Proofs.YtkielldinghmbaaDoor
namespace Go.Proofs.YtkielldinghmbaaDoor
open Go.RowKit Go.Rk

theorem rd2 {w : World} {b : Nat} {x y : Int} (h0 : w.cell? ⟨b, 0, none⟩ = some (.int .i64 x)) (h1 : w.cell? ⟨b, 1, none⟩ = some (.int .i64 y)) : RdI w (some ⟨b, 0, none⟩) 2 2 [x, y] := by
  refine ⟨rfl, Nat.le_refl _, by decide, fun k hk => ⟨b, 0, rfl, ?_⟩⟩
  rcases k with _ | k
  · exact h0
  · obtain rfl : k = 0 := by omega
    exact h1
/-- A written matrix of two rows of two numbers. -/
theorem rd22 {w : World} {b p q : Nat} {x y z u : Int} (h0 : w.cell? ⟨b, 0, none⟩ = some (.slice (some ⟨p, 0, none⟩) 2 2)) (h1 : w.cell? ⟨b, 1, none⟩ = some (.slice (some ⟨q, 0, none⟩) 2 2))
    (c0 : w.cell? ⟨p, 0, none⟩ = some (.int .i64 x)) (c1 : w.cell? ⟨p, 1, none⟩ = some (.int .i64 y)) (c2 : w.cell? ⟨q, 0, none⟩ = some (.int .i64 z)) (c3 : w.cell? ⟨q, 1, none⟩ = some (.int .i64 u)) :
    RdM w (some ⟨b, 0, none⟩) 2 2 [[x, y], [z, u]] := RdM.two h0 (rd2 c0 c1) h1 (rd2 c2 c3)

theorem below_al {w w' : World} (h : Below w.heap.size w w') (o : Obj) : Below w.heap.size w (w'.alloc o) := h.alloc h.size o
theorem below_tr {w w' w2 : World} (h : Below w.heap.size w w') (k : Below w'.heap.size w' w2) : Below w.heap.size w w2 := h.trans (k.mono h.size)
end Go.Proofs.YtkielldinghmbaaDoor
