/-
  How slices of integers read in a world, and slices that a call makes for itself; the laws of append and make in these words. No program in sight.
  The arguments of a statement, opened: slices of integers, slices of slices of integers. No program in sight.
-/
import Derived.WalkKit
import Derived.WalkSpells
import Derived.WalkLawsBesides
import Derived.Lib.Hide
import Derived.Deep.AppendLies
import Derived.Deep.Onto
import Derived.ProofKit
import Derived.Deep.Matrix
namespace Go.Rk
open Go.RowKit

/-- The number at a place of a list. Not reducible: the walk leaves it alone. -/
def ix (l : List Int) (k : Nat) : Int := l.getD k 0

theorem ix_lt {l : List Int} {k : Nat} (h : k < l.length) : ix l k = l[k] := by simp [ix, List.getD, h]
theorem ix_mem {l : List Int} {k : Nat} (h : k < l.length) : ix l k ∈ l := by rw [ix_lt h]; exact List.getElem_mem h
theorem ix_ge {l : List Int} {k : Nat} (h : l.length ≤ k) : ix l k = 0 := by simp [ix, List.getD, h]
theorem take_succ_ix {l : List Int} {k : Nat} (h : k < l.length) : l.take (k + 1) = l.take k ++ [ix l k] := by
  rw [List.take_succ_eq_append_getElem h, ix_lt h]
theorem ix_append_left {l m : List Int} {k : Nat} (h : k < l.length) : ix (l ++ m) k = ix l k := by
  simp [ix, List.getD, List.getElem?_append_left h]
theorem ix_append_right {l m : List Int} {k : Nat} (h : l.length ≤ k) : ix (l ++ m) k = ix m (k - l.length) := by
  simp [ix, List.getD, List.getElem?_append_right h]
theorem ix_set (l : List Int) (k j : Nat) (x : Int) : ix (l.set k x) j = if k = j ∧ j < l.length then x else ix l j := by
  simp only [ix, List.getD, List.getElem?_set]
  by_cases h1 : k = j
  · subst h1
    by_cases h2 : k < l.length <;> simp [h2]
  · simp [h1]
theorem ix_take {l : List Int} {n k : Nat} (h : k < n) : ix (l.take n) k = ix l k := by simp [ix, List.getD, h]
theorem ix_drop (l : List Int) (n k : Nat) : ix (l.drop n) k = ix l (n + k) := by simp [ix, List.getD, List.getElem?_drop]
theorem ix_reverse {l : List Int} {k : Nat} (h : k < l.length) : ix l.reverse k = ix l (l.length - 1 - k) := by
  rw [ix_lt (by simpa using h), ix_lt (by omega), List.getElem_reverse]
theorem ix_ext {l m : List Int} (h : l.length = m.length) (e : ∀ k, k < l.length → ix l k = ix m k) : l = m := by
  apply List.ext_getElem h
  intro i h1 h2
  have := e i h1
  rwa [ix_lt h1, ix_lt h2] at this

/-- All numbers of a list lie between. -/
def In (lo hi : Int) (l : List Int) : Prop := ∀ k, k < l.length → lo ≤ ix l k ∧ ix l k ≤ hi

theorem tmod_neg (n : Int) (h : n < 0) : (-9973 < n.tmod 9973 ∧ n.tmod 9973 ≤ 0) ∧ (n.tmod 9973 < 0 → n % 9973 = n.tmod 9973 + 9973) ∧ (0 ≤ n.tmod 9973 → n % 9973 = n.tmod 9973) := by
  have t := Int.tmod_eq_emod (a := n) (b := 9973)
  rw [t]
  split <;> simp <;> omega

theorem gcd_tmod (a b : Int) : (Int.gcd b (a.tmod b) : Int) = Int.gcd a b := by
  unfold Int.gcd
  rw [Int.natAbs_tmod, Nat.gcd_comm b.natAbs, ← Nat.gcd_rec, Nat.gcd_comm]

theorem tmod_facts (n : Int) {m : Int} (h : 0 < m) : -m < n.tmod m ∧ n.tmod m < m ∧ (n.tmod m + m).tmod m = n % m := by
  have t := Int.tmod_eq_emod (a := n) (b := m)
  have e1 := Int.emod_nonneg n (by omega : m ≠ 0)
  have e2 := Int.emod_lt_of_pos n h
  have hm : (m.natAbs : Int) = m := by omega
  have key : -m < n.tmod m ∧ n.tmod m < m ∧ (n.tmod m + m) % m = n % m := by
    rw [t]
    split
    · refine ⟨by omega, by omega, ?_⟩
      simp
    · rw [hm]
      refine ⟨by omega, by omega, ?_⟩
      rw [show n % m - m + m = n % m from by omega, Int.emod_emod_of_dvd n (Int.dvd_refl m)]
  refine ⟨key.1, key.2.1, ?_⟩
  rw [Int.tmod_eq_emod_of_nonneg (by omega), key.2.2]

/-- A power, modulo 9973. -/
def powm (a : Int) (n : Nat) : Int := a ^ n % 9973

theorem pow_emod (a : Int) (n : Nat) : (a % 9973) ^ n % 9973 = a ^ n % 9973 := by
  induction n with
  | zero => simp
  | succ n ih => rw [Int.pow_succ, Int.pow_succ, Int.mul_emod, ih, Int.emod_emod_of_dvd a (Int.dvd_refl 9973), ← Int.mul_emod]

theorem sq_pow (b : Int) (k : Nat) : (b * b) ^ k = b ^ (2 * k) := by
  induction k with
  | zero => simp
  | succ k ih => rw [Int.pow_succ, ih, show 2 * (k + 1) = 2 * k + 1 + 1 from by omega, Int.pow_succ, Int.pow_succ, Int.mul_assoc]

theorem powm_even {o b c : Int} {m : Nat} (h : o * b ^ m % 9973 = c) (hp : m % 2 = 0) : o * (b * b % 9973) ^ (m / 2) % 9973 = c := by
  rw [← h, Int.mul_emod, pow_emod, ← Int.mul_emod]
  congr 2
  rw [sq_pow, show 2 * (m / 2) = m from by omega]

theorem powm_odd {o b c : Int} {m : Nat} (h : o * b ^ m % 9973 = c) (hp : m % 2 = 1) : o * b % 9973 * (b * b % 9973) ^ (m / 2) % 9973 = c := by
  rw [← h, Int.mul_emod, pow_emod, Int.emod_emod_of_dvd _ (Int.dvd_refl 9973), ← Int.mul_emod]
  congr 1
  rw [sq_pow, show 2 * (m / 2) = m - 1 from by omega, Int.mul_assoc]
  congr 1
  rw [Int.mul_comm, ← Int.pow_succ, show (m - 1).succ = m from by omega]

theorem mul_bd {a b : Int} (h : 0 ≤ a ∧ a ≤ 9972) (k : 0 ≤ b ∧ b ≤ 9972) : 0 ≤ a * b ∧ a * b ≤ 99440784 :=
  ⟨Int.mul_nonneg h.1 k.1, (Int.mul_le_mul h.2 k.2 k.1 (by omega) : a * b ≤ 9972 * 9972)⟩

/-- The slice value '.slice a len cap' reads as the list l in the world w. -/
structure RdI (w : World) (a : Option Addr) (len cap : Nat) (l : List Int) : Prop where
  len_eq : l.length = len
  le : len ≤ cap
  max : cap ≤ maxLen
  cell : ∀ k, k < len → ∃ b off, a = some ⟨b, off, none⟩ ∧ w.cell? ⟨b, off + k, none⟩ = some (.int .i64 (ix l k))

section
variable {w w' : World} {a : Option Addr} {len cap : Nat} {l : List Int}

theorem RdI.at (h : RdI w a len cap l) {k : Nat} (hk : k < len) :
    ∃ b off, a = some ⟨b, off, none⟩ ∧ b < w.heap.size ∧ ∀ i, i < len → w.cell? ⟨b, off + i, none⟩ = some (.int .i64 (ix l i)) := by
  obtain ⟨b, off, ha, hc0⟩ := h.cell k hk
  refine ⟨b, off, ha, World.block_lt_of_cell? w _ hc0, fun i hi => ?_⟩
  obtain ⟨b', off', ha', hc⟩ := h.cell i hi
  rw [ha] at ha'
  cases ha'
  exact hc

theorem RdI.below (h : RdI w a len cap l) (hb : Below w.heap.size w w') : RdI w' a len cap l := by
  refine ⟨h.len_eq, h.le, h.max, fun k hk => ?_⟩
  obtain ⟨b, off, ha, hc⟩ := h.cell k hk
  refine ⟨b, off, ha, ?_⟩
  rw [hb.cell (World.block_lt_of_cell? w _ hc)]
  exact hc

theorem RdI.nil (w : World) : RdI w none 0 0 [] := ⟨rfl, Nat.le_refl _, Nat.zero_le _, fun _ h => absurd h (Nat.not_lt_zero _)⟩

theorem RdI.alloc (h : RdI w a len cap l) (o : Obj) : RdI (w.alloc o) a len cap l := h.below ((Below.refl _ _).alloc (Nat.le_refl _) o)

theorem RdI.drewN (h : RdI w a len cap l) (n : Nat) : RdI (w.drewN n) a len cap l := h.below (below_drewN (Below.refl _ _) n)

/-- A list that the text writes out. -/
theorem RdI.lit (w : World) (l : List Int) (E : TypeId) (h : l.length ≤ maxLen) : RdI (w.alloc (.cells (l.map (Value.int .i64)).toArray E)) (some ⟨w.heap.size, 0, none⟩) l.length l.length l := by
  refine ⟨rfl, Nat.le_refl _, h, fun k hk => ⟨w.heap.size, 0, rfl, ?_⟩⟩
  rw [World.cell?_alloc_at _ _ _ _ rfl, Nat.zero_add]
  simp [ix_lt hk, hk]

theorem RdI.lit' (w : World) (l : List Int) (E : TypeId) {b : Nat} (h : l.length ≤ maxLen) (hb : b = w.heap.size) : RdI (w.alloc (.cells (l.map (Value.int .i64)).toArray E)) (some ⟨b, 0, none⟩) l.length l.length l := by
  subst hb
  exact RdI.lit w l E h

theorem RdI.len_max (h : RdI w a len cap l) : len ≤ 9223372036854775807 := by
  have h1 := h.le; have h2 := h.max; unfold maxLen at h2; omega

theorem RdI.one {blk c2 : Nat} {z : Int} (hc : w.cell? ⟨blk, 0, none⟩ = some (.int .i64 z)) (hc2 : 1 ≤ c2) (hm2 : c2 ≤ maxLen) : RdI w (some ⟨blk, 0, none⟩) 1 c2 [z] := by
  refine ⟨rfl, hc2, hm2, fun k hk => ⟨blk, 0, rfl, ?_⟩⟩
  obtain rfl : k = 0 := by omega
  exact hc

/-- A first part of a slice: x[:n]. -/
theorem RdI.take (h : RdI w a len cap l) {n : Nat} (hn : n ≤ len) : RdI w a n cap (l.take n) := by
  refine ⟨by rw [List.length_take, h.len_eq]; omega, Nat.le_trans hn h.le, h.max, fun k hk => ?_⟩
  obtain ⟨b, off, ha, hc⟩ := h.cell k (by omega)
  exact ⟨b, off, ha, by rw [ix_take hk]; exact hc⟩

/-- x[lo:hi], where the slice's place is known. -/
theorem RdI.cut {b off lo hi : Nat} (h : RdI w (some ⟨b, off, none⟩) len cap l) (h1 : lo ≤ hi) (h2 : hi ≤ len) : RdI w (some ⟨b, off + lo, none⟩) (hi - lo) (cap - lo) ((l.take hi).drop lo) := by
  have h3 := h.le
  refine ⟨by rw [List.length_drop, List.length_take, h.len_eq]; omega, by omega, Nat.le_trans (Nat.sub_le _ _) h.max, fun k hk => ?_⟩
  obtain ⟨b', off', ha, hc⟩ := h.cell (lo + k) (by omega)
  injection ha with ha
  injection ha with e1 e2
  subst e1; subst e2
  refine ⟨b, off + lo, rfl, ?_⟩
  rw [ix_drop, ix_take (by omega), Nat.add_assoc]; exact hc

/-- A slice from a place on: x[n:], x[n:m]. -/
theorem RdI.drop (h : RdI w a len cap l) {n : Nat} (hn : n ≤ len) : RdI w (if cap = n then a else a.map (·.add n)) (len - n) (cap - n) (l.drop n) := by
  have h1 := h.le
  refine ⟨by rw [List.length_drop, h.len_eq], by omega, Nat.le_trans (Nat.sub_le _ _) h.max, fun k hk => ?_⟩
  obtain ⟨b, off, ha, hc⟩ := h.cell (n + k) (by omega)
  subst ha
  rw [if_neg (by omega)]
  refine ⟨b, off + n, ?_, ?_⟩
  · simp only [Option.map_some, Addr.add]
    split
    · next e => subst e; rfl
    · rfl
  · rw [ix_drop, Nat.add_assoc]; exact hc
end

/-- The slice value '.slice a n cap' is a call's own (its block is B or a later one), may be written, and reads as l. E: the number of the type int. -/
structure OwI (w : World) (B E : Nat) (a : Option Addr) (n cap : Nat) (l : List Int) : Prop where
  len_eq : l.length = n
  own : w.ownsRow B E 1 (.slice a n cap) n (l.map (Value.int .i64))

section
variable {w w' : World} {B B' E : Nat} {a : Option Addr} {n cap : Nat} {l : List Int}

theorem OwI.nil (w : World) (B E : Nat) : OwI w B E none 0 0 [] := ⟨rfl, World.ownsRow_nil w B E 1⟩

theorem OwI.at (h : OwI w B E a n cap l) (hn : 0 < n) :
    ∃ g, a = some ⟨g, 0, none⟩ ∧ B ≤ g ∧ g < w.heap.size ∧ (∀ i, i < n → w.cell? ⟨g, i, none⟩ = some (.int .i64 (ix l i))) ∧ ∀ i, w.frozen? ⟨g, i, none⟩ = false := by
  obtain ⟨g, c, hv, hb, hlt⟩ := h.own.form hn
  injection hv with ha _ hc
  subst ha; subst hc
  refine ⟨g, rfl, hb, hlt, fun i hi => ?_, fun i => h.own.frozenAt i⟩
  rw [h.own.cellAt i (by omega), List.getElem?_map, List.getElem?_eq_getElem (by rw [h.len_eq]; exact hi), ix_lt (by rw [h.len_eq]; exact hi)]
  rfl

theorem OwI.caps (h : OwI w B E a n cap l) : n ≤ cap ∧ cap ≤ maxLen := by
  rcases h.own.2 with ⟨hv, h0⟩ | ⟨g, c, cur, hv, _, _, hc, hm, _⟩
  · injection hv with _ _ hc
    subst hc; subst h0
    exact ⟨Nat.le_refl _, Nat.zero_le _⟩
  · injection hv with _ _ hc'
    subst hc'
    exact ⟨hc, hm⟩

theorem OwI.rd (h : OwI w B E a n cap l) : RdI w a n cap l := by
  refine ⟨h.len_eq, h.caps.1, h.caps.2, fun k hk => ?_⟩
  obtain ⟨g, ha, _, _, hc, _⟩ := h.at (Nat.lt_of_le_of_lt (Nat.zero_le _) hk)
  exact ⟨g, 0, ha, by rw [Nat.zero_add]; exact hc k hk⟩

theorem OwI.mono (h : OwI w B E a n cap l) (hb : B' ≤ B) : OwI w B' E a n cap l := ⟨h.len_eq, h.own.mono hb⟩

theorem OwI.grown {row : Option Nat} (h : OwI w B E a n cap l) (hg : w.grownBy w' row) (hne : (Value.slice a n cap).ownBlock = none ∨ (Value.slice a n cap).ownBlock ≠ row) : OwI w' B E a n cap l :=
  ⟨h.len_eq, h.own.kept hg hne⟩

theorem OwI.below (h : OwI w B E a n cap l) (hb : Below w.heap.size w w') : OwI w' B E a n cap l :=
  h.grown (row := none) ⟨hb.os, hb.tape, hb.output, hb.size, fun k hk _ => hb.block k hk⟩ (by cases (Value.slice a n cap).ownBlock <;> simp)

theorem OwI.alloc (h : OwI w B E a n cap l) (o : Obj) : OwI (w.alloc o) B E a n cap l := ⟨h.len_eq, h.own.alloc o⟩

theorem OwI.drew (h : OwI w B E a n cap l) : OwI w.drew B E a n cap l := h.below (Below.refl _ _).drew
theorem OwI.drewN (h : OwI w B E a n cap l) (k : Nat) : OwI (w.drewN k) B E a n cap l := h.below (below_drewN (Below.refl _ _) k)

/-- A cell that lies below is as it was. -/
theorem _root_.Go.RowKit.Below.keep {b off : Nat} {v : Value} (hb : Below B w w') (hp : b < B) (hc : w.cell? ⟨b, off, none⟩ = some v) : w'.cell? ⟨b, off, none⟩ = some v := by
  rw [hb.cell hp]; exact hc

theorem OwI.set {g k : Nat} (h : OwI w B E (some ⟨g, 0, none⟩) n cap l) (x : Int) : OwI (w.setCell ⟨g, k, none⟩ (.int .i64 x)) B E (some ⟨g, 0, none⟩) n cap (l.set k x) :=
  ⟨by rw [List.length_set]; exact h.len_eq, by rw [List.map_set]; exact (h.own.stored k _).1⟩

theorem OwI.setElse {g : Nat} {p : Addr} (h : OwI w B E (some ⟨g, 0, none⟩) n cap l) (hp : p.block ≠ g) (u : Value) : OwI (w.setCell p u) B E (some ⟨g, 0, none⟩) n cap l :=
  h.grown (row := some p.block) ⟨rfl, rfl, rfl, by simp, fun k _ hk => Below.heap_setCell _ _ _ _ (fun e => hk (by rw [e]))⟩ (Or.inr (by simp [Value.ownBlock]; exact fun e => hp e.symm))
end

/-- The length of a slice value. -/
def lenOf : Value → Nat | .slice _ n _ => n | _ => 0

/-- T: the number of the type []int, E: of int, in the program P. -/
structure IntTy (P : Program) (T E : TypeId) : Prop where
  ht : P.underlying T = some (.slice E)
  hi : ∃ i, P.info? E = some i ∧ i.zero = some (.int .i64 0) ∧ i.size = 1 ∧ i.bytes = 8

section
variable {P : Program} {T E : TypeId} {B : Nat} {w : World}

theorem rd_cells {a : Addr} {len cap : Nat} {l : List Int} (h : RdI w (some a) len cap l) : ∀ (j : Nat) u, (l.map (Value.int .i64))[j]? = some u → w.cell? (a.add j) = some u := by
  intro j u hu
  have hj : j < l.length := by
    rcases Nat.lt_or_ge j l.length with hlt | hge
    · exact hlt
    · rw [List.getElem?_eq_none (by simpa using hge)] at hu; cases hu
  obtain ⟨b, off, ha, hc⟩ := h.cell j (by rw [← h.len_eq]; exact hj)
  injection ha with ha
  subst ha
  rw [List.getElem?_map, List.getElem?_eq_getElem hj] at hu
  injection hu with hu
  rw [show (⟨b, off, none⟩ : Addr).add j = ⟨b, off + j, none⟩ from by unfold Addr.add; split <;> simp_all, hc, ix_lt hj, hu]

theorem oneCell_ints (l : List Int) : ∀ u ∈ l.map (Value.int .i64), u.oneCell' = true := by
  intro u hu
  obtain ⟨x, _, rfl⟩ := List.mem_map.1 hu
  rfl

/-- append(s, x...) onto a slice of the call's own. -/
theorem run_append_ints (hT : IntTy P T E) (ty : TypeId) {a a2 : Option Addr} {n cap n2 c2 : Nat} {l l2 : List Int} (hown : OwI w B E a n cap l) (hr : RdI w a2 n2 c2 l2)
    (hn : (n + n2) * 8 ≤ 140737488355328) (hB : B ≤ w.heap.size) :
    ∃ a' cap' w', (Builtin.append_ #[T, T] ty #[.slice a n cap, .slice a2 n2 c2]).run P w = .ok (.slice a' (n + n2) cap') w' ∧ OwI w' B E a' (n + n2) cap' (l ++ l2) ∧ w.grownBy w' (Value.slice a n cap).ownBlock := by
  obtain ⟨i, hi, hz, hs, hby⟩ := hT.hi
  rcases a2 with _ | ad
  · have h2 : n2 = 0 := by
      rcases Nat.eq_zero_or_pos n2 with h0 | h0
      · exact h0
      · obtain ⟨b, off, h, _⟩ := hr.cell 0 h0
        cases h
    subst h2
    have hl2 : l2 = [] := List.eq_nil_of_length_eq_zero hr.len_eq
    subst hl2
    refine ⟨a, cap, w, ?_, by simpa using hown, ⟨rfl, rfl, rfl, Nat.le_refl _, fun _ _ _ => rfl⟩⟩
    rcases hown.own.2 with ⟨hv, _⟩ | ⟨g, c, cur, hv, _, _, hnc, _⟩
    · injection hv with h1 h2 h3
      subst h1; subst h2; subst h3
      simp [Builtin.append_, run_underlying hT.ht, sizeOf, typeInfo, hi, Builtin.lenOf, Builtin.firstCells]
    · injection hv with h1 h2 h3
      subst h1; subst h3
      simp [Builtin.append_, run_underlying hT.ht, sizeOf, typeInfo, hi, Builtin.lenOf, Builtin.firstCells, hnc, storeCells]
  · obtain ⟨v', w', hrun, ho, hg, _⟩ := run_append_own (P := P) w B T ty E i (.int .i64 0) 1 8 hT.ht hi hz hs hby rfl (by decide) _ n _ hown.own ad n2 c2 (l2.map (Value.int .i64)) (by simp [hr.len_eq])
      (rd_cells hr) (oneCell_ints l2) (by unfold maxLen; omega) hn hB
    have hsh : ∃ a' cap', v' = .slice a' (n + n2) cap' := by
      rcases ho.2 with ⟨h, h0⟩ | ⟨g, c, cur, h, _⟩
      · exact ⟨none, 0, by rw [h, h0]⟩
      · exact ⟨_, _, h⟩
    obtain ⟨a', cap', rfl⟩ := hsh
    exact ⟨a', cap', w', hrun, ⟨by simp [hown.len_eq, hr.len_eq], by rw [List.map_append]; exact ho⟩, hg⟩

theorem wpList_append_ints (hT : IntTy P T E) {ops : Array Oper} {rest : List Oper} {o : Oper} {ac : Act} {Q : Exit → Act → World → Prop} (hgd : o.guard = none) (s x : Operand)
    (ho : o.op = .call { callee := .builtin .append, args := #[s, x], argTypes := #[T, T] })
    {a a2 : Option Addr} {n cap n2 c2 : Nat} {l l2 : List Int} (hs : ac.eval s = .slice a n cap) (hx : ac.eval x = .slice a2 n2 c2) (hown : OwI w B E a n cap l) (hr : RdI w a2 n2 c2 l2)
    (hn : (n + n2) * 8 ≤ 140737488355328) (hB : B ≤ w.heap.size)
    (h : ∀ a' cap' w', OwI w' B E a' (n + n2) cap' (l ++ l2) → w.grownBy w' (Value.slice a n cap).ownBlock → wpList P ops Q rest (ac.put o.dst (.slice a' (n + n2) cap')) w') : wpList P ops Q (o :: rest) ac w := by
  refine wpList_plain hgd fun K hK => ?_
  obtain ⟨a', cap', w', hrun, h2, h3⟩ := run_append_ints (ty := o.type) hT hown hr hn hB
  unfold Oper.wp execOp
  simp only [ho, resolve, invoke, builtin, Sem.run_bind, Sem.run_pure, Result.andThen_ok, List.map_toArray, List.map_cons, List.map_nil, hs, hx, hrun]
  exact hK _ _ (h a' cap' w' h2 h3)

/-- append(s, z): behind the block of one cell that the call lays for z. -/
theorem wpList_push_int (hT : IntTy P T E) {ops : Array Oper} {rest : List Oper} {o : Oper} {ac : Act} {Q : Exit → Act → World → Prop} (hgd : o.guard = none) (s x : Operand)
    (ho : o.op = .call { callee := .builtin .append, args := #[s, x], argTypes := #[T, T] })
    {a : Option Addr} {n cap blk c2 : Nat} {l : List Int} {z : Int} (hs : ac.eval s = .slice a n cap) (hx : ac.eval x = .slice (some ⟨blk, 0, none⟩) 1 c2) (hown : OwI w B E a n cap l)
    (hc : w.cell? ⟨blk, 0, none⟩ = some (.int .i64 z)) (hc2 : 1 ≤ c2) (hm2 : c2 ≤ maxLen) (hn : (n + 1) * 8 ≤ 140737488355328) (hB : B ≤ w.heap.size)
    (h : ∀ a' cap' w', OwI w' B E a' (n + 1) cap' (l ++ [z]) → w.grownBy w' (Value.slice a n cap).ownBlock → wpList P ops Q rest (ac.put o.dst (.slice a' (n + 1) cap')) w') : wpList P ops Q (o :: rest) ac w :=
  wpList_append_ints hT hgd s x ho hs hx hown (RdI.one hc hc2 hm2) hn hB h
end

section
variable {P : Program} {T E : TypeId} {B : Nat} {w : World}

/-- append(s, z) as one step of a region that draws its order. -/
theorem step_push_int (hT : IntTy P T E) {ops : Array Oper} {o : Oper} {ac : Act} {K : Act → World → Prop} {Q : Exit → Act → World → Prop} {F : Prop} (hgd : o.guard = none) (s x : Operand)
    (ho : o.op = .call { callee := .builtin .append, args := #[s, x], argTypes := #[T, T] })
    {a : Option Addr} {n cap blk c2 : Nat} {l : List Int} {z : Int} (hs : ac.eval s = .slice a n cap) (hx : ac.eval x = .slice (some ⟨blk, 0, none⟩) 1 c2) (hown : OwI w B E a n cap l)
    (hc : w.cell? ⟨blk, 0, none⟩ = some (.int .i64 z)) (hc2 : 1 ≤ c2) (hm2 : c2 ≤ maxLen) (hn : (n + 1) * 8 ≤ 140737488355328) (hB : B ≤ w.heap.size)
    (h : ∀ a' cap' w', OwI w' B E a' (n + 1) cap' (l ++ [z]) → w.grownBy w' (Value.slice a n cap).ownBlock → K (ac.put o.dst (.slice a' (n + 1) cap')) w') :
    if Region.wanted o (yielded ops ac.tmps) = true then Oper.wp P o ac w K Q else F := by
  have hw : Region.wanted o (yielded ops ac.tmps) = true := by simp [Region.wanted, hgd]
  rw [if_pos hw]
  obtain ⟨a', cap', w', hrun, h2, h3⟩ := run_append_ints (ty := o.type) hT hown (RdI.one hc hc2 hm2) hn hB
  unfold Oper.wp execOp
  simp only [ho, resolve, invoke, builtin, Sem.run_bind, Sem.run_pure, Result.andThen_ok, List.map_toArray, List.map_cons, List.map_nil, hs, hx, hrun]
  exact h a' cap' w' h2 h3

/-- A cell below the call's own rows is as it was. -/
theorem OwI.keepCell {w' : World} {a : Option Addr} {n cap : Nat} {l : List Int} {p : Addr} {v : Value} (h : OwI w B E a n cap l) (hg : w.grownBy w' (Value.slice a n cap).ownBlock) (hp : p.block < B)
    (hc : w.cell? p = some v) : w'.cell? p = some v :=
  hg.cell hc fun e => by have := (h.own.lt _ e.symm).1; omega
end

/-- What has grown by a row of the call's own is as it was below. -/
theorem below_grown {w0 w w' : World} {B E : Nat} {a : Option Addr} {n cap : Nat} {l : List Int} (hb : Below B w0 w) (h : OwI w B E a n cap l) (hB : B ≤ w.heap.size)
    (hg : w.grownBy w' (Value.slice a n cap).ownBlock) : Below B w0 w' :=
  hb.grown hg hB fun k hk => (h.own.lt k hk).1

theorem stillW {P : Program} {f : FuncId} {args : Array Value} {w : World} {v : Value} (h : Calls P f args w fun e w' => e = .returned v ∧ w = w') : Calls P f args w fun e w'' => e = .returned v ∧ w'' = w :=
  h.mono fun _ _ ⟨he, hm⟩ => ⟨he, hm.symm⟩

/-- A contract that leaves the world alone, inside a region that draws its order. -/
theorem quietW {P : Program} {f : FuncId} {args : Array Value} {w : World} {n : Nat} {v : Value}
    (h : Calls P f args (w.drewN n) fun e w' => e = .returned v ∧ w.drewN n = w') : Calls P f args (w.drewN n) fun e w'' => e = .returned v ∧ ∃ m, w'' = w.drewN m :=
  h.mono fun _ _ ⟨he, hm⟩ => ⟨he, n, hm.symm⟩

end Go.Rk
namespace Go.Rk
open Go.RowKit Go.ChangeShapes Go.WideShapes Go.Deep

def rowOf (M : List (List Int)) (k : Nat) : List Int := M.getD k []

theorem take_succ_row {M : List (List Int)} {k : Nat} (h : k < M.length) : M.take (k + 1) = M.take k ++ [rowOf M k] := by
  rw [List.take_succ_eq_append_getElem h]
  simp [rowOf, List.getD, h]

/-- The slice value '.slice a len cap' reads as the rows M in the world w. -/
structure RdM (w : World) (a : Option Addr) (len cap : Nat) (M : List (List Int)) : Prop where
  len_eq : M.length = len
  le : len ≤ cap
  max : cap ≤ maxLen
  row : ∀ k, k < len → ∃ b off ar nr cr, a = some ⟨b, off, none⟩ ∧ w.cell? ⟨b, off + k, none⟩ = some (.slice ar nr cr) ∧ RdI w ar nr cr (rowOf M k)

/-- Each number fits int. -/
def Fit (l : List Int) : Prop := ∀ x ∈ l, (Lit.int .i64 x).wf = true

section
variable {H : Type} {enc : TypeId × Value → H} {P : Program} {w : World} {base : Nat} {held : Bool}

theorem addr_add (b off i : Nat) : (⟨b, off, none⟩ : Addr).add i = ⟨b, off + i, none⟩ := by
  unfold Addr.add
  split
  · next e => subst e; rfl
  · rfl

theorem rd_of_ints {x : Addr} {len cap : Nat} {zs : List Int} (hl : len ≤ cap) (hm : cap ≤ maxLen) (hz : zs.length = cap)
    (hc : ∀ i, i < zs.length → w.cell? (x.add i) = some (.int .i64 (zs.getD i 0))) : RdI w (some x) len cap (zs.take len) := by
  refine ⟨by rw [List.length_take, hz]; omega, hl, hm, fun k hk => ?_⟩
  have h0 := hc 0 (by omega)
  have hs : x.spot = none := by
    rcases x with ⟨b, o, s⟩
    have : (⟨b, o, s⟩ : Addr).add 0 = ⟨b, o, s⟩ := by simp [Addr.add]
    rw [this] at h0
    cases s with
    | none => rfl
    | some q =>
      simp only [World.cell?] at h0
      split at h0 <;> simp at h0
  rcases x with ⟨b, o, s⟩
  simp only at hs
  subst hs
  refine ⟨b, o, rfl, ?_⟩
  have := hc k (by omega)
  rw [addr_add] at this
  rw [this, ix_take hk]
  rfl

theorem rd_of_trod {t e : TypeId} {fuel : Nat} {a : Option Addr} {len cap : Nat} {x : DataW H × List MemPlace} (ht : P.underlying t = some (.slice e)) (he : P.underlying e = some (.int .i64)) (hc : P.cellsOf e = 1)
    (h : DataW.trod enc P w base (fun _ => true) held fuel t [.slice a len cap] = some x) : ∃ l, RdI w a len cap l ∧ Fit l := by
  rcases open_ints ht he hc h with ⟨hcs, _⟩ | ⟨y, l, c, zs, hcs, _, hl, hm, hz, _, hcell, hwz⟩
  · simp at hcs
    obtain ⟨rfl, rfl, rfl⟩ := hcs
    exact ⟨[], RdI.nil w, fun x hx => by cases hx⟩
  · simp at hcs
    obtain ⟨rfl, rfl, rfl⟩ := hcs
    simp only [if_true] at hz
    exact ⟨zs.take len, rd_of_ints hl hm hz hcell, fun x hx => hwz x (List.mem_of_mem_take hx)⟩

theorem rows_of_trod {t e q : TypeId} {fuel : Nat} {a : Option Addr} {len cap : Nat} {x : DataW H × List MemPlace} (ht : P.underlying t = some (.slice e)) (he : P.underlying e = some (.slice q)) (hq : P.underlying q = some (.int .i64))
    (ce : P.cellsOf e = 1) (cq : P.cellsOf q = 1) (h : DataW.trod enc P w base (fun _ => true) held fuel t [.slice a len cap] = some x) : ∃ M, RdM w a len cap M ∧ ∀ r ∈ M, Fit r := by
  rcases open_int_rows ht he hq ce cq h with ⟨hcs, _⟩ | ⟨y, l, c, A, L, C, Z, hcs, _, hl, hm, _, hrow⟩
  · simp at hcs
    obtain ⟨rfl, rfl, rfl⟩ := hcs
    exact ⟨[], ⟨rfl, Nat.le_refl _, Nat.zero_le _, fun k hk => absurd hk (Nat.not_lt_zero _)⟩, fun x hx => by cases hx⟩
  · simp at hcs
    obtain ⟨rfl, rfl, rfl⟩ := hcs
    refine ⟨(List.range len).map fun r => (Z r).take (L r), ⟨by simp, hl, hm, fun k hk => ?_⟩, ?_⟩
    · obtain ⟨hcell, hLC, hCm, hZ, hw, hN, hA⟩ := hrow k (by omega)
      have hs : y.spot = none := by
        rcases y with ⟨b, o, s⟩
        cases s with
        | none => rfl
        | some q =>
          have h0 := (hrow 0 (by omega)).1
          simp only [Addr.add, if_true] at h0
          simp only [World.cell?] at h0
          split at h0 <;> simp at h0
      rcases y with ⟨b, o, s⟩
      simp only at hs
      subst hs
      rw [addr_add] at hcell
      refine ⟨b, o, A k, L k, C k, rfl, hcell, ?_⟩
      have hr : rowOf ((List.range len).map fun r => (Z r).take (L r)) k = (Z k).take (L k) := by simp [rowOf, List.getD, hk]
      rw [hr]
      rcases hAk : A k with _ | a'
      · have h0 := hN hAk
        refine ⟨by rw [List.length_take, hZ]; omega, hLC, hCm, fun i hi => by omega⟩
      · exact rd_of_ints hLC hCm hZ fun i hi => (hA a' hAk).2 i (by omega)
    · intro r hr
      obtain ⟨k, hk, rfl⟩ := List.mem_map.1 hr
      have hk' := List.mem_range.1 hk
      obtain ⟨_, _, _, _, hw, _⟩ := hrow k (by omega)
      exact fun x hx => hw x (List.mem_of_mem_take hx)
end
end Go.Rk
