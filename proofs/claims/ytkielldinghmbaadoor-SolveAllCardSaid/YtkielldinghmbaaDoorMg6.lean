/-
  A matrix without a row and a column; num.Cut walked.
  Matrices by the prime: products go together, powers add up. No program in sight.
  What goes together, for the statements on matrices.
  mat.one, mat.One and mat.Pow walked.
  mat.Pow where something is wrong; the closed fact of the statements on matrices.
-/
import Derived.Test.YtkielldinghmbaaDoorRows
import Derived.Test.YtkielldinghmbaaDoorMg0
import Derived.Test.YtkielldinghmbaaDoorMg1
import Derived.Test.YtkielldinghmbaaDoorMg2
import Derived.Test.YtkielldinghmbaaDoorMg3
import Derived.Test.YtkielldinghmbaaDoorMg4
import Derived.Test.YtkielldinghmbaaDoorMg5
namespace Go.Proofs.YtkielldinghmbaaDoor
open Go.RowKit Go.Rk

/-- A row without place c, of its first k numbers. -/
def cutN (l : List Int) (c : Nat) : Nat → List Int
  | 0 => []
  | k + 1 => if k = c then cutN l c k else cutN l c k ++ [ix l k]
/-- The rows but row r, of the first k, without column c. -/
def woN (M : List (List Int)) (r c : Nat) : Nat → List (List Int)
  | 0 => []
  | k + 1 => if k = r then woN M r c k else woN M r c k ++ [cutN (rowOf M k) c (rowOf M k).length]

theorem cutN_len (l : List Int) (c : Nat) : ∀ k, (cutN l c k).length = if c < k then k - 1 else k := by
  intro k
  induction k with
  | zero => simp [cutN]
  | succ k ih =>
    rw [cutN]
    split
    · next h => rw [ih, if_neg (by omega), if_pos (by omega)]; omega
    · rw [List.length_append, ih]
      by_cases h2 : c < k
      · rw [if_pos h2, if_pos (by omega)]; simp; omega
      · rw [if_neg h2, if_neg (by omega)]; simp
theorem cutN_ix (l : List Int) (c : Nat) : ∀ k j, j < (cutN l c k).length → ix (cutN l c k) j = ix l (skip c j) := by
  intro k
  induction k with
  | zero => intro j hj; simp [cutN] at hj
  | succ k ih =>
    intro j hj
    rw [cutN] at hj ⊢
    split
    · next h => rw [if_pos h] at hj; exact ih j hj
    · next h =>
      rw [if_neg h, List.length_append] at hj
      have hl := cutN_len l c k
      rcases Nat.lt_or_ge j (cutN l c k).length with h1 | h1
      · rw [← ih j h1, ix_lt (by rw [List.length_append]; omega), ix_lt h1, List.getElem_append_left h1]
      · have hj2 : j = (cutN l c k).length := by simp at hj; omega
        subst hj2
        rw [ix_lt (by rw [List.length_append]; simp), List.getElem_append_right (Nat.le_refl _)]
        simp only [Nat.sub_self, List.getElem_cons_zero]
        congr 1
        rw [hl]
        unfold skip
        by_cases h2 : c < k
        · rw [if_pos h2, if_neg (by omega)]; omega
        · rw [if_neg h2, if_pos (by omega)]
theorem woN_len (M : List (List Int)) (r c : Nat) : ∀ k, (woN M r c k).length = if r < k then k - 1 else k := by
  intro k
  induction k with
  | zero => simp [woN]
  | succ k ih =>
    rw [woN]
    split
    · next h => rw [ih, if_neg (by omega), if_pos (by omega)]; omega
    · rw [List.length_append, ih]
      by_cases h2 : r < k
      · rw [if_pos h2, if_pos (by omega)]; simp; omega
      · rw [if_neg h2, if_neg (by omega)]; simp
theorem woN_row (M : List (List Int)) (r c : Nat) : ∀ k j, j < (woN M r c k).length → rowOf (woN M r c k) j = cutN (rowOf M (skip r j)) c (rowOf M (skip r j)).length := by
  intro k
  induction k with
  | zero => intro j hj; simp [woN] at hj
  | succ k ih =>
    intro j hj
    rw [woN] at hj ⊢
    split
    · next h => rw [if_pos h] at hj; exact ih j hj
    · next h =>
      rw [if_neg h, List.length_append] at hj
      have hl := woN_len M r c k
      rcases Nat.lt_or_ge j (woN M r c k).length with h1 | h1
      · rw [rowOf_append_left h1, ih j h1]
      · have hj2 : j = (woN M r c k).length := by simp at hj; omega
        subst hj2
        rw [rowOf_append_right (Nat.le_refl _), Nat.sub_self]
        have e : skip r (woN M r c k).length = k := by
          rw [hl]
          unfold skip
          by_cases h2 : r < k
          · rw [if_pos h2, if_neg (by omega)]; omega
          · rw [if_neg h2, if_pos (by omega)]
        rw [e]
        rfl
/-- What is left without a row and a column of a square matrix. -/
theorem woN_is {n r c : Nat} {M : List (List Int)} (hd : Dim (n + 1) M) (hr : r < n + 1) (hc : c < n + 1) : Is n (woN M r c (n + 1)) (minor (mx M) r c) := by
  have hl : (woN M r c (n + 1)).length = n := by rw [woN_len, if_pos hr]; omega
  have hrow : ∀ i, i < n → (rowOf M (skip r i)).length = n + 1 := fun i hi => hd.2 _ (skip_lt hi)
  have hcl : ∀ i, i < n → (cutN (rowOf M (skip r i)) c (n + 1)).length = n := fun i hi => by rw [cutN_len, if_pos hc]; omega
  refine ⟨⟨hl, fun i hi => ?_⟩, fun i j hi hj => ?_⟩
  · rw [woN_row M r c _ i (by rw [hl]; exact hi), hrow i hi]
    exact hcl i hi
  · unfold en
    rw [woN_row M r c _ i (by rw [hl]; exact hi), hrow i hi, cutN_ix _ _ _ _ (by rw [hcl i hi]; exact hj)]
    rfl

/-- The row in two parts. -/
theorem cutN_parts (l : List Int) {c : Nat} (hc : c < l.length) : cutN l c l.length = l.take c ++ l.drop (c + 1) := by
  have h1 := cutN_len l c l.length
  rw [if_pos hc] at h1
  have h2 : (l.take c ++ l.drop (c + 1)).length = l.length - 1 := by rw [List.length_append, List.length_take, List.length_drop]; omega
  refine ix_ext (h1.trans h2.symm) fun j hj => ?_
  rw [cutN_ix _ _ _ _ hj]
  unfold skip
  by_cases h : j < c
  · rw [if_pos h, ix_append_left (by rw [List.length_take]; omega), ix_take h]
  · rw [if_neg h, ix_append_right (by rw [List.length_take]; omega), ix_drop, List.length_take]
    congr 1
    omega
set_option maxHeartbeats 2000000 in
theorem Cut_any {a : Option Addr} {n cap c i j : Nat} {M : List (List Int)} {w : World} (h : RdM w a n cap M) (d : Dm n c M) (hn : n ≤ 1000) (hc : c ≤ 1000) (hj : j < c) :
    Calls Tryd.prog 90 #[.slice a n cap, .int .i64 i, .int .i64 j] w fun e w' => ∃ a' cap', e = .returned (.slice a' (woN M i j n).length cap') ∧ OwM w' w.heap.size 32 3 a' (woN M i j n).length cap' (woN M i j n) ∧ Below w.heap.size w w' := by
  have HM := Lib.hid matTy
  have HD := Lib.hid d
  clear d
  go_enter Tryd.func90, Tryd.ntmps90
  go_wp2
  go_loopw [7, 13] (fun v x wr => ∃ (k : Nat) (q : Option Addr) (cq : Nat), k ≤ n ∧ x = .int .i64 k ∧ v = .slice q (woN M i j k).length cq ∧ OwM wr w.heap.size 32 3 q (woN M i j k).length cq (woN M i j k) ∧ Below w.heap.size w wr) (fun _ x _ => n - (intOf x).toNat)
  case atStart => exact ⟨0, none, 0, Nat.zero_le _, rfl, rfl, OwM.nil _ _ _ _, Below.refl _ _⟩
  case round =>
    obtain ⟨k, q, cq, hk, rfl, rfl, ho, hb⟩ := hrel
    by_cases hlt : k < n
    · obtain ⟨b, off, rfl, _, hr⟩ := (h.below hb).at hlt
      obtain ⟨ar, cr, hcr, hrd⟩ := hr k hlt
      rw [HD.out.2 k hlt] at hcr hrd
      have hlt' : (k : Int) < (n : Int) := by omega
      by_cases hkr : k = i
      · have z1 : ((k : Int) == (i : Int)) = true := beq_iff_eq.2 (by omega)
        have HK := Lib.hid hkr
        clear hkr
        go_wp2
        go_roundw
        case rel => exact ⟨k + 1, q, cq, by omega, by go_num, by rw [woN, if_pos HK.out], by rw [woN, if_pos HK.out]; exact ho, hb⟩
        case measure => simp [intOf]; omega
      · have z1 : ((k : Int) == (i : Int)) = false := beq_eq_false_iff_ne.2 (by omega)
        have HK := Lib.hid hkr
        clear hkr
        obtain ⟨p, o, rfl, hp, _⟩ := hrd.at hj
        have hle := hrd.le
        have t1 := hrd.take (n := j) (by omega)
        have t2 := hrd.drop (n := j + 1) (by omega)
        have b1 : (j : Int) ≤ (cr : Int) := by omega
        have b2 : (j : Int) + 1 ≤ (c : Int) := by omega
        have b3 : (j : Int) + 1 ≤ (cr : Int) := by omega
        have hsz := hb.size
        have hwl := woN_len M i j k
        have hwl2 : (woN M i j k).length ≤ k := by rw [hwl]; split <;> omega
        clear hwl hr
        have tok1 : True := trivial
        have tok2 : True := trivial
        have e9 : ((j : Int) + 1).toNat = j + 1 := by omega
        by_cases hcc : cr = j + 1
        · subst hcc
          rw [if_pos rfl, show c - (j + 1) = 0 by omega, Nat.sub_self] at t2
          go_wp2_with (first | (at_builtin; have _t := tok1; refine wpList_append_ints HM.out.int rfl (.const (.slice none 0 0)) (.tmp 23) rfl rfl rfl (OwI.nil wr wr.heap.size _) t1 (by omega) (Nat.le_refl _) ?_; intro a3 cap3 w3 ho3 hg3; have hb3 := below_of_grown hg3; clear tok1; rw [Nat.zero_add, List.nil_append] at ho3) | (at_builtin; have _t := tok2; refine wpList_append_ints HM.out.int rfl (.tmp 26) (.tmp 30) rfl rfl rfl ho3 (t2.below hb3) (by omega) hb3.size ?_; intro a4 cap4 w4 ho4 hg4; have hb4 := below_grown hb3 ho3 hb3.size hg4; clear tok2) | (at_builtin; refine wpList_push_row HM.out rfl (.tmp 25) (.tmp 32) rfl rfl rfl ho (hb4.alloc hb4.size _) (ho4.below ((Below.refl _ _).alloc (Nat.le_refl _) _)) (by simp) (by omega) hsz ?_; intro a5 cap5 w5 ho5 hb5))
          have hL : Hid (woN M i j (k + 1) = woN M i j k ++ [(rowOf M k).take j ++ (rowOf M k).drop (j + 1)]) := by
            unfold Hid
            rw [woN, if_neg HK.out, cutN_parts _ (by rw [HD.out.2 k hlt]; exact hj)]
          have hL2 : (woN M i j (k + 1)).length = (woN M i j k).length + 1 := by rw [hL.out]; simp
          go_roundw
          case rel => exact ⟨k + 1, a5, cap5, by omega, by go_num, by rw [hL2], by rw [hL2, hL.out]; exact ho5, ((hb.trans (hb4.mono hsz)).alloc (Nat.le_trans hsz hb4.size) _).trans hb5⟩
          case measure => simp [intOf]; omega
        · rw [if_neg hcc] at t2
          simp only [Option.map_some, Addr.add] at t2
          go_wp2_with (first | (at_builtin; have _t := tok1; refine wpList_append_ints HM.out.int rfl (.const (.slice none 0 0)) (.tmp 23) rfl rfl rfl (OwI.nil wr wr.heap.size _) t1 (by omega) (Nat.le_refl _) ?_; intro a3 cap3 w3 ho3 hg3; have hb3 := below_of_grown hg3; clear tok1; rw [Nat.zero_add, List.nil_append] at ho3) | (at_builtin; have _t := tok2; refine wpList_append_ints HM.out.int rfl (.tmp 26) (.tmp 30) rfl rfl rfl ho3 (t2.below hb3) (by omega) hb3.size ?_; intro a4 cap4 w4 ho4 hg4; have hb4 := below_grown hb3 ho3 hb3.size hg4; clear tok2) | (at_builtin; refine wpList_push_row HM.out rfl (.tmp 25) (.tmp 32) rfl rfl rfl ho (hb4.alloc hb4.size _) (ho4.below ((Below.refl _ _).alloc (Nat.le_refl _) _)) (by simp) (by omega) hsz ?_; intro a5 cap5 w5 ho5 hb5))
          have hL : Hid (woN M i j (k + 1) = woN M i j k ++ [(rowOf M k).take j ++ (rowOf M k).drop (j + 1)]) := by
            unfold Hid
            rw [woN, if_neg HK.out, cutN_parts _ (by rw [HD.out.2 k hlt]; exact hj)]
          have hL2 : (woN M i j (k + 1)).length = (woN M i j k).length + 1 := by rw [hL.out]; simp
          go_roundw
          case rel => exact ⟨k + 1, a5, cap5, by omega, by go_num, by rw [hL2], by rw [hL2, hL.out]; exact ho5, ((hb.trans (hb4.mono hsz)).alloc (Nat.le_trans hsz hb4.size) _).trans hb5⟩
          case measure => simp [intOf]; omega
    · obtain rfl : k = n := by omega
      go_wp2
      go_ret
      exact ⟨q, cq, rfl, ho, hb⟩
end Go.Proofs.YtkielldinghmbaaDoor
namespace Go.Rk
open Go.RowKit

/-- A matrix of so many rows and columns, written out. -/
def mkM (n c : Nat) (F : Nat → Nat → Int) : List (List Int) := (List.range n).map fun i => (List.range c).map fun j => F i j
theorem mkM_row {n c : Nat} {F : Nat → Nat → Int} {i : Nat} (hi : i < n) : rowOf (mkM n c F) i = (List.range c).map fun j => F i j := by
  rw [rowOf_lt (by simp [mkM]; exact hi)]; simp [mkM]
theorem mkM_is (n c : Nat) (F : Nat → Nat → Int) : IsR n c (mkM n c F) F := by
  refine ⟨⟨by simp [mkM], fun i hi => by rw [mkM_row hi]; simp⟩, fun i j hi hj => ?_⟩
  unfold en
  rw [mkM_row hi, ix_lt (by simp; exact hj)]
  simp
theorem IsR.eq {n c : Nat} {M : List (List Int)} {F : Nat → Nat → Int} (h : IsR n c M F) : M = mkM n c F :=
  h.1.ext (mkM_is n c F).1 fun i j hi hj => by rw [h.2 i j hi hj, (mkM_is n c F).2 i j hi hj]

/-- Two matrices that are one by the prime, in the first n rows and c columns. -/
def EqM (n c : Nat) (A B : Mx) : Prop := ∀ i j, i < n → j < c → Eqm (A i j) (B i j)
theorem EqM.refl (n c : Nat) (A : Mx) : EqM n c A A := fun _ _ _ _ => Eqm.refl _
theorem EqM.symm {n c : Nat} {A B : Mx} (h : EqM n c A B) : EqM n c B A := fun i j hi hj => (h i j hi hj).symm
theorem EqM.trans {n c : Nat} {A B C : Mx} (h : EqM n c A B) (k : EqM n c B C) : EqM n c A C := fun i j hi hj => (h i j hi hj).trans (k i j hi hj)
theorem sumTo_eqm {g h : Nat → Int} {n : Nat} (e : ∀ i, i < n → Eqm (g i) (h i)) : Eqm (sumTo g n) (sumTo h n) := by
  induction n with
  | zero => exact Eqm.refl _
  | succ n ih => exact Eqm.add (ih fun i hi => e i (by omega)) (e n (by omega))
theorem EqM.mul {n k c : Nat} {A A' B B' : Mx} (h : EqM n k A A') (g : EqM k c B B') : EqM n c (mulM k A B) (mulM k A' B') :=
  fun i j hi hj => sumTo_eqm fun t ht => Eqm.mul (h i t hi ht) (g t j ht hj)
theorem mulM_go (k c : Nat) (A B C : Mx) : mulM c (mulM k A B) C = mulM k A (mulM c B C) := by
  funext i j
  unfold mulM
  rw [sumTo_congr (h := fun t => sumTo (fun s => A i s * B s t * C t j) k) fun t _ => by rw [Int.mul_comm, ← sumTo_mul]; exact sumTo_congr fun s _ => Int.mul_comm _ _]
  rw [sumTo_swap]
  refine sumTo_congr fun s _ => ?_
  rw [← sumTo_mul]
  exact sumTo_congr fun t _ => Int.mul_assoc _ _ _
theorem mulM_add (k : Nat) (A B C : Mx) : mulM k A (fun i j => B i j + C i j) = fun i j => mulM k A B i j + mulM k A C i j := by
  funext i j
  unfold mulM
  rw [← sumTo_add]
  exact sumTo_congr fun t _ => Int.mul_add _ _ _
theorem mulM_tr (k : Nat) (A B : Mx) : trM (mulM k A B) = mulM k (trM B) (trM A) := by
  funext i j
  unfold trM mulM
  exact sumTo_congr fun t _ => Int.mul_comm _ _

/-- The one that changes nothing. -/
def oneM : Mx := fun i j => if i = j then 1 else 0
theorem sumTo_pick (g : Nat → Int) {n i : Nat} (hi : i < n) : sumTo (fun t => (if i = t then 1 else 0) * g t) n = g i := by
  induction n with
  | zero => omega
  | succ n ih =>
    rw [sumTo]
    by_cases e : i = n
    · subst e
      rw [if_pos rfl, sumTo_congr (h := fun _ => 0) fun t ht => by rw [if_neg (by omega), Int.zero_mul], sumTo_zero]
      omega
    · rw [ih (by omega), if_neg e]
      omega
theorem one_mulM {n : Nat} (A : Mx) {i : Nat} (hi : i < n) (j : Nat) : mulM n oneM A i j = A i j := sumTo_pick (fun t => A t j) hi
theorem mulM_one {n : Nat} (A : Mx) (i : Nat) {j : Nat} (hj : j < n) : mulM n A oneM i j = A i j := by
  unfold mulM oneM
  have e (t : Nat) : A i t * (if t = j then 1 else 0) = (if j = t then 1 else 0) * A i t := by
    rw [Int.mul_comm]
    by_cases h : t = j
    · rw [if_pos h, if_pos h.symm]
    · rw [if_neg h, if_neg fun h2 => h h2.symm]
  rw [sumTo_congr fun t _ => e t]
  exact sumTo_pick (fun t => A i t) hj

def powM (n : Nat) (A : Mx) : Nat → Mx
  | 0 => oneM
  | e + 1 => mulM n A (powM n A e)
theorem powM_congr {n : Nat} {A B : Mx} (h : EqM n n A B) : ∀ e, EqM n n (powM n A e) (powM n B e)
  | 0 => EqM.refl _ _ _
  | e + 1 => EqM.mul h (powM_congr h e)
theorem powM_add {n : Nat} (A : Mx) (a b : Nat) : EqM n n (mulM n (powM n A a) (powM n A b)) (powM n A (a + b)) := by
  induction a with
  | zero => rw [Nat.zero_add]; exact fun i _ hi _ => Eqm.of_eq (one_mulM _ hi _)
  | succ a ih =>
    rw [show a + 1 + b = (a + b) + 1 by omega, powM, mulM_go]
    exact EqM.mul (EqM.refl _ _ _) ih
theorem powM_one {n : Nat} (A : Mx) : EqM n n (powM n A 1) A := fun i _ _ hj => Eqm.of_eq (mulM_one A i hj)
theorem powM_mul {n : Nat} (A : Mx) (a b : Nat) : EqM n n (powM n (powM n A a) b) (powM n A (a * b)) := by
  induction b with
  | zero => exact EqM.refl _ _ _
  | succ b ih =>
    rw [powM, Nat.mul_succ, Nat.add_comm]
    exact (EqM.mul (EqM.refl _ _ _) ih).trans (powM_add A a (a * b))
theorem powM_two {n : Nat} (A : Mx) (k : Nat) : EqM n n (powM n (mulM n A A) k) (powM n A (2 * k)) := by
  refine (powM_congr ?_ k).trans (powM_mul A 2 k)
  exact EqM.mul (EqM.refl _ _ _) (powM_one A).symm
/-- A step of powers by halves. -/
theorem pow_even {n : Nat} (X A : Mx) (k : Nat) : EqM n n (mulM n X (powM n (mulM n A A) k)) (mulM n X (powM n A (2 * k))) := EqM.mul (EqM.refl _ _ _) (powM_two A k)
theorem pow_odd {n : Nat} (X A : Mx) (k : Nat) : EqM n n (mulM n (mulM n X A) (powM n (mulM n A A) k)) (mulM n X (powM n A (2 * k + 1))) := by
  rw [mulM_go]
  exact EqM.mul (EqM.refl _ _ _) (EqM.mul (EqM.refl _ _ _) (powM_two A k))
end Go.Rk
namespace Go.Proofs.YtkielldinghmbaaDoor
open Go.RowKit Go.Rk

theorem grounds_of {n c : Nat} {M : List (List Int)} (hn : 1 ≤ n ∧ n ≤ 5) (hc : 1 ≤ c ∧ c ≤ 5) (hd : Dm n c M) (he : EntR 0 9972 n c M) : groundsR 5 0 9972 M = none := by
  have hr0 := hd.2 0 (by omega)
  unfold groundsR
  rw [if_neg (by rw [hd.1, hr0]; omega), if_neg (by rw [hd.1, hr0]; omega)]
  refine rowsErr_of fun l hl => ?_
  obtain ⟨k, hk, rfl⟩ := List.mem_iff_getElem.1 hl
  rw [← rowOf_lt hk, hr0]
  rw [hd.1] at hk
  refine ⟨hd.2 k hk, any_of_in fun j hj => ?_⟩
  rw [hd.2 k hk] at hj
  exact he k j hk hj

theorem mulErr_of {A B : List (List Int)} (g1 : groundsR 5 0 9972 A = none) (g2 : groundsR 5 0 9972 B = none) (h : (rowOf A 0).length = B.length) : mulErr A B = none := by
  unfold mulErr
  rw [g1, g2]
  show (if _ then _ else _) = _
  rw [if_pos h]
theorem addErr_of {A B : List (List Int)} (g1 : groundsR 5 0 9972 A = none) (g2 : groundsR 5 0 9972 B = none) (h : A.length = B.length) (h2 : (rowOf A 0).length = (rowOf B 0).length) : addErr A B = none := by
  unfold addErr
  rw [g1, g2]
  show (if _ then _ else _) = _
  rw [if_pos ⟨h, h2⟩]

/-- A matrix that passes, of n rows of c numbers. -/
structure Good (n c : Nat) (M : List (List Int)) : Prop where
  n1 : 1 ≤ n ∧ n ≤ 5
  c1 : 1 ≤ c ∧ c ≤ 5
  dm : Dm n c M
  ent : EntR 0 9972 n c M
theorem Good.gr {n c : Nat} {M : List (List Int)} (h : Good n c M) : groundsR 5 0 9972 M = none := grounds_of h.n1 h.c1 h.dm h.ent
theorem Good.of {n : Nat} {M : List (List Int)} (e : M.length = n) (g : groundsR 5 0 9972 M = none) : Good n (rowOf M 0).length M :=
  let ⟨a, b, c, d⟩ := grounds_dm e g
  ⟨a, b, c, d⟩
theorem Good.r0 {n c : Nat} {M : List (List Int)} (h : Good n c M) : (rowOf M 0).length = c := h.dm.2 0 (by have := h.n1; omega)
theorem Good.mulOk {n k c : Nat} {A B : List (List Int)} (h : Good n k A) (g : Good k c B) : mulErr A B = none := mulErr_of h.gr g.gr (by rw [h.r0, g.dm.1])
theorem Good.addOk {n c : Nat} {A B : List (List Int)} (h : Good n c A) (g : Good n c B) : addErr A B = none := addErr_of h.gr g.gr (by rw [h.dm.1, g.dm.1]) (by rw [h.r0, g.r0])
/-- The product passes, and is the product by the prime. -/
theorem Good.prod {n k c : Nat} {A B P : List (List Int)} (h : Good n k A) (g : Good k c B) (hp : IsR n c P (fun i j => mulE A B k i j % 9973)) : Good n c P ∧ EqM n c (mx P) (mulM k (mx A) (mx B)) :=
  ⟨⟨h.n1, g.c1, hp.1, fun i j hi hj => by rw [hp.2 i j hi hj]; dsimp only; omega⟩, fun i j hi hj => by
    show Eqm (en P i j) _
    rw [hp.2 i j hi hj]
    exact Eqm.mod _⟩
theorem Good.sum {n c : Nat} {A B P : List (List Int)} (h : Good n c A) (_ : Good n c B) (hp : IsR n c P (fun i j => (en A i j + en B i j) % 9973)) : Good n c P ∧ EqM n c (mx P) (fun i j => mx A i j + mx B i j) :=
  ⟨⟨h.n1, h.c1, hp.1, fun i j hi hj => by rw [hp.2 i j hi hj]; dsimp only; omega⟩, fun i j hi hj => by
    show Eqm (en P i j) _
    rw [hp.2 i j hi hj]
    exact Eqm.mod _⟩
theorem Good.tr {n c : Nat} {A P : List (List Int)} (h : Good n c A) (hp : IsR c n P (fun i j => en A j i)) : Good c n P ∧ EqM c n (mx P) (trM (mx A)) :=
  ⟨⟨h.c1, h.n1, hp.1, fun i j hi hj => by rw [hp.2 i j hi hj]; exact h.ent j i hj hi⟩, fun i j hi hj => Eqm.of_eq (hp.2 i j hi hj)⟩
/-- Two that pass and are one by the prime are one. -/
theorem Good.same {n c : Nat} {A B : List (List Int)} (h : Good n c A) (g : Good n c B) (e : EqM n c (mx A) (mx B)) : A = B :=
  h.dm.ext g.dm fun i j hi hj => by
    have h1 := h.ent i j hi hj
    have h2 := g.ent i j hi hj
    have h3 : en A i j % 9973 = en B i j % 9973 := e i j hi hj
    omega
end Go.Proofs.YtkielldinghmbaaDoor
namespace Go.Proofs.YtkielldinghmbaaDoor
open Go.RowKit Go.Rk

set_option maxHeartbeats 1000000 in
theorem one_any (n : Nat) (w : World) (h1 : 1 ≤ n) (h2 : n ≤ 1000) :
    Calls Tryd.prog 71 #[.int .i64 n] w fun e w' => ∃ a' cap' P, e = .returned (.slice a' n cap') ∧ OwM w' w.heap.size 32 3 a' n cap' P ∧ IsR n n P oneM ∧ Below w.heap.size w w' := by
  go_enter Tryd.func71, Tryd.ntmps71
  go_wp2_with (go_at_call 64; refine (Grid_any n n _ (by omega) (by omega)).mono ?_; rintro e w3 ⟨a3, cap3, rfl, ho3, hb3⟩)
  obtain ⟨g, D, C, hz, hd3⟩ := ho3.named (by omega) fun r hr => by rw [(Dm.replicate n n 0).2 r hr]; omega
  cases hz
  have h0 : ∀ i j, i < n → j < n → en (List.replicate n (List.replicate n (0 : Int))) i j = 0 := fun i j hi hj => by
    unfold en
    rw [rowOf_lt (by simp; exact hi), ix_lt (by simp; exact hj)]
    simp
  clear ho3
  go_loopw [10] (fun v wr => ∃ (k : Nat) (P : List (List Int)), k ≤ n ∧ v = .int .i64 k ∧ OwMD wr w.heap.size 32 3 g D C n cap3 P ∧ Hid (IsR n n P (fun i j => if i = j ∧ i < k then 1 else 0)) ∧ Below w.heap.size w wr) (fun v _ => n - (intOf v).toNat)
  case atStart => exact ⟨0, _, Nat.zero_le _, rfl, hd3, ⟨Dm.replicate n n 0, fun i j hi hj => by rw [h0 i j hi hj]; simp⟩, hb3⟩
  case round =>
    obtain ⟨k, P, hk, rfl, hd, hi, hb⟩ := hrel
    by_cases hlt : k < n
    · have a1 := hd.cellO hlt
      have a2 := hd.cellI hlt (j := k) (by rw [hi.out.1.2 k hlt]; exact hlt)
      have a3 := hd.frozenI hlt (by rw [hi.out.1.2 k hlt]; omega) k
      rw [hi.out.1.2 k hlt] at a1
      have b1 : (k : Int) < (n : Int) := by omega
      go_wp2
      go_roundw
      case rel => exact ⟨k + 1, _, by omega, by go_num, hd.set matTy.ne hlt 1, ⟨hi.out.1.setE _ _ _, fun i j h3 h4 => by
        rw [hi.out.1.en_set _ h3 h4]
        by_cases e : k = i ∧ k = j
        · rw [if_pos e]; dsimp only; rw [if_pos ⟨by omega, by omega⟩]
        · rw [if_neg e, hi.out.2 i j h3 h4]; dsimp only
          by_cases e2 : i = j ∧ i < k
          · rw [if_pos e2, if_pos ⟨e2.1, by omega⟩]
          · rw [if_neg e2, if_neg fun e3 => by omega]⟩, hb.setCell (p := ⟨D k, k, none⟩) (hd.lowI hlt).1 _⟩
      case measure => simp [intOf]; omega
    · obtain rfl : k = n := by omega
      go_wp2
      go_ret
      exact ⟨_, cap3, P, rfl, hd.toM, hi.out.congr fun i j h3 h4 => by
        unfold oneM
        by_cases e : i = j
        · simp only [e, if_true]; rw [if_pos ⟨trivial, by omega⟩]
        · simp [e], hb⟩

theorem One_any (n : Nat) (w : World) (h1 : 1 ≤ n) (h2 : n ≤ 5) :
    Calls Tryd.prog 29 #[.int .i64 n] w fun e w' => ∃ a' cap' P, e = .returned (.tuple #[.slice a' n cap', .nilIface]) ∧ OwM w' w.heap.size 32 3 a' n cap' P ∧ IsR n n P oneM ∧ Below w.heap.size w w' := by
  have HO : Hid (outB (n : Int) 1 5 = false) := by unfold Hid outB; simp; omega
  go_enter Tryd.func29, Tryd.ntmps29
  go_wp2_with (first | (go_at_call 70; refine (out_any _ _ _ _).mono ?_; rintro e w' ⟨rfl, rfl⟩; rw [HO.out]) | (go_at_call 71; refine (one_any n _ h1 (by omega)).mono ?_; rintro e w3 ⟨a3, cap3, P, rfl, ho3, hi3, hb3⟩))
  go_ret2
  exact ⟨a3, cap3, P, rfl, ho3, hi3, hb3⟩

theorem mulE_sq {n : Nat} {X Y P : List (List Int)} (h : IsR n n P (fun i j => mulE X Y n i j % 9973)) : (Dm n n P ∧ EntR 0 9972 n n P) ∧ EqM n n (mx P) (mulM n (mx X) (mx Y)) :=
  ⟨⟨h.1, fun i j hi hj => by rw [h.2 i j hi hj]; dsimp only; omega⟩, fun i j hi hj => by
    show Eqm (en P i j) _
    rw [h.2 i j hi hj]
    exact Eqm.mod _⟩

/-- What is wrong with a power. -/
def powErr (A : List (List Int)) (e : Int) : Option Int :=
  match squareR 5 0 9972 A with
  | some x => some x
  | none => if outB e 0 1000 then some 1 else none

set_option maxRecDepth 100000 in
set_option maxHeartbeats 2000000 in
theorem Pow_ok {a : Option Addr} {n ca e : Nat} {A : List (List Int)} {w : World} (hA : RdM w a n ca A) (hq : squareR 5 0 9972 A = none) (he : e ≤ 1000) :
    Calls Tryd.prog 28 #[.slice a n ca, .int .i64 e] w fun x w' => ∃ a' cap' P, x = .returned (.tuple #[.slice a' n cap', .nilIface]) ∧ OwM w' w.heap.size 32 3 a' n cap' P ∧ IsR n n P (fun i j => powM n (mx A) e i j % 9973) ∧ Below w.heap.size w w' := by
  obtain ⟨g1, g2⟩ := squareR_grounds hq
  have C1 := Lib.hid (mat_Check_is hA g1)
  have e1 := hA.len_eq
  obtain ⟨n1, _, dA, eA⟩ := grounds_dm e1 g1
  rw [e1] at g2
  rw [g2] at dA eA
  have HO : Hid (outB (e : Int) 0 1000 = false) := by unfold Hid outB; simp; omega
  have z1 : ((n : Int) != (n : Int)) = false := bne_eq_false_iff_eq.2 rfl
  obtain ⟨ba, oa, hz, _, hra⟩ := hA.at (k := 0) (by omega)
  subst hz
  obtain ⟨ai, ci, hc0, _⟩ := hra 0 (by omega)
  rw [Nat.add_zero, g2] at hc0
  have b1 : (0 : Int) < (n : Int) := by omega
  have b2 : (1 : Int) ≤ (n : Int) := by omega
  have HD := Lib.hid dA
  have HE := Lib.hid eA
  clear hq g1 g2 hra dA eA
  go_enter Tryd.func28, Tryd.ntmps28
  go_wp2_with (first | (go_at_call 18; (with_reducible refine C1.out.mono ?_); rintro e w' ⟨rfl, rfl⟩; simp only [errV]) | (go_at_call 70; refine (out_any _ _ _ _).mono ?_; rintro e w' ⟨rfl, rfl⟩; rw [HO.out]) | (go_at_call 71; refine (one_any n _ n1.1 (by omega)).mono ?_; rintro e w3 ⟨a3, cap3, P3, rfl, ho3, hi3, hb3⟩) | (go_at_call 67; fail))
  have C4 := Lib.hid (Copy_any (hA.below hb3) (by omega) fun r hr => by rw [HD.out.2 r hr]; omega)
  (with_reducible refine C4.out.mono ?_)
  clear C4
  rintro x w4 ⟨a4, cap4, rfl, ho4, hb4⟩
  have k4 := hb3.trans (hb4.mono hb3.size)
  have ho3 := ho3.below hb4
  have ho4 := ho4.mono hb3.size
  clear hb4
  go_wp2
  go_loopw [1, 7, 8] (fun ve vo vb wr => ∃ (e' : Nat) (ao ab : Option Addr) (co cb : Nat) (X Y : List (List Int)), e' ≤ e ∧ ve = .int .i64 e' ∧ vo = .slice ao n co ∧ vb = .slice ab n cb ∧ OwM wr w.heap.size 32 3 ao n co X ∧ OwM wr w.heap.size 32 3 ab n cb Y ∧
    Hid (Dm n n X ∧ EntR 0 9972 n n X) ∧ Hid (Dm n n Y ∧ EntR 0 9972 n n Y) ∧ Hid (EqM n n (mulM n (mx X) (powM n (mx Y) e')) (powM n (mx A) e)) ∧ Below w.heap.size w wr) (fun ve _ _ _ => (intOf ve).toNat)
  case atStart =>
    refine ⟨e, a3, a4, cap3, cap4, P3, A, Nat.le_refl _, rfl, rfl, rfl, ho3, ho4, ⟨hi3.1, fun i j hi hj => ?_⟩, ⟨HD.out, HE.out⟩, ?_, k4⟩
    · rw [hi3.2 i j hi hj]
      unfold oneM
      split <;> omega
    · intro i j hi hj
      refine (EqM.mul (n := n) (A' := oneM) (fun i j hi hj => Eqm.of_eq (hi3.2 i j hi hj)) (EqM.refl n n _) i j hi hj).trans (Eqm.of_eq (one_mulM _ hi j))
  case round =>
    obtain ⟨e', ao, ab, co, cb, X, Y, he', rfl, rfl, rfl, hX, hY, HX, HY, HI, hb⟩ := hrel
    by_cases h0 : 0 < e'
    · rcases Nat.mod_two_eq_zero_or_one e' with hp | hp
      · have hp' : ((e' : Int) % 2 == 1) = false := by simp; omega
        have Hp := Lib.hid hp
        have C5 := Lib.hid (mul_any hY.rd hY.rd HY.out.1 HY.out.1 HY.out.2 HY.out.2 ⟨n1.1, by omega⟩ ⟨n1.1, by omega⟩ ⟨n1.1, by omega⟩)
        clear hp
        go_wp2_with (go_at_call 69; fail)
        (with_reducible refine C5.out.mono ?_)
        clear C5
        rintro x w5 ⟨a5, cap5, P, rfl, ho5, hi5, hb5⟩
        have HP := Lib.hid (mulE_sq hi5)
        have hX5 := hX.below hb5
        have k5 := hb.trans (hb5.mono hb.size)
        go_wp2
        go_roundw
        case rel => exact ⟨e' / 2, ao, a5, co, cap5, X, P, by omega, by go_num, rfl, rfl, hX5, ho5.mono hb.size, HX, HP.out.1, by
          refine EqM.trans ?_ HI.out
          refine (EqM.mul (EqM.refl _ _ _) (powM_congr HP.out.2 _)).trans ((pow_even _ _ _).trans ?_)
          rw [show 2 * (e' / 2) = e' by have := Hp.out; omega]
          exact EqM.refl _ _ _, k5⟩
        case measure => simp [intOf]; omega
      · have hp' : ((e' : Int) % 2 == 1) = true := by simp; omega
        have Hp := Lib.hid hp
        have C5 := Lib.hid (mul_any hX.rd hY.rd HX.out.1 HY.out.1 HX.out.2 HY.out.2 ⟨n1.1, by omega⟩ ⟨n1.1, by omega⟩ ⟨n1.1, by omega⟩)
        clear hp
        go_wp2_with (go_at_call 69; fail)
        (with_reducible refine C5.out.mono ?_)
        clear C5
        rintro x w5 ⟨a5, cap5, P, rfl, ho5, hi5, hb5⟩
        have HP := Lib.hid (mulE_sq hi5)
        have hY5 := hY.below hb5
        have k5 := hb.trans (hb5.mono hb.size)
        have C6 := Lib.hid (mul_any hY5.rd hY5.rd HY.out.1 HY.out.1 HY.out.2 HY.out.2 ⟨n1.1, by omega⟩ ⟨n1.1, by omega⟩ ⟨n1.1, by omega⟩)
        go_wp2_with (go_at_call 69; fail)
        (with_reducible refine C6.out.mono ?_)
        clear C6
        rintro x w6 ⟨a6, cap6, R, rfl, ho6, hi6, hb6⟩
        have HR := Lib.hid (mulE_sq hi6)
        have hP6 := ho5.below hb6
        have k6 := k5.trans (hb6.mono k5.size)
        go_wp2
        go_roundw
        case rel => exact ⟨e' / 2, a5, a6, cap5, cap6, P, R, by omega, by go_num, rfl, rfl, hP6.mono hb.size, ho6.mono k5.size, HP.out.1, HR.out.1, by
          refine EqM.trans ?_ HI.out
          refine (EqM.mul HP.out.2 (powM_congr HR.out.2 _)).trans ((pow_odd _ _ _).trans ?_)
          rw [show 2 * (e' / 2) + 1 = e' by have := Hp.out; omega]
          exact EqM.refl _ _ _, k6⟩
        case measure => simp [intOf]; omega
    · obtain rfl : e' = 0 := by omega
      go_wp2
      go_ret2
      exact ⟨ao, co, X, rfl, hX, ⟨HX.out.1, fun i j hi hj => by
        have h1 := HX.out.2 i j hi hj
        have h2 := HI.out i j hi hj
        have h3 : mulM n (mx X) (powM n (mx Y) 0) i j = en X i j := mulM_one (mx X) i hj
        rw [h3] at h2
        unfold Eqm at h2
        dsimp only
        omega⟩, hb⟩
end Go.Proofs.YtkielldinghmbaaDoor
namespace Go.Proofs.YtkielldinghmbaaDoor
open Go.RowKit Go.Rk

set_option maxHeartbeats 1000000 in
theorem Pow_err {a : Option Addr} {n ca : Nat} {e : Int} {A : List (List Int)} {w : World} {x : Int} (hA : RdM w a n ca A) (hq : powErr A e = some x) :
    Calls Tryd.prog 28 #[.slice a n ca, .int .i64 e] w fun r w' => r = .returned (.tuple #[.slice none 0 0, .iface 70 (.int .i64 x)]) ∧ Below w.heap.size w w' := by
  rcases hg : groundsR 5 0 9972 A with _ | y
  · have C1 := Lib.hid (mat_Check_is hA hg)
    have e1 := hA.len_eq
    obtain ⟨n1, n2, dA, _⟩ := grounds_dm e1 hg
    obtain ⟨ba, oa, hz, _, hra⟩ := hA.at (k := 0) (by omega)
    subst hz
    obtain ⟨ai, ci, hc0, _⟩ := hra 0 (by omega)
    rw [Nat.add_zero] at hc0
    have b1 : (0 : Int) < (n : Int) := by omega
    have b2 : (1 : Int) ≤ (n : Int) := by omega
    by_cases hs : n = (rowOf A 0).length
    · have hq2 : squareR 5 0 9972 A = none := by unfold squareR; rw [if_pos hg, if_pos (by rw [e1]; exact hs)]
      unfold powErr at hq
      rw [hq2] at hq
      dsimp only at hq
      split at hq
      · next ho =>
        injection hq with hq
        subst hq
        rw [← hs] at hc0
        have z1 : ((n : Int) != (n : Int)) = false := bne_eq_false_iff_eq.2 rfl
        have HO := Lib.hid ho
        clear ho hg hq2 hra dA hs
        go_enter Tryd.func28, Tryd.ntmps28
        go_wp2_with (first | (go_at_call 18; (with_reducible refine C1.out.mono ?_); rintro e w' ⟨rfl, rfl⟩; simp only [errV]) | (go_at_call 70; refine (out_any _ _ _ _).mono ?_; rintro e w' ⟨rfl, rfl⟩; rw [HO.out]))
        go_ret2
        exact ⟨rfl, Below.refl _ _⟩
      · cases hq
    · have hq2 : squareR 5 0 9972 A = some 3 := by unfold squareR; rw [if_pos hg, if_neg (by rw [e1]; exact hs)]
      unfold powErr at hq
      rw [hq2] at hq
      dsimp only at hq
      injection hq with hq
      subst hq
      have z1 : ((n : Int) != ((rowOf A 0).length : Int)) = true := bne_iff_ne.2 (by omega)
      clear hg hq2 hra dA hs
      go_enter Tryd.func28, Tryd.ntmps28
      go_wp2_with (first | (go_at_call 18; (with_reducible refine C1.out.mono ?_); rintro e w' ⟨rfl, rfl⟩; simp only [errV]))
      go_ret2
      exact ⟨rfl, Below.refl _ _⟩
  · have hq2 : squareR 5 0 9972 A = some y := by unfold squareR; rw [hg]; rfl
    unfold powErr at hq
    rw [hq2] at hq
    dsimp only at hq
    injection hq with hq
    subst hq
    have C1 := Lib.hid (mat_Check_is hA hg)
    clear hg hq2
    go_enter Tryd.func28, Tryd.ntmps28
    go_wp2_with (first | (go_at_call 18; (with_reducible refine C1.out.mono ?_); rintro e w' ⟨rfl, rfl⟩; simp only [errV]))
    go_ret2
    exact ⟨rfl, Below.refl _ _⟩


end Go.Proofs.YtkielldinghmbaaDoor
