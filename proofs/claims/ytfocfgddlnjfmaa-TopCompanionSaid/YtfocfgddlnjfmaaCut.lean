/-
  A matrix without a row and a column; num.Cut walked.
-/
import Derived.Test.YtfocfgddlnjfmaaRows
import Derived.Test.YtfocfgddlnjfmaaLib
import Derived.Test.YtfocfgddlnjfmaaNum
import Derived.Test.YtfocfgddlnjfmaaRect
import Derived.Test.YtfocfgddlnjfmaaElim
namespace Go.Proofs.Ytfocfgddlnjfmaa
open Go.RowKit Go.Rk

/-- A row without place c, of its first k numbers. -/
def cutN (l : List Int) (c : Nat) : Nat → List Int
  | 0 => []
  | k + 1 => if k = c then cutN l c k else cutN l c k ++ [ix l k]
/-- The rows but row r, of the first k, without column c. -/
def woN (M : List (List Int)) (r c : Nat) : Nat → List (List Int)
  | 0 => []
  | k + 1 => if k = r then woN M r c k else woN M r c k ++ [cutN (rowOf M k) c (rowOf M k).length]

theorem cutN_len (l : List Int) (c : Nat) : ∀ k, (cutN l c k).length = if c < k then k - 1 else k := by
  intro k
  induction k with
  | zero => simp [cutN]
  | succ k ih =>
    rw [cutN]
    split
    · next h => rw [ih, if_neg (by omega), if_pos (by omega)]; omega
    · rw [List.length_append, ih]
      by_cases h2 : c < k
      · rw [if_pos h2, if_pos (by omega)]; simp; omega
      · rw [if_neg h2, if_neg (by omega)]; simp
theorem cutN_ix (l : List Int) (c : Nat) : ∀ k j, j < (cutN l c k).length → ix (cutN l c k) j = ix l (skip c j) := by
  intro k
  induction k with
  | zero => intro j hj; simp [cutN] at hj
  | succ k ih =>
    intro j hj
    rw [cutN] at hj ⊢
    split
    · next h => rw [if_pos h] at hj; exact ih j hj
    · next h =>
      rw [if_neg h, List.length_append] at hj
      have hl := cutN_len l c k
      rcases Nat.lt_or_ge j (cutN l c k).length with h1 | h1
      · rw [← ih j h1, ix_lt (by rw [List.length_append]; omega), ix_lt h1, List.getElem_append_left h1]
      · have hj2 : j = (cutN l c k).length := by simp at hj; omega
        subst hj2
        rw [ix_lt (by rw [List.length_append]; simp), List.getElem_append_right (Nat.le_refl _)]
        simp only [Nat.sub_self, List.getElem_cons_zero]
        congr 1
        rw [hl]
        unfold skip
        by_cases h2 : c < k
        · rw [if_pos h2, if_neg (by omega)]; omega
        · rw [if_neg h2, if_pos (by omega)]
theorem woN_len (M : List (List Int)) (r c : Nat) : ∀ k, (woN M r c k).length = if r < k then k - 1 else k := by
  intro k
  induction k with
  | zero => simp [woN]
  | succ k ih =>
    rw [woN]
    split
    · next h => rw [ih, if_neg (by omega), if_pos (by omega)]; omega
    · rw [List.length_append, ih]
      by_cases h2 : r < k
      · rw [if_pos h2, if_pos (by omega)]; simp; omega
      · rw [if_neg h2, if_neg (by omega)]; simp
theorem woN_row (M : List (List Int)) (r c : Nat) : ∀ k j, j < (woN M r c k).length → rowOf (woN M r c k) j = cutN (rowOf M (skip r j)) c (rowOf M (skip r j)).length := by
  intro k
  induction k with
  | zero => intro j hj; simp [woN] at hj
  | succ k ih =>
    intro j hj
    rw [woN] at hj ⊢
    split
    · next h => rw [if_pos h] at hj; exact ih j hj
    · next h =>
      rw [if_neg h, List.length_append] at hj
      have hl := woN_len M r c k
      rcases Nat.lt_or_ge j (woN M r c k).length with h1 | h1
      · rw [rowOf_append_left h1, ih j h1]
      · have hj2 : j = (woN M r c k).length := by simp at hj; omega
        subst hj2
        rw [rowOf_append_right (Nat.le_refl _), Nat.sub_self]
        have e : skip r (woN M r c k).length = k := by
          rw [hl]
          unfold skip
          by_cases h2 : r < k
          · rw [if_pos h2, if_neg (by omega)]; omega
          · rw [if_neg h2, if_pos (by omega)]
        rw [e]
        rfl
/-- What is left without a row and a column of a square matrix. -/
theorem woN_is {n r c : Nat} {M : List (List Int)} (hd : Dim (n + 1) M) (hr : r < n + 1) (hc : c < n + 1) : Is n (woN M r c (n + 1)) (minor (mx M) r c) := by
  have hl : (woN M r c (n + 1)).length = n := by rw [woN_len, if_pos hr]; omega
  have hrow : ∀ i, i < n → (rowOf M (skip r i)).length = n + 1 := fun i hi => hd.2 _ (skip_lt hi)
  have hcl : ∀ i, i < n → (cutN (rowOf M (skip r i)) c (n + 1)).length = n := fun i hi => by rw [cutN_len, if_pos hc]; omega
  refine ⟨⟨hl, fun i hi => ?_⟩, fun i j hi hj => ?_⟩
  · rw [woN_row M r c _ i (by rw [hl]; exact hi), hrow i hi]
    exact hcl i hi
  · unfold en
    rw [woN_row M r c _ i (by rw [hl]; exact hi), hrow i hi, cutN_ix _ _ _ _ (by rw [hcl i hi]; exact hj)]
    rfl

/-- The row in two parts. -/
theorem cutN_parts (l : List Int) {c : Nat} (hc : c < l.length) : cutN l c l.length = l.take c ++ l.drop (c + 1) := by
  have h1 := cutN_len l c l.length
  rw [if_pos hc] at h1
  have h2 : (l.take c ++ l.drop (c + 1)).length = l.length - 1 := by rw [List.length_append, List.length_take, List.length_drop]; omega
  refine ix_ext (h1.trans h2.symm) fun j hj => ?_
  rw [cutN_ix _ _ _ _ hj]
  unfold skip
  by_cases h : j < c
  · rw [if_pos h, ix_append_left (by rw [List.length_take]; omega), ix_take h]
  · rw [if_neg h, ix_append_right (by rw [List.length_take]; omega), ix_drop, List.length_take]
    congr 1
    omega
set_option maxHeartbeats 2000000 in
theorem Cut_any {a : Option Addr} {n cap c i j : Nat} {M : List (List Int)} {w : World} (h : RdM w a n cap M) (d : Dm n c M) (hn : n ≤ 1000) (hc : c ≤ 1000) (hj : j < c) :
    Calls Try.prog 94 #[.slice a n cap, .int .i64 i, .int .i64 j] w fun e w' => ∃ a' cap', e = .returned (.slice a' (woN M i j n).length cap') ∧ OwM w' w.heap.size 22 3 a' (woN M i j n).length cap' (woN M i j n) ∧ Below w.heap.size w w' := by
  have HM := Lib.hid matTy
  have HD := Lib.hid d
  clear d
  go_enter Try.func94, Try.ntmps94
  go_wp2
  go_loopw [7, 13] (fun v x wr => ∃ (k : Nat) (q : Option Addr) (cq : Nat), k ≤ n ∧ x = .int .i64 k ∧ v = .slice q (woN M i j k).length cq ∧ OwM wr w.heap.size 22 3 q (woN M i j k).length cq (woN M i j k) ∧ Below w.heap.size w wr) (fun _ x _ => n - (intOf x).toNat)
  case atStart => exact ⟨0, none, 0, Nat.zero_le _, rfl, rfl, OwM.nil _ _ _ _, Below.refl _ _⟩
  case round =>
    obtain ⟨k, q, cq, hk, rfl, rfl, ho, hb⟩ := hrel
    by_cases hlt : k < n
    · obtain ⟨b, off, rfl, _, hr⟩ := (h.below hb).at hlt
      obtain ⟨ar, cr, hcr, hrd⟩ := hr k hlt
      rw [HD.out.2 k hlt] at hcr hrd
      have hlt' : (k : Int) < (n : Int) := by omega
      by_cases hkr : k = i
      · have z1 : ((k : Int) == (i : Int)) = true := beq_iff_eq.2 (by omega)
        have HK := Lib.hid hkr
        clear hkr
        go_wp2
        go_roundw
        case rel => exact ⟨k + 1, q, cq, by omega, by go_num, by rw [woN, if_pos HK.out], by rw [woN, if_pos HK.out]; exact ho, hb⟩
        case measure => simp [intOf]; omega
      · have z1 : ((k : Int) == (i : Int)) = false := beq_eq_false_iff_ne.2 (by omega)
        have HK := Lib.hid hkr
        clear hkr
        obtain ⟨p, o, rfl, hp, _⟩ := hrd.at hj
        have hle := hrd.le
        have t1 := hrd.take (n := j) (by omega)
        have t2 := hrd.drop (n := j + 1) (by omega)
        have b1 : (j : Int) ≤ (cr : Int) := by omega
        have b2 : (j : Int) + 1 ≤ (c : Int) := by omega
        have b3 : (j : Int) + 1 ≤ (cr : Int) := by omega
        have hsz := hb.size
        have hwl := woN_len M i j k
        have hwl2 : (woN M i j k).length ≤ k := by rw [hwl]; split <;> omega
        clear hwl hr
        have tok1 : True := trivial
        have tok2 : True := trivial
        have e9 : ((j : Int) + 1).toNat = j + 1 := by omega
        by_cases hcc : cr = j + 1
        · subst hcc
          rw [if_pos rfl, show c - (j + 1) = 0 by omega, Nat.sub_self] at t2
          go_wp2_with (first | (at_builtin; have _t := tok1; refine wpList_append_ints HM.out.int rfl (.const (.slice none 0 0)) (.tmp 23) rfl rfl rfl (OwI.nil wr wr.heap.size _) t1 (by omega) (Nat.le_refl _) ?_; intro a3 cap3 w3 ho3 hg3; have hb3 := below_of_grown hg3; clear tok1; rw [Nat.zero_add, List.nil_append] at ho3) | (at_builtin; have _t := tok2; refine wpList_append_ints HM.out.int rfl (.tmp 26) (.tmp 30) rfl rfl rfl ho3 (t2.below hb3) (by omega) hb3.size ?_; intro a4 cap4 w4 ho4 hg4; have hb4 := below_grown hb3 ho3 hb3.size hg4; clear tok2) | (at_builtin; refine wpList_push_row HM.out rfl (.tmp 25) (.tmp 32) rfl rfl rfl ho (hb4.alloc hb4.size _) (ho4.below ((Below.refl _ _).alloc (Nat.le_refl _) _)) (by simp) (by omega) hsz ?_; intro a5 cap5 w5 ho5 hb5))
          have hL : Hid (woN M i j (k + 1) = woN M i j k ++ [(rowOf M k).take j ++ (rowOf M k).drop (j + 1)]) := by
            unfold Hid
            rw [woN, if_neg HK.out, cutN_parts _ (by rw [HD.out.2 k hlt]; exact hj)]
          have hL2 : (woN M i j (k + 1)).length = (woN M i j k).length + 1 := by rw [hL.out]; simp
          go_roundw
          case rel => exact ⟨k + 1, a5, cap5, by omega, by go_num, by rw [hL2], by rw [hL2, hL.out]; exact ho5, ((hb.trans (hb4.mono hsz)).alloc (Nat.le_trans hsz hb4.size) _).trans hb5⟩
          case measure => simp [intOf]; omega
        · rw [if_neg hcc] at t2
          simp only [Option.map_some, Addr.add] at t2
          go_wp2_with (first | (at_builtin; have _t := tok1; refine wpList_append_ints HM.out.int rfl (.const (.slice none 0 0)) (.tmp 23) rfl rfl rfl (OwI.nil wr wr.heap.size _) t1 (by omega) (Nat.le_refl _) ?_; intro a3 cap3 w3 ho3 hg3; have hb3 := below_of_grown hg3; clear tok1; rw [Nat.zero_add, List.nil_append] at ho3) | (at_builtin; have _t := tok2; refine wpList_append_ints HM.out.int rfl (.tmp 26) (.tmp 30) rfl rfl rfl ho3 (t2.below hb3) (by omega) hb3.size ?_; intro a4 cap4 w4 ho4 hg4; have hb4 := below_grown hb3 ho3 hb3.size hg4; clear tok2) | (at_builtin; refine wpList_push_row HM.out rfl (.tmp 25) (.tmp 32) rfl rfl rfl ho (hb4.alloc hb4.size _) (ho4.below ((Below.refl _ _).alloc (Nat.le_refl _) _)) (by simp) (by omega) hsz ?_; intro a5 cap5 w5 ho5 hb5))
          have hL : Hid (woN M i j (k + 1) = woN M i j k ++ [(rowOf M k).take j ++ (rowOf M k).drop (j + 1)]) := by
            unfold Hid
            rw [woN, if_neg HK.out, cutN_parts _ (by rw [HD.out.2 k hlt]; exact hj)]
          have hL2 : (woN M i j (k + 1)).length = (woN M i j k).length + 1 := by rw [hL.out]; simp
          go_roundw
          case rel => exact ⟨k + 1, a5, cap5, by omega, by go_num, by rw [hL2], by rw [hL2, hL.out]; exact ho5, ((hb.trans (hb4.mono hsz)).alloc (Nat.le_trans hsz hb4.size) _).trans hb5⟩
          case measure => simp [intOf]; omega
    · obtain rfl : k = n := by omega
      go_wp2
      go_ret
      exact ⟨q, cq, rfl, ho, hb⟩
end Go.Proofs.Ytfocfgddlnjfmaa
