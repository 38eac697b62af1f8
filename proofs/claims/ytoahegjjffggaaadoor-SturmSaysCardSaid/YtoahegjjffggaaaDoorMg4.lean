/-
  A matrix without a row and a column; num.Cut walked.
  The reference's Matrix, Square, Without and DetMod walked.
  What the statements on whole packages use again and again: the reference's Field, and rows and matrices that are the same.
  The walks of package det: the checks, the exchange of two rows, the determinant by elimination.
-/
import Derived.Test.YtoahegjjffggaaaDoorRows
import Derived.Deep.QuietTactic
import Derived.BigQuiet
import Derived.Deep.RegionHeld3
import Derived.StillTailTactics
import Derived.Test.YtoahegjjffggaaaDoorMg0
import Derived.Test.YtoahegjjffggaaaDoorMg1
import Derived.Test.YtoahegjjffggaaaDoorMg2
import Derived.Test.YtoahegjjffggaaaDoorMg3
namespace Go.Proofs.YtoahegjjffggaaaDoor
open Go.RowKit Go.Rk

/-- A row without place c, of its first k numbers. -/
def cutN (l : List Int) (c : Nat) : Nat → List Int
  | 0 => []
  | k + 1 => if k = c then cutN l c k else cutN l c k ++ [ix l k]
/-- The rows but row r, of the first k, without column c. -/
def woN (M : List (List Int)) (r c : Nat) : Nat → List (List Int)
  | 0 => []
  | k + 1 => if k = r then woN M r c k else woN M r c k ++ [cutN (rowOf M k) c (rowOf M k).length]

theorem cutN_len (l : List Int) (c : Nat) : ∀ k, (cutN l c k).length = if c < k then k - 1 else k := by
  intro k
  induction k with
  | zero => simp [cutN]
  | succ k ih =>
    rw [cutN]
    split
    · next h => rw [ih, if_neg (by omega), if_pos (by omega)]; omega
    · rw [List.length_append, ih]
      by_cases h2 : c < k
      · rw [if_pos h2, if_pos (by omega)]; simp; omega
      · rw [if_neg h2, if_neg (by omega)]; simp
theorem cutN_ix (l : List Int) (c : Nat) : ∀ k j, j < (cutN l c k).length → ix (cutN l c k) j = ix l (skip c j) := by
  intro k
  induction k with
  | zero => intro j hj; simp [cutN] at hj
  | succ k ih =>
    intro j hj
    rw [cutN] at hj ⊢
    split
    · next h => rw [if_pos h] at hj; exact ih j hj
    · next h =>
      rw [if_neg h, List.length_append] at hj
      have hl := cutN_len l c k
      rcases Nat.lt_or_ge j (cutN l c k).length with h1 | h1
      · rw [← ih j h1, ix_lt (by rw [List.length_append]; omega), ix_lt h1, List.getElem_append_left h1]
      · have hj2 : j = (cutN l c k).length := by simp at hj; omega
        subst hj2
        rw [ix_lt (by rw [List.length_append]; simp), List.getElem_append_right (Nat.le_refl _)]
        simp only [Nat.sub_self, List.getElem_cons_zero]
        congr 1
        rw [hl]
        unfold skip
        by_cases h2 : c < k
        · rw [if_pos h2, if_neg (by omega)]; omega
        · rw [if_neg h2, if_pos (by omega)]
theorem woN_len (M : List (List Int)) (r c : Nat) : ∀ k, (woN M r c k).length = if r < k then k - 1 else k := by
  intro k
  induction k with
  | zero => simp [woN]
  | succ k ih =>
    rw [woN]
    split
    · next h => rw [ih, if_neg (by omega), if_pos (by omega)]; omega
    · rw [List.length_append, ih]
      by_cases h2 : r < k
      · rw [if_pos h2, if_pos (by omega)]; simp; omega
      · rw [if_neg h2, if_neg (by omega)]; simp
theorem woN_row (M : List (List Int)) (r c : Nat) : ∀ k j, j < (woN M r c k).length → rowOf (woN M r c k) j = cutN (rowOf M (skip r j)) c (rowOf M (skip r j)).length := by
  intro k
  induction k with
  | zero => intro j hj; simp [woN] at hj
  | succ k ih =>
    intro j hj
    rw [woN] at hj ⊢
    split
    · next h => rw [if_pos h] at hj; exact ih j hj
    · next h =>
      rw [if_neg h, List.length_append] at hj
      have hl := woN_len M r c k
      rcases Nat.lt_or_ge j (woN M r c k).length with h1 | h1
      · rw [rowOf_append_left h1, ih j h1]
      · have hj2 : j = (woN M r c k).length := by simp at hj; omega
        subst hj2
        rw [rowOf_append_right (Nat.le_refl _), Nat.sub_self]
        have e : skip r (woN M r c k).length = k := by
          rw [hl]
          unfold skip
          by_cases h2 : r < k
          · rw [if_pos h2, if_neg (by omega)]; omega
          · rw [if_neg h2, if_pos (by omega)]
        rw [e]
        rfl
/-- What is left without a row and a column of a square matrix. -/
theorem woN_is {n r c : Nat} {M : List (List Int)} (hd : Dim (n + 1) M) (hr : r < n + 1) (hc : c < n + 1) : Is n (woN M r c (n + 1)) (minor (mx M) r c) := by
  have hl : (woN M r c (n + 1)).length = n := by rw [woN_len, if_pos hr]; omega
  have hrow : ∀ i, i < n → (rowOf M (skip r i)).length = n + 1 := fun i hi => hd.2 _ (skip_lt hi)
  have hcl : ∀ i, i < n → (cutN (rowOf M (skip r i)) c (n + 1)).length = n := fun i hi => by rw [cutN_len, if_pos hc]; omega
  refine ⟨⟨hl, fun i hi => ?_⟩, fun i j hi hj => ?_⟩
  · rw [woN_row M r c _ i (by rw [hl]; exact hi), hrow i hi]
    exact hcl i hi
  · unfold en
    rw [woN_row M r c _ i (by rw [hl]; exact hi), hrow i hi, cutN_ix _ _ _ _ (by rw [hcl i hi]; exact hj)]
    rfl

/-- The row in two parts. -/
theorem cutN_parts (l : List Int) {c : Nat} (hc : c < l.length) : cutN l c l.length = l.take c ++ l.drop (c + 1) := by
  have h1 := cutN_len l c l.length
  rw [if_pos hc] at h1
  have h2 : (l.take c ++ l.drop (c + 1)).length = l.length - 1 := by rw [List.length_append, List.length_take, List.length_drop]; omega
  refine ix_ext (h1.trans h2.symm) fun j hj => ?_
  rw [cutN_ix _ _ _ _ hj]
  unfold skip
  by_cases h : j < c
  · rw [if_pos h, ix_append_left (by rw [List.length_take]; omega), ix_take h]
  · rw [if_neg h, ix_append_right (by rw [List.length_take]; omega), ix_drop, List.length_take]
    congr 1
    omega
set_option maxHeartbeats 2000000 in
theorem Cut_any {a : Option Addr} {n cap c i j : Nat} {M : List (List Int)} {w : World} (h : RdM w a n cap M) (d : Dm n c M) (hn : n ≤ 1000) (hc : c ≤ 1000) (hj : j < c) :
    Calls Tryd.prog 78 #[.slice a n cap, .int .i64 i, .int .i64 j] w fun e w' => ∃ a' cap', e = .returned (.slice a' (woN M i j n).length cap') ∧ OwM w' w.heap.size 24 3 a' (woN M i j n).length cap' (woN M i j n) ∧ Below w.heap.size w w' := by
  have HM := Lib.hid matTy
  have HD := Lib.hid d
  clear d
  go_enter Tryd.func78, Tryd.ntmps78
  go_wp2
  go_loopw [7, 13] (fun v x wr => ∃ (k : Nat) (q : Option Addr) (cq : Nat), k ≤ n ∧ x = .int .i64 k ∧ v = .slice q (woN M i j k).length cq ∧ OwM wr w.heap.size 24 3 q (woN M i j k).length cq (woN M i j k) ∧ Below w.heap.size w wr) (fun _ x _ => n - (intOf x).toNat)
  case atStart => exact ⟨0, none, 0, Nat.zero_le _, rfl, rfl, OwM.nil _ _ _ _, Below.refl _ _⟩
  case round =>
    obtain ⟨k, q, cq, hk, rfl, rfl, ho, hb⟩ := hrel
    by_cases hlt : k < n
    · obtain ⟨b, off, rfl, _, hr⟩ := (h.below hb).at hlt
      obtain ⟨ar, cr, hcr, hrd⟩ := hr k hlt
      rw [HD.out.2 k hlt] at hcr hrd
      have hlt' : (k : Int) < (n : Int) := by omega
      by_cases hkr : k = i
      · have z1 : ((k : Int) == (i : Int)) = true := beq_iff_eq.2 (by omega)
        have HK := Lib.hid hkr
        clear hkr
        go_wp2
        go_roundw
        case rel => exact ⟨k + 1, q, cq, by omega, by go_num, by rw [woN, if_pos HK.out], by rw [woN, if_pos HK.out]; exact ho, hb⟩
        case measure => simp [intOf]; omega
      · have z1 : ((k : Int) == (i : Int)) = false := beq_eq_false_iff_ne.2 (by omega)
        have HK := Lib.hid hkr
        clear hkr
        obtain ⟨p, o, rfl, hp, _⟩ := hrd.at hj
        have hle := hrd.le
        have t1 := hrd.take (n := j) (by omega)
        have t2 := hrd.drop (n := j + 1) (by omega)
        have b1 : (j : Int) ≤ (cr : Int) := by omega
        have b2 : (j : Int) + 1 ≤ (c : Int) := by omega
        have b3 : (j : Int) + 1 ≤ (cr : Int) := by omega
        have hsz := hb.size
        have hwl := woN_len M i j k
        have hwl2 : (woN M i j k).length ≤ k := by rw [hwl]; split <;> omega
        clear hwl hr
        have tok1 : True := trivial
        have tok2 : True := trivial
        have e9 : ((j : Int) + 1).toNat = j + 1 := by omega
        by_cases hcc : cr = j + 1
        · subst hcc
          rw [if_pos rfl, show c - (j + 1) = 0 by omega, Nat.sub_self] at t2
          go_wp2_with (first | (at_builtin; have _t := tok1; refine wpList_append_ints HM.out.int rfl (.const (.slice none 0 0)) (.tmp 23) rfl rfl rfl (OwI.nil wr wr.heap.size _) t1 (by omega) (Nat.le_refl _) ?_; intro a3 cap3 w3 ho3 hg3; have hb3 := below_of_grown hg3; clear tok1; rw [Nat.zero_add, List.nil_append] at ho3) | (at_builtin; have _t := tok2; refine wpList_append_ints HM.out.int rfl (.tmp 26) (.tmp 30) rfl rfl rfl ho3 (t2.below hb3) (by omega) hb3.size ?_; intro a4 cap4 w4 ho4 hg4; have hb4 := below_grown hb3 ho3 hb3.size hg4; clear tok2) | (at_builtin; refine wpList_push_row HM.out rfl (.tmp 25) (.tmp 32) rfl rfl rfl ho (hb4.alloc hb4.size _) (ho4.below ((Below.refl _ _).alloc (Nat.le_refl _) _)) (by simp) (by omega) hsz ?_; intro a5 cap5 w5 ho5 hb5))
          have hL : Hid (woN M i j (k + 1) = woN M i j k ++ [(rowOf M k).take j ++ (rowOf M k).drop (j + 1)]) := by
            unfold Hid
            rw [woN, if_neg HK.out, cutN_parts _ (by rw [HD.out.2 k hlt]; exact hj)]
          have hL2 : (woN M i j (k + 1)).length = (woN M i j k).length + 1 := by rw [hL.out]; simp
          go_roundw
          case rel => exact ⟨k + 1, a5, cap5, by omega, by go_num, by rw [hL2], by rw [hL2, hL.out]; exact ho5, ((hb.trans (hb4.mono hsz)).alloc (Nat.le_trans hsz hb4.size) _).trans hb5⟩
          case measure => simp [intOf]; omega
        · rw [if_neg hcc] at t2
          simp only [Option.map_some, Addr.add] at t2
          go_wp2_with (first | (at_builtin; have _t := tok1; refine wpList_append_ints HM.out.int rfl (.const (.slice none 0 0)) (.tmp 23) rfl rfl rfl (OwI.nil wr wr.heap.size _) t1 (by omega) (Nat.le_refl _) ?_; intro a3 cap3 w3 ho3 hg3; have hb3 := below_of_grown hg3; clear tok1; rw [Nat.zero_add, List.nil_append] at ho3) | (at_builtin; have _t := tok2; refine wpList_append_ints HM.out.int rfl (.tmp 26) (.tmp 30) rfl rfl rfl ho3 (t2.below hb3) (by omega) hb3.size ?_; intro a4 cap4 w4 ho4 hg4; have hb4 := below_grown hb3 ho3 hb3.size hg4; clear tok2) | (at_builtin; refine wpList_push_row HM.out rfl (.tmp 25) (.tmp 32) rfl rfl rfl ho (hb4.alloc hb4.size _) (ho4.below ((Below.refl _ _).alloc (Nat.le_refl _) _)) (by simp) (by omega) hsz ?_; intro a5 cap5 w5 ho5 hb5))
          have hL : Hid (woN M i j (k + 1) = woN M i j k ++ [(rowOf M k).take j ++ (rowOf M k).drop (j + 1)]) := by
            unfold Hid
            rw [woN, if_neg HK.out, cutN_parts _ (by rw [HD.out.2 k hlt]; exact hj)]
          have hL2 : (woN M i j (k + 1)).length = (woN M i j k).length + 1 := by rw [hL.out]; simp
          go_roundw
          case rel => exact ⟨k + 1, a5, cap5, by omega, by go_num, by rw [hL2], by rw [hL2, hL.out]; exact ho5, ((hb.trans (hb4.mono hsz)).alloc (Nat.le_trans hsz hb4.size) _).trans hb5⟩
          case measure => simp [intOf]; omega
    · obtain rfl : k = n := by omega
      go_wp2
      go_ret
      exact ⟨q, cq, rfl, ho, hb⟩
end Go.Proofs.YtoahegjjffggaaaDoor
namespace Go.Proofs.YtoahegjjffggaaaDoor
open Go.RowKit Go.Rk

/-- What is wrong, as a number. -/
def numV (o : Option Int) : Value := .int .i64 (o.getD 0)
theorem allB_any (lo hi : Int) (l : List Int) : allB lo hi l = !anyB lo hi l := by
  unfold allB anyB
  rw [List.all_eq_not_any_not]
  congr 2
  funext x
  unfold inB outB
  by_cases h1 : lo ≤ x <;> by_cases h2 : x ≤ hi <;> simp [h1, h2] <;> omega

theorem rowsErr_ne0 {lo hi : Int} {m : Nat} {M : List (List Int)} (h : rowsErr lo hi m M = some 0) : False := by
  have key : ∀ (M : List (List Int)) (r : Option Int), r ≠ some 0 → M.foldl (fun r l => match r with | none => rowErr1 lo hi m l | some c => some c) r ≠ some 0 := by
    intro M
    induction M with
    | nil => intro r hr; exact hr
    | cons l M ih =>
      intro r hr
      rw [List.foldl_cons]
      refine ih _ ?_
      cases r with
      | none =>
        show rowErr1 lo hi m l ≠ some 0
        unfold rowErr1
        split
        · simp
        · split <;> simp
      | some c => exact hr
  exact key M none (by simp) h

theorem groundsR_ne0 {most lo hi : Int} {M : List (List Int)} (hg : groundsR most lo hi M = some 0) : False := by
  unfold groundsR at hg
  split at hg
  · injection hg; omega
  · split at hg
    · injection hg; omega
    · exact rowsErr_ne0 hg
theorem squareR_ne0 {most lo hi : Int} {M : List (List Int)} (h : squareR most lo hi M = some 0) : False := by
  unfold squareR at h
  split at h
  · split at h
    · cases h
    · injection h; omega
  · exact groundsR_ne0 h

set_option maxHeartbeats 2000000 in
theorem R_Matrix_any {a : Option Addr} {n cap : Nat} {M : List (List Int)} (most lo hi : Int) {w : World} (h : RdM w a n cap M) :
    Calls Tryd.prog 28 #[.slice a n cap, .int .i64 most, .int .i64 lo, .int .i64 hi] w fun e w' => e = .returned (numV (groundsR most lo hi M)) ∧ Below w.heap.size w w' := by
  have E1 := Lib.hid h.len_eq
  have hm := h.len_max
  by_cases h0 : n = 0
  · subst h0
    go_enter Tryd.func28, Tryd.ntmps28
    go_wp2
    go_ret
    refine ⟨?_, Below.refl _ _⟩
    unfold groundsR
    rw [if_pos (.inl E1.out)]
    rfl
  obtain ⟨b, off, rfl, hbl, hr⟩ := h.at (k := 0) (by omega)
  obtain ⟨ar0, cr0, hc0, hrd0⟩ := hr 0 (by omega)
  rw [Nat.add_zero] at hc0
  have hm0 := hrd0.len_max
  have z1 : ((n : Int) == 0) = false := by simp; omega
  rcases hq : groundsPre most M with _ | c
  · obtain ⟨p1, p2, p3⟩ := groundsPre_none hq
    have HR : Hid (groundsR most lo hi M = rowsErr lo hi (rowOf M 0).length M) := by
      unfold Hid groundsR
      rw [if_neg (by rw [E1.out]; omega), if_neg (by omega)]
    have p2' : (n : Int) ≤ most := by rw [← E1.out]; exact p2
    have z2 : (((rowOf M 0).length : Int) == 0) = false := beq_eq_false_iff_ne.2 (by omega)
    clear hq p2
    go_enter Tryd.func28, Tryd.ntmps28
    go_wp2
    go_loopw [9] (fun i wr => ∃ k q : Nat, k ≤ n ∧ i = .int .i64 k ∧ Hid (rowsErr lo hi (rowOf M 0).length (M.take k) = none) ∧ Hid (wr = w.drewN q)) (fun i _ => n - (intOf i).toNat)
    case atStart => exact ⟨0, 0, Nat.zero_le _, rfl, rfl, (World.drewN_zero _).symm⟩
    case round =>
      obtain ⟨k, q, hk, rfl, hno, HQ⟩ := hrel
      have kb : Below w.heap.size w wr := by rw [HQ.out]; exact below_drewN (Below.refl _ _) q
      by_cases hlt : k < n
      · obtain ⟨ar, cr, hc, hrd⟩ := hr k hlt
        have hmk := hrd.len_max
        have hl : k < M.length := by rw [E1.out]; exact hlt
        have hc := kb.keep hbl hc
        have hrd := hrd.below kb
        have hc0 := kb.keep hbl hc0
        have b1 : (k : Int) < (n : Int) := by omega
        have b2 : (0 : Int) < (n : Int) := by omega
        have b3 : (1 : Int) ≤ (n : Int) := by omega
        by_cases hw : (rowOf M k).length = (rowOf M 0).length
        · have z3 : (((rowOf M k).length : Int) != ((rowOf M 0).length : Int)) = false := bne_eq_false_iff_eq.2 (by omega)
          have Hw := Lib.hid hw
          have hcq := hc
          clear hw
          go_wp2
          go_quiet (fail)
          have kb2 : Below wr.heap.size wr (wr.drewN nq) := below_drewN (Below.refl _ _) nq
          have hc := kb2.keep (World.block_lt_of_cell? wr _ hcq) hcq
          have hrd := hrd.below kb2
          have HQ2 : Hid (wr.drewN nq = w.drewN (q + nq)) := by unfold Hid; rw [HQ.out, World.drewN_drewN]
          clear hcq hc0 kb kb2 HQ z3
          generalize wr.drewN nq = w2 at *
          rcases hany : anyB lo hi (rowOf M k)
          · have Ha := Lib.hid hany
            have Hb : Hid (allB lo hi (rowOf M k) = true) := by unfold Hid; rw [allB_any, hany]; rfl
            clear hany
            go_wp2_with (go_at_call 42; refine (R_All_any _ _ hrd).mono ?_; rintro e w' ⟨rfl, rfl⟩; rw [Hb.out])
            go_roundw
            case rel => exact ⟨k + 1, _, by omega, by go_num, by unfold Hid; rw [rowsErr_take hl, hno.out, rowErr1, Ha.out, if_neg (by rw [Hw.out]; simp)]; rfl, HQ2⟩
            case measure => simp [intOf]; omega
          · have Ha := Lib.hid hany
            have Hb : Hid (allB lo hi (rowOf M k) = false) := by unfold Hid; rw [allB_any, hany]; rfl
            clear hany
            go_wp2_with (go_at_call 42; refine (R_All_any _ _ hrd).mono ?_; rintro e w' ⟨rfl, rfl⟩; rw [Hb.out])
            go_ret
            refine ⟨?_, by rw [HQ2.out]; exact below_drewN (Below.refl _ _) _⟩
            rw [HR.out, rowsErr_at hl hno.out (c := 1) (by rw [rowErr1, Ha.out, if_neg (by rw [Hw.out]; simp)]; rfl)]
            rfl
        · have z3 : (((rowOf M k).length : Int) != ((rowOf M 0).length : Int)) = true := bne_iff_ne.2 (by omega)
          have Hw := Lib.hid hw
          clear hw
          go_wp2
          go_quiet (fail)
          go_wp2
          go_ret
          refine ⟨?_, below_drewN kb nq⟩
          rw [HR.out, rowsErr_at hl hno.out (c := 3) (by rw [rowErr1, if_pos Hw.out])]
          rfl
      · go_wp2
        go_ret
        refine ⟨?_, kb⟩
        have hfin := hno.out
        rw [List.take_of_length_le (by rw [E1.out]; omega)] at hfin
        rw [HR.out, hfin]
        rfl
  · have HR : Hid (groundsR most lo hi M = some c) := groundsPre_some hq
    have hq2 := groundsPre_cases hq (by rw [E1.out]; omega)
    have p5 : (n : Int) = M.length := by rw [E1.out]
    rcases hq2 with ⟨rfl, hz⟩ | ⟨rfl, hz1, hz2⟩ | ⟨rfl, hz1, hz2, hz3⟩
    · have z2 : (((rowOf M 0).length : Int) == 0) = true := beq_iff_eq.2 (by omega)
      have HP := Lib.hid p5
      clear hq hz p5
      go_enter Tryd.func28, Tryd.ntmps28
      go_wp2
      go_ret
      exact ⟨by rw [HR.out]; rfl, Below.refl _ _⟩
    · have z2 : (((rowOf M 0).length : Int) == 0) = false := beq_eq_false_iff_ne.2 (by omega)
      have z4 : most < (n : Int) := by omega
      have HP := Lib.hid p5
      clear hq p5 hz1 hz2
      go_enter Tryd.func28, Tryd.ntmps28
      go_wp2
      go_ret
      exact ⟨by rw [HR.out]; rfl, Below.refl _ _⟩
    · have z2 : (((rowOf M 0).length : Int) == 0) = false := beq_eq_false_iff_ne.2 (by omega)
      have z4 : (n : Int) ≤ most := by omega
      have HP := Lib.hid p5
      clear hq p5 hz1 hz2
      go_enter Tryd.func28, Tryd.ntmps28
      go_wp2
      go_ret
      exact ⟨by rw [HR.out]; rfl, Below.refl _ _⟩

theorem R_Square_any {a : Option Addr} {n cap : Nat} {M : List (List Int)} (most lo hi : Int) {w : World} (h : RdM w a n cap M) :
    Calls Tryd.prog 6 #[.slice a n cap, .int .i64 most, .int .i64 lo, .int .i64 hi] w fun e w' => e = .returned (numV (squareR most lo hi M)) ∧ Below w.heap.size w w' := by
  have C := R_Matrix_any most lo hi h
  have e1 := h.len_eq
  have hm := h.len_max
  rcases hg : groundsR most lo hi M with _ | x
  · rw [hg] at C
    have C1 := Lib.hid C
    obtain ⟨l1, l2, l3, l4, l5⟩ := groundsR_none hg
    rw [e1] at l1
    obtain ⟨b, off, rfl, hbl, hr⟩ := h.at (k := 0) l1
    obtain ⟨ar0, cr0, hc0, hrd0⟩ := hr 0 l1
    have hm0 := hrd0.len_max
    rw [Nat.add_zero] at hc0
    have b2 : (0 : Int) < (n : Int) := by omega
    have b3 : (1 : Int) ≤ (n : Int) := by omega
    have HG := Lib.hid hg
    have E1 := Lib.hid e1
    have z0 : ((0 : Int) == 0) = true := rfl
    by_cases hs : n = (rowOf M 0).length
    · have z1 : ((n : Int) != ((rowOf M 0).length : Int)) = false := bne_eq_false_iff_eq.2 (by omega)
      have HS := Lib.hid hs
      clear hs hg C e1 l2 l3 l4 l5 hr
      go_enter Tryd.func6, Tryd.ntmps6
      go_wp2_with (go_at_call 28; (with_reducible refine C1.out.mono ?_); rintro e w2 ⟨rfl, hb⟩; have hc0 := hb.keep hbl hc0; simp only [numV, Option.getD_none])
      go_ret
      refine ⟨?_, hb⟩
      unfold squareR
      rw [if_pos HG.out, if_pos (by rw [E1.out, ← HS.out])]
      rfl
    · have z1 : ((n : Int) != ((rowOf M 0).length : Int)) = true := bne_iff_ne.2 (by omega)
      have HS := Lib.hid hs
      clear hs hg C e1 l2 l3 l4 l5 hr
      go_enter Tryd.func6, Tryd.ntmps6
      go_wp2_with (go_at_call 28; (with_reducible refine C1.out.mono ?_); rintro e w2 ⟨rfl, hb⟩; have hc0 := hb.keep hbl hc0; simp only [numV, Option.getD_none])
      go_ret
      refine ⟨?_, hb⟩
      unfold squareR
      rw [if_pos HG.out, if_neg (by rw [E1.out]; exact HS.out)]
      rfl
  · rw [hg] at C
    have C1 := Lib.hid C
    have HG := Lib.hid hg
    have hx : x ≠ 0 := fun e => by subst e; exact groundsR_ne0 hg
    have z0 : (x == 0) = false := beq_eq_false_iff_ne.2 hx
    clear hg C hx
    go_enter Tryd.func6, Tryd.ntmps6
    go_wp2_with (go_at_call 28; (with_reducible refine C1.out.mono ?_); rintro e w2 ⟨rfl, hb⟩; simp only [numV, Option.getD_some])
    go_ret
    refine ⟨?_, hb⟩
    unfold squareR
    rw [if_neg (by rw [HG.out]; simp), HG.out]
    rfl

set_option maxHeartbeats 2000000 in
theorem R_Without_any {a : Option Addr} {n cap r c : Nat} {M : List (List Int)} {w : World} (h : RdM w a n cap M) (hn : n ≤ 1000) (hl : ∀ k, k < n → (rowOf M k).length ≤ 1000) :
    Calls Tryd.prog 71 #[.slice a n cap, .int .i64 r, .int .i64 c] w fun e w' => ∃ a' cap', e = .returned (.slice a' (woN M r c n).length cap') ∧ OwM w' w.heap.size 24 3 a' (woN M r c n).length cap' (woN M r c n) ∧ Below w.heap.size w w' := by
  have HM := Lib.hid matTy
  go_enter Tryd.func71, Tryd.ntmps71
  go_wp2
  go_loopw [7, 8] (fun v i wr => ∃ (k : Nat) (q : Option Addr) (cq : Nat), k ≤ n ∧ i = .int .i64 k ∧ v = .slice q (woN M r c k).length cq ∧ OwM wr w.heap.size 24 3 q (woN M r c k).length cq (woN M r c k) ∧ Below w.heap.size w wr) (fun _ i _ => n - (intOf i).toNat)
  case atStart => exact ⟨0, none, 0, Nat.zero_le _, rfl, rfl, OwM.nil _ _ _ _, Below.refl _ _⟩
  case round =>
    obtain ⟨k, q, cq, hk, rfl, rfl, ho, hb⟩ := hrel
    obtain ⟨wo, rfl⟩ : ∃ wo, wo = wr := ⟨_, rfl⟩
    by_cases hlt : k < n
    · by_cases hkr : k = r
      · have z1 : ((k : Int) == (r : Int)) = true := beq_iff_eq.2 (by omega)
        have HK := Lib.hid hkr
        clear hkr
        go_wp2
        go_roundw
        case rel => exact ⟨k + 1, q, cq, by omega, by go_num, by rw [woN, if_pos HK.out], by rw [woN, if_pos HK.out]; exact ho, hb⟩
        case measure => simp [intOf]; omega
      · have z1 : ((k : Int) == (r : Int)) = false := beq_eq_false_iff_ne.2 (by omega)
        have HK := Lib.hid hkr
        clear hkr
        obtain ⟨b, off, rfl, hbl, hr⟩ := h.at hlt
        obtain ⟨ar, cr, hc0, hrd⟩ := hr k hlt
        have b1 : (k : Int) < (n : Int) := by omega
        have hlk := hl k hlt
        obtain ⟨len, hlen⟩ : ∃ len, (rowOf M k).length = len := ⟨_, rfl⟩
        rw [hlen] at hc0 hrd hlk
        have HL := Lib.hid hlen
        clear hr hlen
        go_wp2
        go_loopw [9, 10] (fun v j wt => ∃ (s : Nat) (p : Option Addr) (cp : Nat), s ≤ len ∧ j = .int .i64 s ∧ v = .slice p (cutN (rowOf M k) c s).length cp ∧ OwI wt wo.heap.size 3 p (cutN (rowOf M k) c s).length cp (cutN (rowOf M k) c s) ∧ Below wo.heap.size wo wt) (fun _ j _ => len - (intOf j).toNat)
        case atStart => exact ⟨0, none, 0, Nat.zero_le _, rfl, rfl, OwI.nil _ _ _, Below.refl _ _⟩
        case round =>
          obtain ⟨s, p, cp, hs, rfl, rfl, hp, hbt⟩ := hrel
          have kt := below_tr hb hbt
          have hc0 := kt.keep hbl hc0
          by_cases hsl : s < len
          · obtain ⟨p2, o2, hz, _, hcs⟩ := (hrd.below kt).at hsl
            subst hz
            have y1 := hcs s hsl
            have b2 : (s : Int) < (len : Int) := by omega
            have hle := cutN_len (rowOf M k) c s
            have hle2 : (cutN (rowOf M k) c s).length ≤ s := by rw [hle]; split <;> omega
            clear hle hcs
            by_cases hsc : s = c
            · have z2 : ((s : Int) != (c : Int)) = false := bne_eq_false_iff_eq.2 (by omega)
              have HS := Lib.hid hsc
              clear hsc
              go_wp2
              go_roundw
              case rel => exact ⟨s + 1, p, cp, by omega, by go_num, by rw [cutN, if_pos HS.out], by rw [cutN, if_pos HS.out]; exact hp, hbt⟩
              case measure => simp [intOf]; omega
            · have z2 : ((s : Int) != (c : Int)) = true := bne_iff_ne.2 (by omega)
              have HS := Lib.hid hsc
              have hsz := hbt.size
              clear hsc
              go_wp2_with (at_builtin; refine wpList_push_int HM.out.int rfl (.tmp 32) (.tmp 40) rfl rfl rfl (hp.alloc _) (z := ix (rowOf M k) s) (by simp) (by decide) (by decide) (by omega) (by simp; omega) ?_; intro a6 cap6 w6 ho6 hg6)
              have hle6 : (cutN (rowOf M k) c (s + 1)).length = (cutN (rowOf M k) c s).length + 1 := by rw [cutN, if_neg HS.out]; simp
              have hb6 := (hbt.alloc hbt.size (.cells #[.int .i64 (ix (rowOf M k) s)] 3)).grown hg6 (by simp; omega) (fun r e => (hp.own.lt r e).1)
              go_roundw
              case rel => exact ⟨s + 1, a6, cap6, by omega, by go_num, by rw [hle6], by rw [hle6, cutN, if_neg HS.out]; exact ho6, hb6⟩
              case measure => simp [intOf]; omega
          · obtain rfl : s = len := by omega
            have hsz := hb.size
            have hsz2 := hbt.size
            have hwl := woN_len M r c k
            have hwl2 : (woN M r c k).length ≤ k := by rw [hwl]; split <;> omega
            clear hwl
            go_wp2_with (at_builtin; refine wpList_push_row HM.out rfl (.tmp 42) (.tmp 44) rfl rfl rfl ho (hbt.alloc hsz2 _) (hp.below ((Below.refl _ _).alloc (Nat.le_refl _) _)) (by simp) (by omega) hsz ?_; intro a4 cap4 w4 ho4 hb4)
            have hle4 : (woN M r c (k + 1)).length = (woN M r c k).length + 1 := by rw [woN, if_neg HK.out]; simp
            have hb5 := (kt.alloc kt.size (.cells #[.slice p (cutN (rowOf M k) c s).length cp] 24)).trans hb4
            go_roundw
            case rel => exact ⟨k + 1, a4, cap4, by omega, by go_num, by rw [hle4], by rw [hle4, woN, if_neg HK.out, HL.out]; exact ho4, hb5⟩
            case measure => simp [intOf]; omega
    · obtain rfl : k = n := by omega
      go_wp2
      go_ret
      exact ⟨q, cq, rfl, ho, hb⟩

theorem R_Without_sq {a : Option Addr} {n cap r c : Nat} {M : List (List Int)} {w : World} (h : RdM w a (n + 1) cap M) (hn : n ≤ 100) (hd : Dim (n + 1) M) (hr : r < n + 1) (hc : c < n + 1) :
    Calls Tryd.prog 71 #[.slice a (n + 1 : Nat) cap, .int .i64 r, .int .i64 c] w fun e w' => ∃ a' cap' W, e = .returned (.slice a' n cap') ∧ OwM w' w.heap.size 24 3 a' n cap' W ∧ Is n W (minor (mx M) r c) ∧ Below w.heap.size w w' := by
  refine (R_Without_any h (by omega) fun k hk => by rw [hd.2 k hk]; omega).mono ?_
  rintro e w' ⟨a', cap', rfl, ho, hb⟩
  have hl : (woN M r c (n + 1)).length = n := by rw [woN_len, if_pos hr]; omega
  rw [hl] at ho
  exact ⟨a', cap', _, by rw [hl], ho, woN_is hd hr hc, hb⟩

set_option maxHeartbeats 4000000 in
set_option maxRecDepth 100000 in
theorem R_DetMod_big : ∀ (n : Nat) {a : Option Addr} {cap : Nat} {M : List (List Int)} {w : World} (_ : RdM w a n cap M) (_ : Dim n M) (_ : Ent 0 9972 n M) (_ : n ≤ 100),
    Calls Tryd.prog 55 #[.slice a n cap] w fun e w' => e = .returned (.int .i64 (det n (mx M) % 9973)) ∧ Below w.heap.size w w' := by
  intro n
  induction n with
  | zero =>
    intro a cap M w h _ _ _
    go_enter Tryd.func55, Tryd.ntmps55
    go_wp2
    go_ret
    exact ⟨rfl, Below.refl _ _⟩
  | succ n ih =>
    intro a cap M w h hd he h5
    obtain ⟨N, hN⟩ : ∃ N, n + 1 = N := ⟨_, rfl⟩
    rw [hN] at h hd he h5 ⊢
    have hN1 : 1 ≤ N := by omega
    have hN2 : 0 < N := by omega
    have HD := Lib.hid hd
    have HE := Lib.hid he
    have IH : Hid (∀ {a : Option Addr} {cap : Nat} {M : List (List Int)} {w : World} (_ : RdM w a n cap M) (_ : Dim n M) (_ : Ent 0 9972 n M) (_ : n ≤ 100), Calls Tryd.prog 55 #[.slice a n cap] w fun e w' => e = .returned (.int .i64 (det n (mx M) % 9973)) ∧ Below w.heap.size w w') := @ih
    clear ih hd he
    obtain ⟨ba, oa, rfl, hba, hra⟩ := h.at (k := 0) (by omega)
    obtain ⟨ai, ci, hc0, hai⟩ := hra 0 (by omega)
    rw [HD.out.2 0 (by omega)] at hc0 hai
    obtain ⟨pa, qa, rfl, hpa, hca⟩ := hai.at (k := 0) (by omega)
    rw [Nat.add_zero] at hc0
    have z0 : ((N : Int) == 0) = false := beq_eq_false_iff_ne.2 (by omega)
    clear hra hai
    go_enter Tryd.func55, Tryd.ntmps55
    go_wp2
    go_loopw [3, 4, 5] (fun vs vg vj wr => ∃ (j : Nat) (S g : Int), j ≤ N ∧ vj = .int .i64 j ∧ vs = .int .i64 S ∧ vg = .int .i64 g ∧ Hid (g = sg j) ∧ (g = 1 ∨ g = -1) ∧ 0 ≤ S ∧ S ≤ 9972 ∧ Hid (Eqm S (sumTo (fun t => sg t * en M 0 t * det n (minor (mx M) 0 t)) j)) ∧ Below w.heap.size w wr) (fun _ _ vj _ => N - (intOf vj).toNat)
    case atStart => exact ⟨0, 0, 1, Nat.zero_le _, rfl, rfl, rfl, rfl, .inl rfl, by omega, by omega, Eqm.refl _, Below.refl _ _⟩
    case round =>
      obtain ⟨j, S, g, hj, rfl, rfl, rfl, HG, hg, hS1, hS2, HS, hb⟩ := hrel
      have hgn : Hid (-g = sg (j + 1)) := by unfold Hid; rw [sg_succ, HG.out]
      have hgn1 : -g = 1 ∨ -g = -1 := by omega
      have ug : IntKind.i64.wrap (-g) = -g := Go.IntWalk.i64_in _ (by omega)
      by_cases hlt : j < N
      · have hc0 := hb.keep hba hc0
        have y1 := hb.keep hpa (hca j hlt)
        change World.cell? _ _ = some (.int .i64 (en M 0 j)) at y1
        have b1 : (j : Int) < (N : Int) := by omega
        have b2 : (0 : Int) < (N : Int) := by omega
        have b3 : (1 : Int) ≤ (N : Int) := by omega
        have hv := HE.out 0 j (by omega) hlt
        by_cases h0 : en M 0 j = 0
        · have z1 : (en M 0 j != 0) = false := bne_eq_false_iff_eq.2 h0
          have H0 := Lib.hid h0
          clear h0
          go_wp2
          go_roundw
          case rel => exact ⟨j + 1, S, -g, by omega, by go_num, rfl, rfl, hgn, hgn1, hS1, hS2, by unfold Hid; rw [sumTo, H0.out, Int.mul_zero, Int.zero_mul, Int.add_zero]; exact HS.out, hb⟩
          case measure => simp [intOf]; omega
        · have z1 : (en M 0 j != 0) = true := bne_iff_ne.2 h0
          clear h0
          obtain ⟨V, hV⟩ : ∃ V, V = en M 0 j := ⟨_, rfl⟩
          rw [← hV] at y1 z1 hv
          obtain ⟨Dt, hDt⟩ : ∃ Dt, Dt = det n (minor (mx M) 0 j) % 9973 := ⟨_, rfl⟩
          have hD : 0 ≤ Dt ∧ Dt ≤ 9972 := by omega
          obtain ⟨T1, hT1⟩ : ∃ T1, T1 = g * V := ⟨_, rfl⟩
          have hT1b : -9972 ≤ T1 ∧ T1 ≤ 9972 := by rcases hg with e | e <;> rw [hT1, e] <;> omega
          have p1 : -(9972 * 9972) ≤ T1 * Dt ∧ T1 * Dt ≤ 9972 * 9972 := by
            have q1 : (T1 + 9972) * Dt ≤ 19944 * 9972 := Int.mul_le_mul (by omega) hD.2 hD.1 (by omega)
            have q2 : 0 ≤ (T1 + 9972) * Dt := Int.mul_nonneg (by omega) hD.1
            have q3 : 0 ≤ (9972 - T1) * Dt := Int.mul_nonneg (by omega) hD.1
            rw [Int.add_mul] at q2
            rw [Int.sub_mul] at q3
            omega
          obtain ⟨T2, hT2⟩ : ∃ T2, T2 = T1 * Dt := ⟨_, rfl⟩
          rw [← hT2] at p1
          have u1 : IntKind.i64.wrap (g * V) = T1 := by rw [hT1]; exact Go.IntWalk.i64_in _ (by rw [← hT1]; omega)
          have u2 : IntKind.i64.wrap (T1 * Dt) = T2 := by rw [hT2]; exact Go.IntWalk.i64_in _ (by rw [← hT2]; omega)
          have u3 : IntKind.i64.wrap (S + T2) = S + T2 := Go.IntWalk.i64_in _ (by omega)
          have HT1 := Lib.hid hT1
          have HT2 := Lib.hid hT2
          have HDt := Lib.hid hDt
          have HV := Lib.hid hV
          have C1 : Hid (Calls Tryd.prog 71 #[.slice (some ⟨ba, oa, none⟩) N cap, .int .i64 0, .int .i64 j] wr.drew fun e w' => ∃ a' cap' W, e = .returned (.slice a' n cap') ∧ OwM w' wr.drew.heap.size 24 3 a' n cap' W ∧ Is n W (minor (mx M) 0 j) ∧ Below wr.drew.heap.size wr.drew w') :=
            by subst hN; exact R_Without_sq (r := 0) (h.below hb.drew) (by omega) HD.out (by omega) hlt
          have hbl : ba < wr.heap.size ∧ pa < wr.heap.size := by have := hb.size; omega
          have hn5 : n ≤ 100 := by omega
          clear hT1 hT2 hDt hV
          go_wp2
          go_region_held3 (fun w' => w'.cell? ⟨ba, oa, none⟩ = some (.slice (some ⟨pa, qa, none⟩) N ci) ∧ w'.cell? ⟨pa, qa + j, none⟩ = some (.int .i64 V))
            (first | go_keep | (go_split_ands; refine ⟨?_, ?_⟩ <;> first | assumption | (refine hbk.keep ?_ ?_ <;> first | assumption | omega | (simp; omega))))
            (first
              | (go_at_call 71; (with_reducible refine C1.out.mono ?_); rintro e w3 ⟨a3, cap3, W, rfl, ho3, hi3, hbk⟩; have kk := hb.drew.trans (hbk.mono hb.drew.size); have kl : wr.heap.size ≤ w3.heap.size := hbk.size)
              | (go_at_call 55; refine (IH.out ho3.rd hi3.1 (fun r s hr hs => by rw [hi3.2 r s hr hs]; exact HE.out _ _ (by rw [← hN]; exact skip_lt hr) (by rw [← hN]; exact skip_lt hs)) hn5).mono ?_; rw [show det n (mx W) = det n (minor (mx M) 0 j) from det_congr fun r s hr hs => hi3.2 r s hr hs, ← HDt.out]; rintro e w4 ⟨rfl, hbk⟩; have kk := kk.trans (hbk.mono kk.size))
              | (go_at_call 7; refine (R_Mod_any _ _ (by omega) (by omega)).mono ?_; rintro e w' ⟨rfl, rfl⟩))
          clear u1 u2 u3
          have e2 : Eqm ((S + T2) % 9973) (sumTo (fun t => sg t * en M 0 t * det n (minor (mx M) 0 t)) (j + 1)) := by
            refine (Eqm.mod _).trans ?_
            rw [sumTo]
            refine Eqm.add HS.out ?_
            rw [HT2.out, HT1.out, HG.out, HV.out, HDt.out]
            exact Eqm.mul (Eqm.refl _) (Eqm.mod _)
          have e3 : 0 ≤ (S + T2) % 9973 ∧ (S + T2) % 9973 ≤ 9972 := by omega
          go_wp2
          go_roundw
          case rel => exact ⟨j + 1, _, -g, by omega, by go_num, rfl, rfl, hgn, hgn1, e3.1, e3.2, e2, kk⟩
          case measure => simp [intOf]; omega
      · obtain rfl : j = N := by omega
        go_wp2
        go_ret
        refine ⟨?_, hb⟩
        subst hN
        have e1 := HS.out
        unfold Eqm at e1
        rw [show det (n + 1) (mx M) = sumTo (fun t => sg t * en M 0 t * det n (minor (mx M) 0 t)) (n + 1) from rfl, ← e1]
        rw [Int.emod_eq_of_lt hS1 (by omega)]
        rfl
theorem R_DetMod_any (n : Nat) {a : Option Addr} {cap : Nat} {M : List (List Int)} {w : World} (h : RdM w a n cap M) (d : Dim n M) (e : Ent 0 9972 n M) (h5 : n ≤ 5) :
    Calls Tryd.prog 55 #[.slice a n cap] w fun e w' => e = .returned (.int .i64 (det n (mx M) % 9973)) ∧ Below w.heap.size w w' := R_DetMod_big n h d e (by omega)
end Go.Proofs.YtoahegjjffggaaaDoor
namespace Go.Proofs.YtoahegjjffggaaaDoor
open Go.RowKit Go.Rk

theorem Ints_eq {a a2 : Option Addr} {len len2 cap cap2 : Nat} {l m : List Int} {w : World} (h : RdI w a len cap l) (h2 : RdI w a2 len2 cap2 m) (e : l = m) :
    Calls Tryd.prog 12 #[.slice a len cap, .slice a2 len2 cap2] w fun e w' => e = .returned (.bool true) ∧ Below w.heap.size w w' := by
  refine (Ints_any h h2).mono ?_
  rintro _ _ ⟨rfl, hb⟩
  exact ⟨by rw [decide_eq_true e], hb⟩
theorem Ints_none (w : World) : Calls Tryd.prog 12 #[.slice none 0 0, .slice none 0 0] w fun e w' => e = .returned (.bool true) ∧ Below w.heap.size w w' := Ints_eq (RdI.nil w) (RdI.nil w) rfl
end Go.Proofs.YtoahegjjffggaaaDoor
namespace Go.Proofs.YtoahegjjffggaaaDoor
open Go.RowKit Go.Rk

theorem mat_Check_any {a : Option Addr} {n cap : Nat} {M : List (List Int)} {w : World} (h : RdM w a n cap M) :
    Calls Tryd.prog 37 #[.slice a n cap] w fun e w' => e = .returned (errV (groundsR 5 0 9972 M)) ∧ w = w' := by
  have C := Lib.hid (Grounds_any 5 0 9972 h)
  go_enter Tryd.func37, Tryd.ntmps37
  go_wp2_with (go_at_call 60; refine C.out.mono ?_; rintro e w' ⟨rfl, rfl⟩)
  go_ret
  exact ⟨rfl, rfl⟩
theorem mat_Check_is {a : Option Addr} {n cap : Nat} {M : List (List Int)} {w : World} {o : Option Int} (h : RdM w a n cap M) (ho : groundsR 5 0 9972 M = o) :
    Calls Tryd.prog 37 #[.slice a n cap] w fun e w' => e = .returned (errV o) ∧ w = w' := by
  have := mat_Check_any h
  rw [ho] at this
  exact this
theorem det_Check_any {a : Option Addr} {n cap : Nat} {M : List (List Int)} {w : World} (h : RdM w a n cap M) :
    Calls Tryd.prog 30 #[.slice a n cap] w fun e w' => e = .returned (errV (squareR 5 0 9972 M)) ∧ w = w' := by
  have E1 := Lib.hid h.len_eq
  have hm := h.len_max
  rcases hg : groundsR 5 0 9972 M with _ | c
  · have HG := Lib.hid (mat_Check_is h hg)
    obtain ⟨g1, g2, _⟩ := groundsR_none hg
    have e1 := E1.out
    obtain ⟨b, off, rfl, hbl, hr⟩ := h.at (k := 0) (by omega)
    obtain ⟨ar0, cr0, hc0, hrd0⟩ := hr 0 (by omega)
    rw [Nat.add_zero] at hc0
    have hm0 := hrd0.len_max
    have hn0 : 0 < n := by omega
    by_cases hs : n = (rowOf M 0).length
    · have z : ((n : Int) != ((rowOf M 0).length : Int)) = false := bne_eq_false_iff_eq.2 (by omega)
      have HS := Lib.hid hs
      have Hg := Lib.hid hg
      clear hs hg e1
      go_enter Tryd.func30, Tryd.ntmps30
      go_wp2_with (go_at_call 37; refine HG.out.mono ?_; rintro e w' ⟨rfl, rfl⟩; simp only [errV])
      go_ret
      exact ⟨by unfold squareR; rw [if_pos Hg.out, if_pos (by rw [E1.out]; exact HS.out)]; rfl, rfl⟩
    · have z : ((n : Int) != ((rowOf M 0).length : Int)) = true := bne_iff_ne.2 (by omega)
      have HS := Lib.hid hs
      have Hg := Lib.hid hg
      clear hs hg e1
      go_enter Tryd.func30, Tryd.ntmps30
      go_wp2_with (go_at_call 37; refine HG.out.mono ?_; rintro e w' ⟨rfl, rfl⟩; simp only [errV])
      go_ret
      exact ⟨by unfold squareR; rw [if_pos Hg.out, if_neg (by rw [E1.out]; exact HS.out)]; rfl, rfl⟩
  · have HG := Lib.hid (mat_Check_is h hg)
    have Hg := Lib.hid hg
    clear hg
    go_enter Tryd.func30, Tryd.ntmps30
    go_wp2_with (go_at_call 37; refine HG.out.mono ?_; rintro e w' ⟨rfl, rfl⟩; simp only [errV])
    go_ret
    exact ⟨by unfold squareR; rw [if_neg (by rw [Hg.out]; simp), Hg.out]; rfl, rfl⟩
theorem det_Check_is {a : Option Addr} {n cap : Nat} {M : List (List Int)} {w : World} {o : Option Int} (h : RdM w a n cap M) (ho : squareR 5 0 9972 M = o) :
    Calls Tryd.prog 30 #[.slice a n cap] w fun e w' => e = .returned (errV o) ∧ w = w' := by
  have := det_Check_any h
  rw [ho] at this
  exact this
/-- What the exchange of two rows leaves. -/
def Exch (w : World) (L B g Bm Bo : Nat) (D C : Nat → Nat) (n cap : Nat) (M : List (List Int)) (o : Int) (i k : Nat) (e : Ending) (w' : World) : Prop :=
  e = .returned (.tuple #[]) ∧ OwMD w' B 24 3 g (if i = k then D else swapF D i k) (if i = k then C else swapF C i k) n cap (if i = k then M else swapL M i k) ∧
    w'.cell? ⟨Bm, 0, none⟩ = some (.slice (some ⟨g, 0, none⟩) n cap) ∧ w'.cell? ⟨Bo, 0, none⟩ = some (.int .i64 (if i = k then o else -o % 9973)) ∧ w'.frozen? ⟨Bo, 0, none⟩ = false ∧ Below L w w'

set_option maxHeartbeats 1000000 in
theorem exchange_any {L B g Bm Bo : Nat} {D C : Nat → Nat} {n cap : Nat} {M : List (List Int)} {o : Int} {i k : Nat} {w : World} (h : OwMD w B 24 3 g D C n cap M) (hi : i < n) (hk : k < n)
    (hm : w.cell? ⟨Bm, 0, none⟩ = some (.slice (some ⟨g, 0, none⟩) n cap)) (ho : w.cell? ⟨Bo, 0, none⟩ = some (.int .i64 o)) (hf : w.frozen? ⟨Bo, 0, none⟩ = false) (ho1 : 0 ≤ o) (ho2 : o ≤ 9972)
    (n1 : Bm ≠ g) (n2 : Bo ≠ g) (n3 : Bm ≠ Bo) (n4 : ∀ j, j < n → Bo ≠ D j) (hL : L ≤ g) (hL2 : L ≤ Bo) :
    Calls Tryd.prog 77 #[.int .i64 i, .int .i64 k, .pointer (some ⟨Bm, 0, none⟩), .pointer (some ⟨Bo, 0, none⟩)] w (Exch w L B g Bm Bo D C n cap M o i k) := by
  by_cases hik : i = k
  · have z : ((i : Int) != (k : Int)) = false := bne_eq_false_iff_eq.2 (by omega)
    have HK := Lib.hid hik
    clear hik
    go_enter Tryd.func77, Tryd.ntmps77
    go_wp2
    go_end0
    unfold Exch
    simp only [if_pos HK.out]
    exact ⟨by simp, h, hm, ho, hf, Below.refl _ _⟩
  · have z : ((i : Int) != (k : Int)) = true := bne_iff_ne.2 (by omega)
    have HK := Lib.hid hik
    have hki : ¬ k = i := fun e => hik e.symm
    have c1 := h.cellO hi
    have c2 := h.cellO hk
    have f1 := h.frozenO i
    have f2 := h.frozenO k
    have m1 : (i : Int) < (n : Int) := by omega
    have m2 : (k : Int) < (n : Int) := by omega
    have m3 : ¬ Bm = g := n1
    have m4 : ¬ Bo = g := n2
    have m5 : ¬ Bm = Bo := n3
    have m6 : ¬ g = Bm := fun e => n1 e.symm
    have m7 : ¬ g = Bo := fun e => n2 e.symm
    have c3 : (w.setCell ⟨g, i, none⟩ (.slice (some ⟨D k, 0, none⟩) (rowOf M k).length (C k))).cell? ⟨g, k, none⟩ = some (.slice (some ⟨D k, 0, none⟩) (rowOf M k).length (C k)) := by rw [World.cell?_setCell_other _ _ _ _ (by simp)]; exact c2
    have HNE := Lib.hid matTy.ne
    have N1 := Lib.hid n1
    have N2 := Lib.hid n2
    have N3 := Lib.hid n3
    clear n1 n2 n3
    go_enter Tryd.func77, Tryd.ntmps77
    go_wp2
    go_region
    go_wp2_with fail
    have hs := (h.swap HNE.out hi hk).drew
    have hm2 : (((w.setCell ⟨g, i, none⟩ (.slice (some ⟨D k, 0, none⟩) (rowOf M k).length (C k))).setCell ⟨g, k, none⟩ (.slice (some ⟨D i, 0, none⟩) (rowOf M i).length (C i))).drew).cell? ⟨Bm, 0, none⟩ = some (.slice (some ⟨g, 0, none⟩) n cap) := by
      show World.cell? ((w.setCell _ _).setCell _ _) _ = _
      rw [World.cell?_setCell_other _ _ _ _ (by simp), World.cell?_setCell_other _ _ _ _ (by simp)]; exact hm
    have ho2' : (((w.setCell ⟨g, i, none⟩ (.slice (some ⟨D k, 0, none⟩) (rowOf M k).length (C k))).setCell ⟨g, k, none⟩ (.slice (some ⟨D i, 0, none⟩) (rowOf M i).length (C i))).drew).cell? ⟨Bo, 0, none⟩ = some (.int .i64 o) := by
      show World.cell? ((w.setCell _ _).setCell _ _) _ = _
      rw [World.cell?_setCell_other _ _ _ _ (by simp), World.cell?_setCell_other _ _ _ _ (by simp)]; exact ho
    have hf2 : (((w.setCell ⟨g, i, none⟩ (.slice (some ⟨D k, 0, none⟩) (rowOf M k).length (C k))).setCell ⟨g, k, none⟩ (.slice (some ⟨D i, 0, none⟩) (rowOf M i).length (C i))).drew).frozen? ⟨Bo, 0, none⟩ = false := by
      show World.frozen? ((w.setCell _ _).setCell _ _) _ = _
      simp [hf]
    have hbl : Below L w (((w.setCell ⟨g, i, none⟩ (.slice (some ⟨D k, 0, none⟩) (rowOf M k).length (C k))).setCell ⟨g, k, none⟩ (.slice (some ⟨D i, 0, none⟩) (rowOf M i).length (C i))).drew) := (((Below.refl L w).setCell hL _).setCell hL _).drew
    clear c1 c2 c3 f1 f2 hm ho hf m6 m7
    generalize (((w.setCell ⟨g, i, none⟩ (.slice (some ⟨D k, 0, none⟩) (rowOf M k).length (C k))).setCell ⟨g, k, none⟩ (.slice (some ⟨D i, 0, none⟩) (rowOf M i).length (C i))).drew) = w2 at *
    refine (Field_any _ _).mono ?_
    rintro e w' ⟨rfl, rfl⟩
    go_wp2
    go_end0
    unfold Exch
    simp only [if_neg HK.out]
    refine ⟨by simp, hs.setElse (p := ⟨Bo, 0, none⟩) N2.out (fun j hj => ?_) _, ?_, World.cell?_setCell_same _ _ _ ho2', by simp [hf2], hbl.setCell hL2 _⟩
    · simp only [swapF]
      (repeat' split) <;> first | exact n4 _ hi | exact n4 _ hk | exact n4 _ hj
    · rw [World.cell?_setCell_other _ _ _ _ (by simp)]; exact hm2
end Go.Proofs.YtoahegjjffggaaaDoor
