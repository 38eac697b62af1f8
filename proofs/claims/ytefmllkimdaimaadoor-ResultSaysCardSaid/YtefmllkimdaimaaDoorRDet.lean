/-
  The reference's Matrix, Square, Without and DetMod walked.
-/
import Derived.Test.YtefmllkimdaimaaDoorRows
import Derived.Test.YtefmllkimdaimaaDoorLib
import Derived.Test.YtefmllkimdaimaaDoorNum
import Derived.Test.YtefmllkimdaimaaDoorRef
import Derived.Test.YtefmllkimdaimaaDoorRect
import Derived.Test.YtefmllkimdaimaaDoorMx
import Derived.Test.YtefmllkimdaimaaDoorTr
import Derived.Test.YtefmllkimdaimaaDoorElim
import Derived.Test.YtefmllkimdaimaaDoorCut
import Derived.Deep.QuietTactic
import Derived.BigQuiet
import Derived.Deep.RegionHeld3
import Derived.StillTailTactics
namespace Go.Proofs.YtefmllkimdaimaaDoor
open Go.RowKit Go.Rk

/-- What is wrong, as a number. -/
def numV (o : Option Int) : Value := .int .i64 (o.getD 0)
theorem allB_any (lo hi : Int) (l : List Int) : allB lo hi l = !anyB lo hi l := by
  unfold allB anyB
  rw [List.all_eq_not_any_not]
  congr 2
  funext x
  unfold inB outB
  by_cases h1 : lo ≤ x <;> by_cases h2 : x ≤ hi <;> simp [h1, h2] <;> omega

theorem rowsErr_ne0 {lo hi : Int} {m : Nat} {M : List (List Int)} (h : rowsErr lo hi m M = some 0) : False := by
  have key : ∀ (M : List (List Int)) (r : Option Int), r ≠ some 0 → M.foldl (fun r l => match r with | none => rowErr1 lo hi m l | some c => some c) r ≠ some 0 := by
    intro M
    induction M with
    | nil => intro r hr; exact hr
    | cons l M ih =>
      intro r hr
      rw [List.foldl_cons]
      refine ih _ ?_
      cases r with
      | none =>
        show rowErr1 lo hi m l ≠ some 0
        unfold rowErr1
        split
        · simp
        · split <;> simp
      | some c => exact hr
  exact key M none (by simp) h

theorem groundsR_ne0 {most lo hi : Int} {M : List (List Int)} (hg : groundsR most lo hi M = some 0) : False := by
  unfold groundsR at hg
  split at hg
  · injection hg; omega
  · split at hg
    · injection hg; omega
    · exact rowsErr_ne0 hg
theorem squareR_ne0 {most lo hi : Int} {M : List (List Int)} (h : squareR most lo hi M = some 0) : False := by
  unfold squareR at h
  split at h
  · split at h
    · cases h
    · injection h; omega
  · exact groundsR_ne0 h

set_option maxHeartbeats 2000000 in
theorem R_Matrix_any {a : Option Addr} {n cap : Nat} {M : List (List Int)} (most lo hi : Int) {w : World} (h : RdM w a n cap M) :
    Calls Tryd.prog 82 #[.slice a n cap, .int .i64 most, .int .i64 lo, .int .i64 hi] w fun e w' => e = .returned (numV (groundsR most lo hi M)) ∧ Below w.heap.size w w' := by
  have E1 := Lib.hid h.len_eq
  have hm := h.len_max
  by_cases h0 : n = 0
  · subst h0
    go_enter Tryd.func82, Tryd.ntmps82
    go_wp2
    go_ret
    refine ⟨?_, Below.refl _ _⟩
    unfold groundsR
    rw [if_pos (.inl E1.out)]
    rfl
  obtain ⟨b, off, rfl, hbl, hr⟩ := h.at (k := 0) (by omega)
  obtain ⟨ar0, cr0, hc0, hrd0⟩ := hr 0 (by omega)
  rw [Nat.add_zero] at hc0
  have hm0 := hrd0.len_max
  have z1 : ((n : Int) == 0) = false := by simp; omega
  rcases hq : groundsPre most M with _ | c
  · obtain ⟨p1, p2, p3⟩ := groundsPre_none hq
    have HR : Hid (groundsR most lo hi M = rowsErr lo hi (rowOf M 0).length M) := by
      unfold Hid groundsR
      rw [if_neg (by rw [E1.out]; omega), if_neg (by omega)]
    have p2' : (n : Int) ≤ most := by rw [← E1.out]; exact p2
    have z2 : (((rowOf M 0).length : Int) == 0) = false := beq_eq_false_iff_ne.2 (by omega)
    clear hq p2
    go_enter Tryd.func82, Tryd.ntmps82
    go_wp2
    go_loopw [9] (fun i wr => ∃ k q : Nat, k ≤ n ∧ i = .int .i64 k ∧ Hid (rowsErr lo hi (rowOf M 0).length (M.take k) = none) ∧ Hid (wr = w.drewN q)) (fun i _ => n - (intOf i).toNat)
    case atStart => exact ⟨0, 0, Nat.zero_le _, rfl, rfl, (World.drewN_zero _).symm⟩
    case round =>
      obtain ⟨k, q, hk, rfl, hno, HQ⟩ := hrel
      have kb : Below w.heap.size w wr := by rw [HQ.out]; exact below_drewN (Below.refl _ _) q
      by_cases hlt : k < n
      · obtain ⟨ar, cr, hc, hrd⟩ := hr k hlt
        have hmk := hrd.len_max
        have hl : k < M.length := by rw [E1.out]; exact hlt
        have hc := kb.keep hbl hc
        have hrd := hrd.below kb
        have hc0 := kb.keep hbl hc0
        have b1 : (k : Int) < (n : Int) := by omega
        have b2 : (0 : Int) < (n : Int) := by omega
        have b3 : (1 : Int) ≤ (n : Int) := by omega
        by_cases hw : (rowOf M k).length = (rowOf M 0).length
        · have z3 : (((rowOf M k).length : Int) != ((rowOf M 0).length : Int)) = false := bne_eq_false_iff_eq.2 (by omega)
          have Hw := Lib.hid hw
          have hcq := hc
          clear hw
          go_wp2
          go_quiet (fail)
          have kb2 : Below wr.heap.size wr (wr.drewN nq) := below_drewN (Below.refl _ _) nq
          have hc := kb2.keep (World.block_lt_of_cell? wr _ hcq) hcq
          have hrd := hrd.below kb2
          have HQ2 : Hid (wr.drewN nq = w.drewN (q + nq)) := by unfold Hid; rw [HQ.out, World.drewN_drewN]
          clear hcq hc0 kb kb2 HQ z3
          generalize wr.drewN nq = w2 at *
          rcases hany : anyB lo hi (rowOf M k)
          · have Ha := Lib.hid hany
            have Hb : Hid (allB lo hi (rowOf M k) = true) := by unfold Hid; rw [allB_any, hany]; rfl
            clear hany
            go_wp2_with (go_at_call 19; refine (R_All_any _ _ hrd).mono ?_; rintro e w' ⟨rfl, rfl⟩; rw [Hb.out])
            go_roundw
            case rel => exact ⟨k + 1, _, by omega, by go_num, by unfold Hid; rw [rowsErr_take hl, hno.out, rowErr1, Ha.out, if_neg (by rw [Hw.out]; simp)]; rfl, HQ2⟩
            case measure => simp [intOf]; omega
          · have Ha := Lib.hid hany
            have Hb : Hid (allB lo hi (rowOf M k) = false) := by unfold Hid; rw [allB_any, hany]; rfl
            clear hany
            go_wp2_with (go_at_call 19; refine (R_All_any _ _ hrd).mono ?_; rintro e w' ⟨rfl, rfl⟩; rw [Hb.out])
            go_ret
            refine ⟨?_, by rw [HQ2.out]; exact below_drewN (Below.refl _ _) _⟩
            rw [HR.out, rowsErr_at hl hno.out (c := 1) (by rw [rowErr1, Ha.out, if_neg (by rw [Hw.out]; simp)]; rfl)]
            rfl
        · have z3 : (((rowOf M k).length : Int) != ((rowOf M 0).length : Int)) = true := bne_iff_ne.2 (by omega)
          have Hw := Lib.hid hw
          clear hw
          go_wp2
          go_quiet (fail)
          go_wp2
          go_ret
          refine ⟨?_, below_drewN kb nq⟩
          rw [HR.out, rowsErr_at hl hno.out (c := 3) (by rw [rowErr1, if_pos Hw.out])]
          rfl
      · go_wp2
        go_ret
        refine ⟨?_, kb⟩
        have hfin := hno.out
        rw [List.take_of_length_le (by rw [E1.out]; omega)] at hfin
        rw [HR.out, hfin]
        rfl
  · have HR : Hid (groundsR most lo hi M = some c) := groundsPre_some hq
    have hq2 := groundsPre_cases hq (by rw [E1.out]; omega)
    have p5 : (n : Int) = M.length := by rw [E1.out]
    rcases hq2 with ⟨rfl, hz⟩ | ⟨rfl, hz1, hz2⟩ | ⟨rfl, hz1, hz2, hz3⟩
    · have z2 : (((rowOf M 0).length : Int) == 0) = true := beq_iff_eq.2 (by omega)
      have HP := Lib.hid p5
      clear hq hz p5
      go_enter Tryd.func82, Tryd.ntmps82
      go_wp2
      go_ret
      exact ⟨by rw [HR.out]; rfl, Below.refl _ _⟩
    · have z2 : (((rowOf M 0).length : Int) == 0) = false := beq_eq_false_iff_ne.2 (by omega)
      have z4 : most < (n : Int) := by omega
      have HP := Lib.hid p5
      clear hq p5 hz1 hz2
      go_enter Tryd.func82, Tryd.ntmps82
      go_wp2
      go_ret
      exact ⟨by rw [HR.out]; rfl, Below.refl _ _⟩
    · have z2 : (((rowOf M 0).length : Int) == 0) = false := beq_eq_false_iff_ne.2 (by omega)
      have z4 : (n : Int) ≤ most := by omega
      have HP := Lib.hid p5
      clear hq p5 hz1 hz2
      go_enter Tryd.func82, Tryd.ntmps82
      go_wp2
      go_ret
      exact ⟨by rw [HR.out]; rfl, Below.refl _ _⟩

theorem R_Square_any {a : Option Addr} {n cap : Nat} {M : List (List Int)} (most lo hi : Int) {w : World} (h : RdM w a n cap M) :
    Calls Tryd.prog 30 #[.slice a n cap, .int .i64 most, .int .i64 lo, .int .i64 hi] w fun e w' => e = .returned (numV (squareR most lo hi M)) ∧ Below w.heap.size w w' := by
  have C := R_Matrix_any most lo hi h
  have e1 := h.len_eq
  have hm := h.len_max
  rcases hg : groundsR most lo hi M with _ | x
  · rw [hg] at C
    have C1 := Lib.hid C
    obtain ⟨l1, l2, l3, l4, l5⟩ := groundsR_none hg
    rw [e1] at l1
    obtain ⟨b, off, rfl, hbl, hr⟩ := h.at (k := 0) l1
    obtain ⟨ar0, cr0, hc0, hrd0⟩ := hr 0 l1
    have hm0 := hrd0.len_max
    rw [Nat.add_zero] at hc0
    have b2 : (0 : Int) < (n : Int) := by omega
    have b3 : (1 : Int) ≤ (n : Int) := by omega
    have HG := Lib.hid hg
    have E1 := Lib.hid e1
    have z0 : ((0 : Int) == 0) = true := rfl
    by_cases hs : n = (rowOf M 0).length
    · have z1 : ((n : Int) != ((rowOf M 0).length : Int)) = false := bne_eq_false_iff_eq.2 (by omega)
      have HS := Lib.hid hs
      clear hs hg C e1 l2 l3 l4 l5 hr
      go_enter Tryd.func30, Tryd.ntmps30
      go_wp2_with (go_at_call 82; (with_reducible refine C1.out.mono ?_); rintro e w2 ⟨rfl, hb⟩; have hc0 := hb.keep hbl hc0; simp only [numV, Option.getD_none])
      go_ret
      refine ⟨?_, hb⟩
      unfold squareR
      rw [if_pos HG.out, if_pos (by rw [E1.out, ← HS.out])]
      rfl
    · have z1 : ((n : Int) != ((rowOf M 0).length : Int)) = true := bne_iff_ne.2 (by omega)
      have HS := Lib.hid hs
      clear hs hg C e1 l2 l3 l4 l5 hr
      go_enter Tryd.func30, Tryd.ntmps30
      go_wp2_with (go_at_call 82; (with_reducible refine C1.out.mono ?_); rintro e w2 ⟨rfl, hb⟩; have hc0 := hb.keep hbl hc0; simp only [numV, Option.getD_none])
      go_ret
      refine ⟨?_, hb⟩
      unfold squareR
      rw [if_pos HG.out, if_neg (by rw [E1.out]; exact HS.out)]
      rfl
  · rw [hg] at C
    have C1 := Lib.hid C
    have HG := Lib.hid hg
    have hx : x ≠ 0 := fun e => by subst e; exact groundsR_ne0 hg
    have z0 : (x == 0) = false := beq_eq_false_iff_ne.2 hx
    clear hg C hx
    go_enter Tryd.func30, Tryd.ntmps30
    go_wp2_with (go_at_call 82; (with_reducible refine C1.out.mono ?_); rintro e w2 ⟨rfl, hb⟩; simp only [numV, Option.getD_some])
    go_ret
    refine ⟨?_, hb⟩
    unfold squareR
    rw [if_neg (by rw [HG.out]; simp), HG.out]
    rfl

set_option maxHeartbeats 2000000 in
theorem R_Without_any {a : Option Addr} {n cap r c : Nat} {M : List (List Int)} {w : World} (h : RdM w a n cap M) (hn : n ≤ 1000) (hl : ∀ k, k < n → (rowOf M k).length ≤ 1000) :
    Calls Tryd.prog 75 #[.slice a n cap, .int .i64 r, .int .i64 c] w fun e w' => ∃ a' cap', e = .returned (.slice a' (woN M r c n).length cap') ∧ OwM w' w.heap.size 22 3 a' (woN M r c n).length cap' (woN M r c n) ∧ Below w.heap.size w w' := by
  have HM := Lib.hid matTy
  go_enter Tryd.func75, Tryd.ntmps75
  go_wp2
  go_loopw [7, 8] (fun v i wr => ∃ (k : Nat) (q : Option Addr) (cq : Nat), k ≤ n ∧ i = .int .i64 k ∧ v = .slice q (woN M r c k).length cq ∧ OwM wr w.heap.size 22 3 q (woN M r c k).length cq (woN M r c k) ∧ Below w.heap.size w wr) (fun _ i _ => n - (intOf i).toNat)
  case atStart => exact ⟨0, none, 0, Nat.zero_le _, rfl, rfl, OwM.nil _ _ _ _, Below.refl _ _⟩
  case round =>
    obtain ⟨k, q, cq, hk, rfl, rfl, ho, hb⟩ := hrel
    obtain ⟨wo, rfl⟩ : ∃ wo, wo = wr := ⟨_, rfl⟩
    by_cases hlt : k < n
    · by_cases hkr : k = r
      · have z1 : ((k : Int) == (r : Int)) = true := beq_iff_eq.2 (by omega)
        have HK := Lib.hid hkr
        clear hkr
        go_wp2
        go_roundw
        case rel => exact ⟨k + 1, q, cq, by omega, by go_num, by rw [woN, if_pos HK.out], by rw [woN, if_pos HK.out]; exact ho, hb⟩
        case measure => simp [intOf]; omega
      · have z1 : ((k : Int) == (r : Int)) = false := beq_eq_false_iff_ne.2 (by omega)
        have HK := Lib.hid hkr
        clear hkr
        obtain ⟨b, off, rfl, hbl, hr⟩ := h.at hlt
        obtain ⟨ar, cr, hc0, hrd⟩ := hr k hlt
        have b1 : (k : Int) < (n : Int) := by omega
        have hlk := hl k hlt
        obtain ⟨len, hlen⟩ : ∃ len, (rowOf M k).length = len := ⟨_, rfl⟩
        rw [hlen] at hc0 hrd hlk
        have HL := Lib.hid hlen
        clear hr hlen
        go_wp2
        go_loopw [9, 10] (fun v j wt => ∃ (s : Nat) (p : Option Addr) (cp : Nat), s ≤ len ∧ j = .int .i64 s ∧ v = .slice p (cutN (rowOf M k) c s).length cp ∧ OwI wt wo.heap.size 3 p (cutN (rowOf M k) c s).length cp (cutN (rowOf M k) c s) ∧ Below wo.heap.size wo wt) (fun _ j _ => len - (intOf j).toNat)
        case atStart => exact ⟨0, none, 0, Nat.zero_le _, rfl, rfl, OwI.nil _ _ _, Below.refl _ _⟩
        case round =>
          obtain ⟨s, p, cp, hs, rfl, rfl, hp, hbt⟩ := hrel
          have kt := below_tr hb hbt
          have hc0 := kt.keep hbl hc0
          by_cases hsl : s < len
          · obtain ⟨p2, o2, hz, _, hcs⟩ := (hrd.below kt).at hsl
            subst hz
            have y1 := hcs s hsl
            have b2 : (s : Int) < (len : Int) := by omega
            have hle := cutN_len (rowOf M k) c s
            have hle2 : (cutN (rowOf M k) c s).length ≤ s := by rw [hle]; split <;> omega
            clear hle hcs
            by_cases hsc : s = c
            · have z2 : ((s : Int) != (c : Int)) = false := bne_eq_false_iff_eq.2 (by omega)
              have HS := Lib.hid hsc
              clear hsc
              go_wp2
              go_roundw
              case rel => exact ⟨s + 1, p, cp, by omega, by go_num, by rw [cutN, if_pos HS.out], by rw [cutN, if_pos HS.out]; exact hp, hbt⟩
              case measure => simp [intOf]; omega
            · have z2 : ((s : Int) != (c : Int)) = true := bne_iff_ne.2 (by omega)
              have HS := Lib.hid hsc
              have hsz := hbt.size
              clear hsc
              go_wp2_with (at_builtin; refine wpList_push_int HM.out.int rfl (.tmp 32) (.tmp 40) rfl rfl rfl (hp.alloc _) (z := ix (rowOf M k) s) (by simp) (by decide) (by decide) (by omega) (by simp; omega) ?_; intro a6 cap6 w6 ho6 hg6)
              have hle6 : (cutN (rowOf M k) c (s + 1)).length = (cutN (rowOf M k) c s).length + 1 := by rw [cutN, if_neg HS.out]; simp
              have hb6 := (hbt.alloc hbt.size (.cells #[.int .i64 (ix (rowOf M k) s)] 3)).grown hg6 (by simp; omega) (fun r e => (hp.own.lt r e).1)
              go_roundw
              case rel => exact ⟨s + 1, a6, cap6, by omega, by go_num, by rw [hle6], by rw [hle6, cutN, if_neg HS.out]; exact ho6, hb6⟩
              case measure => simp [intOf]; omega
          · obtain rfl : s = len := by omega
            have hsz := hb.size
            have hsz2 := hbt.size
            have hwl := woN_len M r c k
            have hwl2 : (woN M r c k).length ≤ k := by rw [hwl]; split <;> omega
            clear hwl
            go_wp2_with (at_builtin; refine wpList_push_row HM.out rfl (.tmp 42) (.tmp 44) rfl rfl rfl ho (hbt.alloc hsz2 _) (hp.below ((Below.refl _ _).alloc (Nat.le_refl _) _)) (by simp) (by omega) hsz ?_; intro a4 cap4 w4 ho4 hb4)
            have hle4 : (woN M r c (k + 1)).length = (woN M r c k).length + 1 := by rw [woN, if_neg HK.out]; simp
            have hb5 := (kt.alloc kt.size (.cells #[.slice p (cutN (rowOf M k) c s).length cp] 22)).trans hb4
            go_roundw
            case rel => exact ⟨k + 1, a4, cap4, by omega, by go_num, by rw [hle4], by rw [hle4, woN, if_neg HK.out, HL.out]; exact ho4, hb5⟩
            case measure => simp [intOf]; omega
    · obtain rfl : k = n := by omega
      go_wp2
      go_ret
      exact ⟨q, cq, rfl, ho, hb⟩

theorem R_Without_sq {a : Option Addr} {n cap r c : Nat} {M : List (List Int)} {w : World} (h : RdM w a (n + 1) cap M) (hn : n ≤ 100) (hd : Dim (n + 1) M) (hr : r < n + 1) (hc : c < n + 1) :
    Calls Tryd.prog 75 #[.slice a (n + 1 : Nat) cap, .int .i64 r, .int .i64 c] w fun e w' => ∃ a' cap' W, e = .returned (.slice a' n cap') ∧ OwM w' w.heap.size 22 3 a' n cap' W ∧ Is n W (minor (mx M) r c) ∧ Below w.heap.size w w' := by
  refine (R_Without_any h (by omega) fun k hk => by rw [hd.2 k hk]; omega).mono ?_
  rintro e w' ⟨a', cap', rfl, ho, hb⟩
  have hl : (woN M r c (n + 1)).length = n := by rw [woN_len, if_pos hr]; omega
  rw [hl] at ho
  exact ⟨a', cap', _, by rw [hl], ho, woN_is hd hr hc, hb⟩

set_option maxHeartbeats 4000000 in
set_option maxRecDepth 100000 in
theorem R_DetMod_big : ∀ (n : Nat) {a : Option Addr} {cap : Nat} {M : List (List Int)} {w : World} (_ : RdM w a n cap M) (_ : Dim n M) (_ : Ent 0 9972 n M) (_ : n ≤ 100),
    Calls Tryd.prog 17 #[.slice a n cap] w fun e w' => e = .returned (.int .i64 (det n (mx M) % 9973)) ∧ Below w.heap.size w w' := by
  intro n
  induction n with
  | zero =>
    intro a cap M w h _ _ _
    go_enter Tryd.func17, Tryd.ntmps17
    go_wp2
    go_ret
    exact ⟨rfl, Below.refl _ _⟩
  | succ n ih =>
    intro a cap M w h hd he h5
    obtain ⟨N, hN⟩ : ∃ N, n + 1 = N := ⟨_, rfl⟩
    rw [hN] at h hd he h5 ⊢
    have hN1 : 1 ≤ N := by omega
    have hN2 : 0 < N := by omega
    have HD := Lib.hid hd
    have HE := Lib.hid he
    have IH : Hid (∀ {a : Option Addr} {cap : Nat} {M : List (List Int)} {w : World} (_ : RdM w a n cap M) (_ : Dim n M) (_ : Ent 0 9972 n M) (_ : n ≤ 100), Calls Tryd.prog 17 #[.slice a n cap] w fun e w' => e = .returned (.int .i64 (det n (mx M) % 9973)) ∧ Below w.heap.size w w') := @ih
    clear ih hd he
    obtain ⟨ba, oa, rfl, hba, hra⟩ := h.at (k := 0) (by omega)
    obtain ⟨ai, ci, hc0, hai⟩ := hra 0 (by omega)
    rw [HD.out.2 0 (by omega)] at hc0 hai
    obtain ⟨pa, qa, rfl, hpa, hca⟩ := hai.at (k := 0) (by omega)
    rw [Nat.add_zero] at hc0
    have z0 : ((N : Int) == 0) = false := beq_eq_false_iff_ne.2 (by omega)
    clear hra hai
    go_enter Tryd.func17, Tryd.ntmps17
    go_wp2
    go_loopw [3, 4, 5] (fun vs vg vj wr => ∃ (j : Nat) (S g : Int), j ≤ N ∧ vj = .int .i64 j ∧ vs = .int .i64 S ∧ vg = .int .i64 g ∧ Hid (g = sg j) ∧ (g = 1 ∨ g = -1) ∧ 0 ≤ S ∧ S ≤ 9972 ∧ Hid (Eqm S (sumTo (fun t => sg t * en M 0 t * det n (minor (mx M) 0 t)) j)) ∧ Below w.heap.size w wr) (fun _ _ vj _ => N - (intOf vj).toNat)
    case atStart => exact ⟨0, 0, 1, Nat.zero_le _, rfl, rfl, rfl, rfl, .inl rfl, by omega, by omega, Eqm.refl _, Below.refl _ _⟩
    case round =>
      obtain ⟨j, S, g, hj, rfl, rfl, rfl, HG, hg, hS1, hS2, HS, hb⟩ := hrel
      have hgn : Hid (-g = sg (j + 1)) := by unfold Hid; rw [sg_succ, HG.out]
      have hgn1 : -g = 1 ∨ -g = -1 := by omega
      have ug : IntKind.i64.wrap (-g) = -g := Go.IntWalk.i64_in _ (by omega)
      by_cases hlt : j < N
      · have hc0 := hb.keep hba hc0
        have y1 := hb.keep hpa (hca j hlt)
        change World.cell? _ _ = some (.int .i64 (en M 0 j)) at y1
        have b1 : (j : Int) < (N : Int) := by omega
        have b2 : (0 : Int) < (N : Int) := by omega
        have b3 : (1 : Int) ≤ (N : Int) := by omega
        have hv := HE.out 0 j (by omega) hlt
        by_cases h0 : en M 0 j = 0
        · have z1 : (en M 0 j != 0) = false := bne_eq_false_iff_eq.2 h0
          have H0 := Lib.hid h0
          clear h0
          go_wp2
          go_roundw
          case rel => exact ⟨j + 1, S, -g, by omega, by go_num, rfl, rfl, hgn, hgn1, hS1, hS2, by unfold Hid; rw [sumTo, H0.out, Int.mul_zero, Int.zero_mul, Int.add_zero]; exact HS.out, hb⟩
          case measure => simp [intOf]; omega
        · have z1 : (en M 0 j != 0) = true := bne_iff_ne.2 h0
          clear h0
          obtain ⟨V, hV⟩ : ∃ V, V = en M 0 j := ⟨_, rfl⟩
          rw [← hV] at y1 z1 hv
          obtain ⟨Dt, hDt⟩ : ∃ Dt, Dt = det n (minor (mx M) 0 j) % 9973 := ⟨_, rfl⟩
          have hD : 0 ≤ Dt ∧ Dt ≤ 9972 := by omega
          obtain ⟨T1, hT1⟩ : ∃ T1, T1 = g * V := ⟨_, rfl⟩
          have hT1b : -9972 ≤ T1 ∧ T1 ≤ 9972 := by rcases hg with e | e <;> rw [hT1, e] <;> omega
          have p1 : -(9972 * 9972) ≤ T1 * Dt ∧ T1 * Dt ≤ 9972 * 9972 := by
            have q1 : (T1 + 9972) * Dt ≤ 19944 * 9972 := Int.mul_le_mul (by omega) hD.2 hD.1 (by omega)
            have q2 : 0 ≤ (T1 + 9972) * Dt := Int.mul_nonneg (by omega) hD.1
            have q3 : 0 ≤ (9972 - T1) * Dt := Int.mul_nonneg (by omega) hD.1
            rw [Int.add_mul] at q2
            rw [Int.sub_mul] at q3
            omega
          obtain ⟨T2, hT2⟩ : ∃ T2, T2 = T1 * Dt := ⟨_, rfl⟩
          rw [← hT2] at p1
          have u1 : IntKind.i64.wrap (g * V) = T1 := by rw [hT1]; exact Go.IntWalk.i64_in _ (by rw [← hT1]; omega)
          have u2 : IntKind.i64.wrap (T1 * Dt) = T2 := by rw [hT2]; exact Go.IntWalk.i64_in _ (by rw [← hT2]; omega)
          have u3 : IntKind.i64.wrap (S + T2) = S + T2 := Go.IntWalk.i64_in _ (by omega)
          have HT1 := Lib.hid hT1
          have HT2 := Lib.hid hT2
          have HDt := Lib.hid hDt
          have HV := Lib.hid hV
          have C1 : Hid (Calls Tryd.prog 75 #[.slice (some ⟨ba, oa, none⟩) N cap, .int .i64 0, .int .i64 j] wr.drew fun e w' => ∃ a' cap' W, e = .returned (.slice a' n cap') ∧ OwM w' wr.drew.heap.size 22 3 a' n cap' W ∧ Is n W (minor (mx M) 0 j) ∧ Below wr.drew.heap.size wr.drew w') :=
            by subst hN; exact R_Without_sq (r := 0) (h.below hb.drew) (by omega) HD.out (by omega) hlt
          have hbl : ba < wr.heap.size ∧ pa < wr.heap.size := by have := hb.size; omega
          have hn5 : n ≤ 100 := by omega
          clear hT1 hT2 hDt hV
          go_wp2
          go_region_held3 (fun w' => w'.cell? ⟨ba, oa, none⟩ = some (.slice (some ⟨pa, qa, none⟩) N ci) ∧ w'.cell? ⟨pa, qa + j, none⟩ = some (.int .i64 V))
            (first | go_keep | (go_split_ands; refine ⟨?_, ?_⟩ <;> first | assumption | (refine hbk.keep ?_ ?_ <;> first | assumption | omega | (simp; omega))))
            (first
              | (go_at_call 75; (with_reducible refine C1.out.mono ?_); rintro e w3 ⟨a3, cap3, W, rfl, ho3, hi3, hbk⟩; have kk := hb.drew.trans (hbk.mono hb.drew.size); have kl : wr.heap.size ≤ w3.heap.size := hbk.size)
              | (go_at_call 17; refine (IH.out ho3.rd hi3.1 (fun r s hr hs => by rw [hi3.2 r s hr hs]; exact HE.out _ _ (by rw [← hN]; exact skip_lt hr) (by rw [← hN]; exact skip_lt hs)) hn5).mono ?_; rw [show det n (mx W) = det n (minor (mx M) 0 j) from det_congr fun r s hr hs => hi3.2 r s hr hs, ← HDt.out]; rintro e w4 ⟨rfl, hbk⟩; have kk := kk.trans (hbk.mono kk.size))
              | (go_at_call 66; refine (R_Mod_any _ _ (by omega) (by omega)).mono ?_; rintro e w' ⟨rfl, rfl⟩))
          clear u1 u2 u3
          have e2 : Eqm ((S + T2) % 9973) (sumTo (fun t => sg t * en M 0 t * det n (minor (mx M) 0 t)) (j + 1)) := by
            refine (Eqm.mod _).trans ?_
            rw [sumTo]
            refine Eqm.add HS.out ?_
            rw [HT2.out, HT1.out, HG.out, HV.out, HDt.out]
            exact Eqm.mul (Eqm.refl _) (Eqm.mod _)
          have e3 : 0 ≤ (S + T2) % 9973 ∧ (S + T2) % 9973 ≤ 9972 := by omega
          go_wp2
          go_roundw
          case rel => exact ⟨j + 1, _, -g, by omega, by go_num, rfl, rfl, hgn, hgn1, e3.1, e3.2, e2, kk⟩
          case measure => simp [intOf]; omega
      · obtain rfl : j = N := by omega
        go_wp2
        go_ret
        refine ⟨?_, hb⟩
        subst hN
        have e1 := HS.out
        unfold Eqm at e1
        rw [show det (n + 1) (mx M) = sumTo (fun t => sg t * en M 0 t * det n (minor (mx M) 0 t)) (n + 1) from rfl, ← e1]
        rw [Int.emod_eq_of_lt hS1 (by omega)]
        rfl
theorem R_DetMod_any (n : Nat) {a : Option Addr} {cap : Nat} {M : List (List Int)} {w : World} (h : RdM w a n cap M) (d : Dim n M) (e : Ent 0 9972 n M) (h5 : n ≤ 5) :
    Calls Tryd.prog 17 #[.slice a n cap] w fun e w' => e = .returned (.int .i64 (det n (mx M) % 9973)) ∧ Below w.heap.size w w' := R_DetMod_big n h d e (by omega)
end Go.Proofs.YtefmllkimdaimaaDoor
