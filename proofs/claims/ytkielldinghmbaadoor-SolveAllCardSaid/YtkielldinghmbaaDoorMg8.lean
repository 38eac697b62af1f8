/-
  The reference's Matrix, Square, Without and DetMod walked.
  What the statements on whole packages use again and again: the reference's Field, and rows and matrices that are the same.
  InvMul walked: what undoes a product is the product the other way round.
-/
import Derived.Test.YtkielldinghmbaaDoorRows
import Derived.Deep.QuietTactic
import Derived.BigQuiet
import Derived.Deep.RegionHeld3
import Derived.StillTailTactics
import Derived.Test.YtkielldinghmbaaDoorMg0
import Derived.Test.YtkielldinghmbaaDoorMg1
import Derived.Test.YtkielldinghmbaaDoorMg2
import Derived.Test.YtkielldinghmbaaDoorMg3
import Derived.Test.YtkielldinghmbaaDoorMg4
import Derived.Test.YtkielldinghmbaaDoorMg5
import Derived.Test.YtkielldinghmbaaDoorMg6
import Derived.Test.YtkielldinghmbaaDoorMg7
namespace Go.Proofs.YtkielldinghmbaaDoor
open Go.RowKit Go.Rk

/-- What is wrong, as a number. -/
def numV (o : Option Int) : Value := .int .i64 (o.getD 0)
theorem allB_any (lo hi : Int) (l : List Int) : allB lo hi l = !anyB lo hi l := by
  unfold allB anyB
  rw [List.all_eq_not_any_not]
  congr 2
  funext x
  unfold inB outB
  by_cases h1 : lo ≤ x <;> by_cases h2 : x ≤ hi <;> simp [h1, h2] <;> omega

theorem rowsErr_ne0 {lo hi : Int} {m : Nat} {M : List (List Int)} (h : rowsErr lo hi m M = some 0) : False := by
  have key : ∀ (M : List (List Int)) (r : Option Int), r ≠ some 0 → M.foldl (fun r l => match r with | none => rowErr1 lo hi m l | some c => some c) r ≠ some 0 := by
    intro M
    induction M with
    | nil => intro r hr; exact hr
    | cons l M ih =>
      intro r hr
      rw [List.foldl_cons]
      refine ih _ ?_
      cases r with
      | none =>
        show rowErr1 lo hi m l ≠ some 0
        unfold rowErr1
        split
        · simp
        · split <;> simp
      | some c => exact hr
  exact key M none (by simp) h

theorem groundsR_ne0 {most lo hi : Int} {M : List (List Int)} (hg : groundsR most lo hi M = some 0) : False := by
  unfold groundsR at hg
  split at hg
  · injection hg; omega
  · split at hg
    · injection hg; omega
    · exact rowsErr_ne0 hg
theorem squareR_ne0 {most lo hi : Int} {M : List (List Int)} (h : squareR most lo hi M = some 0) : False := by
  unfold squareR at h
  split at h
  · split at h
    · cases h
    · injection h; omega
  · exact groundsR_ne0 h

set_option maxHeartbeats 2000000 in
theorem R_Matrix_any {a : Option Addr} {n cap : Nat} {M : List (List Int)} (most lo hi : Int) {w : World} (h : RdM w a n cap M) :
    Calls Tryd.prog 61 #[.slice a n cap, .int .i64 most, .int .i64 lo, .int .i64 hi] w fun e w' => e = .returned (numV (groundsR most lo hi M)) ∧ Below w.heap.size w w' := by
  have E1 := Lib.hid h.len_eq
  have hm := h.len_max
  by_cases h0 : n = 0
  · subst h0
    go_enter Tryd.func61, Tryd.ntmps61
    go_wp2
    go_ret
    refine ⟨?_, Below.refl _ _⟩
    unfold groundsR
    rw [if_pos (.inl E1.out)]
    rfl
  obtain ⟨b, off, rfl, hbl, hr⟩ := h.at (k := 0) (by omega)
  obtain ⟨ar0, cr0, hc0, hrd0⟩ := hr 0 (by omega)
  rw [Nat.add_zero] at hc0
  have hm0 := hrd0.len_max
  have z1 : ((n : Int) == 0) = false := by simp; omega
  rcases hq : groundsPre most M with _ | c
  · obtain ⟨p1, p2, p3⟩ := groundsPre_none hq
    have HR : Hid (groundsR most lo hi M = rowsErr lo hi (rowOf M 0).length M) := by
      unfold Hid groundsR
      rw [if_neg (by rw [E1.out]; omega), if_neg (by omega)]
    have p2' : (n : Int) ≤ most := by rw [← E1.out]; exact p2
    have z2 : (((rowOf M 0).length : Int) == 0) = false := beq_eq_false_iff_ne.2 (by omega)
    clear hq p2
    go_enter Tryd.func61, Tryd.ntmps61
    go_wp2
    go_loopw [9] (fun i wr => ∃ k q : Nat, k ≤ n ∧ i = .int .i64 k ∧ Hid (rowsErr lo hi (rowOf M 0).length (M.take k) = none) ∧ Hid (wr = w.drewN q)) (fun i _ => n - (intOf i).toNat)
    case atStart => exact ⟨0, 0, Nat.zero_le _, rfl, rfl, (World.drewN_zero _).symm⟩
    case round =>
      obtain ⟨k, q, hk, rfl, hno, HQ⟩ := hrel
      have kb : Below w.heap.size w wr := by rw [HQ.out]; exact below_drewN (Below.refl _ _) q
      by_cases hlt : k < n
      · obtain ⟨ar, cr, hc, hrd⟩ := hr k hlt
        have hmk := hrd.len_max
        have hl : k < M.length := by rw [E1.out]; exact hlt
        have hc := kb.keep hbl hc
        have hrd := hrd.below kb
        have hc0 := kb.keep hbl hc0
        have b1 : (k : Int) < (n : Int) := by omega
        have b2 : (0 : Int) < (n : Int) := by omega
        have b3 : (1 : Int) ≤ (n : Int) := by omega
        by_cases hw : (rowOf M k).length = (rowOf M 0).length
        · have z3 : (((rowOf M k).length : Int) != ((rowOf M 0).length : Int)) = false := bne_eq_false_iff_eq.2 (by omega)
          have Hw := Lib.hid hw
          have hcq := hc
          clear hw
          go_wp2
          go_quiet (fail)
          have kb2 : Below wr.heap.size wr (wr.drewN nq) := below_drewN (Below.refl _ _) nq
          have hc := kb2.keep (World.block_lt_of_cell? wr _ hcq) hcq
          have hrd := hrd.below kb2
          have HQ2 : Hid (wr.drewN nq = w.drewN (q + nq)) := by unfold Hid; rw [HQ.out, World.drewN_drewN]
          clear hcq hc0 kb kb2 HQ z3
          generalize wr.drewN nq = w2 at *
          rcases hany : anyB lo hi (rowOf M k)
          · have Ha := Lib.hid hany
            have Hb : Hid (allB lo hi (rowOf M k) = true) := by unfold Hid; rw [allB_any, hany]; rfl
            clear hany
            go_wp2_with (go_at_call 50; refine (R_All_any _ _ hrd).mono ?_; rintro e w' ⟨rfl, rfl⟩; rw [Hb.out])
            go_roundw
            case rel => exact ⟨k + 1, _, by omega, by go_num, by unfold Hid; rw [rowsErr_take hl, hno.out, rowErr1, Ha.out, if_neg (by rw [Hw.out]; simp)]; rfl, HQ2⟩
            case measure => simp [intOf]; omega
          · have Ha := Lib.hid hany
            have Hb : Hid (allB lo hi (rowOf M k) = false) := by unfold Hid; rw [allB_any, hany]; rfl
            clear hany
            go_wp2_with (go_at_call 50; refine (R_All_any _ _ hrd).mono ?_; rintro e w' ⟨rfl, rfl⟩; rw [Hb.out])
            go_ret
            refine ⟨?_, by rw [HQ2.out]; exact below_drewN (Below.refl _ _) _⟩
            rw [HR.out, rowsErr_at hl hno.out (c := 1) (by rw [rowErr1, Ha.out, if_neg (by rw [Hw.out]; simp)]; rfl)]
            rfl
        · have z3 : (((rowOf M k).length : Int) != ((rowOf M 0).length : Int)) = true := bne_iff_ne.2 (by omega)
          have Hw := Lib.hid hw
          clear hw
          go_wp2
          go_quiet (fail)
          go_wp2
          go_ret
          refine ⟨?_, below_drewN kb nq⟩
          rw [HR.out, rowsErr_at hl hno.out (c := 3) (by rw [rowErr1, if_pos Hw.out])]
          rfl
      · go_wp2
        go_ret
        refine ⟨?_, kb⟩
        have hfin := hno.out
        rw [List.take_of_length_le (by rw [E1.out]; omega)] at hfin
        rw [HR.out, hfin]
        rfl
  · have HR : Hid (groundsR most lo hi M = some c) := groundsPre_some hq
    have hq2 := groundsPre_cases hq (by rw [E1.out]; omega)
    have p5 : (n : Int) = M.length := by rw [E1.out]
    rcases hq2 with ⟨rfl, hz⟩ | ⟨rfl, hz1, hz2⟩ | ⟨rfl, hz1, hz2, hz3⟩
    · have z2 : (((rowOf M 0).length : Int) == 0) = true := beq_iff_eq.2 (by omega)
      have HP := Lib.hid p5
      clear hq hz p5
      go_enter Tryd.func61, Tryd.ntmps61
      go_wp2
      go_ret
      exact ⟨by rw [HR.out]; rfl, Below.refl _ _⟩
    · have z2 : (((rowOf M 0).length : Int) == 0) = false := beq_eq_false_iff_ne.2 (by omega)
      have z4 : most < (n : Int) := by omega
      have HP := Lib.hid p5
      clear hq p5 hz1 hz2
      go_enter Tryd.func61, Tryd.ntmps61
      go_wp2
      go_ret
      exact ⟨by rw [HR.out]; rfl, Below.refl _ _⟩
    · have z2 : (((rowOf M 0).length : Int) == 0) = false := beq_eq_false_iff_ne.2 (by omega)
      have z4 : (n : Int) ≤ most := by omega
      have HP := Lib.hid p5
      clear hq p5 hz1 hz2
      go_enter Tryd.func61, Tryd.ntmps61
      go_wp2
      go_ret
      exact ⟨by rw [HR.out]; rfl, Below.refl _ _⟩

theorem R_Square_any {a : Option Addr} {n cap : Nat} {M : List (List Int)} (most lo hi : Int) {w : World} (h : RdM w a n cap M) :
    Calls Tryd.prog 34 #[.slice a n cap, .int .i64 most, .int .i64 lo, .int .i64 hi] w fun e w' => e = .returned (numV (squareR most lo hi M)) ∧ Below w.heap.size w w' := by
  have C := R_Matrix_any most lo hi h
  have e1 := h.len_eq
  have hm := h.len_max
  rcases hg : groundsR most lo hi M with _ | x
  · rw [hg] at C
    have C1 := Lib.hid C
    obtain ⟨l1, l2, l3, l4, l5⟩ := groundsR_none hg
    rw [e1] at l1
    obtain ⟨b, off, rfl, hbl, hr⟩ := h.at (k := 0) l1
    obtain ⟨ar0, cr0, hc0, hrd0⟩ := hr 0 l1
    have hm0 := hrd0.len_max
    rw [Nat.add_zero] at hc0
    have b2 : (0 : Int) < (n : Int) := by omega
    have b3 : (1 : Int) ≤ (n : Int) := by omega
    have HG := Lib.hid hg
    have E1 := Lib.hid e1
    have z0 : ((0 : Int) == 0) = true := rfl
    by_cases hs : n = (rowOf M 0).length
    · have z1 : ((n : Int) != ((rowOf M 0).length : Int)) = false := bne_eq_false_iff_eq.2 (by omega)
      have HS := Lib.hid hs
      clear hs hg C e1 l2 l3 l4 l5 hr
      go_enter Tryd.func34, Tryd.ntmps34
      go_wp2_with (go_at_call 61; (with_reducible refine C1.out.mono ?_); rintro e w2 ⟨rfl, hb⟩; have hc0 := hb.keep hbl hc0; simp only [numV, Option.getD_none])
      go_ret
      refine ⟨?_, hb⟩
      unfold squareR
      rw [if_pos HG.out, if_pos (by rw [E1.out, ← HS.out])]
      rfl
    · have z1 : ((n : Int) != ((rowOf M 0).length : Int)) = true := bne_iff_ne.2 (by omega)
      have HS := Lib.hid hs
      clear hs hg C e1 l2 l3 l4 l5 hr
      go_enter Tryd.func34, Tryd.ntmps34
      go_wp2_with (go_at_call 61; (with_reducible refine C1.out.mono ?_); rintro e w2 ⟨rfl, hb⟩; have hc0 := hb.keep hbl hc0; simp only [numV, Option.getD_none])
      go_ret
      refine ⟨?_, hb⟩
      unfold squareR
      rw [if_pos HG.out, if_neg (by rw [E1.out]; exact HS.out)]
      rfl
  · rw [hg] at C
    have C1 := Lib.hid C
    have HG := Lib.hid hg
    have hx : x ≠ 0 := fun e => by subst e; exact groundsR_ne0 hg
    have z0 : (x == 0) = false := beq_eq_false_iff_ne.2 hx
    clear hg C hx
    go_enter Tryd.func34, Tryd.ntmps34
    go_wp2_with (go_at_call 61; (with_reducible refine C1.out.mono ?_); rintro e w2 ⟨rfl, hb⟩; simp only [numV, Option.getD_some])
    go_ret
    refine ⟨?_, hb⟩
    unfold squareR
    rw [if_neg (by rw [HG.out]; simp), HG.out]
    rfl

set_option maxHeartbeats 2000000 in
theorem R_Without_any {a : Option Addr} {n cap r c : Nat} {M : List (List Int)} {w : World} (h : RdM w a n cap M) (hn : n ≤ 1000) (hl : ∀ k, k < n → (rowOf M k).length ≤ 1000) :
    Calls Tryd.prog 44 #[.slice a n cap, .int .i64 r, .int .i64 c] w fun e w' => ∃ a' cap', e = .returned (.slice a' (woN M r c n).length cap') ∧ OwM w' w.heap.size 32 3 a' (woN M r c n).length cap' (woN M r c n) ∧ Below w.heap.size w w' := by
  have HM := Lib.hid matTy
  go_enter Tryd.func44, Tryd.ntmps44
  go_wp2
  go_loopw [7, 8] (fun v i wr => ∃ (k : Nat) (q : Option Addr) (cq : Nat), k ≤ n ∧ i = .int .i64 k ∧ v = .slice q (woN M r c k).length cq ∧ OwM wr w.heap.size 32 3 q (woN M r c k).length cq (woN M r c k) ∧ Below w.heap.size w wr) (fun _ i _ => n - (intOf i).toNat)
  case atStart => exact ⟨0, none, 0, Nat.zero_le _, rfl, rfl, OwM.nil _ _ _ _, Below.refl _ _⟩
  case round =>
    obtain ⟨k, q, cq, hk, rfl, rfl, ho, hb⟩ := hrel
    obtain ⟨wo, rfl⟩ : ∃ wo, wo = wr := ⟨_, rfl⟩
    by_cases hlt : k < n
    · by_cases hkr : k = r
      · have z1 : ((k : Int) == (r : Int)) = true := beq_iff_eq.2 (by omega)
        have HK := Lib.hid hkr
        clear hkr
        go_wp2
        go_roundw
        case rel => exact ⟨k + 1, q, cq, by omega, by go_num, by rw [woN, if_pos HK.out], by rw [woN, if_pos HK.out]; exact ho, hb⟩
        case measure => simp [intOf]; omega
      · have z1 : ((k : Int) == (r : Int)) = false := beq_eq_false_iff_ne.2 (by omega)
        have HK := Lib.hid hkr
        clear hkr
        obtain ⟨b, off, rfl, hbl, hr⟩ := h.at hlt
        obtain ⟨ar, cr, hc0, hrd⟩ := hr k hlt
        have b1 : (k : Int) < (n : Int) := by omega
        have hlk := hl k hlt
        obtain ⟨len, hlen⟩ : ∃ len, (rowOf M k).length = len := ⟨_, rfl⟩
        rw [hlen] at hc0 hrd hlk
        have HL := Lib.hid hlen
        clear hr hlen
        go_wp2
        go_loopw [9, 10] (fun v j wt => ∃ (s : Nat) (p : Option Addr) (cp : Nat), s ≤ len ∧ j = .int .i64 s ∧ v = .slice p (cutN (rowOf M k) c s).length cp ∧ OwI wt wo.heap.size 3 p (cutN (rowOf M k) c s).length cp (cutN (rowOf M k) c s) ∧ Below wo.heap.size wo wt) (fun _ j _ => len - (intOf j).toNat)
        case atStart => exact ⟨0, none, 0, Nat.zero_le _, rfl, rfl, OwI.nil _ _ _, Below.refl _ _⟩
        case round =>
          obtain ⟨s, p, cp, hs, rfl, rfl, hp, hbt⟩ := hrel
          have kt := below_tr hb hbt
          have hc0 := kt.keep hbl hc0
          by_cases hsl : s < len
          · obtain ⟨p2, o2, hz, _, hcs⟩ := (hrd.below kt).at hsl
            subst hz
            have y1 := hcs s hsl
            have b2 : (s : Int) < (len : Int) := by omega
            have hle := cutN_len (rowOf M k) c s
            have hle2 : (cutN (rowOf M k) c s).length ≤ s := by rw [hle]; split <;> omega
            clear hle hcs
            by_cases hsc : s = c
            · have z2 : ((s : Int) != (c : Int)) = false := bne_eq_false_iff_eq.2 (by omega)
              have HS := Lib.hid hsc
              clear hsc
              go_wp2
              go_roundw
              case rel => exact ⟨s + 1, p, cp, by omega, by go_num, by rw [cutN, if_pos HS.out], by rw [cutN, if_pos HS.out]; exact hp, hbt⟩
              case measure => simp [intOf]; omega
            · have z2 : ((s : Int) != (c : Int)) = true := bne_iff_ne.2 (by omega)
              have HS := Lib.hid hsc
              have hsz := hbt.size
              clear hsc
              go_wp2_with (at_builtin; refine wpList_push_int HM.out.int rfl (.tmp 32) (.tmp 40) rfl rfl rfl (hp.alloc _) (z := ix (rowOf M k) s) (by simp) (by decide) (by decide) (by omega) (by simp; omega) ?_; intro a6 cap6 w6 ho6 hg6)
              have hle6 : (cutN (rowOf M k) c (s + 1)).length = (cutN (rowOf M k) c s).length + 1 := by rw [cutN, if_neg HS.out]; simp
              have hb6 := (hbt.alloc hbt.size (.cells #[.int .i64 (ix (rowOf M k) s)] 3)).grown hg6 (by simp; omega) (fun r e => (hp.own.lt r e).1)
              go_roundw
              case rel => exact ⟨s + 1, a6, cap6, by omega, by go_num, by rw [hle6], by rw [hle6, cutN, if_neg HS.out]; exact ho6, hb6⟩
              case measure => simp [intOf]; omega
          · obtain rfl : s = len := by omega
            have hsz := hb.size
            have hsz2 := hbt.size
            have hwl := woN_len M r c k
            have hwl2 : (woN M r c k).length ≤ k := by rw [hwl]; split <;> omega
            clear hwl
            go_wp2_with (at_builtin; refine wpList_push_row HM.out rfl (.tmp 42) (.tmp 44) rfl rfl rfl ho (hbt.alloc hsz2 _) (hp.below ((Below.refl _ _).alloc (Nat.le_refl _) _)) (by simp) (by omega) hsz ?_; intro a4 cap4 w4 ho4 hb4)
            have hle4 : (woN M r c (k + 1)).length = (woN M r c k).length + 1 := by rw [woN, if_neg HK.out]; simp
            have hb5 := (kt.alloc kt.size (.cells #[.slice p (cutN (rowOf M k) c s).length cp] 32)).trans hb4
            go_roundw
            case rel => exact ⟨k + 1, a4, cap4, by omega, by go_num, by rw [hle4], by rw [hle4, woN, if_neg HK.out, HL.out]; exact ho4, hb5⟩
            case measure => simp [intOf]; omega
    · obtain rfl : k = n := by omega
      go_wp2
      go_ret
      exact ⟨q, cq, rfl, ho, hb⟩

theorem R_Without_sq {a : Option Addr} {n cap r c : Nat} {M : List (List Int)} {w : World} (h : RdM w a (n + 1) cap M) (hn : n ≤ 100) (hd : Dim (n + 1) M) (hr : r < n + 1) (hc : c < n + 1) :
    Calls Tryd.prog 44 #[.slice a (n + 1 : Nat) cap, .int .i64 r, .int .i64 c] w fun e w' => ∃ a' cap' W, e = .returned (.slice a' n cap') ∧ OwM w' w.heap.size 32 3 a' n cap' W ∧ Is n W (minor (mx M) r c) ∧ Below w.heap.size w w' := by
  refine (R_Without_any h (by omega) fun k hk => by rw [hd.2 k hk]; omega).mono ?_
  rintro e w' ⟨a', cap', rfl, ho, hb⟩
  have hl : (woN M r c (n + 1)).length = n := by rw [woN_len, if_pos hr]; omega
  rw [hl] at ho
  exact ⟨a', cap', _, by rw [hl], ho, woN_is hd hr hc, hb⟩

set_option maxHeartbeats 4000000 in
set_option maxRecDepth 100000 in
theorem R_DetMod_big : ∀ (n : Nat) {a : Option Addr} {cap : Nat} {M : List (List Int)} {w : World} (_ : RdM w a n cap M) (_ : Dim n M) (_ : Ent 0 9972 n M) (_ : n ≤ 100),
    Calls Tryd.prog 38 #[.slice a n cap] w fun e w' => e = .returned (.int .i64 (det n (mx M) % 9973)) ∧ Below w.heap.size w w' := by
  intro n
  induction n with
  | zero =>
    intro a cap M w h _ _ _
    go_enter Tryd.func38, Tryd.ntmps38
    go_wp2
    go_ret
    exact ⟨rfl, Below.refl _ _⟩
  | succ n ih =>
    intro a cap M w h hd he h5
    obtain ⟨N, hN⟩ : ∃ N, n + 1 = N := ⟨_, rfl⟩
    rw [hN] at h hd he h5 ⊢
    have hN1 : 1 ≤ N := by omega
    have hN2 : 0 < N := by omega
    have HD := Lib.hid hd
    have HE := Lib.hid he
    have IH : Hid (∀ {a : Option Addr} {cap : Nat} {M : List (List Int)} {w : World} (_ : RdM w a n cap M) (_ : Dim n M) (_ : Ent 0 9972 n M) (_ : n ≤ 100), Calls Tryd.prog 38 #[.slice a n cap] w fun e w' => e = .returned (.int .i64 (det n (mx M) % 9973)) ∧ Below w.heap.size w w') := @ih
    clear ih hd he
    obtain ⟨ba, oa, rfl, hba, hra⟩ := h.at (k := 0) (by omega)
    obtain ⟨ai, ci, hc0, hai⟩ := hra 0 (by omega)
    rw [HD.out.2 0 (by omega)] at hc0 hai
    obtain ⟨pa, qa, rfl, hpa, hca⟩ := hai.at (k := 0) (by omega)
    rw [Nat.add_zero] at hc0
    have z0 : ((N : Int) == 0) = false := beq_eq_false_iff_ne.2 (by omega)
    clear hra hai
    go_enter Tryd.func38, Tryd.ntmps38
    go_wp2
    go_loopw [3, 4, 5] (fun vs vg vj wr => ∃ (j : Nat) (S g : Int), j ≤ N ∧ vj = .int .i64 j ∧ vs = .int .i64 S ∧ vg = .int .i64 g ∧ Hid (g = sg j) ∧ (g = 1 ∨ g = -1) ∧ 0 ≤ S ∧ S ≤ 9972 ∧ Hid (Eqm S (sumTo (fun t => sg t * en M 0 t * det n (minor (mx M) 0 t)) j)) ∧ Below w.heap.size w wr) (fun _ _ vj _ => N - (intOf vj).toNat)
    case atStart => exact ⟨0, 0, 1, Nat.zero_le _, rfl, rfl, rfl, rfl, .inl rfl, by omega, by omega, Eqm.refl _, Below.refl _ _⟩
    case round =>
      obtain ⟨j, S, g, hj, rfl, rfl, rfl, HG, hg, hS1, hS2, HS, hb⟩ := hrel
      have hgn : Hid (-g = sg (j + 1)) := by unfold Hid; rw [sg_succ, HG.out]
      have hgn1 : -g = 1 ∨ -g = -1 := by omega
      have ug : IntKind.i64.wrap (-g) = -g := Go.IntWalk.i64_in _ (by omega)
      by_cases hlt : j < N
      · have hc0 := hb.keep hba hc0
        have y1 := hb.keep hpa (hca j hlt)
        change World.cell? _ _ = some (.int .i64 (en M 0 j)) at y1
        have b1 : (j : Int) < (N : Int) := by omega
        have b2 : (0 : Int) < (N : Int) := by omega
        have b3 : (1 : Int) ≤ (N : Int) := by omega
        have hv := HE.out 0 j (by omega) hlt
        by_cases h0 : en M 0 j = 0
        · have z1 : (en M 0 j != 0) = false := bne_eq_false_iff_eq.2 h0
          have H0 := Lib.hid h0
          clear h0
          go_wp2
          go_roundw
          case rel => exact ⟨j + 1, S, -g, by omega, by go_num, rfl, rfl, hgn, hgn1, hS1, hS2, by unfold Hid; rw [sumTo, H0.out, Int.mul_zero, Int.zero_mul, Int.add_zero]; exact HS.out, hb⟩
          case measure => simp [intOf]; omega
        · have z1 : (en M 0 j != 0) = true := bne_iff_ne.2 h0
          clear h0
          obtain ⟨V, hV⟩ : ∃ V, V = en M 0 j := ⟨_, rfl⟩
          rw [← hV] at y1 z1 hv
          obtain ⟨Dt, hDt⟩ : ∃ Dt, Dt = det n (minor (mx M) 0 j) % 9973 := ⟨_, rfl⟩
          have hD : 0 ≤ Dt ∧ Dt ≤ 9972 := by omega
          obtain ⟨T1, hT1⟩ : ∃ T1, T1 = g * V := ⟨_, rfl⟩
          have hT1b : -9972 ≤ T1 ∧ T1 ≤ 9972 := by rcases hg with e | e <;> rw [hT1, e] <;> omega
          have p1 : -(9972 * 9972) ≤ T1 * Dt ∧ T1 * Dt ≤ 9972 * 9972 := by
            have q1 : (T1 + 9972) * Dt ≤ 19944 * 9972 := Int.mul_le_mul (by omega) hD.2 hD.1 (by omega)
            have q2 : 0 ≤ (T1 + 9972) * Dt := Int.mul_nonneg (by omega) hD.1
            have q3 : 0 ≤ (9972 - T1) * Dt := Int.mul_nonneg (by omega) hD.1
            rw [Int.add_mul] at q2
            rw [Int.sub_mul] at q3
            omega
          obtain ⟨T2, hT2⟩ : ∃ T2, T2 = T1 * Dt := ⟨_, rfl⟩
          rw [← hT2] at p1
          have u1 : IntKind.i64.wrap (g * V) = T1 := by rw [hT1]; exact Go.IntWalk.i64_in _ (by rw [← hT1]; omega)
          have u2 : IntKind.i64.wrap (T1 * Dt) = T2 := by rw [hT2]; exact Go.IntWalk.i64_in _ (by rw [← hT2]; omega)
          have u3 : IntKind.i64.wrap (S + T2) = S + T2 := Go.IntWalk.i64_in _ (by omega)
          have HT1 := Lib.hid hT1
          have HT2 := Lib.hid hT2
          have HDt := Lib.hid hDt
          have HV := Lib.hid hV
          have C1 : Hid (Calls Tryd.prog 44 #[.slice (some ⟨ba, oa, none⟩) N cap, .int .i64 0, .int .i64 j] wr.drew fun e w' => ∃ a' cap' W, e = .returned (.slice a' n cap') ∧ OwM w' wr.drew.heap.size 32 3 a' n cap' W ∧ Is n W (minor (mx M) 0 j) ∧ Below wr.drew.heap.size wr.drew w') :=
            by subst hN; exact R_Without_sq (r := 0) (h.below hb.drew) (by omega) HD.out (by omega) hlt
          have hbl : ba < wr.heap.size ∧ pa < wr.heap.size := by have := hb.size; omega
          have hn5 : n ≤ 100 := by omega
          clear hT1 hT2 hDt hV
          go_wp2
          go_region_held3 (fun w' => w'.cell? ⟨ba, oa, none⟩ = some (.slice (some ⟨pa, qa, none⟩) N ci) ∧ w'.cell? ⟨pa, qa + j, none⟩ = some (.int .i64 V))
            (first | go_keep | (go_split_ands; refine ⟨?_, ?_⟩ <;> first | assumption | (refine hbk.keep ?_ ?_ <;> first | assumption | omega | (simp; omega))))
            (first
              | (go_at_call 44; (with_reducible refine C1.out.mono ?_); rintro e w3 ⟨a3, cap3, W, rfl, ho3, hi3, hbk⟩; have kk := hb.drew.trans (hbk.mono hb.drew.size); have kl : wr.heap.size ≤ w3.heap.size := hbk.size)
              | (go_at_call 38; refine (IH.out ho3.rd hi3.1 (fun r s hr hs => by rw [hi3.2 r s hr hs]; exact HE.out _ _ (by rw [← hN]; exact skip_lt hr) (by rw [← hN]; exact skip_lt hs)) hn5).mono ?_; rw [show det n (mx W) = det n (minor (mx M) 0 j) from det_congr fun r s hr hs => hi3.2 r s hr hs, ← HDt.out]; rintro e w4 ⟨rfl, hbk⟩; have kk := kk.trans (hbk.mono kk.size))
              | (go_at_call 47; refine (R_Mod_any _ _ (by omega) (by omega)).mono ?_; rintro e w' ⟨rfl, rfl⟩))
          clear u1 u2 u3
          have e2 : Eqm ((S + T2) % 9973) (sumTo (fun t => sg t * en M 0 t * det n (minor (mx M) 0 t)) (j + 1)) := by
            refine (Eqm.mod _).trans ?_
            rw [sumTo]
            refine Eqm.add HS.out ?_
            rw [HT2.out, HT1.out, HG.out, HV.out, HDt.out]
            exact Eqm.mul (Eqm.refl _) (Eqm.mod _)
          have e3 : 0 ≤ (S + T2) % 9973 ∧ (S + T2) % 9973 ≤ 9972 := by omega
          go_wp2
          go_roundw
          case rel => exact ⟨j + 1, _, -g, by omega, by go_num, rfl, rfl, hgn, hgn1, e3.1, e3.2, e2, kk⟩
          case measure => simp [intOf]; omega
      · obtain rfl : j = N := by omega
        go_wp2
        go_ret
        refine ⟨?_, hb⟩
        subst hN
        have e1 := HS.out
        unfold Eqm at e1
        rw [show det (n + 1) (mx M) = sumTo (fun t => sg t * en M 0 t * det n (minor (mx M) 0 t)) (n + 1) from rfl, ← e1]
        rw [Int.emod_eq_of_lt hS1 (by omega)]
        rfl
theorem R_DetMod_any (n : Nat) {a : Option Addr} {cap : Nat} {M : List (List Int)} {w : World} (h : RdM w a n cap M) (d : Dim n M) (e : Ent 0 9972 n M) (h5 : n ≤ 5) :
    Calls Tryd.prog 38 #[.slice a n cap] w fun e w' => e = .returned (.int .i64 (det n (mx M) % 9973)) ∧ Below w.heap.size w w' := R_DetMod_big n h d e (by omega)
end Go.Proofs.YtkielldinghmbaaDoor
namespace Go.Proofs.YtkielldinghmbaaDoor
open Go.RowKit Go.Rk

theorem R_Field_any {a : Option Addr} {n cap : Nat} {M : List (List Int)} {w : World} {o : Option Int} (h : RdM w a n cap M) (ho : groundsR 5 0 9972 M = o) :
    Calls Tryd.prog 16 #[.slice a n cap] w fun e w' => e = .returned (numV o) ∧ Below w.heap.size w w' := by
  have C := R_Matrix_any 5 0 9972 h
  rw [ho] at C
  have C := Lib.hid C
  clear ho
  go_enter Tryd.func16, Tryd.ntmps16
  go_wp2_with (first | (go_at_call 61; (with_reducible refine C.out.mono ?_); rintro e w1 ⟨rfl, hb⟩))
  go_ret
  exact ⟨rfl, hb⟩
theorem Rows_eq {a a2 : Option Addr} {len len2 cap cap2 : Nat} {M N : List (List Int)} {w : World} (h : RdM w a len cap M) (h2 : RdM w a2 len2 cap2 N) (e : M = N) :
    Calls Tryd.prog 21 #[.slice a len cap, .slice a2 len2 cap2] w fun e w' => e = .returned (.bool true) ∧ Below w.heap.size w w' := by
  refine (Rows_any h h2).mono ?_
  rintro _ _ ⟨rfl, hb⟩
  exact ⟨by rw [decide_eq_true e], hb⟩
theorem Rows_none (w : World) : Calls Tryd.prog 21 #[.slice none 0 0, .slice none 0 0] w fun e w' => e = .returned (.bool true) ∧ Below w.heap.size w w' := Rows_eq (RdM.nil w) (RdM.nil w) rfl
theorem Ints_eq {a a2 : Option Addr} {len len2 cap cap2 : Nat} {l m : List Int} {w : World} (h : RdI w a len cap l) (h2 : RdI w a2 len2 cap2 m) (e : l = m) :
    Calls Tryd.prog 32 #[.slice a len cap, .slice a2 len2 cap2] w fun e w' => e = .returned (.bool true) ∧ Below w.heap.size w w' := by
  refine (Ints_any h h2).mono ?_
  rintro _ _ ⟨rfl, hb⟩
  exact ⟨by rw [decide_eq_true e], hb⟩
theorem Ints_none (w : World) : Calls Tryd.prog 32 #[.slice none 0 0, .slice none 0 0] w fun e w' => e = .returned (.bool true) ∧ Below w.heap.size w w' := Ints_eq (RdI.nil w) (RdI.nil w) rfl
end Go.Proofs.YtkielldinghmbaaDoor
namespace Go.Proofs.YtkielldinghmbaaDoor
open Go.RowKit Go.Rk

/-- inv.Of of any matrix: an error, or the inverse. -/
theorem inv_Of_or {a : Option Addr} {n ca : Nat} {A : List (List Int)} {w : World} (hA : RdM w a n ca A) :
    Calls Tryd.prog 56 #[.slice a n ca] w fun e w' => Below w.heap.size w w' ∧ ((∃ x, e = .returned (.tuple #[.slice none 0 0, .iface 70 (.int .i64 x)])) ∨
      (Good n n A ∧ det n (mx A) % 9973 ≠ 0 ∧ ∃ a' cap' P, e = .returned (.tuple #[.slice a' n cap', .nilIface]) ∧ OwM w' w.heap.size 32 3 a' n cap' P ∧ IsR n n P (invE n A))) := by
  rcases hq : squareR 5 0 9972 A with _ | x
  · obtain ⟨g1, g2⟩ := squareR_grounds hq
    have GA := Good.of hA.len_eq g1
    rw [g2, hA.len_eq] at GA
    by_cases hd : det n (mx A) % 9973 = 0
    · exact (inv_Of_none hA GA hd).mono fun e w' ⟨h1, h2⟩ => ⟨h2, .inl ⟨_, h1⟩⟩
    · exact (inv_Of_ok hA GA hd).mono fun e w' ⟨a', c', P, h1, h2, h3, h4⟩ => ⟨h4, .inr ⟨GA, hd, a', c', P, h1, h2, h3⟩⟩
  · exact (inv_Of_err hA hq).mono fun e w' ⟨h1, h2⟩ => ⟨by rw [← h2]; exact Below.refl _ _, .inl ⟨_, h1⟩⟩

set_option maxHeartbeats 4000000 in
set_option maxRecDepth 100000 in
theorem invMul_walk {a b : Option Addr} {n ca m cb : Nat} {A B : List (List Int)} {w : World} (hg : ErrT w) (hA : RdM w a n ca A) (_ : ∀ r ∈ A, Fit r) (hB : RdM w b m cb B) (_ : ∀ r ∈ B, Fit r) :
    Calls Tryd.prog 12 #[.slice a n ca, .slice b m cb] w fun e w' => e = .returned (.bool true) ∧ Below w.heap.size w w' := by
  have lm := hA.len_max
  have lb := hB.len_max
  go_enter Tryd.func12, Tryd.ntmps12
  go_wp2_with (first | (go_at_call 59; refine (invFact_any hg).mono ?_; rintro e w1 ⟨rfl, k1⟩) | (go_at_call 56; fail))
  refine (inv_Of_or (hA.below k1)).mono ?_
  rintro e w2 ⟨b2, hor⟩
  have k2 := below_tr k1 b2
  clear b2 k1
  rcases hor with ⟨x, rfl⟩ | ⟨GA, hdA, aX, cX, X, rfl, hX, hXi⟩
  · go_wp2_with (go_at_call 56; fail)
    refine (inv_Of_or (hB.below k2)).mono ?_
    rintro e w3 ⟨b3, hor⟩
    have k3 := below_tr k2 b3
    rcases hor with ⟨y, rfl⟩ | ⟨_, _, aY, cY, Y, rfl, _, _⟩
    all_goals
      go_wp2
      go_ret
      exact ⟨rfl, k3⟩
  · obtain ⟨GX, hI⟩ := GA.inv hdA hXi
    have HGA := Lib.hid GA
    have HGX := Lib.hid GX
    have HI := Lib.hid hI
    have hX2 := hX.rd
    have nA := GA.n1
    clear GA hdA hX hXi GX hI
    go_wp2_with (go_at_call 56; fail)
    refine (inv_Of_or (hB.below k2)).mono ?_
    rintro e w3 ⟨b3, hor⟩
    have k3 := below_tr k2 b3
    have hX3 := hX2.below b3
    clear b3 k2 hX2
    rcases hor with ⟨y, rfl⟩ | ⟨GB, hdB, aY, cY, Y, rfl, hY, hYi⟩
    · go_wp2
      go_ret
      exact ⟨rfl, k3⟩
    · obtain ⟨GY, hJ⟩ := GB.inv hdB hYi
      have HGB := Lib.hid GB
      have HGY := Lib.hid GY
      have HJ := Lib.hid hJ
      have hY3 := hY.rd
      have nB := GB.n1
      clear GB hdB hY hYi GY hJ
      by_cases hnm : n = m
      · subst hnm
        have z1 : ((n : Int) != (n : Int)) = false := bne_eq_false_iff_eq.2 rfl
        go_wp2_with (go_at_call 25; fail)
        refine (Mul_ok (hA.below k3) (hB.below k3) (HGA.out.mulOk HGB.out)).mono ?_
        rintro e w4 ⟨aP, cP, P, rfl, hP, hPi, b4⟩
        have k4 := below_tr k3 b4
        have hX4 := hX3.below b4
        have hY4 := hY3.below b4
        have hP4 := hP.rd
        rw [HGB.out.r0] at hPi
        obtain ⟨GP, eP⟩ := HGA.out.prod HGB.out hPi
        have HGP := Lib.hid GP
        have HK : Hid (IsInv n (mx P) (mulM n (mx Y) (mx X))) := (HI.out.mul HJ.out).congr eP.symm (EqM.refl _ _ _)
        clear k3 b4 hX3 hY3 hP hPi GP eP
        go_wp2_with (go_at_call 56; fail)
        refine (inv_Of_ok hP4 HGP.out (det_nz HK.out.right)).mono ?_
        rintro e w5 ⟨aZ, cZ, Z, rfl, hZ, hZi, b5⟩
        have k5 := below_tr k4 b5
        have hX5 := hX4.below b5
        have hY5 := hY4.below b5
        have hZ5 := hZ.rd
        have HZ := Lib.hid (HGP.out.inv (det_nz HK.out.right) hZi)
        clear k4 b5 hX4 hY4 hZ hZi hP4
        go_wp2_with (go_at_call 25; fail)
        refine (Mul_ok hY5 hX5 (HGY.out.mulOk HGX.out)).mono ?_
        rintro e w6 ⟨aW, cW, W, rfl, hW, hWi, b6⟩
        have k6 := below_tr k5 b6
        have hZ6 := hZ5.below b6
        have hW6 := hW.rd
        rw [HGX.out.r0] at hWi
        have HZW : Hid (Z = W) := by
          obtain ⟨GW, eW⟩ := HGY.out.prod HGX.out hWi
          exact HZ.out.1.same GW ((HZ.out.2.one HK.out).trans eW.symm)
        clear k5 b6 hX5 hY5 hZ5 hW hWi HZ
        go_wp2_with (go_at_call 21; fail)
        refine (Rows_eq hZ6 hW6 HZW.out).mono ?_
        rintro e w7 ⟨rfl, b7⟩
        have k7 := below_tr k6 b7
        go_wp2
        go_ret
        exact ⟨rfl, k7⟩
      · have z1 : ((n : Int) != (m : Int)) = true := bne_iff_ne.2 (by omega)
        go_wp2
        go_ret
        exact ⟨rfl, k3⟩
end Go.Proofs.YtkielldinghmbaaDoor
