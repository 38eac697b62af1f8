/-
  The reference's Same, Form and Worth walked.
-/
import Derived.Test.YtefmllkimdaimaaDoorRows
import Derived.Test.YtefmllkimdaimaaDoorLib
import Derived.Test.YtefmllkimdaimaaDoorNum
import Derived.Test.YtefmllkimdaimaaDoorRef
import Derived.Test.YtefmllkimdaimaaDoorTr
import Derived.Test.YtefmllkimdaimaaDoorRDet
import Derived.Test.YtefmllkimdaimaaDoorFlip
import Derived.Test.YtefmllkimdaimaaDoorForm
import Derived.Test.YtefmllkimdaimaaDoorDefChk
import Derived.Test.YtefmllkimdaimaaDoorDefW
import Derived.Deep.QuietTactic
import Derived.BigQuiet
namespace Go.Proofs.YtefmllkimdaimaaDoor
open Go.RowKit Go.Rk

set_option maxHeartbeats 2000000 in
set_option maxRecDepth 100000 in
theorem R_Same_any {a a2 : Option Addr} {n c cap cap2 : Nat} {M N : List (List Int)} {w : World} (h : RdM w a n cap M) (h2 : RdM w a2 n cap2 N) (d : Dm n c M) (d2 : Dm n c N) (hc : c ≤ 1000) :
    Calls Tryd.prog 85 #[.slice a n cap, .slice a2 n cap2] w fun e w' => e = .returned (.bool (decide (M = N))) ∧ Below w.heap.size w w' := by
  have hm := h.len_max
  have HD := Lib.hid d
  have HD2 := Lib.hid d2
  clear d d2
  go_enter Tryd.func85, Tryd.ntmps85
  go_wp2
  go_loopw [5] (fun x wr => ∃ k q : Nat, k ≤ n ∧ x = .int .i64 k ∧ Hid (∀ r s, r < k → s < c → en M r s = en N r s) ∧ Hid (wr = w.drewN q)) (fun x _ => n - (intOf x).toNat)
  case atStart => exact ⟨0, 0, Nat.zero_le _, rfl, fun r s hr => absurd hr (Nat.not_lt_zero _), (World.drewN_zero _).symm⟩
  case round =>
    obtain ⟨k, q, hk, rfl, HE, HQ⟩ := hrel
    by_cases hkn : k < n
    · have i1 : (k : Int) < (n : Int) := by omega
      have kb : Below w.heap.size w wr := by rw [HQ.out]; exact below_drewN (Below.refl _ _) q
      obtain ⟨b, off, rfl, hbl, hr⟩ := (h.below kb).at hkn
      obtain ⟨b2, off2, rfl, hbl2, hr2⟩ := (h2.below kb).at hkn
      obtain ⟨ar, cr, y1, _⟩ := hr k hkn
      obtain ⟨ar2, cr2, y2, _⟩ := hr2 k hkn
      rw [HD.out.2 k hkn] at y1
      rw [HD2.out.2 k hkn] at y2
      have z1 : ((c : Int) != (c : Int)) = false := bne_eq_false_iff_eq.2 rfl
      clear hr hr2
      go_wp2
      go_quiet (fail)
      have HQ2 : Hid (wr.drewN nq = w.drewN (q + nq)) := by unfold Hid; rw [HQ.out, World.drewN_drewN]
      clear HQ kb y1 y2
      generalize wr.drewN nq = w2 at *
      go_wp2
      go_loopw [6] (fun x wt => ∃ s q : Nat, s ≤ c ∧ x = .int .i64 s ∧ Hid (∀ t, t < s → en M k t = en N k t) ∧ Hid (wt = w.drewN q)) (fun x _ => c - (intOf x).toNat)
      case atStart => exact ⟨0, q + nq, Nat.zero_le _, rfl, fun t ht => absurd ht (Nat.not_lt_zero _), HQ2⟩
      case round =>
        obtain ⟨s, q3, hs, rfl, HS, HQ3⟩ := hrel
        have kb : Below w.heap.size w wr := by rw [HQ3.out]; exact below_drewN (Below.refl _ _) q3
        have hA := h.below kb
        have hB := h2.below kb
        obtain ⟨bx, ox, hz, _, hr⟩ := hA.at hkn
        cases hz
        obtain ⟨by_, oy, hz, _, hr2⟩ := hB.at hkn
        cases hz
        obtain ⟨ax, cx, y1, hx⟩ := hr k hkn
        obtain ⟨ay, cy, y2, hy⟩ := hr2 k hkn
        rw [HD.out.2 k hkn] at y1 hx
        rw [HD2.out.2 k hkn] at y2 hy
        clear hr hr2
        by_cases hsc : s < c
        · have i2 : (s : Int) < (c : Int) := by omega
          obtain ⟨p, o, rfl, _, hcx⟩ := hx.at hsc
          obtain ⟨p2, o2, rfl, _, hcy⟩ := hy.at hsc
          have x1 : wr.cell? ⟨p, o + s, none⟩ = some (.int .i64 (en M k s)) := hcx s hsc
          have x2 : wr.cell? ⟨p2, o2 + s, none⟩ = some (.int .i64 (en N k s)) := hcy s hsc
          clear hx hy hcx hcy hA hB kb
          by_cases he : en M k s = en N k s
          · have z2 : (en M k s != en N k s) = false := bne_eq_false_iff_eq.2 he
            have HE2 := Lib.hid he
            clear he
            go_wp2
            go_quiet (fail)
            go_wp2
            go_roundw
            case rel => exact ⟨s + 1, q3 + nq, by omega, by go_num, fun t ht => by
              rcases Nat.lt_or_ge t s with h5 | h5
              · exact HS.out t h5
              · obtain rfl : t = s := by omega
                exact HE2.out, by unfold Hid; rw [HQ3.out, World.drewN_drewN]⟩
            case measure => simp [intOf]; omega
          · have z2 : (en M k s != en N k s) = true := bne_iff_ne.2 he
            have HE2 := Lib.hid he
            clear he
            go_wp2
            go_quiet (fail)
            go_wp2
            go_ret
            refine ⟨congrArg (fun b => Ending.returned (.bool b)) (decide_eq_false ?_).symm, by rw [HQ3.out, World.drewN_drewN]; exact below_drewN (Below.refl _ _) _⟩
            intro e
            exact HE2.out (by rw [e])
        · obtain rfl : c = s := by omega
          clear hA hB hx hy kb
          go_wp2
          go_roundw
          case rel => exact ⟨k + 1, q3, by omega, by go_num, fun r t hr ht => by
            rcases Nat.lt_or_ge r k with h5 | h5
            · exact HE.out r t h5 ht
            · obtain rfl : r = k := by omega
              exact HS.out t ht, HQ3⟩
          case measure => simp [intOf]; omega
    · obtain rfl : n = k := by omega
      go_wp2
      go_ret
      refine ⟨congrArg (fun b => Ending.returned (.bool b)) (decide_eq_true ?_).symm, by rw [HQ.out]; exact below_drewN (Below.refl _ _) _⟩
      exact HD.out.ext HD2.out fun i j hi hj => HE.out i j hi hj

theorem symL_flip {M : List (List Int)} {n : Nat} (d : Dm n n M) : decide (M = flipL M n n) = decide (SymL M) := by
  have key : M = flipL M n n ↔ SymL M := by
    constructor
    · intro e i hi j hj
      rw [d.1] at hi hj
      have := (flipL_is M n n).2 j i hj hi
      rw [← e] at this
      exact this
    · intro hs
      refine d.ext (flipL_is M n n).1 fun i j hi hj => ?_
      rw [(flipL_is M n n).2 i j hi hj]
      exact hs j (by rw [d.1]; exact hj) i (by rw [d.1]; exact hi)
  by_cases h : M = flipL M n n
  · rw [decide_eq_true h, decide_eq_true (key.1 h)]
  · rw [decide_eq_false h, decide_eq_false fun x => h (key.2 x)]

theorem formR_nz {M : List (List Int)} {c : Int} (h : formR M = some c) : c ≠ 0 := by
  unfold formR at h
  split at h
  · next e hq => cases h; exact fun e0 => by subst e0; exact squareR_ne0 hq
  · split at h
    · cases h
    · cases h; decide

set_option maxHeartbeats 2000000 in
set_option maxRecDepth 100000 in
theorem M_Form_any {a : Option Addr} {n cap : Nat} {M : List (List Int)} {w : World} (h : RdM w a n cap M) :
    Calls Tryd.prog 36 #[.slice a n cap] w fun e w' => e = .returned (numV (formR M)) ∧ Below w.heap.size w w' := by
  have C0 := R_Square_any 4 (-9) 9 h
  rcases hq : squareR 4 (-9) 9 M with _ | c
  · rw [hq] at C0
    have C0 := Lib.hid C0
    obtain ⟨g1, g2, g3, g4⟩ := squareR_none hq
    rw [h.len_eq] at g1 g2 g3 g4
    have HF : Hid (formR M = if SymL M then none else some 6) := by unfold Hid formR; rw [hq]
    have HD : Hid (Dm n n M) := g3
    clear hq g3 g4
    by_cases hs : SymL M
    · have HS := decide_eq_true hs
      rw [← symL_flip HD.out] at HS
      have HV : Hid (formR M = none) := by unfold Hid; rw [HF.out, if_pos hs]
      rw [HV.out]
      have HS := Lib.hid HS
      clear hs
      go_enter Tryd.func36, Tryd.ntmps36
      go_wp2_with (first
        | (go_at_call 30; (with_reducible refine C0.out.mono ?_); rintro e w1 ⟨rfl, k1⟩; simp only [numV])
        | (go_at_call 86; refine (R_Flip_any (h.below k1) HD.out (by omega) (by omega) (by omega)).mono ?_; rintro e w2 ⟨a2, c2, rfl, ho, b2⟩)
        | (go_at_call 85; fail))
      have k2 := below_tr k1 b2
      have C := R_Same_any (h.below k2) ho.rd HD.out (flipL_is M n n).1 (by omega)
      rw [HS.out] at C
      have C := Lib.hid C
      (with_reducible refine C.out.mono ?_)
      clear C
      rintro e w3 ⟨rfl, b3⟩
      go_wp2
      go_ret
      exact ⟨rfl, below_tr k2 b3⟩
    · have HS := decide_eq_false hs
      rw [← symL_flip HD.out] at HS
      have HV : Hid (formR M = some 6) := by unfold Hid; rw [HF.out, if_neg hs]
      rw [HV.out]
      have HS := Lib.hid HS
      clear hs
      go_enter Tryd.func36, Tryd.ntmps36
      go_wp2_with (first
        | (go_at_call 30; (with_reducible refine C0.out.mono ?_); rintro e w1 ⟨rfl, k1⟩; simp only [numV])
        | (go_at_call 86; refine (R_Flip_any (h.below k1) HD.out (by omega) (by omega) (by omega)).mono ?_; rintro e w2 ⟨a2, c2, rfl, ho, b2⟩)
        | (go_at_call 85; fail))
      have k2 := below_tr k1 b2
      have C := R_Same_any (h.below k2) ho.rd HD.out (flipL_is M n n).1 (by omega)
      rw [HS.out] at C
      have C := Lib.hid C
      (with_reducible refine C.out.mono ?_)
      clear C
      rintro e w3 ⟨rfl, b3⟩
      go_wp2
      go_ret
      exact ⟨rfl, below_tr k2 b3⟩
  · rw [hq] at C0
    have C0 := Lib.hid C0
    have z1 : (c == 0) = false := beq_eq_false_iff_ne.2 fun e => by subst e; exact squareR_ne0 hq
    have HF : Hid (formR M = some c) := by unfold Hid formR; rw [hq]
    rw [HF.out]
    clear hq
    go_enter Tryd.func36, Tryd.ntmps36
    go_wp2_with (first
      | (go_at_call 30; (with_reducible refine C0.out.mono ?_); rintro e w1 ⟨rfl, k1⟩; simp only [numV, Option.getD_some]))
    go_ret
    exact ⟨rfl, k1⟩

/-- Of a row of a form, what it comes to. -/
def partS (M : List (List Int)) (x : List Int) (i j : Nat) : Int := sumTo (fun t => en M i t * ix x t) j
def worthS (M : List (List Int)) (x : List Int) (n k : Nat) : Int := sumTo (fun i => partS M x i n * ix x i) k
theorem partS_bd {M : List (List Int)} {x : List Int} {n i : Nat} (he : Ent (-9) 9 n M) (hx : In (-100) 100 x) (hl : x.length = n) (hi : i < n) : ∀ j, j ≤ n → -(900 * j) ≤ partS M x i j ∧ partS M x i j ≤ 900 * j
  | 0, _ => by simp [partS, sumTo]
  | j + 1, hj => by
    have ih := partS_bd he hx hl hi j (by omega)
    have e := he i j hi (by omega)
    have y := hx j (by omega)
    have q1 : 0 ≤ (9 + en M i j) * (100 + ix x j) := Int.mul_nonneg (by omega) (by omega)
    have q2 : 0 ≤ (9 - en M i j) * (100 - ix x j) := Int.mul_nonneg (by omega) (by omega)
    have q3 : 0 ≤ (9 + en M i j) * (100 - ix x j) := Int.mul_nonneg (by omega) (by omega)
    have q4 : 0 ≤ (9 - en M i j) * (100 + ix x j) := Int.mul_nonneg (by omega) (by omega)
    have r : partS M x i (j + 1) = partS M x i j + en M i j * ix x j := rfl
    rw [r]
    rw [Int.add_mul, Int.mul_add, Int.mul_add] at q1
    rw [Int.sub_mul, Int.mul_sub, Int.mul_sub] at q2
    rw [Int.add_mul, Int.mul_sub, Int.mul_sub] at q3
    rw [Int.sub_mul, Int.mul_add, Int.mul_add] at q4
    push_cast
    omega
theorem worthS_quad (M : List (List Int)) (x : List Int) (n : Nat) : worthS M x n n = quad n (mx M) (ix x) := by
  unfold worthS quad
  refine sumTo_congr fun i _ => ?_
  unfold partS
  rw [Int.mul_comm, ← sumTo_mul]
  refine sumTo_congr fun j _ => ?_
  show ix x i * (en M i j * ix x j) = en M i j * ix x i * ix x j
  grind
theorem worthS_bd {M : List (List Int)} {x : List Int} {n : Nat} (he : Ent (-9) 9 n M) (hx : In (-100) 100 x) (hl : x.length = n) (hn : n ≤ 4) : ∀ k, k ≤ n → -(360000 * k) ≤ worthS M x n k ∧ worthS M x n k ≤ 360000 * k
  | 0, _ => by simp [worthS, sumTo]
  | k + 1, hk => by
    have ih := worthS_bd he hx hl hn k (by omega)
    have e := partS_bd he hx hl (show k < n by omega) n (Nat.le_refl _)
    have y := hx k (by omega)
    have r : worthS M x n (k + 1) = worthS M x n k + partS M x k n * ix x k := rfl
    rw [r]
    obtain ⟨P, hP⟩ : ∃ P, P = partS M x k n := ⟨_, rfl⟩
    rw [← hP] at e ⊢
    have e2 : -3600 ≤ P ∧ P ≤ 3600 := by omega
    have q1 : 0 ≤ (3600 + P) * (100 + ix x k) := Int.mul_nonneg (by omega) (by omega)
    have q2 : 0 ≤ (3600 - P) * (100 - ix x k) := Int.mul_nonneg (by omega) (by omega)
    have q3 : 0 ≤ (3600 + P) * (100 - ix x k) := Int.mul_nonneg (by omega) (by omega)
    have q4 : 0 ≤ (3600 - P) * (100 + ix x k) := Int.mul_nonneg (by omega) (by omega)
    rw [Int.add_mul, Int.mul_add, Int.mul_add] at q1
    rw [Int.sub_mul, Int.mul_sub, Int.mul_sub] at q2
    rw [Int.add_mul, Int.mul_sub, Int.mul_sub] at q3
    rw [Int.sub_mul, Int.mul_add, Int.mul_add] at q4
    push_cast
    omega
set_option maxHeartbeats 2000000 in
set_option maxRecDepth 100000 in
theorem M_Worth_any {a b : Option Addr} {n ca cb : Nat} {M : List (List Int)} {x : List Int} {w : World} (hM : RdM w a n ca M) (d : Dim n M) (he : Ent (-9) 9 n M) (hx : RdI w b n cb x) (hi : In (-100) 100 x) (hn : n ≤ 4) :
    Calls Tryd.prog 39 #[.slice a n ca, .slice b n cb] w fun e w' => e = .returned (.int .i64 (quad n (mx M) (ix x))) ∧ Below w.heap.size w w' := by
  have HD := Lib.hid d
  have HPB := Lib.hid (fun i hi2 => partS_bd he hi hx.len_eq (i := i) hi2)
  have HWB := Lib.hid (worthS_bd he hi hx.len_eq hn)
  have HE := Lib.hid he
  have HI := Lib.hid hi
  have HL := Lib.hid hx.len_eq
  rw [← worthS_quad]
  clear d he hi
  go_enter Tryd.func39, Tryd.ntmps39
  go_wp2
  go_loopw [5, 6] (fun v t wr => ∃ i q : Nat, i ≤ n ∧ t = .int .i64 i ∧ v = .int .i64 (worthS M x n i) ∧ Hid (wr = w.drewN q)) (fun _ t _ => n - (intOf t).toNat)
  case atStart => exact ⟨0, 0, Nat.zero_le _, rfl, rfl, (World.drewN_zero _).symm⟩
  case round =>
    obtain ⟨i, q, hin, rfl, rfl, HQ⟩ := hrel
    by_cases hlt : i < n
    · have i1 : (i : Int) < (n : Int) := by omega
      obtain ⟨S, hS⟩ : ∃ S, S = worthS M x n i := ⟨_, rfl⟩
      have bS := HWB.out i (by omega)
      rw [← hS] at bS ⊢
      have HS := Lib.hid hS
      clear hS
      go_wp2
      go_loopw [7, 8] (fun v t wt => ∃ j q : Nat, j ≤ n ∧ t = .int .i64 j ∧ v = .int .i64 (partS M x i j) ∧ Hid (wt = w.drewN q)) (fun _ t _ => n - (intOf t).toNat)
      case atStart => exact ⟨0, q, Nat.zero_le _, rfl, rfl, HQ⟩
      case round =>
        clear HQ
        obtain ⟨j, q2, hjn, rfl, rfl, HQ⟩ := hrel
        have kb : Below w.heap.size w wr := by rw [HQ.out]; exact below_drewN (Below.refl _ _) q2
        obtain ⟨P, hP⟩ : ∃ P, P = partS M x i j := ⟨_, rfl⟩
        have bP := HPB.out i hlt j (by omega)
        rw [← hP] at bP ⊢
        have HP := Lib.hid hP
        clear hP
        by_cases hj : j < n
        · have i2 : (j : Int) < (n : Int) := by omega
          obtain ⟨bm, om, rfl, _, hr⟩ := (hM.below kb).at hlt
          obtain ⟨ar, cr, y1, hrd⟩ := hr i hlt
          rw [HD.out.2 i hlt] at y1 hrd
          obtain ⟨p, o, rfl, _, hcx⟩ := hrd.at hj
          have y2 : wr.cell? ⟨p, o + j, none⟩ = some (.int .i64 (en M i j)) := hcx j hj
          obtain ⟨bx, ox, rfl, _, hxx⟩ := (hx.below kb).at hj
          have y3 := hxx j hj
          have e := HE.out i j hlt hj
          have y := HI.out j (by rw [HL.out]; exact hj)
          obtain ⟨Z, hZ⟩ : ∃ Z, Z = en M i j * ix x j := ⟨_, rfl⟩
          have bZ : -900 ≤ Z ∧ Z ≤ 900 := by
            have q1 : 0 ≤ (9 + en M i j) * (100 + ix x j) := Int.mul_nonneg (by omega) (by omega)
            have q2 : 0 ≤ (9 - en M i j) * (100 - ix x j) := Int.mul_nonneg (by omega) (by omega)
            have q3 : 0 ≤ (9 + en M i j) * (100 - ix x j) := Int.mul_nonneg (by omega) (by omega)
            have q4 : 0 ≤ (9 - en M i j) * (100 + ix x j) := Int.mul_nonneg (by omega) (by omega)
            rw [Int.add_mul, Int.mul_add, Int.mul_add] at q1
            rw [Int.sub_mul, Int.mul_sub, Int.mul_sub] at q2
            rw [Int.add_mul, Int.mul_sub, Int.mul_sub] at q3
            rw [Int.sub_mul, Int.mul_add, Int.mul_add] at q4
            rw [← hZ] at q1 q2 q3 q4
            omega
          have u1 : IntKind.i64.wrap (en M i j * ix x j) = Z := by rw [hZ]; exact Go.IntWalk.i64_in _ (by rw [← hZ]; omega)
          have u2 : IntKind.i64.wrap (P + Z) = P + Z := Go.IntWalk.i64_in _ (by omega)
          have HZ := Lib.hid hZ
          clear hZ hr hrd hcx hxx e y
          go_wp2
          go_quiet (fail)
          clear u1 u2
          go_wp2
          go_roundw
          case rel => exact ⟨j + 1, q2 + nq, by omega, by go_num, by rw [show partS M x i (j + 1) = partS M x i j + en M i j * ix x j from rfl, ← HP.out, ← HZ.out], by unfold Hid; rw [HQ.out, World.drewN_drewN]⟩
          case measure => simp [intOf]; omega
        · obtain rfl : n = j := by omega
          obtain ⟨bx, ox, rfl, _, hxx⟩ := (hx.below kb).at hlt
          have y3 := hxx i hlt
          have y := HI.out i (by rw [HL.out]; exact hlt)
          have bP2 : -3600 ≤ P ∧ P ≤ 3600 := by omega
          obtain ⟨Z, hZ⟩ : ∃ Z, Z = P * ix x i := ⟨_, rfl⟩
          have bZ : -360000 ≤ Z ∧ Z ≤ 360000 := by
            have q1 : 0 ≤ (3600 + P) * (100 + ix x i) := Int.mul_nonneg (by omega) (by omega)
            have q2 : 0 ≤ (3600 - P) * (100 - ix x i) := Int.mul_nonneg (by omega) (by omega)
            have q3 : 0 ≤ (3600 + P) * (100 - ix x i) := Int.mul_nonneg (by omega) (by omega)
            have q4 : 0 ≤ (3600 - P) * (100 + ix x i) := Int.mul_nonneg (by omega) (by omega)
            rw [Int.add_mul, Int.mul_add, Int.mul_add] at q1
            rw [Int.sub_mul, Int.mul_sub, Int.mul_sub] at q2
            rw [Int.add_mul, Int.mul_sub, Int.mul_sub] at q3
            rw [Int.sub_mul, Int.mul_add, Int.mul_add] at q4
            rw [← hZ] at q1 q2 q3 q4
            omega
          have u1 : IntKind.i64.wrap (P * ix x i) = Z := by rw [hZ]; exact Go.IntWalk.i64_in _ (by rw [← hZ]; omega)
          have u2 : IntKind.i64.wrap (S + Z) = S + Z := Go.IntWalk.i64_in _ (by omega)
          have HZ := Lib.hid hZ
          clear hZ hxx y
          go_wp2
          go_roundw
          case rel => exact ⟨i + 1, q2, by omega, by go_num, by rw [show worthS M x n (i + 1) = worthS M x n i + partS M x i n * ix x i from rfl, ← HP.out, ← HS.out]; first | rw [← HZ.out] | (rw [HZ.out]; go_num) | go_num, HQ⟩
          case measure => simp [intOf]; omega
    · obtain rfl : n = i := by omega
      go_wp2
      go_ret
      exact ⟨rfl, by rw [HQ.out]; exact below_drewN (Below.refl _ _) q⟩
end Go.Proofs.YtefmllkimdaimaaDoor
