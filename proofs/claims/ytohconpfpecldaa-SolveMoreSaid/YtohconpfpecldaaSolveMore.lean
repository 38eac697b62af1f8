/-
  SolveMore walked: any row is the one that is told, and so many times those that are taken to noughts.
-/
import Derived.Test.YtohconpfpecldaaRows
import Derived.Test.YtohconpfpecldaaLib
import Derived.Test.YtohconpfpecldaaRef
import Derived.Test.YtohconpfpecldaaSolveFact
import Derived.Test.YtohconpfpecldaaRSign
import Derived.Test.YtohconpfpecldaaDetMul
namespace Go.Proofs.Ytohconpfpecldaa
open Go.RowKit Go.Rk

theorem freeN_pre (ps : List Int) (q d : Nat) : ∃ r, freeN ps (q + d) = freeN ps q ++ r := by
  induction d with
  | zero => exact ⟨[], by simp⟩
  | succ d ih =>
    obtain ⟨r, hr⟩ := ih
    rw [← Nat.add_assoc, freeN_succ]
    split
    · exact ⟨r, hr⟩
    · exact ⟨r ++ [q + d], by rw [hr, List.append_assoc]⟩
theorem freeAt_col {ps : List Int} {q c : Nat} (hq : q < c) (h : hasB (q : Int) ps = false) : (freeN ps q).length < (freeN ps c).length ∧ freeAt ps c (freeN ps q).length = q ∧ (freeN ps (q + 1)).length = (freeN ps q).length + 1 := by
  have e : freeN ps (q + 1) = freeN ps q ++ [q] := by rw [freeN_succ, if_neg (by rw [h]; simp)]
  obtain ⟨r, hr⟩ := freeN_pre ps (q + 1) (c - (q + 1))
  rw [show q + 1 + (c - (q + 1)) = c by omega, e] at hr
  refine ⟨by rw [hr]; simp, ?_, by rw [e]; simp⟩
  unfold freeAt
  rw [hr]
  simp [List.getD]

/-- The row that is told, and k of those. -/
def moreE (L : List (List Int)) (ps : List Int) (c : Nat) (x y : List Int) (k j : Nat) : Int := ix y j + sumTo (fun t => ix x (freeAt ps c t) * en L t j) k

theorem more_all {n c : Nat} {A P L : List (List Int)} {ps x y S : List Int} (hi : GInv n c (mx A) c P ps) (hN : Nul c c P ps L) (hy : ∀ j, j < c → hasB (j : Int) ps = false → ix y j = 0)
    (hyx : ∀ i, i < n → Eqm (sumTo (fun j => en A i j * ix y j) c) (sumTo (fun j => en A i j * ix x j) c)) (hS : ∀ j, j < c → Eqm (ix S j) (moreE L ps c x y L.length j)) (lS : S.length = c) (lx : x.length = c) (iS : In 0 9972 S) (ix_ : In 0 9972 x) : S = x := by
  have hA : ∀ i, i < n → Eqm (sumTo (fun j => mx A i j * (ix S j - ix x j)) c) 0 := fun i hin => by
    have e1 : Eqm (sumTo (fun j => en A i j * ix S j) c) (sumTo (fun j => en A i j * moreE L ps c x y L.length j) c) := Eqm.sum fun j hj => Eqm.mul (Eqm.refl _) (hS j hj)
    have e2 : sumTo (fun j => en A i j * moreE L ps c x y L.length j) c = sumTo (fun j => en A i j * ix y j) c + sumTo (fun t => ix x (freeAt ps c t) * sumTo (fun j => en A i j * en L t j) c) L.length := by
      unfold moreE
      rw [sumTo_congr (h := fun j => en A i j * ix y j + sumTo (fun t => ix x (freeAt ps c t) * (en A i j * en L t j)) L.length) fun j _ => ?_, sumTo_add, sumTo_swap]
      · congr 1
        exact sumTo_congr fun t _ => sumTo_mul _ _ _
      · rw [Int.mul_add, ← sumTo_mul]
        congr 1
        exact sumTo_congr fun t _ => by grind
    have e3 : Eqm (sumTo (fun t => ix x (freeAt ps c t) * sumTo (fun j => en A i j * en L t j) c) L.length) (sumTo (fun _ => 0) L.length) := Eqm.sum fun t ht => by
      have hf := freeAt_mem (ps := ps) (q := c) (t := t) (by rw [← hN.len]; exact ht)
      have := hi.back.null (v := ix (rowOf L t)) (fun k hk => (hN.row t ht).nought hi.st rfl hi.pos hf.2 hf.1 hk) hin
      have := Eqm.mul (Eqm.refl (ix x (freeAt ps c t))) this
      rw [Int.mul_zero] at this
      exact this
    rw [sumTo_zero] at e3
    rw [e2] at e1
    have e4 := hyx i hin
    have e5 : sumTo (fun j => mx A i j * (ix S j - ix x j)) c = sumTo (fun j => en A i j * ix S j) c - sumTo (fun j => en A i j * ix x j) c := by
      rw [sumTo_congr (h := fun j => en A i j * ix S j + (-1) * (en A i j * ix x j)) fun j _ => by show en A i j * _ = _; grind, sumTo_add, sumTo_mul]
      omega
    rw [e5]
    unfold Eqm at *
    omega
  have hP : ∀ i, i < n → Eqm (sumTo (fun j => mx P i j * (ix S j - ix x j)) c) 0 := fun i hin => hi.made.null (v := fun j => ix S j - ix x j) hA hin
  have hz : ∀ j, j < c → hasB (j : Int) ps = false → Eqm (ix S j - ix x j) 0 := fun j hj hb => by
    obtain ⟨s, hs, rfl⟩ := freeAt_onto hj hb
    have hs2 : s < L.length := by rw [hN.len]; exact hs
    have e := hS _ hj
    unfold moreE at e
    rw [hy _ hj hb, sumTo_congr (h := fun t => (if s = t then 1 else 0) * ix x (freeAt ps c t)) fun t ht => ?_, sumTo_pick (fun t => ix x (freeAt ps c t)) hs2] at e
    · unfold Eqm at *; omega
    · have ht2 : t < (freeN ps c).length := by rw [← hN.len]; exact ht
      by_cases e2 : s = t
      · subst e2
        rw [if_pos rfl, show en L s (freeAt ps c s) = 1 from (hN.row s ht).one, Int.one_mul, Int.mul_one]
      · rw [if_neg e2, show en L t (freeAt ps c s) = 0 from (hN.row t ht).zer _ hj (fun e3 => e2 (freeAt_inj hs ht2 e3)) hb]
        simp
  refine ix_ext (by rw [lS, lx]) fun j hj => ?_
  rw [lS] at hj
  have := null_zero hi.st hi.pos hP hz hj
  have b1 := iS j (by rw [lS]; exact hj)
  have b2 := ix_ j (by rw [lx]; exact hj)
  unfold Eqm at this
  omega

set_option maxHeartbeats 8000000 in
set_option maxRecDepth 100000 in
theorem solveMore_walk {a b : Option Addr} {n l ca cb : Nat} {A : List (List Int)} {x : List Int} {w : World} (hA : RdM w a n ca A) (_ : ∀ r ∈ A, Fit r) (hx : RdI w b l cb x) (_ : Fit x) :
    Calls Try.prog 13 #[.slice a n ca, .slice b l cb] w fun e w' => e = .returned (.bool true) ∧ Below w.heap.size w w' := by
  have HIT := Lib.hid intTy
  have lx := hx.len_max
  go_enter Try.func13, Try.ntmps13
  go_wp2_with (first | (go_at_call 47; refine (solveFact_any _).mono ?_; rintro e w1 ⟨rfl, k1⟩) | (go_at_call 46; fail))
  rcases hq : groundsR 5 0 9972 A with _ | x0
  · have GA0 := Good.of hA.len_eq hq
    obtain ⟨c, hc⟩ : ∃ c, (rowOf A 0).length = c := ⟨_, rfl⟩
    rw [hc] at GA0
    have n1 := GA0.n1
    have c1 := GA0.c1
    have GA := Lib.hid GA0
    clear hq GA0 hc
    have C := Lib.hid (Null_ok (hA.below k1) GA.out)
    (with_reducible refine C.out.mono ?_)
    clear C
    rintro e w2 ⟨al, cl, L, P, ps, rfl, ho, hi, hN, hb⟩
    have k2 := below_tr k1 hb
    have HI := Lib.hid hi
    have HN := Lib.hid hN
    have hL := ho.rd
    have hx2 := hx.below k2
    clear hb k1 hi hN ho
    obtain ⟨bm, om, rfl, am, cm, hm0, _⟩ := (hA.below k2).rowIn GA.out.dm (k := 0) (by omega)
    rw [Nat.add_zero] at hm0
    have b1 : (0 : Int) < (n : Int) := by omega
    have b2 : (1 : Int) ≤ (n : Int) := by omega
    have z0 : ((n : Int) == 0) = false := beq_eq_false_iff_ne.2 (by omega)
    have C := Lib.hid (R_All_any 0 9972 hx2)
    by_cases hlc : l = c
    · subst hlc
      have z1 : ((l : Int) != (l : Int)) = false := bne_eq_false_iff_eq.2 rfl
      rcases hall : allB 0 9972 x
      · rw [hall] at C
        clear hall
        go_wp2_with (first | (go_at_call 20; refine C.out.mono ?_; rintro e w' ⟨rfl, rfl⟩))
        go_ret
        exact ⟨rfl, k2⟩
      · have HX := Lib.hid (allB_in hall)
        rw [hall] at C
        clear hall
        go_wp2_with (first | (go_at_call 20; refine C.out.mono ?_; rintro e w' ⟨rfl, rfl⟩) | (go_at_call 38; fail))
        clear C hm0 z0 z1
        have C := Lib.hid (To_any (hA.below k2) GA.out.dm GA.out.ent hx2 HX.out (by omega))
        (with_reducible refine C.out.mono ?_)
        clear C
        rintro e w3 ⟨at_, ct, rfl, hot, hb⟩
        have k3 := below_tr k2 hb
        have hL := hL.below hb
        have hit : Hid (In 0 9972 (toN A x l n)) := fun k hk => by
          rw [toN_len] at hk
          rw [toN_ix hk]
          exact toV_in _ _ _ _
        have C := Lib.hid (One_ok (hA.below k3) GA.out hot.rd hit.out)
        clear hb k2 hx2 hot
        go_wp2_with (first | (go_at_call 48; fail))
        (with_reducible refine C.out.mono ?_)
        clear C
        rintro e w4 ⟨P1, T1, ps1, y, hR, hX, h3, hb⟩
        have k4 := below_tr k3 hb
        have hL := hL.below hb
        have htold := told GA.out.dm hR hX (toN_len _ _ _ _) hit.out (ix x) fun i hi => by rw [toN_ix hi]; exact (Eqm.mod _).symm
        rcases h3 with ⟨_, ay, cy, rfl, hoy⟩ | ⟨hne, _⟩
        · have hs := ((hR.left GA.out.dm).same HI.out (Made.refl _ _ _) (Made.refl _ _ _)).2
          subst hs
          have HR := Lib.hid (hX.range hR.eT (by rw [hR.lT]; exact hR.inv.st.le) hR.inv.pos)
          have HXR := Lib.hid hX
          have HTO := Lib.hid htold
          have hy := hoy.rd
          clear hb k3 hR hX htold hoy hit
          have C := Lib.hid (Steps_ok (hA.below k4) GA.out)
          go_wp2_with (first | (go_at_call 49; fail))
          (with_reducible refine C.out.mono ?_)
          clear C
          rintro e w5 ⟨ao, co, ap, cp, P2, ps2, rfl, ho, hp, hi, hb⟩
          have k5 := below_tr k4 hb
          have hs := (hi.same HI.out (Made.refl _ _ _) (Made.refl _ _ _)).2
          subst hs
          have hps := hp.rd
          have hL := hL.below hb
          have hy := hy.below hb
          have hx5 := hx.below k5
          clear hb k4 ho hp hi
          have z1 : ((l : Int) != (l : Int)) = false := bne_eq_false_iff_eq.2 rfl
          go_wp2
          have hLl : L.length ≤ 5 := by
            have hcnt := free_count HI.out.st HI.out.pos
            rw [← HN.out.len] at hcnt
            omega
          go_loopw [13, 14, 15] (fun u v z wr => ∃ (q : Nat) (sa : Option Addr) (sc : Nat) (S : List Int), q ≤ l ∧ z = .int .i64 q ∧ u = .int .i64 ((freeN ps2 q).length : Int) ∧ v = .slice sa l sc ∧ RdI wr sa l sc S ∧ Hid (In 0 9972 S ∧ ∀ j, j < l → Eqm (ix S j) (moreE L ps2 l x y (freeN ps2 q).length j)) ∧ Below w5.heap.size w5 wr) (fun _ _ z _ => l - (intOf z).toNat)
          case atStart => exact ⟨0, ay, cy, y, Nat.zero_le _, rfl, rfl, rfl, hy, ⟨HR.out, fun j _ => Eqm.of_eq (by show ix y j = ix y j + 0; omega)⟩, Below.refl _ _⟩
          case round =>
            obtain ⟨q, sa, sc, S, hql, rfl, rfl, rfl, hS, HS, hb⟩ := hrel
            have k6 := below_tr k5 hb
            by_cases hlt : q < l
            · have hlt' : (q : Int) < (l : Int) := by omega
              have C := Lib.hid (R_Has_any (q : Int) (hps.below hb))
              rcases hbq : hasB (q : Int) ps2
              · rw [hbq] at C
                obtain ⟨f1, f2, f3⟩ := freeAt_col hlt hbq
                rw [← HN.out.len] at f1
                have HF2 := Lib.hid f2
                have HF3 := Lib.hid f3
                have HBQ := Lib.hid hbq
                clear f2 f3 hbq
                obtain ⟨K, hK⟩ : ∃ K, (freeN ps2 q).length = K := ⟨_, rfl⟩
                rw [hK] at f1 HF2 HF3 HS ⊢
                have HK := Lib.hid hK
                clear hK
                have f1' : (K : Int) < (L.length : Int) := by omega
                have f1x : decide (L.length ≤ K) = false := decide_eq_false (by omega)
                obtain ⟨bl, ol, rfl, ar, cr, hcr, hrd⟩ := (hL.below hb).rowIn (c := l) ⟨rfl, fun i h => (HN.out.row i h).len⟩ f1
                have hinL := Lib.hid ((HN.out.row K f1).range HI.out.pos)
                have lL := (HN.out.row K f1).len
                obtain ⟨wo, hwo⟩ : ∃ wo, wo = wr := ⟨_, rfl⟩
                subst hwo
                go_wp2_with (first | (go_at_call 50; (with_reducible refine C.out.mono ?_); rintro e w' ⟨rfl, rfl⟩))
                clear C
                go_loopw [16, 17] (fun v z wr => ∃ (j : Nat) (na : Option Addr) (nc : Nat) (N : List Int), j ≤ l ∧ z = .int .i64 j ∧ v = .slice na j nc ∧ OwI wr wo.heap.size 3 na j nc N ∧ Hid (In 0 9972 N ∧ ∀ i, i < j → Eqm (ix N i) (moreE L ps2 l x y (K + 1) i)) ∧ Below wo.heap.size wo wr) (fun _ z _ => l - (intOf z).toNat)
                case atStart => exact ⟨0, none, 0, [], Nat.zero_le _, rfl, rfl, OwI.nil _ _ _, ⟨fun k hk => absurd hk (Nat.not_lt_zero _), fun k hk => absurd hk (Nat.not_lt_zero _)⟩, Below.refl _ _⟩
                case round =>
                  obtain ⟨j, na, nc, N, hjl, rfl, rfl, hNo, HNN, hbr⟩ := hrel
                  have hk0 := below_tr hb hbr
                  by_cases hj : j < l
                  · have hj' : (j : Int) < (l : Int) := by omega
                    obtain ⟨b3, o3, rfl, l3, c3⟩ := hS.at hj
                    obtain ⟨b4, o4, rfl, l4, c4⟩ := (hx5.below hb).at hlt
                    obtain ⟨b6, o6, rfl, l6, c6⟩ := hrd.at hj
                    have l5 := World.block_lt_of_cell? _ _ hcr
                    replace c3 := hbr.keep l3 (c3 j hj)
                    replace c4 := hbr.keep l4 (c4 q hlt)
                    replace c6 := hbr.keep l6 (c6 j hj)
                    have c5 := hbr.keep l5 hcr
                    have m3 := HS.out.1 j (by rw [hS.len_eq]; exact hj)
                    have m4 := HX.out q (by rw [hx.len_eq]; exact hlt)
                    have m6 := hinL.out j (by rw [lL]; exact hj)
                    have m7 := mul_bd m4 m6
                    have HE : Hid (Eqm ((ix S j + ix x q * ix (rowOf L K) j) % 9973) (moreE L ps2 l x y (K + 1) j)) := by
                      refine (Eqm.mod _).trans ?_
                      unfold moreE
                      rw [sumTo, HF2.out, ← Int.add_assoc]
                      exact Eqm.add (HS.out.2 j hj) (Eqm.refl _)
                    have hNl := hNo.len_eq
                    obtain ⟨T, hT⟩ : ∃ T, T = ix x q * ix (rowOf L K) j := ⟨_, rfl⟩
                    rw [← hT] at m7 HE
                    generalize ix S j = X3 at *
                    generalize ix x q = X4 at *
                    generalize ix (rowOf L K) j = X6 at *
                    have u1 : IntKind.i64.wrap (X4 * X6) = T := by rw [hT]; exact Go.IntWalk.i64_in _ (by rw [← hT]; omega)
                    have u2 : IntKind.i64.wrap (X3 + T) = X3 + T := Go.IntWalk.i64_in _ (by omega)
                    have HT := Lib.hid hT
                    have hsz := hbr.size
                    have HNl := Lib.hid hNl
                    clear hT hNl
                    go_wp2
                    go_region_held3 (fun w' => w'.cell? ⟨b3, o3 + j, none⟩ = some (.int .i64 X3) ∧ w'.cell? ⟨b4, o4 + q, none⟩ = some (.int .i64 X4) ∧ w'.cell? ⟨bl, ol + K, none⟩ = some (.slice (some ⟨b6, o6, none⟩) l cr) ∧ w'.cell? ⟨b6, o6 + j, none⟩ = some (.int .i64 X6))
                      (first | go_keep | (go_split_ands; refine ⟨?_, ?_, ?_, ?_⟩ <;> (refine (hNo.drew.alloc _).keepCell hg4 (by assumption) ?_; assumption)))
                      (first
                        | (go_at_call 18; refine (R_Mod_any _ _ (by omega) (by omega)).mono ?_; rintro e w' ⟨rfl, rfl⟩)
                        | (refine step_push_int HIT.out rfl (.tmp 111) (.tmp 130) rfl rfl rfl ((hNo.drew).alloc _) (z := (X3 + T) % 9973) (by simp) (by decide) (by decide) (by omega) (by simp; omega) ?_; intro a4 cap4 w4 hown4 hg4))
                    have hb5 := below_grown (hbr.drew.alloc (by simp; omega) _) (hNo.drew.alloc _) (by simp; omega) hg4
                    clear u1 u2
                    go_wp2
                    go_roundw
                    case rel => exact ⟨j + 1, a4, cap4, _, by omega, by go_num, rfl, hown4, ⟨fun k hk => by
                      rcases Nat.lt_or_ge k N.length with h1 | h1
                      · rw [ix_append_left h1]; exact HNN.out.1 k h1
                      · rw [ix_append_right h1]
                        rw [List.length_append] at hk
                        simp at hk
                        obtain rfl : k = N.length := by omega
                        rw [Nat.sub_self]
                        show 0 ≤ (X3 + T) % 9973 ∧ (X3 + T) % 9973 ≤ 9972
                        omega, fun i hi => by
                      rcases Nat.lt_or_ge i j with h1 | h1
                      · rw [ix_append_left (by rw [HNl.out]; exact h1)]; exact HNN.out.2 i h1
                      · obtain rfl : i = j := by omega
                        rw [ix_append_right (by rw [HNl.out]; exact Nat.le_refl _), HNl.out, Nat.sub_self]
                        exact HE.out⟩, hb5⟩
                    case measure => simp [intOf]; omega
                  · obtain rfl : j = l := by omega
                    have hNr := hNo.rd
                    go_wp2
                    go_roundw
                    case rel => exact ⟨q + 1, na, nc, N, by omega, by go_num, by rw [HF3.out]; go_num, rfl, hNr, by unfold Hid; rw [HF3.out]; exact HNN.out, hk0⟩
                    case measure => simp [intOf]; omega
              · rw [hbq] at C
                have HBQ := Lib.hid hbq
                clear hbq
                go_wp2_with (first | (go_at_call 50; (with_reducible refine C.out.mono ?_); rintro e w' ⟨rfl, rfl⟩))
                clear C
                have e3 : (freeN ps2 (q + 1)) = freeN ps2 q := by rw [freeN_succ, if_pos HBQ.out]
                have E3 := Lib.hid e3
                clear e3
                go_roundw
                case rel => exact ⟨q + 1, sa, sc, S, by omega, by go_num, by rw [E3.out], rfl, hS, by rw [E3.out]; exact HS, hb⟩
                case measure => simp [intOf]; omega
            · obtain rfl : q = l := by omega
              have hfin : S = x := more_all HI.out HN.out HXR.out.zer (fun i hi => by
                have h1 := toN_ix (M := A) (l := y) (c := q) hi
                rw [HTO.out, toN_ix hi] at h1
                exact h1.symm) (fun j hj => by rw [HN.out.len]; exact HS.out.2 j hj) hS.len_eq hx.len_eq HS.out.1 HX.out
              have C := Lib.hid (Ints_any hS (hx5.below hb))
              rw [decide_eq_true hfin] at C
              clear hfin
              go_wp2_with (first | (go_at_call 30; fail))
              (with_reducible refine C.out.mono ?_)
              rintro e w7 ⟨rfl, hb7⟩
              go_wp2
              go_ret
              exact ⟨rfl, below_tr k6 hb7⟩
        · exact absurd htold hne
    · have z1 : ((l : Int) != (c : Int)) = true := bne_iff_ne.2 (by omega)
      clear hlc C
      go_wp2
      go_ret
      exact ⟨rfl, k2⟩
  · have C := Lib.hid (Null_err (hA.below k1) hq)
    clear hq
    (with_reducible refine C.out.mono ?_)
    rintro e w2 ⟨rfl, rfl⟩
    go_wp2
    go_ret
    exact ⟨rfl, k1⟩
end Go.Proofs.Ytohconpfpecldaa
