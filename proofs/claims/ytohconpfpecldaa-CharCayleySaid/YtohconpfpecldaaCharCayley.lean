/-
  CharCayley walked: a matrix is a root of what takes it to noughts.
-/
import Derived.Test.YtohconpfpecldaaRows
import Derived.Test.YtohconpfpecldaaLib
import Derived.Test.YtohconpfpecldaaRef
import Derived.Test.YtohconpfpecldaaCharFact
import Derived.Test.YtohconpfpecldaaDetMul
import Derived.Test.YtohconpfpecldaaSameSum
import Derived.StillTailTactics
namespace Go.Proofs.Ytohconpfpecldaa
open Go.RowKit Go.Rk

/-- The sum of the first k. -/
def cayF (n : Nat) (A : Mx) (e : Nat → Int) (k i j : Nat) : Int := sumTo (fun t => e t * powM n A t i j) k % 9973
/-- While one is added: the rows ahead of i, and the numbers ahead of j in it. -/
def cayP (n : Nat) (A : Mx) (e : Nat → Int) (k i j r s : Nat) : Int := if r < i ∨ (r = i ∧ s < j) then cayF n A e (k + 1) r s else cayF n A e k r s
theorem cayF_in (n : Nat) (A : Mx) (e : Nat → Int) (k i j : Nat) : 0 ≤ cayF n A e k i j ∧ cayF n A e k i j ≤ 9972 := by unfold cayF; omega

set_option maxHeartbeats 8000000 in
set_option maxRecDepth 100000 in
theorem charCayley_walk {a : Option Addr} {n ca : Nat} {A : List (List Int)} {w : World} (hA : RdM w a n ca A) (_ : ∀ r ∈ A, Fit r) :
    Calls Try.prog 7 #[.slice a n ca] w fun e w' => e = .returned (.bool true) ∧ Below w.heap.size w w' := by
  have HM := Lib.hid matTy
  go_enter Try.func7, Try.ntmps7
  go_wp2_with (first | (go_at_call 23; refine (charFact_any _).mono ?_; rintro e w1 ⟨rfl, k1⟩) | (go_at_call 24; fail))
  rcases hq : squareR 5 0 9972 A with _ | x
  · obtain ⟨g1, g2⟩ := squareR_grounds hq
    have GA0 := Good.of hA.len_eq g1
    rw [g2, hA.len_eq] at GA0
    have GA := Lib.hid GA0
    have n1 := GA0.n1
    have HQ := Lib.hid hq
    clear GA0 g1 g2 hq
    obtain ⟨eF, bF, F⟩ := FL.ex (n := n) n1.1 (mx A)
    have HF := Lib.hid F
    clear F
    have C := Lib.hid (char_Of_ok (hA.below k1) GA.out HF.out)
    (with_reducible refine C.out.mono ?_)
    clear C
    rintro e w2 ⟨aL, cL, l, rfl, ho, hl, hb⟩
    have k2 := below_tr k1 hb
    have hL := ho.rd
    have HL := Lib.hid hl
    have hlen := ho.len_eq
    clear hb k1 ho hl
    have HLN := Lib.hid hlen
    have hin : Hid (In 0 9972 l) := fun j hj => by
      rw [HLN.out] at hj
      rw [HL.out j (by omega)]
      omega
    have hall : Hid (allB 0 9972 l = true) := by
      unfold Hid allB
      refine List.all_eq_true.2 fun x hx => ?_
      obtain ⟨j, hj, rfl⟩ := List.getElem_of_mem hx
      have := hin.out j hj
      rw [ix_lt hj] at this
      unfold inB
      simp
      exact this
    have etop : ix l n = 1 := by rw [HL.out n (Nat.le_refl _), HF.out.top]; rfl
    obtain ⟨bl, ol, rfl, lb, cc⟩ := hL.at (k := n) (by omega)
    have yn := cc n (by omega)
    rw [etop] at yn
    have z0 : ((n : Int) + 1 != (n : Int) + 1) = false := bne_eq_false_iff_eq.2 rfl
    have b0 : (n : Int) < ((n + 1 : Nat) : Int) := by omega
    have b1 : (n : Int) < (n : Int) + 1 := by omega
    have C := Lib.hid (R_All_any 0 9972 hL)
    rw [hall.out] at C
    have CC := Lib.hid cc
    clear hlen etop cc
    go_wp2_with (first | (go_at_call 20; refine C.out.mono ?_; rintro e w' ⟨rfl, rfl⟩))
    clear C yn z0
    go_loopw [6, 7] (fun v x wr => ∃ (k : Nat) (q : Option Addr) (cq : Nat), k ≤ n ∧ x = .int .i64 k ∧ v = .slice q k cq ∧ OwM wr w2.heap.size 22 3 q k cq (List.replicate k (List.replicate n 0)) ∧ Below w2.heap.size w2 wr) (fun _ x _ => n - (intOf x).toNat)
    case atStart => exact ⟨0, none, 0, Nat.zero_le _, rfl, rfl, OwM.nil _ _ _ _, Below.refl _ _⟩
    case round =>
      obtain ⟨k, q, cq, hk, rfl, rfl, ho, hb⟩ := hrel
      by_cases hlt : k < n
      · have hsz := hb.size
        have tok1 : True := trivial
        have hlt' : (k : Int) < (n : Int) := by omega
        go_wp2_with (first | (at_make; have _t := tok1; refine wpList_make_ints HM.out.int rfl (.tmp 54) (.tmp 54) rfl rfl rfl (by omega) ?_; intro w4 ho4 hb4; clear tok1) | (at_builtin; refine wpList_push_row HM.out rfl (.tmp 52) (.tmp 56) rfl rfl rfl ho (hb4.alloc hb4.size _) (ho4.below ((Below.refl _ _).alloc (Nat.le_refl _) _)) (by simp) (by omega) hsz ?_; intro a5 cap5 w5 ho5 hb5))
        have hb6 := ((hb.trans (hb4.mono hsz)).alloc (by have := hb4.size; omega) _).trans hb5
        go_roundw
        case rel => exact ⟨k + 1, a5, cap5, by omega, by go_num, rfl, by rw [show List.replicate (k + 1) (List.replicate n (0 : Int)) = List.replicate k (List.replicate n 0) ++ [List.replicate n 0] from List.replicate_succ']; exact ho5, hb6⟩
        case measure => simp [intOf]; omega
      · obtain rfl : k = n := by omega
        have hD0 := Dm.replicate k k 0
        have h0 : ∀ i j, i < k → j < k → en (List.replicate k (List.replicate k (0 : Int))) i j = 0 := fun i j hi hj => by
          unfold en
          rw [rowOf_lt (by simp; exact hi), ix_lt (by simp; exact hj)]
          simp
        obtain ⟨g, D, C, hz, hd⟩ := ho.named (by omega) fun r hr => by rw [hD0.2 r hr]; omega
        subst hz
        have HS0 : Hid (IsR k k (List.replicate k (List.replicate k (0 : Int))) (cayF k (mx A) eF 0)) := ⟨hD0, fun i j hi hj => by rw [h0 i j hi hj]; rfl⟩
        clear ho hD0 h0
        generalize List.replicate k (List.replicate k (0 : Int)) = S0 at *
        go_wp2
        go_loopw [8] (fun v wr => ∃ (t : Nat) (S : List (List Int)), t ≤ k + 1 ∧ v = .int .i64 t ∧ OwMD wr w2.heap.size 22 3 g D C k cq S ∧ Hid (IsR k k S (cayF k (mx A) eF t)) ∧ Below w2.heap.size w2 wr) (fun v _ => k + 1 - (intOf v).toNat)
        case atStart => exact ⟨0, S0, Nat.zero_le _, rfl, hd, HS0, hb⟩
        case round =>
          clear hd HS0 hb
          obtain ⟨t, S, ht, rfl, hd, HS, hb⟩ := hrel
          have k3 := below_tr k2 hb
          by_cases htk : t < k + 1
          · have htk' : (t : Int) < (k : Int) + 1 := by omega
            have C := Lib.hid (Pow_ok (e := t) (hA.below k3) HQ.out (by omega))
            have y2 := hb.keep lb (CC.out t (by omega))
            rw [HL.out t (by omega)] at y2
            have hlowO := hd.lowO
            have hlowI := Lib.hid (fun i (hi : i < k) => hd.lowI hi)
            obtain ⟨wo, hwo⟩ : ∃ wo, wo = wr := ⟨_, rfl⟩
            subst hwo
            go_wp2_with (first | (go_at_call 25; fail))
            (with_reducible refine C.out.mono ?_)
            clear C
            rintro e w5 ⟨a5, c5, P, rfl, ho5, hi5, hb5⟩
            have hd5 := hd.below hb5
            have HP := Lib.hid hi5
            have y3 := hb5.keep (World.block_lt_of_cell? _ _ y2) y2
            obtain ⟨g2, D2, C2, hz, hp⟩ := ho5.named (by omega) fun r hr => by rw [HP.out.1.2 r hr]; omega
            subst hz
            have hb6 := hb.trans (hb5.mono hb.size)
            have lowP := hp.lowO
            have lowPI := Lib.hid (fun i (hi : i < k) => hp.lowI hi)
            have hbl : bl < w2.heap.size := lb
            have HS1 : Hid (IsR k k S (cayP k (mx A) eF t 0 0)) := HS.out.congr fun r s _ _ => by unfold cayP; rw [if_neg (by omega)]
            obtain ⟨Lv, hLv⟩ := hid_ex (eF t % 9973)
            have bLv : 0 ≤ Lv ∧ Lv ≤ 9972 := by rw [hLv.out]; omega
            rw [← hLv.out] at y3
            clear ho5 hi5 hb5 hd HS y2 hb k3
            go_wp2
            go_loopw [11] (fun v wr => ∃ (i : Nat) (S : List (List Int)), i ≤ k ∧ v = .int .i64 i ∧ OwMD wr w2.heap.size 22 3 g D C k cq S ∧ OwMD wr wo.heap.size 22 3 g2 D2 C2 k c5 P ∧ wr.cell? ⟨bl, ol + t, none⟩ = some (.int .i64 Lv) ∧ Hid (IsR k k S (cayP k (mx A) eF t i 0)) ∧ Below w2.heap.size w2 wr) (fun v _ => k - (intOf v).toNat)
            case atStart => exact ⟨0, S, Nat.zero_le _, rfl, hd5, hp, y3, HS1, hb6⟩
            case round =>
              clear hd5 hp y3 HS1 hb6
              obtain ⟨i, S, hi, rfl, hd, hp, y3, HS, hb⟩ := hrel
              by_cases hik : i < k
              · have hik' : (i : Int) < (k : Int) := by omega
                have x1 := hp.cellO hik
                rw [HP.out.1.2 i hik] at x1
                have z0 : ((k : Int) != (k : Int)) = false := bne_eq_false_iff_eq.2 rfl
                go_wp2
                clear x1
                go_loopw [12] (fun v wr => ∃ (j : Nat) (S : List (List Int)), j ≤ k ∧ v = .int .i64 j ∧ OwMD wr w2.heap.size 22 3 g D C k cq S ∧ OwMD wr wo.heap.size 22 3 g2 D2 C2 k c5 P ∧ wr.cell? ⟨bl, ol + t, none⟩ = some (.int .i64 Lv) ∧ Hid (IsR k k S (cayP k (mx A) eF t i j)) ∧ Below w2.heap.size w2 wr) (fun v _ => k - (intOf v).toNat)
                case atStart => exact ⟨0, S, Nat.zero_le _, rfl, hd, hp, y3, HS, hb⟩
                case round =>
                  clear hd hp y3 HS hb
                  obtain ⟨j, S, hj, rfl, hd, hp, y3, HS, hb⟩ := hrel
                  by_cases hjk : j < k
                  · have hjk' : (j : Int) < (k : Int) := by omega
                    have x1 := hp.cellO hik
                    rw [HP.out.1.2 i hik] at x1
                    have x2 := hp.cellI hik (j := j) (by rw [HP.out.1.2 i hik]; exact hjk)
                    rw [HP.out.2 i j hik hjk] at x2
                    dsimp only at x2
                    have x3 := hd.cellO hik
                    rw [HS.out.1.2 i hik] at x3
                    have x4 := hd.cellI hik (j := j) (by rw [HS.out.1.2 i hik]; exact hjk)
                    have x5 := hd.frozenI hik (by rw [HS.out.1.2 i hik]; omega) j
                    have e4 : en S i j = cayF k (mx A) eF t i j := by rw [HS.out.2 i j hik hjk]; unfold cayP; rw [if_neg (by omega)]
                    rw [e4] at x4
                    obtain ⟨Pv, hPv⟩ := hid_ex (powM k (mx A) t i j % 9973)
                    have bPv : 0 ≤ Pv ∧ Pv ≤ 9972 := by rw [hPv.out]; omega
                    rw [← hPv.out] at x2
                    obtain ⟨X, hX⟩ := hid_ex (cayF k (mx A) eF t i j)
                    have bX : 0 ≤ X ∧ X ≤ 9972 := by rw [hX.out]; exact cayF_in _ _ _ _ _ _
                    rw [← hX.out] at x4
                    have p1 := mul_bd bLv bPv
                    obtain ⟨T, hT⟩ := hid_ex (Lv * Pv)
                    rw [← hT.out] at p1
                    have u1 : IntKind.i64.wrap (Lv * Pv) = T := by rw [← hT.out]; exact Go.IntWalk.i64_in _ (by omega)
                    have u2 : IntKind.i64.wrap (X + T) = X + T := Go.IntWalk.i64_in _ (by omega)
                    have hnew : Hid ((X + T) % 9973 = cayF k (mx A) eF (t + 1) i j) := by
                      unfold Hid
                      rw [hX.out, hT.out, hLv.out, hPv.out]
                      unfold cayF
                      rw [sumTo]
                      exact Eqm.add (Eqm.mod _) (Eqm.mul (Eqm.mod _) (Eqm.mod _))
                    have li := hlowI.out i hik
                    have hp2 := hp.setElse (p := ⟨D i, j, none⟩) (by show D i ≠ g2; omega) (fun r hr => by have := lowPI.out r hr; show D i ≠ D2 r; omega) (.int .i64 ((X + T) % 9973))
                    have y4 := set_keep (q := ⟨D i, j, none⟩) (u := .int .i64 ((X + T) % 9973)) y3 (by show bl ≠ D i; omega)
                    clear e4
                    go_wp2
                    go_still_tail 27, (by kernel_rfl)
                    still_call (stillW (R_Mod_any _ _ (by omega) (by omega)))
                    repeat still_step
                    refine wpStill_nil ?_
                    change wpList _ _ _ _ _ wr.drew
                    clear u1 u2
                    go_wp2
                    go_roundw
                    case rel => exact ⟨j + 1, _, by omega, by go_num, (hd.set matTy.ne hik _).drew, hp2.drew, y4, ⟨HS.out.1.setE _ _ _, fun r s h3 h4 => by
                      rw [HS.out.1.en_set _ h3 h4]
                      by_cases e : i = r ∧ j = s
                      · rw [if_pos e, hnew.out, ← e.1, ← e.2]; unfold cayP; rw [if_pos (by omega)]
                      · rw [if_neg e, HS.out.2 r s h3 h4]
                        unfold cayP
                        by_cases e2 : r < i ∨ (r = i ∧ s < j)
                        · rw [if_pos e2, if_pos (by omega)]
                        · rw [if_neg e2, if_neg (by omega)]⟩, (hb.setCell (p := ⟨D i, j, none⟩) li.1 _).drew⟩
                    case measure => simp [intOf]; omega
                  · obtain rfl : j = k := by omega
                    have HS2 : Hid (IsR j j S (cayP j (mx A) eF t (i + 1) 0)) := HS.out.congr fun r s _ h4 => by
                      unfold cayP
                      by_cases e2 : r < i ∨ (r = i ∧ s < j)
                      · rw [if_pos e2, if_pos (by omega)]
                      · rw [if_neg e2, if_neg (by omega)]
                    go_wp2
                    go_roundw
                    case rel => exact ⟨i + 1, S, by omega, by go_num, hd, hp, y3, HS2, hb⟩
                    case measure => simp [intOf]; omega
              · obtain rfl : i = k := by omega
                have HS2 : Hid (IsR i i S (cayF i (mx A) eF (t + 1))) := HS.out.congr fun r s h3 _ => by unfold cayP; rw [if_pos (by omega)]
                go_wp2
                go_roundw
                case rel => exact ⟨t + 1, S, by omega, by go_num, hd, HS2, hb⟩
                case measure => simp [intOf]; omega
          · have ht1 : t = k + 1 := by omega
            have HT1 := Lib.hid ht1
            have ht2 : (k : Int) + 1 ≤ (t : Int) := by omega
            clear ht1
            have hz : Hid (∀ r s, r < k → s < k → en S r s = 0) := fun r s hr hs => by
              rw [HS.out.2 r s hr hs, HT1.out]
              unfold cayF
              rw [HF.out.cayley (by omega) hr hs]
              rfl
            have hSr := hd.toM.rd
            clear hd
            go_wp2
            obtain ⟨wo, hwo⟩ : ∃ wo, wo = wr := ⟨_, rfl⟩
            subst hwo
            go_loopw [13] (fun v wt => ∃ i : Nat, i ≤ k ∧ v = .int .i64 i ∧ Hid (wt = wo)) (fun v _ => k - (intOf v).toNat)
            case atStart => exact ⟨0, Nat.zero_le _, rfl, rfl⟩
            case round =>
              obtain ⟨i, hi, rfl, HW⟩ := hrel
              by_cases hik : i < k
              · have hik' : (i : Int) < (k : Int) := by omega
                have hSr' : RdM wr (some ⟨g, 0, none⟩) k cq S := by rw [HW.out]; exact hSr
                obtain ⟨bs, os, hz2, ar, cr, hcr, hrd⟩ := hSr'.rowIn HS.out.1 hik
                cases hz2
                rw [Nat.zero_add] at hcr
                have C := Lib.hid (Sum_any hrd (fun s hs => by
                  rw [HS.out.1.2 i hik] at hs
                  rw [show ix (rowOf S i) s = 0 from hz.out i s hik hs]
                  omega) (by omega))
                rw [sum_zero fun s hs => hz.out i s hik hs] at C
                go_wp2_with (first | (go_at_call 26; (with_reducible refine C.out.mono ?_); rintro e w' ⟨rfl, rfl⟩))
                go_roundw
                case rel => exact ⟨i + 1, by omega, by go_num, HW⟩
                case measure => simp [intOf]; omega
              · obtain rfl : i = k := by omega
                have k3' : Below w.heap.size w wr := by rw [HW.out]; exact k3
                go_wp2
                go_ret
                exact ⟨rfl, k3'⟩
  · have C := Lib.hid (char_Of_err (hA.below k1) hq)
    clear hq
    (with_reducible refine C.out.mono ?_)
    rintro e w2 ⟨rfl, rfl⟩
    go_wp2
    go_ret
    exact ⟨rfl, k1⟩
end Go.Proofs.Ytohconpfpecldaa
