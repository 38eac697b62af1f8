/-
  charpoly.trace, charpoly.Trace and charpoly.Of walked.
-/
import Derived.Test.YtfocfgddlnjfmaaRows
import Derived.Test.YtfocfgddlnjfmaaLib
import Derived.Test.YtfocfgddlnjfmaaNum
import Derived.Test.YtfocfgddlnjfmaaDetOf
import Derived.Test.YtfocfgddlnjfmaaMatOne
import Derived.Test.YtfocfgddlnjfmaaMatLaw
import Derived.Test.YtfocfgddlnjfmaaMatFact
import Derived.Test.YtfocfgddlnjfmaaRowIn
import Derived.Test.YtfocfgddlnjfmaaCharP
import Derived.StillTailTactics
namespace Go.Proofs.Ytfocfgddlnjfmaa
open Go.RowKit Go.Rk

theorem hid_ex {α : Type} (a : α) : ∃ x, Hid (x = a) := ⟨a, rfl⟩
/-- The sum of the middle. -/
def midS (M : List (List Int)) (n : Nat) : Int := sumTo (fun i => en M i i) n

theorem trace_any {a : Option Addr} {n ca : Nat} {M : List (List Int)} {w : World} (hM : RdM w a n ca M) (d : Dm n n M) (he : EntR 0 9972 n n M) (hn : n ≤ 1000) :
    Calls Try.prog 60 #[.slice a n ca] w fun e w' => e = .returned (.int .i64 (midS M n % 9973)) ∧ w = w' := by
  have bd : Hid (∀ k, k ≤ n → 0 ≤ midS M k ∧ midS M k ≤ 9972 * k) := fun k => by
    induction k with
    | zero => intro _; exact ⟨Int.le_refl _, Int.le_refl _⟩
    | succ k ih =>
      intro hk
      have h1 := ih (by omega)
      have h2 := he k k (by omega) (by omega)
      unfold midS at *
      rw [sumTo]
      omega
  have HD := Lib.hid d
  have HE := Lib.hid he
  clear d he
  go_enter Try.func60, Try.ntmps60
  go_wp2
  go_loop [3, 7] (fun s v => ∃ (k : Nat) (S : Int), k ≤ n ∧ v = .int .i64 k ∧ s = .int .i64 S ∧ Hid (S = midS M k)) (fun _ v => n - (intOf v).toNat)
  case atStart => exact ⟨0, 0, Nat.zero_le _, rfl, rfl, rfl⟩
  case round =>
    obtain ⟨k, S, hk, rfl, rfl, HS⟩ := hrel
    have bS : 0 ≤ S ∧ S ≤ 9972 * k := by rw [HS.out]; exact bd.out k hk
    by_cases hlt : k < n
    · obtain ⟨b, off, rfl, ar, cr, hc, hrd⟩ := hM.rowIn HD.out hlt
      obtain ⟨b2, o2, rfl, _, hc2⟩ := hrd.at hlt
      replace hc2 := hc2 k hlt
      have hx := HE.out k k hlt hlt
      have HS2 : Hid (S + ix (rowOf M k) k = midS M (k + 1)) := by unfold Hid midS; rw [sumTo, HS.out]; rfl
      change 0 ≤ ix (rowOf M k) k ∧ ix (rowOf M k) k ≤ 9972 at hx
      generalize ix (rowOf M k) k = X at *
      have u1 : IntKind.i64.wrap (S + X) = S + X := Go.IntWalk.i64_in _ (by omega)
      have hlt' : (k : Int) < (n : Int) := by omega
      go_wp2
      go_round
      case rel => exact ⟨k + 1, S + X, by omega, by go_num, rfl, HS2⟩
      case measure => simp [intOf]; omega
    · obtain rfl : k = n := by omega
      have u2 : S.tmod 9973 = S % 9973 := Int.tmod_eq_emod_of_nonneg bS.1
      go_wp2
      go_ret
      exact ⟨ret_int (by rw [HS.out]), rfl⟩

theorem char_Of_err {a : Option Addr} {n ca : Nat} {M : List (List Int)} {w : World} {x : Int} (hM : RdM w a n ca M) (hq : squareR 5 0 9972 M = some x) :
    Calls Try.prog 26 #[.slice a n ca] w fun e w' => e = .returned (.tuple #[.slice none 0 0, .iface 64 (.int .i64 x)]) ∧ w = w' := by
  have C := det_Check_any hM
  rw [hq] at C
  have C := Lib.hid C
  clear hq
  go_enter Try.func26, Try.ntmps26
  go_wp2_with (first | (go_at_call 56; refine C.out.mono ?_; rintro e w' ⟨rfl, rfl⟩; simp only [errV]))
  go_ret2
  exact ⟨rfl, rfl⟩

/-- The next factor. -/
theorem char_c {n k : Nat} {A : Mx} {eF : Nat → Int} {b : Nat → Mx} {N : List (List Int)} (F : FL n A eF b) (h1 : 1 ≤ k) (h2 : k ≤ n) (hn : n ≤ 5) (hN : EqM n n (mx N) (mulM n A (b (n - k)))) {T V : Int} (hT : T = midS N n % 9973) (hV : V = powm k 9971) : -T * V % 9973 = eF (n - k) % 9973 := by
  have e1 : Eqm (midS N n) (((n - k : Nat) - (n : Int)) * eF (n - k)) := by
    rw [← F.mid (by omega)]
    exact sumTo_eqm fun i hi => hN i i hi hi
  have e2 : Eqm T (((n - k : Nat) - (n : Int)) * eF (n - k)) := by rw [hT]; exact (Eqm.mod _).trans e1
  have e3 : V * k % 9973 = 1 := by rw [hV]; exact over_mul (by omega) (by omega) (by omega)
  have e4 : ((n - k : Nat) - (n : Int)) = -(k : Int) := by omega
  rw [e4] at e2
  have e5 : Eqm (-T * V) (-(-(k : Int) * eF (n - k)) * V) := e2.neg.mul (Eqm.refl V)
  have e6 : -(-(k : Int) * eF (n - k)) * V = V * k * eF (n - k) := by grind
  rw [e6] at e5
  have e7 : Eqm (V * k * eF (n - k)) (1 * eF (n - k)) := Eqm.mul e3 (Eqm.refl _)
  rw [Int.one_mul] at e7
  exact e5.trans e7

/-- Its first i places of the middle, with c. -/
def addI (N : List (List Int)) (c : Int) (q i j : Nat) : Int := if i = j ∧ i < q then (en N i j + c) % 9973 else en N i j

set_option maxHeartbeats 8000000 in
set_option maxRecDepth 100000 in
theorem char_Of_ok {a : Option Addr} {n ca : Nat} {M : List (List Int)} {w : World} (hM : RdM w a n ca M) (G : Good n n M) {eF : Nat → Int} {b : Nat → Mx} (F : FL n (mx M) eF b) :
    Calls Try.prog 26 #[.slice a n ca] w fun e w' => ∃ aL cL l, e = .returned (.tuple #[.slice aL (n + 1) cL, .nilIface]) ∧ OwI w' w.heap.size 3 aL (n + 1) cL l ∧ (∀ k, k ≤ n → ix l k = eF k % 9973) ∧ Below w.heap.size w w' := by
  have HIT := Lib.hid intTy
  have n1 := G.n1
  have HG := Lib.hid G
  have HF := Lib.hid F
  have C := det_Check_any hM
  rw [squareR_of (lo := 0) (hi := 9972) (most := 5) n1.1 (by omega) G.dm G.ent] at C
  have C := Lib.hid C
  clear G F
  have t1 : ((n : Int) + 1).toNat = n + 1 := by omega
  have b0 : (n : Int) < ((n + 1 : Nat) : Int) := by omega
  have b1 : (1 : Int) ≤ (n : Int) := by omega
  go_enter Try.func26, Try.ntmps26
  go_wp2_with (first | (go_at_call 56; refine C.out.mono ?_; rintro e w' ⟨rfl, rfl⟩; simp only [errV]) | (at_make; refine wpList_make_ints HIT.out rfl (.tmp 22) (.tmp 22) (n := n + 1) rfl rfl rfl (by omega) ?_; intro w2 ho2 hb2; obtain ⟨g2, hz, _, _, hc2, hf2⟩ := ho2.at (by omega); cases hz; have y1 := hc2 n (by omega); have y2 := hf2 n) | (go_at_call 57; fail))
  clear C y1 y2
  have ho2 := ho2.set (k := n) 1
  have hb2 := hb2.setCell (p := ⟨w.heap.size, n, none⟩) (Nat.le_refl _) (.int .i64 1)
  generalize w2.setCell ⟨w.heap.size, n, none⟩ (.int .i64 1) = w3 at *
  have C := Lib.hid (One_any n w3 (by omega) (by omega))
  (with_reducible refine C.out.mono ?_)
  clear C
  rintro e w4 ⟨a4, c4, P4, rfl, ho4, hi4, hb4⟩
  have hx := ho2.below hb4
  have k4 := below_tr hb2 hb4
  have hs4 := hb4.size
  have hP := ho4.rd
  have l0 : Hid ((List.replicate (n + 1) (0 : Int)).set n 1 = (List.replicate (n + 1) (0 : Int)).set n 1) := rfl
  have GP : Hid (Good n n P4 ∧ EqM n n (mx P4) (b (n - 1))) := ⟨⟨n1, n1, hi4.1, fun i j h1 h2 => by rw [hi4.2 i j h1 h2]; unfold oneM; split <;> omega⟩, fun i j h1 h2 => by show Eqm (en P4 i j) _; rw [hi4.2 i j h1 h2, HF.out.last i j h1 h2]; exact Eqm.refl _⟩
  have HL : Hid (∀ j, n - 1 < j → j ≤ n → ix ((List.replicate (n + 1) (0 : Int)).set n 1) j = eF j % 9973) := fun j h1 h2 => by
    obtain rfl : j = n := by omega
    rw [ix_set, if_pos ⟨rfl, by simp⟩, HF.out.top]
    rfl
  clear ho2 hb2 ho4 hi4 l0 hb4
  go_wp2
  generalize hl0 : (List.replicate (n + 1) (0 : Int)).set n 1 = l0 at *
  clear hl0
  go_loopw [7, 9] (fun u v wr => ∃ (k : Nat) (ab : Option Addr) (cb : Nat) (Bm : List (List Int)) (l : List Int), 1 ≤ k ∧ k ≤ n + 1 ∧ v = .int .i64 k ∧ u = .slice ab n cb ∧ RdM wr ab n cb Bm ∧ OwI wr w.heap.size 3 (some ⟨w.heap.size, 0, none⟩) (n + 1) (n + 1) l ∧ w.heap.size < wr.heap.size ∧ Hid (k ≤ n → Good n n Bm ∧ EqM n n (mx Bm) (b (n - k))) ∧ Hid (∀ j, n - k < j ∨ k = n + 1 → j ≤ n → ix l j = eF j % 9973) ∧ Below w.heap.size w wr) (fun _ v _ => n + 1 - (intOf v).toNat)
  case atStart => exact ⟨1, a4, c4, P4, l0, Nat.le_refl _, by omega, rfl, rfl, hP, hx, by have := hx.own.lt _ rfl; exact this.2, fun _ => GP.out, fun j hj h2 => HL.out j (by omega) h2, k4⟩
  case round =>
    clear hx k4 hs4 hP GP HL
    obtain ⟨k, ab, cb, Bm, l, hk1, hk2, rfl, rfl, hB, hx, hsz, HB, HL, hb⟩ := hrel
    by_cases hlt : k ≤ n
    · have hlt' : (k : Int) ≤ (n : Int) := by omega
      have hk1' : (1 : Int) ≤ (k : Int) := by omega
      have hk0 : (0 : Int) ≤ (k : Int) := by omega
      have GB := Lib.hid (HB.out hlt)
      have C := Lib.hid (Mul_ok (hM.below hb) hB (HG.out.mulOk GB.out.1))
      rw [GB.out.1.r0] at C
      clear HB
      obtain ⟨wo, hwo⟩ : ∃ wo, wo = wr := ⟨_, rfl⟩
      subst hwo
      go_wp2_with (first | (go_at_call 58; fail))
      (with_reducible refine C.out.mono ?_)
      clear C
      rintro e w5 ⟨a5, c5, N, rfl, ho5, hi5, hb5⟩
      have GN := Lib.hid (HG.out.prod GB.out.1 hi5)
      have HN : Hid (EqM n n (mx N) (mulM n (mx M) (b (n - k)))) := GN.out.2.trans (EqM.mul (EqM.refl _ _ _) GB.out.2)
      have hx5 := hx.below hb5
      have hb6 := below_tr hb hb5
      have C1 := Lib.hid (trace_any ho5.rd GN.out.1.dm GN.out.1.ent (by omega))
      have C2 := Lib.hid (Over_any (k : Int) w5 (by omega) (by omega))
      have hT := hid_ex (midS N n % 9973)
      obtain ⟨T, hT⟩ := hT
      have hV := hid_ex (powm k 9971)
      obtain ⟨V, hV⟩ := hV
      have bT : 0 ≤ T ∧ T ≤ 9972 := by rw [hT.out]; omega
      have bV : 0 ≤ V ∧ V ≤ 9972 := by rw [hV.out]; exact powm_in _ _
      rw [← hT.out] at C1
      rw [← hV.out] at C2
      have p1 := mul_bd bT bV
      obtain ⟨Q, hQ⟩ := hid_ex (T * V)
      rw [← hQ.out] at p1
      have u1 : IntKind.i64.wrap (-T) = -T := Go.IntWalk.i64_in _ (by omega)
      have u2 : IntKind.i64.wrap (-T * V) = -Q := by rw [Int.neg_mul, ← hQ.out]; exact Go.IntWalk.i64_in _ (by omega)
      have C3 : Hid (Calls Try.prog 59 #[.int .i64 (-Q)] w5 fun e w' => e = .returned (.int .i64 (eF (n - k) % 9973)) ∧ w5 = w') := by
        have := Field_any (-Q) w5
        rwa [show -Q % 9973 = eF (n - k) % 9973 from by rw [hQ.out, ← Int.neg_mul]; exact char_c HF.out hk1 hlt n1.2 HN.out hT.out hV.out] at this
      obtain ⟨c, hc⟩ := hid_ex (eF (n - k) % 9973)
      have bc : 0 ≤ c ∧ c ≤ 9972 := by rw [hc.out]; omega
      rw [← hc.out] at C3
      have u3 : IntKind.i64.wrap ((n : Int) - k) = (n : Int) - k := Go.IntWalk.i64_in _ (by omega)
      have t3 : ((n : Int) - k).toNat = n - k := by omega
      have b3 : (n : Int) - k < ((n + 1 : Nat) : Int) := by omega
      have b4 : (0 : Int) ≤ (n : Int) - k := by omega
      obtain ⟨g5, hz, _, _, hcx, hfx⟩ := hx5.at (by omega)
      cases hz
      have y1 := hcx (n - k) (by omega)
      have y2 := hfx (n - k)
      clear hcx hfx p1 bT bV
      go_wp2_with (first | (go_at_call 60; (with_reducible refine C1.out.mono ?_); rintro e w' ⟨rfl, rfl⟩) | (go_at_call 61; (with_reducible refine C2.out.mono ?_); rintro e w' ⟨rfl, rfl⟩) | (go_at_call 59; (with_reducible refine C3.out.mono ?_); rintro e w' ⟨rfl, rfl⟩))
      obtain ⟨g, D, C, hz, hd5⟩ := ho5.named (by omega) fun r hr => by rw [GN.out.1.dm.2 r hr]; omega
      subst hz
      have hlow := hd5.lowO
      have hlowI : ∀ i, i < n → wo.heap.size ≤ D i := fun i hi => (hd5.lowI hi).1
      have hd6 := hd5.setElse (p := ⟨w.heap.size, n - k, none⟩) (by show w.heap.size ≠ g; omega) (fun i hi => by have := hlowI i hi; show w.heap.size ≠ D i; omega) (.int .i64 c)
      have hx6 := hx5.set (k := n - k) c
      have hb7 := hb6.setCell (p := ⟨w.heap.size, n - k, none⟩) (Nat.le_refl _) (.int .i64 c)
      have hs7 : wo.heap.size ≤ (w5.setCell ⟨w.heap.size, n - k, none⟩ (.int .i64 c)).heap.size := by have := hb5.size; simpa using this
      have hll := hx.len_eq
      have HLL := Lib.hid hll
      clear C1 C2 C3 y1 y2 ho5 hi5 hb5 hx5 hb6 hd5 hB hx hb u1 u2 hll
      go_wp2
      generalize w5.setCell ⟨w.heap.size, n - k, none⟩ (.int .i64 c) = w6 at *
      go_loopw [58] (fun v wr => ∃ (q : Nat) (N' : List (List Int)), q ≤ n ∧ v = .int .i64 q ∧ OwMD wr wo.heap.size 22 3 g D C n c5 N' ∧ OwI wr w.heap.size 3 (some ⟨w.heap.size, 0, none⟩) (n + 1) (n + 1) (l.set (n - k) c) ∧ Hid (IsR n n N' (addI N c q)) ∧ wo.heap.size ≤ wr.heap.size ∧ Below w.heap.size w wr) (fun v _ => n - (intOf v).toNat)
      case atStart => exact ⟨0, N, Nat.zero_le _, rfl, hd6, hx6, ⟨GN.out.1.dm, fun i j _ _ => by unfold addI; rw [if_neg (by omega)]⟩, hs7, hb7⟩
      case round =>
        clear hd6 hx6 hb7 hs7
        obtain ⟨q, N', hq, rfl, hd, hx, hN', hs, hb⟩ := hrel
        by_cases hlq : q < n
        · have hlq' : (q : Int) < (n : Int) := by omega
          have x1 := hd.cellO hlq
          rw [hN'.out.1.2 q hlq] at x1
          have x2 := hd.cellI hlq (j := q) (by rw [hN'.out.1.2 q hlq]; exact hlq)
          have x3 := hd.frozenI hlq (by rw [hN'.out.1.2 q hlq]; omega) q
          have x4 : en N' q q = en N q q := by rw [hN'.out.2 q q hlq hlq]; unfold addI; rw [if_neg (by omega)]
          rw [x4] at x2
          have m1 := GN.out.1.ent q q hlq hlq
          have u1 : IntKind.i64.wrap (en N q q + c) = en N q q + c := Go.IntWalk.i64_in _ (by omega)
          have hx2 := hx.setElse (p := ⟨D q, q, none⟩) (by have := hlowI q hlq; show D q ≠ w.heap.size; omega) (.int .i64 ((en N q q + c) % 9973))
          clear x4
          go_wp2
          go_still_tail 16, (by kernel_rfl)
          still_call (stillW (Field_any _ _))
          repeat still_step
          refine wpStill_nil ?_
          change wpList _ _ _ _ _ wr.drew
          clear u1
          go_wp2
          go_roundw
          case rel => exact ⟨q + 1, _, by omega, by go_num, (hd.set matTy.ne hlq _).drew, hx2.drew, ⟨hN'.out.1.setE _ _ _, fun i j h3 h4 => by
            rw [hN'.out.1.en_set _ h3 h4]
            by_cases e : q = i ∧ q = j
            · rw [if_pos e, ← e.1, ← e.2]; unfold addI; rw [if_pos ⟨rfl, by omega⟩]
            · rw [if_neg e, hN'.out.2 i j h3 h4]
              unfold addI
              by_cases e2 : i = j ∧ i < q
              · rw [if_pos e2, if_pos ⟨e2.1, by omega⟩]
              · rw [if_neg e2, if_neg fun e3 => by omega]⟩, by simpa using hs, (hb.setCell (p := ⟨D q, q, none⟩) (by have := hlowI q hlq; show w.heap.size ≤ D q; omega) _).drew⟩
          case measure => simp [intOf]; omega
        · obtain rfl : q = n := by omega
          have hNr := hd.toM.rd
          have HG' : Hid (k + 1 ≤ q → Good q q N' ∧ EqM q q (mx N') (b (q - (k + 1)))) := fun hk => by
            refine ⟨⟨HG.out.n1, HG.out.n1, hN'.out.1, fun i j h1 h2 => ?_⟩, fun i j h1 h2 => ?_⟩
            · rw [hN'.out.2 i j h1 h2]
              unfold addI
              have := GN.out.1.ent i j h1 h2
              split <;> omega
            · show Eqm (en N' i j) _
              have e0 := HF.out.next (j := q - k) (by omega) (by omega) h1 h2
              rw [show q - k - 1 = q - (k + 1) by omega] at e0
              rw [hN'.out.2 i j h1 h2, e0]
              have e1 : Eqm (en N i j) (mulM q (mx M) (b (q - k)) i j) := HN.out i j h1 h2
              unfold addI oneM
              by_cases e : i = j
              · rw [if_pos ⟨e, h1⟩, if_pos e, Int.mul_one]
                refine (Eqm.mod _).trans (Eqm.add e1 ?_)
                rw [hc.out]
                exact Eqm.mod _
              · rw [if_neg fun e2 => e e2.1, if_neg e, Int.mul_zero, Int.add_zero]
                exact e1
          have HL' : Hid (∀ j, q - (k + 1) < j ∨ k + 1 = q + 1 → j ≤ q → ix (l.set (q - k) c) j = eF j % 9973) := fun j h1 h2 => by
            rw [ix_set, HLL.out]
            by_cases e : q - k = j
            · rw [if_pos ⟨e, by omega⟩, hc.out, e]
            · rw [if_neg fun e2 => e e2.1]
              exact HL.out j (.inl (by omega)) h2
          go_wp2
          go_roundw
          case rel => exact ⟨k + 1, some ⟨g, 0, none⟩, c5, N', _, by omega, by omega, by go_num, rfl, hNr, hx, by omega, HG', HL', hb⟩
          case measure => simp [intOf]; omega
    · obtain rfl : k = n + 1 := by omega
      go_wp2
      go_ret2
      exact ⟨_, n + 1, rfl, l, hx, fun j hj => HL.out j (by first | exact .inr rfl | exact .inr trivial) hj, hb⟩
end Go.Proofs.Ytfocfgddlnjfmaa
