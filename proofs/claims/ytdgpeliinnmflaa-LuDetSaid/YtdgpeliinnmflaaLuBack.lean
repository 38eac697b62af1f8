/-
  LuBack walked: low times up is the rows in their order; the one has noughts above the middle and 1 in it, the other one noughts below.
-/
import Derived.Test.YtdgpeliinnmflaaRows
import Derived.Test.YtdgpeliinnmflaaLib
import Derived.Test.YtdgpeliinnmflaaRef
import Derived.Test.YtdgpeliinnmflaaMatLaw
import Derived.Test.YtdgpeliinnmflaaMatAdd
import Derived.Test.YtdgpeliinnmflaaLuFact
import Derived.Test.YtdgpeliinnmflaaDetSign
import Derived.Deep.QuietTactic
import Derived.BigQuiet
import Derived.StillTailTactics
namespace Go.Proofs.Ytdgpeliinnmflaa
open Go.RowKit Go.Rk

theorem _root_.Go.Rk.LFin.sign {n : Nat} {M U L : List (List Int)} {o : List Int} (h : LFin n M U L o) : signC o ≠ 0 := by
  have hs : okN o n n = true := ord_okN h.oo h.op n (Nat.le_refl _)
  unfold signC
  rw [h.ol, if_pos hs]
  have := (cycN_len o n n).2
  intro e
  omega
theorem _root_.Go.Rk.LFin.low {n : Nat} {M U L : List (List Int)} {o : List Int} (h : LFin n M U L o) (g : 1 ≤ n ∧ n ≤ 5) : Good n n L := ⟨g, g, h.dL, h.eL⟩
theorem _root_.Go.Rk.LFin.up {n : Nat} {M U L : List (List Int)} {o : List Int} (h : LFin n M U L o) (g : 1 ≤ n ∧ n ≤ 5) : Good n n U := ⟨g, g, h.dU, h.eU⟩
theorem _root_.Go.Rk.LFin.row {n : Nat} {M U L P : List (List Int)} {o : List Int} (h : LFin n M U L o) (G : Good n n M) (GP : Good n n P ∧ EqM n n (mx P) (mulM n (mx L) (mx U))) {k : Nat} (hk : k < n) : rowOf P k = rowOf M (natsOf o k) := by
  have ho := h.oo.lt k hk
  refine ix_ext (by rw [GP.1.dm.2 k hk, G.dm.2 _ ho]) fun j hj => ?_
  rw [GP.1.dm.2 k hk] at hj
  have e := (h.rel k j hk hj).trans (GP.2 k j hk hj).symm
  have b1 := GP.1.ent k j hk hj
  have b2 := G.ent (natsOf o k) j ho hj
  show en P k j = en M (natsOf o k) j
  unfold Eqm at e
  have e : en M (natsOf o k) j % 9973 = en P k j % 9973 := e
  omega

/-- A row of a matrix, read at once. -/
theorem RdM.rowAt {w : World} {a : Option Addr} {n c cap : Nat} {M : List (List Int)} (h : RdM w a n cap M) (d : Dm n c M) {k : Nat} (hk : k < n) :
    ∃ b off, a = some ⟨b, off, none⟩ ∧ ∃ ar cr, w.cell? ⟨b, off + k, none⟩ = some (.slice ar c cr) ∧ RdI w ar c cr (rowOf M k) := by
  obtain ⟨b, off, rfl, _, hr⟩ := h.at hk
  obtain ⟨ar, cr, hc, hrd⟩ := hr k hk
  rw [d.2 k hk] at hc hrd
  exact ⟨b, off, rfl, ar, cr, hc, hrd⟩

set_option maxHeartbeats 4000000 in
set_option maxRecDepth 100000 in
theorem luBack_walk {a : Option Addr} {n ca : Nat} {A : List (List Int)} {w : World} (hA : RdM w a n ca A) (_ : ∀ r ∈ A, Fit r) :
    Calls Try.prog 13 #[.slice a n ca] w fun e w' => e = .returned (.bool true) ∧ Below w.heap.size w w' := by
  go_enter Try.func13, Try.ntmps13
  go_wp2_with (first | (go_at_call 36; refine (luFact_any _).mono ?_; rintro e w1 ⟨rfl, k1⟩) | (go_at_call 37; fail))
  rcases hq : squareR 5 0 9972 A with _ | x
  · obtain ⟨g1, g2⟩ := squareR_grounds hq
    have GA0 := Good.of hA.len_eq g1
    rw [g2, hA.len_eq] at GA0
    have GA := Lib.hid GA0
    have n1 := GA0.n1
    clear GA0 g1 g2 hq
    have C := Lib.hid (Split_ok (hA.below k1) GA.out)
    (with_reducible refine C.out.mono ?_)
    clear C
    rintro e w2 ⟨ao, co, al, cl, au, cu, U, L, o, rfl, ho, hl, hu, hi, hb⟩
    have k2 := below_tr k1 hb
    have HI := Lib.hid hi
    have hO := ho.rd
    have hL := hl.rd
    have hU := hu.rd
    have HN := Lib.hid n1
    clear ho hl hu hi hb k1
    have C := Lib.hid (Mul_ok hL hU ((HI.out.low n1).mulOk (HI.out.up n1)))
    rw [(HI.out.up n1).r0] at C
    go_wp2_with (first | (go_at_call 18; fail))
    (with_reducible refine C.out.mono ?_)
    clear C
    rintro e w3 ⟨a3, c3, P, rfl, ho, hi, hb⟩
    have k3 := below_tr k2 hb
    have HP := Lib.hid ((HI.out.low n1).prod (HI.out.up n1) hi)
    have hP := ho.rd
    have hO := hO.below hb
    have hL := hL.below hb
    have hU := hU.below hb
    have hA := hA.below k3
    clear ho hi hb k2
    obtain ⟨bl, ol, rfl, al0, cl0, hl0, _⟩ := RdM.rowAt hL (HI.out.low n1).dm (k := 0) (by omega)
    obtain ⟨bu, ou, rfl, au0, cu0, hu0, _⟩ := RdM.rowAt hU (HI.out.up n1).dm (k := 0) (by omega)
    rw [Nat.add_zero] at hl0 hu0
    have z0 : ((n : Int) != (n : Int)) = false := bne_eq_false_iff_eq.2 rfl
    have zs : (signC o == 0) = false := beq_eq_false_iff_ne.2 HI.out.sign
    have C := Lib.hid (R_Sign_is hO)
    go_wp2_with (first | (go_at_call 29; fail))
    (with_reducible refine C.out.mono ?_)
    clear C
    rintro e w4 ⟨rfl, hb⟩
    have hb := wpbelow_drewN hb
    have k4 := below_tr k3 hb
    have hO := hO.below hb
    have hL := hL.below hb
    have hU := hU.below hb
    have hA := hA.below hb
    have hP := hP.below hb
    clear hb k3 hl0 hu0
    go_wp2
    clear zs
    go_loopw [9] (fun v wr => ∃ k : Nat, k ≤ n ∧ v = .int .i64 k ∧ Below w4.heap.size w4 wr) (fun v _ => n - (intOf v).toNat)
    case atStart => exact ⟨0, Nat.zero_le _, rfl, Below.refl _ _⟩
    case round =>
      obtain ⟨k, hk, rfl, hb⟩ := hrel
      have k5 := below_tr k4 hb
      by_cases hlt : k < n
      · have hO := hO.below hb
        have hL := hL.below hb
        have hU := hU.below hb
        have hA := hA.below hb
        have hP := hP.below hb
        have hlt' : (k : Int) < (n : Int) := by omega
        obtain ⟨bo, oo, rfl, _, hco⟩ := hO.at hlt
        replace hco := hco k hlt
        have hq := HI.out.oo.lt k hlt
        have hqi : ix o k = (natsOf o k : Int) := by unfold natsOf; have := HI.out.op k hlt; omega
        rw [hqi] at hco
        have HR := Lib.hid (HI.out.row GA.out HP.out hlt)
        generalize natsOf o k = q at *
        have hq' : (q : Int) < (n : Int) := by omega
        obtain ⟨ba, oa, rfl, aa, cca, hca, hra⟩ := RdM.rowAt hA GA.out.dm hq
        obtain ⟨bp, op, rfl, ap, ccp, hcp, hrp⟩ := RdM.rowAt hP HP.out.1.dm hlt
        obtain ⟨_, _, hz, al, ccl, hcl, hrl⟩ := RdM.rowAt hL (HI.out.low HN.out).dm hlt
        cases hz
        obtain ⟨_, _, hz, au, ccu, hcu, hru⟩ := RdM.rowAt hU (HI.out.up HN.out).dm hlt
        cases hz
        obtain ⟨bll, oll, rfl, _, hcll⟩ := hrl.at hlt
        obtain ⟨buu, ouu, rfl, _, hcuu⟩ := hru.at hlt
        have hc1 := hcll k hlt
        rw [show ix (rowOf L k) k = 1 from HI.out.one k hlt] at hc1
        have HLL := Lib.hid hcll
        have HUU := Lib.hid hcuu
        clear hcll hcuu
        have CI : ∀ q2, Calls Try.prog 33 #[.slice ap n ccp, .slice aa n cca] (wr.drewN q2) fun e w' => e = .returned (.bool (decide (rowOf P k = rowOf A q))) ∧ ∃ m, w' = (wr.drewN q2).drewN m := fun q2 => Ints_q (hrp.drewN q2) (hra.drewN q2)
        rw [decide_eq_true HR.out] at CI
        have HCI := Lib.hid CI
        clear CI hO hL hU hA hP hra hrp hrl hru hqi
        go_wp2
        go_quiet ((go_at_call 33; exact Calls.quiet_of (HCI.out _)))
        go_wp2
        clear hca hcp hco hc1 HR HCI
        obtain ⟨wo, hwo⟩ : ∃ wo, wo = wr := ⟨_, rfl⟩
        subst hwo
        go_loopw [10] (fun v wt => ∃ j q3 : Nat, j ≤ n ∧ v = .int .i64 j ∧ Hid (wt = wo.drewN q3)) (fun v _ => n - (intOf v).toNat)
        case atStart => exact ⟨0, nq, Nat.zero_le _, rfl, rfl⟩
        case round =>
          obtain ⟨j, q3, hj, rfl, HW⟩ := hrel
          have e3 := HW.out
          have hbt := below_drewN (Below.refl wo.heap.size wo) q3
          rw [← e3] at hbt
          by_cases hltj : j < n
          · have hltj' : (j : Int) < (n : Int) := by omega
            rw [← hbt.cell (World.block_lt_of_cell? _ _ hcl)] at hcl
            rw [← hbt.cell (World.block_lt_of_cell? _ _ hcu)] at hcu
            have hx := HLL.out j hltj
            have hy := HUU.out j hltj
            rw [← hbt.cell (World.block_lt_of_cell? _ _ hx)] at hx
            rw [← hbt.cell (World.block_lt_of_cell? _ _ hy)] at hy
            clear e3 hbt
            rcases Nat.lt_trichotomy k j with h1 | h1 | h1
            · rw [show ix (rowOf L k) j = 0 from HI.out.zL k j hlt hltj h1] at hx
              have z1 : (k : Int) < (j : Int) := by omega
              have z2 : ¬ (j : Int) < (k : Int) := by omega
              go_wp2
              go_roundw
              case rel => exact ⟨j + 1, q3, by omega, by go_num, HW⟩
              case measure => simp [intOf]; omega
            · have z1 : ¬ (k : Int) < (j : Int) := by omega
              have z2 : ¬ (j : Int) < (k : Int) := by omega
              go_wp2
              go_roundw
              case rel => exact ⟨j + 1, q3, by omega, by go_num, HW⟩
              case measure => simp [intOf]; omega
            · rw [show ix (rowOf U k) j = 0 from HI.out.zU k j hlt h1] at hy
              have z1 : ¬ (k : Int) < (j : Int) := by omega
              have z2 : (j : Int) < (k : Int) := by omega
              go_wp2
              go_roundw
              case rel => exact ⟨j + 1, q3, by omega, by go_num, HW⟩
              case measure => simp [intOf]; omega
          · clear e3 hbt
            go_wp2
            go_roundw
            case rel => exact ⟨k + 1, by omega, by go_num, by rw [HW.out]; exact below_drewN hb _⟩
            case measure => simp [intOf]; omega
      · go_wp2
        go_ret
        exact ⟨rfl, k5⟩
  · have C := Lib.hid (Split_err (hA.below k1) hq)
    clear hq
    (with_reducible refine C.out.mono ?_)
    rintro e w2 ⟨rfl, rfl⟩
    go_wp2
    go_ret
    exact ⟨rfl, k1⟩
end Go.Proofs.Ytdgpeliinnmflaa
