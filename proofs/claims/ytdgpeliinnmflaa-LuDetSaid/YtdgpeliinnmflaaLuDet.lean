/-
  LuDet walked: the determinant is the product of up's middle, with the order's sign.
-/
import Derived.Test.YtdgpeliinnmflaaRows
import Derived.Test.YtdgpeliinnmflaaLib
import Derived.Test.YtdgpeliinnmflaaRef
import Derived.Test.YtdgpeliinnmflaaMatLaw
import Derived.Test.YtdgpeliinnmflaaLuFact
import Derived.Test.YtdgpeliinnmflaaDetSign
import Derived.Test.YtdgpeliinnmflaaLuBack
namespace Go.Proofs.Ytdgpeliinnmflaa
open Go.RowKit Go.Rk

set_option maxHeartbeats 4000000 in
set_option maxRecDepth 100000 in
theorem luDet_walk {a : Option Addr} {n ca : Nat} {A : List (List Int)} {w : World} (hA : RdM w a n ca A) (_ : ∀ r ∈ A, Fit r) :
    Calls Try.prog 14 #[.slice a n ca] w fun e w' => e = .returned (.bool true) ∧ Below w.heap.size w w' := by
  go_enter Try.func14, Try.ntmps14
  go_wp2_with (first | (go_at_call 36; refine (luFact_any _).mono ?_; rintro e w1 ⟨rfl, k1⟩) | (go_at_call 37; fail))
  rcases hq : squareR 5 0 9972 A with _ | x
  · obtain ⟨g1, g2⟩ := squareR_grounds hq
    have GA0 := Good.of hA.len_eq g1
    rw [g2, hA.len_eq] at GA0
    have GA := Lib.hid GA0
    have n1 := GA0.n1
    have HQ := Lib.hid hq
    clear GA0 g1 g2 hq
    have C := Lib.hid (Split_ok (hA.below k1) GA.out)
    (with_reducible refine C.out.mono ?_)
    clear C
    rintro e w2 ⟨ao, co, al, cl, au, cu, U, L, o, rfl, ho, hl, hu, hi, hb⟩
    have k2 := below_tr k1 hb
    have HI := Lib.hid hi
    have hO := ho.rd
    have hU := hu.rd
    have HN := Lib.hid n1
    clear ho hl hu hi hb k1
    have C := Lib.hid (det_Of_ok (hA.below k2) HQ.out)
    obtain ⟨d, hd⟩ : ∃ d, det n (mx A) % 9973 = d := ⟨_, rfl⟩
    rw [hd] at C
    have HD := Lib.hid hd
    clear hd
    go_wp2_with (first | (go_at_call 24; fail))
    (with_reducible refine C.out.mono ?_)
    clear C
    rintro e w3 ⟨rfl, hb⟩
    have k3 := below_tr k2 hb
    have hO := hO.below hb
    have hU := hU.below hb
    clear hb k2
    have z0 : ((n : Int) != (n : Int)) = false := bne_eq_false_iff_eq.2 rfl
    have C := Lib.hid (Sign_any hO (by omega))
    obtain ⟨S, hS⟩ : ∃ S, signC o = S := ⟨_, rfl⟩
    have bS : -1 ≤ S ∧ S ≤ 1 := by rcases signC_pm o with e | e | e <;> omega
    rw [hS] at C
    have HS := Lib.hid hS
    clear hS
    go_wp2_with (first | (go_at_call 28; fail))
    (with_reducible refine C.out.mono ?_)
    clear C
    rintro e w4 ⟨rfl, hb⟩
    have k4 := below_tr k3 hb
    have hU := hU.below hb
    clear hb k3 hO
    go_wp2_with (first | (go_at_call 26; refine (R_Mod_any _ _ (by omega) (by omega)).mono ?_; rintro e w' ⟨rfl, rfl⟩))
    go_loopw [9, 10] (fun vp v wr => ∃ (k : Nat) (V : Int), k ≤ n ∧ v = .int .i64 k ∧ vp = .int .i64 V ∧ Hid (V = S * prodTo (fun i => en U i i) k % 9973) ∧ Below w4.heap.size w4 wr) (fun _ v _ => n - (intOf v).toNat)
    case atStart => exact ⟨0, S % 9973, Nat.zero_le _, rfl, rfl, by unfold Hid; simp [prodTo], Below.refl _ _⟩
    case round =>
      obtain ⟨k, V, hk, rfl, rfl, HV, hb⟩ := hrel
      have k5 := below_tr k4 hb
      have bV : 0 ≤ V ∧ V ≤ 9972 := by have := HV.out; omega
      by_cases hlt : k < n
      · have hU := hU.below hb
        have hlt' : (k : Int) < (n : Int) := by omega
        obtain ⟨bu, ou, rfl, au, ccu, hcu, hru⟩ := RdM.rowAt hU (HI.out.up HN.out).dm hlt
        obtain ⟨buu, ouu, rfl, _, hcuu⟩ := hru.at hlt
        replace hcuu := hcuu k hlt
        have bu := HI.out.eU k k hlt hlt
        rw [show ix (rowOf U k) k = en U k k from rfl] at hcuu
        obtain ⟨u, hu⟩ : ∃ u, en U k k = u := ⟨_, rfl⟩
        rw [hu] at hcuu bu
        have hin : inB u 0 9972 = true := by unfold inB; simp; omega
        have hm : 0 ≤ V * u ∧ V * u ≤ 99450000 := ⟨Int.mul_nonneg bV.1 bu.1, by have := Int.mul_le_mul bV.2 bu.2 bu.1 (by omega : (0 : Int) ≤ 9972); omega⟩
        have hw : IntKind.i64.wrap (V * u) = V * u := Go.IntWalk.i64_in _ (by omega)
        have HE : Hid (V * u % 9973 = S * prodTo (fun i => en U i i) (k + 1) % 9973) := by
          unfold Hid
          have e1 := HV.out
          show _ = S * (prodTo (fun i => en U i i) k * en U k k) % 9973
          rw [hu, ← Int.mul_assoc, e1, Int.mul_emod, Int.emod_emod_of_dvd _ (Int.dvd_refl _), ← Int.mul_emod]
        clear hu hU hru
        go_wp2_with (first | (go_at_call 16; refine (L2_in_any _ _ _ _).mono ?_; rintro e w' ⟨rfl, rfl⟩; rw [hin]) | (go_at_call 26; refine (R_Mod_any _ _ (by omega) (by omega)).mono ?_; rintro e w' ⟨rfl, rfl⟩))
        go_roundw
        case rel => exact ⟨k + 1, _, by omega, by go_num, rfl, HE, hb⟩
        case measure => simp [intOf]; omega
      · have hkn : k = n := by omega
        subst hkn
        have hVd : V = d := by
          have e := HI.out.det
          unfold Eqm at e
          rw [HS.out, HD.out] at e
          rw [HV.out, e]
        subst hVd
        have zV : (V == V) = true := beq_iff_eq.2 rfl
        go_wp2
        go_ret
        exact ⟨rfl, k5⟩
  · have C := Lib.hid (Split_err (hA.below k1) hq)
    clear hq
    (with_reducible refine C.out.mono ?_)
    rintro e w2 ⟨rfl, rfl⟩
    go_wp2
    go_ret
    exact ⟨rfl, k1⟩
end Go.Proofs.Ytdgpeliinnmflaa
