/-
  RecurSum walked: rows that go on by the same factors add up, and from later on are such rows.
-/
import Derived.Test.YtcohkjppfalckaaRows
import Derived.Test.YtcohkjppfalckaaLib
import Derived.Test.YtcohkjppfalckaaRef
import Derived.Test.YtcohkjppfalckaaRecurTerm
import Derived.Test.YtcohkjppfalckaaRecurFact
import Derived.Test.YtcohkjppfalckaaOpen
import Derived.Deep.RegionHeld3
namespace Go.Proofs.Ytcohkjppfalckaa
open Go.RowKit Go.Rk

set_option maxHeartbeats 1000000 in
set_option maxRecDepth 100000 in
theorem recurSum_walk {a0 a1 a2 : Option Addr} {len0 cap0 len1 cap1 len2 cap2 : Nat} {f a b : List Int} {many : Int} {w : World} (hf : RdI w a0 len0 cap0 f) (_ : Fit f) (ha : RdI w a1 len1 cap1 a) (_ : Fit a)
    (hb : RdI w a2 len2 cap2 b) (_ : Fit b) (_ : (Lit.int .i64 many).wf = true) :
    Calls Try.prog 4 #[.slice a0 len0 cap0, .slice a1 len1 cap1, .slice a2 len2 cap2, .int .i64 many] w fun e w' => e = .returned (.bool true) ∧ Below w.heap.size w w' := by
  rcases h1 : rowErr f a many with _ | c1
  · rcases h2 : rowErr f b many with _ | c2
    · obtain ⟨g1, g2, g3⟩ := rowErr_none h1
      obtain ⟨k1, k2, k3, k4, k5⟩ := checkR_none g1
      obtain ⟨_, _, k3', _, k5'⟩ := checkR_none (rowErr_none h2).1
      obtain ⟨m, rfl⟩ := Int.eq_ofNat_of_zero_le g2
      have H1 := Lib.hid h1
      have H2 := Lib.hid h2
      clear h1 h2
      rcases Nat.lt_or_ge 300 m with hm | hm
      · go_enter Try.func4, Try.ntmps4
        go_wp2_with (go_at_call 6; refine (recurFact_any _).mono ?_; rintro e w1 ⟨rfl, hb1⟩)
        go_wp2_with fail
        refine (Row_okN (hf.below hb1) (ha.below hb1) H1.out).mono ?_
        rintro e w2 ⟨p, capp, rfl, ho, hb2⟩
        go_wp2_with fail
        refine (Row_okN ((hf.below hb1).below hb2) ((hb.below hb1).below hb2) H2.out).mono ?_
        rintro e w3 ⟨p2, capp2, rfl, ho2, hb3⟩
        go_wp2
        go_ret
        exact ⟨rfl, (hb1.trans (hb2.mono hb1.size)).trans (hb3.mono (Nat.le_trans hb1.size hb2.size))⟩
      · have e1 := ha.len_eq
        have e2 := hb.len_eq
        have e3 := hf.len_eq
        have l1 : 0 < len1 := by omega
        have l2 : len1 ≤ 5 := by omega
        have l4 : 1 ≤ len0 := by omega
        have l5 : len0 ≤ 5 := by omega
        have l3 : len1 = len2 := by omega
        subst l3
        have E1 := Lib.hid e1
        have E2 := Lib.hid e2
        have E3 := Lib.hid e3
        have HIT := Lib.hid intTy
        have K3 := Lib.hid k3
        have K3' := Lib.hid k3'
        clear e1 e2 e3 g1 k3 k3'
        go_enter Try.func4, Try.ntmps4
        go_wp2_with (go_at_call 6; refine (recurFact_any _).mono ?_; rintro e w1 ⟨rfl, hb1⟩)
        go_wp2_with fail
        refine (Row_okN (hf.below hb1) (ha.below hb1) H1.out).mono ?_
        rintro e w2 ⟨p, capp, rfl, ho, hb2⟩
        go_wp2_with fail
        refine (Row_okN ((hf.below hb1).below hb2) ((hb.below hb1).below hb2) H2.out).mono ?_
        rintro e w3 ⟨p2, capp2, rfl, ho2, hb3⟩
        have hb0 := (hb1.trans (hb2.mono hb1.size)).trans (hb3.mono (Nat.le_trans hb1.size hb2.size))
        have hs3 := hb0.size
        have ho' := ho.rd.below hb3
        have ha3 := ha.below hb0
        have hbb3 := hb.below hb0
        have hf3 := hf.below hb0
        go_wp2
        go_loopw [14, 15] (fun v i wr => ∃ (k : Nat) (q : Option Addr) (cq : Nat), k ≤ len1 ∧ i = .int .i64 k ∧ v = .slice q k cq ∧ OwI wr w3.heap.size 3 q k cq (addN a b k) ∧ Below w3.heap.size w3 wr) (fun _ i _ => len1 - (intOf i).toNat)
        case atStart => exact ⟨0, none, 0, Nat.zero_le _, rfl, rfl, OwI.nil _ _ _, Below.refl _ _⟩
        case round =>
          obtain ⟨k, q, cq, hk, rfl, rfl, hq, hbr⟩ := hrel
          have hqc := hq.caps
          by_cases hlt : k < len1
          · obtain ⟨b1, o1, rfl, hl1, hc1⟩ := ha3.at hlt
            obtain ⟨b2, o2, rfl, hl2, hc2⟩ := hbb3.at hlt
            have hc1 := hbr.keep hl1 (hc1 k hlt)
            have hc2 := hbr.keep hl2 (hc2 k hlt)
            have bd1 := k5 k (by rw [E1.out]; exact hlt)
            have bd2 := k5' k (by rw [E2.out]; exact hlt)
            have hlt' : (k : Int) < (len1 : Int) := by omega
            go_wp2
            have hsz := hbr.size
            have hwr : IntKind.i64.wrap (ix a k + ix b k) = ix a k + ix b k := Go.IntWalk.i64_in _ (by omega)
            go_region_held3 (fun w' => w'.cell? ⟨b1, o1 + k, none⟩ = some (.int .i64 (ix a k)) ∧ w'.cell? ⟨b2, o2 + k, none⟩ = some (.int .i64 (ix b k)))
              (first
                | go_keep
                | (go_split_ands
                   refine ⟨?_, ?_⟩
                   · (refine (hq.drew.alloc _).keepCell hg4 hl1 ?_; assumption)
                   · (refine (hq.drew.alloc _).keepCell hg4 hl2 ?_; assumption)))
              (first
                | (go_at_call 10; refine (R_Mod_any _ _ (by omega) (by omega)).mono ?_; rintro e w' ⟨rfl, rfl⟩)
                | (refine step_push_int HIT.out rfl (.tmp 61) (.tmp 72) rfl rfl rfl ((hq.drew).alloc _) (z := (ix a k + ix b k) % 9973) (by simp) (by decide) (by decide) (by omega) (by simp; omega) ?_; intro a4 cap4 w4 hown4 hg4))
            have hb5 := below_grown (hbr.drew.alloc (by simp; omega) _) (hq.drew.alloc _) (by simp; omega) hg4
            clear hwr
            go_wp2
            go_roundw
            case rel => exact ⟨k + 1, a4, cap4, by omega, by go_num, rfl, hown4, hb5⟩
            case measure => simp [intOf]; omega
          · obtain rfl : k = len1 := by omega
            have HE : Hid (rowErr f (addN a b k) m = none) := rowErr_of k1 k2 (by rw [addN_len, ← E1.out, K3.out]) k4 (addN_in _ _ _) g2 g3
            have hf4 := hf3.below hbr
            have hs4 := hbr.size
            go_wp2_with fail
            refine (Row_okN hf4 hq.rd HE.out).mono ?_
            rintro e w5 ⟨r, capr, rfl, hor, hb5⟩
            have hx := (ho'.below hbr).below hb5
            have hy := (ho2.rd.below hbr).below hb5
            have hz := hor.rd
            have hbz := hb0.trans ((hbr.trans (hb5.mono hbr.size)).mono hs3)
            have hf5 := hf4.below hb5
            clear hq hqc hbb3 hf3
            go_wp2
            go_loopw [18] (fun i wr => ∃ j : Nat, j ≤ m ∧ i = .int .i64 j ∧ Below w5.heap.size w5 wr) (fun i _ => m - (intOf i).toNat)
            case atStart => exact ⟨0, Nat.zero_le _, rfl, Below.refl _ _⟩
            case round =>
              obtain ⟨j, hj, rfl, hb6⟩ := hrel
              have hb7 := hbz.trans (hb6.mono hbz.size)
              by_cases hlt : j < m
              · obtain ⟨b1, o1, rfl, hl1, hc1⟩ := (hx.below hb6).at hlt
                obtain ⟨b2, o2, rfl, hl2, hc2⟩ := (hy.below hb6).at hlt
                obtain ⟨b3, o3, rfl, hl3, hc3⟩ := (hz.below hb6).at hlt
                have hc1 := hc1 j hlt
                have hc2 := hc2 j hlt
                have hc3 := hc3 j hlt
                have bd1 := rowN_in f a m k5 j (by rw [rowN_len]; exact hlt)
                have bd2 := rowN_in f b m k5' j (by rw [rowN_len]; exact hlt)
                have hlt' : (j : Int) < (m : Int) := by omega
                have hwr : IntKind.i64.wrap (ix (rowN f a m) j + ix (rowN f b m) j) = ix (rowN f a m) j + ix (rowN f b m) j := Go.IntWalk.i64_in _ (by omega)
                have hne : (ix (rowN f (addN a b k) m) j != (ix (rowN f a m) j + ix (rowN f b m) j) % 9973) = false := by
                  rw [ix_rowN _ _ hlt, ix_rowN _ _ hlt, ix_rowN _ _ hlt, ← E1.out, tm_sum f a b K3.out.symm (by rw [K3.out, K3'.out]) k1]
                  simp
                have b1' := bd1.1
                have b2' := bd1.2
                have b3' := bd2.1
                have b4' := bd2.2
                clear bd1 bd2
                go_wp2
                go_quiet ((go_at_call 10; exact quietW (R_Mod_any _ _ (by omega) (by omega))))
                clear hwr
                go_wp2
                go_roundw
                case rel => exact ⟨j + 1, by omega, by go_num, below_drewN hb6 _⟩
                case measure => simp [intOf]; omega
              · by_cases hn : m < len0 + 1
                · go_wp2
                  go_ret
                  exact ⟨rfl, hb7⟩
                · have hx6 := hx.below hb6
                  obtain ⟨g, o, rfl, _, _⟩ := hx6.at (k := 0) (by omega)
                  have hcp := hx6.le
                  have X1 := Lib.hid (hx6.cut (lo := 1) (hi := len0 + 1) (by omega) (by omega))
                  have HR : Hid (rowErr f (((rowN f a m).take (f.length + 1)).drop 1) ((m : Int) - 1) = none) := rowErr_of k1 k2 (by rw [List.length_drop, List.length_take, rowN_len, E3.out]; omega) k4 (tail_in f a k5 (by rw [E3.out]; omega)) (by omega) (by omega)
                  have X2 := Lib.hid (hx6.cut (lo := 1) (hi := m) (by omega) (Nat.le_refl _))
                  have T := Lib.hid (tail_row f a K3.out k1 (by rw [E3.out]; omega) : _ = (rowN f a m).drop 1)
                  clear hx hy hz hor
                  have e9 := Lib.hid (show ((m : Int) - 1).toNat = m - 1 from by omega)
                  have e8 := Lib.hid (Nat.add_sub_cancel len0 1)
                  have X3 : Hid (RdI wr (some ⟨g, o + 1, none⟩) len0 (capp - 1) (((rowN f a m).take (f.length + 1)).drop 1)) := by
                    have := X1.out
                    rw [e8.out] at this
                    rw [E3.out]
                    exact this
                  have hf6 := hf5.below hb6
                  have C9 := Row_ok hf6 X3.out HR.out
                  rw [e9.out] at C9
                  have C8 := Lib.hid C9
                  clear C9
                  go_wp2_with fail
                  refine C8.out.mono ?_
                  rintro e w8 ⟨r8, c8, rfl, ho8, hb8⟩
                  have C7 := Lib.hid (Ints_any ho8 (X2.out.below hb8))
                  go_wp2_with (go_at_call 11; (with_reducible refine C7.out.mono ?_); rintro e w9 ⟨rfl, hb9⟩)
                  go_ret
                  refine ⟨congrArg (fun b => Ending.returned (.bool b)) ?_, (hb7.trans (hb8.mono hb7.size)).trans (hb9.mono (Nat.le_trans hb7.size hb8.size))⟩
                  simp only [← List.drop_one]
                  rw [T.out, List.take_of_length_le (by rw [rowN_len]; exact Nat.le_refl _)]
                  simp
    · have H1 := Lib.hid h1
      have H2 := Lib.hid h2
      obtain ⟨g1, g2, g3⟩ := rowErr_none h1
      obtain ⟨m, rfl⟩ := Int.eq_ofNat_of_zero_le g2
      clear h1 h2 g1
      go_enter Try.func4, Try.ntmps4
      go_wp2_with (go_at_call 6; refine (recurFact_any _).mono ?_; rintro e w1 ⟨rfl, hb1⟩)
      go_wp2_with fail
      refine (Row_okN (hf.below hb1) (ha.below hb1) H1.out).mono ?_
      rintro e w2 ⟨p, capp, rfl, ho, hb2⟩
      go_wp2_with fail
      refine (Row_err ((hf.below hb1).below hb2) ((hb.below hb1).below hb2) H2.out).mono ?_
      rintro e w3 ⟨rfl, rfl⟩
      go_wp2
      go_ret
      exact ⟨rfl, hb1.trans (hb2.mono hb1.size)⟩
  · have H1 := Lib.hid h1
    clear h1
    go_enter Try.func4, Try.ntmps4
    go_wp2_with (go_at_call 6; refine (recurFact_any _).mono ?_; rintro e w1 ⟨rfl, hb1⟩)
    go_wp2_with fail
    refine (Row_err (hf.below hb1) (ha.below hb1) H1.out).mono ?_
    rintro e w2 ⟨rfl, rfl⟩
    go_wp2_with fail
    rcases h2 : rowErr f b many with _ | c2
    · obtain ⟨g1, g2, g3⟩ := rowErr_none h2
      obtain ⟨m, rfl⟩ := Int.eq_ofNat_of_zero_le g2
      refine (Row_okN (hf.below hb1) (hb.below hb1) h2).mono ?_
      rintro e w3 ⟨p, capp, rfl, ho, hb2⟩
      clear h2 g1
      go_wp2
      go_ret
      exact ⟨rfl, hb1.trans (hb2.mono hb1.size)⟩
    · refine (Row_err (hf.below hb1) (hb.below hb1) h2).mono ?_
      rintro e w3 ⟨rfl, rfl⟩
      clear h2
      go_wp2
      go_ret
      exact ⟨rfl, hb1⟩
end Go.Proofs.Ytcohkjppfalckaa
