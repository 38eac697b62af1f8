/-
  RecurPlaces walked: by steps or by powers a row's numbers are the same.
-/
import Derived.Test.YtcohkjppfalckaaRows
import Derived.Test.YtcohkjppfalckaaLib
import Derived.Test.YtcohkjppfalckaaRef
import Derived.Test.YtcohkjppfalckaaRecur
import Derived.Test.YtcohkjppfalckaaRecurFact
import Derived.Test.YtcohkjppfalckaaOpen
namespace Go.Proofs.Ytcohkjppfalckaa
open Go.RowKit Go.Rk

set_option maxHeartbeats 1000000 in
theorem recurPlaces_walk {a0 a1 : Option Addr} {len0 cap0 len1 cap1 : Nat} {f s : List Int} {many at_ : Int} {w : World} (hf : RdI w a0 len0 cap0 f) (_ : Fit f) (hs : RdI w a1 len1 cap1 s) (_ : Fit s)
    (_ : (Lit.int .i64 many).wf = true) (_ : (Lit.int .i64 at_).wf = true) :
    Calls Try.prog 3 #[.slice a0 len0 cap0, .slice a1 len1 cap1, .int .i64 many, .int .i64 at_] w fun e w' => e = .returned (.bool true) ∧ Below w.heap.size w w' := by
  rcases h : rowErr f s many with _ | c
  · obtain ⟨h1, h2, h3⟩ := rowErr_none h
    obtain ⟨m, rfl⟩ := Int.eq_ofNat_of_zero_le h2
    rcases hi : inB at_ 0 (m - 1)
    · have Hi := Lib.hid hi
      have H := Lib.hid h
      clear h hi h1 h2
      go_enter Try.func3, Try.ntmps3
      go_wp2_with (go_at_call 6; refine (recurFact_any _).mono ?_; rintro e w1 ⟨rfl, hb1⟩)
      go_wp2_with (go_at_call 7; refine (Row_okN (hf.below hb1) (hs.below hb1) H.out).mono ?_; rintro e w2 ⟨a, cap, rfl, ho, hb2⟩)
      go_wp2_with (go_at_call 8; refine (L3_in_any _ _ _ _).mono ?_; rintro e w' ⟨rfl, rfl⟩; rw [Hi.out])
      go_ret
      exact ⟨rfl, hb1.trans (hb2.mono hb1.size)⟩
    · have hi2 : 0 ≤ at_ ∧ at_ ≤ m - 1 := by unfold inB at hi; simp at hi; omega
      obtain ⟨k, rfl⟩ := Int.eq_ofNat_of_zero_le hi2.1
      have hk : k < m := by omega
      have Ht : Hid (rowErr f s k = none) := by
        unfold Hid rowErr
        rw [if_pos h1, if_neg]
        unfold outB
        simp
        omega
      have HE := Lib.hid (rowN_ix f s (k + 1) m k (by omega) (by omega))
      have Hi := Lib.hid hi
      have H := Lib.hid h
      clear h hi h1 h2 hi2
      go_enter Try.func3, Try.ntmps3
      go_wp2_with (go_at_call 6; refine (recurFact_any _).mono ?_; rintro e w1 ⟨rfl, hb1⟩)
      go_wp2_with (go_at_call 7; refine (Row_okN (hf.below hb1) (hs.below hb1) H.out).mono ?_; rintro e w2 ⟨a, cap, rfl, ho, hb2⟩)
      go_wp2_with (go_at_call 8; refine (L3_in_any _ _ _ _).mono ?_; rintro e w' ⟨rfl, rfl⟩; rw [Hi.out])
      go_wp2_with (go_at_call 9; refine (Term_okN ((hf.below hb1).below hb2) ((hs.below hb1).below hb2) Ht.out).mono ?_; rintro e w3 ⟨rfl, hb3⟩; obtain ⟨b, off, rfl, _, hc⟩ := (ho.rd.below hb3).at hk; have hc := hc k hk)
      go_ret
      refine ⟨congrArg (fun b => Ending.returned (.bool b)) ?_, (hb1.trans (hb2.mono hb1.size)).trans (hb3.mono (Nat.le_trans hb1.size hb2.size))⟩
      rw [HE.out]
      simp
  · have H := Lib.hid h
    clear h
    go_enter Try.func3, Try.ntmps3
    go_wp2_with (go_at_call 6; refine (recurFact_any _).mono ?_; rintro e w1 ⟨rfl, hb1⟩)
    go_wp2_with (go_at_call 7; refine (Row_err (hf.below hb1) (hs.below hb1) H.out).mono ?_; rintro e w' ⟨rfl, rfl⟩)
    go_ret
    exact ⟨rfl, hb1⟩
end Go.Proofs.Ytcohkjppfalckaa
