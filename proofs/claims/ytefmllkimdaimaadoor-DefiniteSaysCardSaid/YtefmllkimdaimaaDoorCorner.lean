/-
  The reference's Corner walked: the first rows' beginnings.
-/
import Derived.Test.YtefmllkimdaimaaDoorRows
import Derived.Test.YtefmllkimdaimaaDoorLib
import Derived.Test.YtefmllkimdaimaaDoorNum
import Derived.Test.YtefmllkimdaimaaDoorMatD
import Derived.Test.YtefmllkimdaimaaDoorElim
import Derived.Test.YtefmllkimdaimaaDoorAlias
import Derived.Test.YtefmllkimdaimaaDoorBareissOf
namespace Go.Proofs.YtefmllkimdaimaaDoor
open Go.RowKit Go.Rk

set_option maxHeartbeats 1000000 in
theorem M_Corner_any {a : Option Addr} {n cap k : Nat} {M : List (List Int)} {w : World} (h : RdM w a n cap M) (d : Dim n M) (hk : k ≤ n) (h5 : k ≤ 100) :
    Calls Tryd.prog 33 #[.slice a n cap, .int .i64 k] w fun e w' => ∃ a' c', e = .returned (.slice a' k c') ∧ AlM w w' 22 a' k c' (cornN M k k) := by
  have HMT := Lib.hid matTy
  have HD := Lib.hid d
  have hm := h.max
  have hle := h.le
  clear d
  go_enter Tryd.func33, Tryd.ntmps33
  go_wp2
  go_loopw [5, 6] (fun s v wv => ∃ (j : Nat) (ap : Option Addr) (cp : Nat), j ≤ k ∧ v = .int .i64 j ∧ s = .slice ap j cp ∧ AlM w wv 22 ap j cp (cornN M k j)) (fun _ v _ => k - (intOf v).toNat)
  case atStart => exact ⟨0, none, 0, by omega, rfl, rfl, AlM.nil _ (Below.refl _ _)⟩
  case round =>
    obtain ⟨j, ap, cp, hj, rfl, rfl, hal⟩ := hrel
    by_cases hjk : j < k
    · have j1 : (j : Int) < (k : Int) := by omega
      have j2 : (j : Int) < (n : Int) := by omega
      obtain ⟨b, off, rfl, hbl, hr⟩ := h.at (k := 0) (by omega)
      obtain ⟨ar, cr, hc, hrr⟩ := hr j (by omega)
      have hc2 := hal.bel.keep hbl hc
      have hrt := hrr.take (n := k) (by rw [HD.out.2 j (by omega)]; exact hk)
      rw [HD.out.2 j (by omega)] at hc2
      have hrl := hrr.le
      rw [HD.out.2 j (by omega)] at hrl
      have htl : ((rowOf M j).take k).length = k := by rw [List.length_take, HD.out.2 j (by omega)]; omega
      have HRT := Lib.hid hrt
      have HTL := Lib.hid htl
      have hcr : k ≤ cr := by omega
      have hcr2 := hrr.max
      clear hrt htl hc hrr hr
      go_wp2_with (first | (at_builtin; refine wpList_push_alias HMT.out rfl (.tmp 12) (.tmp 19) rfl rfl rfl (hal.alloc _) (ar := ar) (l := (rowOf M j).take k) (cr := cr) (by rw [HTL.out]; exact HRT.out) (by rw [HTL.out]; simp) (by omega) ?_; intro a4 cap4 w4 ho4))
      go_roundw
      case rel => exact ⟨j + 1, _, _, by omega, by go_num, rfl, by rw [cornN_succ (by rw [HD.out.1]; omega)]; exact ho4⟩
      case measure => simp [intOf]; omega
    · obtain rfl : j = k := by omega
      go_wp2
      go_ret
      exact ⟨ap, cp, rfl, hal⟩
end Go.Proofs.YtefmllkimdaimaaDoor
