/-
  The closed fact of the statements on forms.
-/
import Derived.Test.YtflojkifbdklnaaRows
import Derived.Test.YtflojkifbdklnaaLib
import Derived.Test.YtflojkifbdklnaaRef
import Derived.Test.YtflojkifbdklnaaTr
import Derived.Test.YtflojkifbdklnaaDefW
namespace Go.Proofs.Ytflojkifbdklnaa
open Go.RowKit Go.Rk

set_option maxHeartbeats 1000000 in
set_option maxRecDepth 100000 in
theorem definiteFact_any (w : World) : Calls Try.prog 29 #[] w fun e w' => e = .returned (.bool true) ∧ Below w.heap.size w w' := by
  go_enter Try.func29, Try.ntmps29
  go_wp2_with fail
  refine (definite_Is_ok (n := 2) (A := [[2, 1], [1, 2]]) (rd22 (p := w.heap.size) (q := w.heap.size + 1) ?_ ?_ ?_ ?_ ?_ ?_) (by decide)).mono ?main
  case main =>
    rintro e w1 ⟨rfl, hb⟩
    rw [show leadB [[2, 1], [1, 2]] 2 = true by decide]
    have b1 := below_tr (below_al (below_al (below_al (Below.refl _ w) _) _) _) hb
    clear hb
    go_wp2_with fail
    refine (definite_Is_ok (n := 2) (A := [[1, 2], [2, 1]]) (rd22 (p := w1.heap.size) (q := w1.heap.size + 1) ?_ ?_ ?_ ?_ ?_ ?_) (by decide)).mono ?main
    case main =>
      rintro e w2 ⟨rfl, hb⟩
      rw [show leadB [[1, 2], [2, 1]] 2 = false by decide]
      have b2 := below_tr b1 (below_tr (below_al (below_al (below_al (Below.refl _ w1) _) _) _) hb)
      clear hb b1
      go_wp2_with fail
      refine (definite_At_ok (n := 2) (m := 2) (A := [[1, 2], [2, 1]]) (x := [1, -1]) (rd22 (p := w2.heap.size) (q := w2.heap.size + 1) ?_ ?_ ?_ ?_ ?_ ?_) (rd2 ?_ ?_) (by decide)).mono ?main
      case main =>
        rintro e w3 ⟨rfl, hb⟩
        rw [show quad 2 (mx [[1, 2], [2, 1]]) (ix [1, -1]) = -2 by decide]
        have b3 := below_tr b2 (below_tr (below_al (below_al (below_al (below_al (Below.refl _ w2) _) _) _) _) hb)
        clear hb b2
        go_wp2
        go_ret
        exact ⟨rfl, b3⟩
      all_goals simp [go_sem]
    all_goals simp [go_sem]
  all_goals simp [go_sem]
end Go.Proofs.Ytflojkifbdklnaa
