/-
  A row of a matrix, read at once. No program in sight.
-/
import Derived.Test.YtfocfgddlnjfmaaLib
import Derived.Test.YtfocfgddlnjfmaaMat
import Derived.Test.YtfocfgddlnjfmaaRect
namespace Go.Rk
open Go.RowKit

/-- A row of a matrix, read at once. -/
theorem RdM.rowIn {w : World} {a : Option Addr} {n c cap : Nat} {M : List (List Int)} (h : RdM w a n cap M) (d : Dm n c M) {k : Nat} (hk : k < n) :
    ∃ b off, a = some ⟨b, off, none⟩ ∧ ∃ ar cr, w.cell? ⟨b, off + k, none⟩ = some (.slice ar c cr) ∧ RdI w ar c cr (rowOf M k) := by
  obtain ⟨b, off, rfl, _, hr⟩ := h.at hk
  obtain ⟨ar, cr, hc, hrd⟩ := hr k hk
  rw [d.2 k hk] at hc hrd
  exact ⟨b, off, rfl, ar, cr, hc, hrd⟩

end Go.Rk
