/-
  A row of one number, laid. No program in sight.
-/
import Derived.Test.YtenfhjpaiaehjaaDoorLib
import Derived.Test.YtenfhjpaiaehjaaDoorMat
namespace Go.Rk
open Go.RowKit

theorem OwI.one (w : World) (z : Int) (E : TypeId) : OwI (w.alloc (.cells #[.int .i64 z] E)) w.heap.size E (some ⟨w.heap.size, 0, none⟩) 1 1 [z] :=
  ⟨rfl, ⟨by simp, .inr ⟨w.heap.size, 1, #[.int .i64 z], rfl, Nat.le_refl _, heap_alloc_new w _, Nat.le_refl _, by decide, rfl, by simp⟩⟩⟩
end Go.Rk
