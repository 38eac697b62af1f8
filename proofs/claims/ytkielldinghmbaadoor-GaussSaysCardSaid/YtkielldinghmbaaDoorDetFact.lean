/-
  The closed fact of the statements on determinants.
-/
import Derived.Test.YtkielldinghmbaaDoorRows
import Derived.Test.YtkielldinghmbaaDoorLib
import Derived.Test.YtkielldinghmbaaDoorDetOf
import Derived.Test.YtkielldinghmbaaDoorSign
namespace Go.Proofs.YtkielldinghmbaaDoor
open Go.RowKit Go.Rk

end Go.Proofs.YtkielldinghmbaaDoor
