/-
  The closed fact of the statements on determinants.
-/
import Derived.Test.YtfocfgddlnjfmaaRows
import Derived.Test.YtfocfgddlnjfmaaLib
import Derived.Test.YtfocfgddlnjfmaaDetOf
import Derived.Test.YtfocfgddlnjfmaaSign
namespace Go.Proofs.Ytfocfgddlnjfmaa
open Go.RowKit Go.Rk

end Go.Proofs.Ytfocfgddlnjfmaa
