/-
  mat.Turn walked: the transpose.
-/
import Derived.Test.YtfocfgddlnjfmaaRows
import Derived.Test.YtfocfgddlnjfmaaLib
import Derived.Test.YtfocfgddlnjfmaaNum
import Derived.Test.YtfocfgddlnjfmaaDetW
import Derived.Test.YtfocfgddlnjfmaaEach
import Derived.Test.YtfocfgddlnjfmaaRect
import Derived.Test.YtfocfgddlnjfmaaRound
import Derived.StillTailTactics
import Derived.Deep.QuietTactic
import Derived.BigQuiet
namespace Go.Proofs.Ytfocfgddlnjfmaa
open Go.RowKit Go.Shelf Go.Rk
attribute [local go_sem] Oper.semAt_some

end Go.Proofs.Ytfocfgddlnjfmaa
