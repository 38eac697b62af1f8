/-
  NARROWER THAN 'FOR EVERY INPUT', by the rows' own cells (each row's printed sentence says how): MatSays: laid · GaussSays: laid · LuSays: laid · DetSays: laid · MinorsSays: laid · MinorsLaplace: laid · SolveSays: laid · SolveAll: laid · InvSays: laid · InvMul: laid · InvChange: laid · InvBack: laid · TopRank: laid.
  DERIVED. THE GIVEN ROWS OF THIS SEAT. 13 by the template 'for every input the law returns true; each argument reads behind the call as it read before'; 0 by the template 'total and deterministic' (their statements: YtkielldinghmbaaDoorTotals.lean).
  GIVEN WITH THE SEED: the statements are not yours to turn. If you find one false, say at which input.
  Laid BY PROGRAM, IN A SANDBOX (cutbox-rows.mjs): the forced cells as the released guide's own fill.sh prints them over the translation 35c6edf200210a43… (all of the seat's roots in one cut). By AI agents, Wed Nov 11 2026. No macro, syntax, notation, axiom, sorry.
-/
import Derived.Test.YtkielldinghmbaaDoorChecked
import GoSem.Claim
import GoSem.ClaimJoined
import GoSem.ClaimMapViews
import Derived.JoinedTies
import Derived.KernelRfl
namespace Go.Proofs.YtkielldinghmbaaDoor
/- THE CELL 'sum', in the pinned program and in every row, IS THE sha256 OF THE DUMP (.gsa) THAT YtkielldinghmbaaDoorProg.lean LOADS. Nothing in Lean hashes anything: it is a label: what it is worth is what the hold of that sum in a sandbox is worth. -/
noncomputable def Tryd.pinned : Pinned := { name := "ytkielldinghmbaadoor", sum := "35c6edf200210a431b5d1f377cd768095df918d663a44d05cd7a1a3225d06223", checked := Tryd.checked }
namespace Rows
def none {H : Type} : Left H := { results := [], args := [] }

/- WHAT THE LISTED PACKAGE-LEVEL VARIABLES READ AS WHEN THE CALL BEGINS. Each datum BY PROGRAM (the guide's laid-datum.mjs) off the statement by which the dump's own 'gosem.cut.vars' lays the variable. In a bare row this is a premise. The card (YtkielldinghmbaaDoorCards.lean) ties it to the program's text. -/
def laid_errors_errorType {H : Type} : DataW H := .iface "internal/reflectlite.rtype" (.agg [.ptr (.lit (.string [101, 114, 114, 111, 114]))])

/-- 'rankmerelaw2.MatSays': WHATEVER THE INPUT: true; the input reads as it did. -/
def matSaysSpec : ChangeSpec := { name := "matSays", fn := fun _ => fun
  | [d1, d2, d3] => { results := [.lit (.bool true)], args := [d1, d2, d3] }
  | _ => none }
def matSaysRow : OpenClaim := { program := "ytkielldinghmbaadoor", sum := "35c6edf200210a431b5d1f377cd768095df918d663a44d05cd7a1a3225d06223", func := "rankmere/rankmerelaw2.MatSays", spec := "matSays", inPlace := ["internal/reflectlite.ValueOf", "(internal/reflectlite.Value).Type", "(internal/reflectlite.Value).IsNil", "internal/reflectlite.TypeOf", "(internal/reflectlite.Value).Elem", "(internal/reflectlite.Value).Set"], unfollowed := true, recurses := true, named := ["errors.errorType"], apart := false, laid := [("errors.errorType", laid_errors_errorType)] }
def MatSaysSaid : Prop := matSaysRow.holds Tryd.pinned (OpenSpec.ofChange matSaysSpec)

/-- ITS FALSE NEIGHBOUR: 'it returns false'. Refute it at one input. -/
def matSaysWrong : ChangeSpec := { name := "matSays", fn := fun _ => fun
  | [d1, d2, d3] => { results := [.lit (.bool false)], args := [d1, d2, d3] }
  | _ => none }
def MatSaysWrongFalsely : Prop := matSaysRow.holds Tryd.pinned (OpenSpec.ofChange matSaysWrong)

/-- 'rankmerelaw2.GaussSays': WHATEVER THE INPUT: true; the input reads as it did. -/
def gaussSaysSpec : ChangeSpec := { name := "gaussSays", fn := fun _ => fun
  | [d] => { results := [.lit (.bool true)], args := [d] }
  | _ => none }
def gaussSaysRow : OpenClaim := { program := "ytkielldinghmbaadoor", sum := "35c6edf200210a431b5d1f377cd768095df918d663a44d05cd7a1a3225d06223", func := "rankmere/rankmerelaw2.GaussSays", spec := "gaussSays", inPlace := ["internal/reflectlite.ValueOf", "(internal/reflectlite.Value).Type", "(internal/reflectlite.Value).IsNil", "internal/reflectlite.TypeOf", "(internal/reflectlite.Value).Elem", "(internal/reflectlite.Value).Set"], unfollowed := true, recurses := true, named := ["errors.errorType"], apart := false, laid := [("errors.errorType", laid_errors_errorType)] }
def GaussSaysSaid : Prop := gaussSaysRow.holds Tryd.pinned (OpenSpec.ofChange gaussSaysSpec)

/-- ITS FALSE NEIGHBOUR: 'it returns false'. Refute it at one input. -/
def gaussSaysWrong : ChangeSpec := { name := "gaussSays", fn := fun _ => fun
  | [d] => { results := [.lit (.bool false)], args := [d] }
  | _ => none }
def GaussSaysWrongFalsely : Prop := gaussSaysRow.holds Tryd.pinned (OpenSpec.ofChange gaussSaysWrong)

/-- 'rankmerelaw2.LuSays': WHATEVER THE INPUT: true; the input reads as it did. -/
def luSaysSpec : ChangeSpec := { name := "luSays", fn := fun _ => fun
  | [d] => { results := [.lit (.bool true)], args := [d] }
  | _ => none }
def luSaysRow : OpenClaim := { program := "ytkielldinghmbaadoor", sum := "35c6edf200210a431b5d1f377cd768095df918d663a44d05cd7a1a3225d06223", func := "rankmere/rankmerelaw2.LuSays", spec := "luSays", inPlace := ["internal/reflectlite.ValueOf", "(internal/reflectlite.Value).Type", "(internal/reflectlite.Value).IsNil", "internal/reflectlite.TypeOf", "(internal/reflectlite.Value).Elem", "(internal/reflectlite.Value).Set"], unfollowed := true, recurses := true, named := ["errors.errorType"], apart := false, laid := [("errors.errorType", laid_errors_errorType)] }
def LuSaysSaid : Prop := luSaysRow.holds Tryd.pinned (OpenSpec.ofChange luSaysSpec)

/-- ITS FALSE NEIGHBOUR: 'it returns false'. Refute it at one input. -/
def luSaysWrong : ChangeSpec := { name := "luSays", fn := fun _ => fun
  | [d] => { results := [.lit (.bool false)], args := [d] }
  | _ => none }
def LuSaysWrongFalsely : Prop := luSaysRow.holds Tryd.pinned (OpenSpec.ofChange luSaysWrong)

/-- 'rankmerelaw2.DetSays': WHATEVER THE INPUT: true; the input reads as it did. -/
def detSaysSpec : ChangeSpec := { name := "detSays", fn := fun _ => fun
  | [d1, d2] => { results := [.lit (.bool true)], args := [d1, d2] }
  | _ => none }
def detSaysRow : OpenClaim := { program := "ytkielldinghmbaadoor", sum := "35c6edf200210a431b5d1f377cd768095df918d663a44d05cd7a1a3225d06223", func := "rankmere/rankmerelaw2.DetSays", spec := "detSays", inPlace := ["internal/reflectlite.ValueOf", "(internal/reflectlite.Value).Type", "(internal/reflectlite.Value).IsNil", "internal/reflectlite.TypeOf", "(internal/reflectlite.Value).Elem", "(internal/reflectlite.Value).Set"], unfollowed := true, recurses := true, named := ["errors.errorType"], apart := false, laid := [("errors.errorType", laid_errors_errorType)] }
def DetSaysSaid : Prop := detSaysRow.holds Tryd.pinned (OpenSpec.ofChange detSaysSpec)

/-- ITS FALSE NEIGHBOUR: 'it returns false'. Refute it at one input. -/
def detSaysWrong : ChangeSpec := { name := "detSays", fn := fun _ => fun
  | [d1, d2] => { results := [.lit (.bool false)], args := [d1, d2] }
  | _ => none }
def DetSaysWrongFalsely : Prop := detSaysRow.holds Tryd.pinned (OpenSpec.ofChange detSaysWrong)

/-- 'rankmerelaw2.MinorsSays': WHATEVER THE INPUT: true; the input reads as it did. -/
def minorsSaysSpec : ChangeSpec := { name := "minorsSays", fn := fun _ => fun
  | [d1, d2, d3] => { results := [.lit (.bool true)], args := [d1, d2, d3] }
  | _ => none }
def minorsSaysRow : OpenClaim := { program := "ytkielldinghmbaadoor", sum := "35c6edf200210a431b5d1f377cd768095df918d663a44d05cd7a1a3225d06223", func := "rankmere/rankmerelaw2.MinorsSays", spec := "minorsSays", inPlace := ["internal/reflectlite.ValueOf", "(internal/reflectlite.Value).Type", "(internal/reflectlite.Value).IsNil", "internal/reflectlite.TypeOf", "(internal/reflectlite.Value).Elem", "(internal/reflectlite.Value).Set"], unfollowed := true, recurses := true, named := ["errors.errorType"], apart := false, laid := [("errors.errorType", laid_errors_errorType)] }
def MinorsSaysSaid : Prop := minorsSaysRow.holds Tryd.pinned (OpenSpec.ofChange minorsSaysSpec)

/-- ITS FALSE NEIGHBOUR: 'it returns false'. Refute it at one input. -/
def minorsSaysWrong : ChangeSpec := { name := "minorsSays", fn := fun _ => fun
  | [d1, d2, d3] => { results := [.lit (.bool false)], args := [d1, d2, d3] }
  | _ => none }
def MinorsSaysWrongFalsely : Prop := minorsSaysRow.holds Tryd.pinned (OpenSpec.ofChange minorsSaysWrong)

/-- 'rankmerelaw2.MinorsLaplace': WHATEVER THE INPUT: true; the input reads as it did. -/
def minorsLaplaceSpec : ChangeSpec := { name := "minorsLaplace", fn := fun _ => fun
  | [d1, d2, d3] => { results := [.lit (.bool true)], args := [d1, d2, d3] }
  | _ => none }
def minorsLaplaceRow : OpenClaim := { program := "ytkielldinghmbaadoor", sum := "35c6edf200210a431b5d1f377cd768095df918d663a44d05cd7a1a3225d06223", func := "rankmere/rankmerelaw2.MinorsLaplace", spec := "minorsLaplace", inPlace := ["internal/reflectlite.ValueOf", "(internal/reflectlite.Value).Type", "(internal/reflectlite.Value).IsNil", "internal/reflectlite.TypeOf", "(internal/reflectlite.Value).Elem", "(internal/reflectlite.Value).Set"], unfollowed := true, recurses := true, named := ["errors.errorType"], apart := false, laid := [("errors.errorType", laid_errors_errorType)] }
def MinorsLaplaceSaid : Prop := minorsLaplaceRow.holds Tryd.pinned (OpenSpec.ofChange minorsLaplaceSpec)

/-- ITS FALSE NEIGHBOUR: 'it returns false'. Refute it at one input. -/
def minorsLaplaceWrong : ChangeSpec := { name := "minorsLaplace", fn := fun _ => fun
  | [d1, d2, d3] => { results := [.lit (.bool false)], args := [d1, d2, d3] }
  | _ => none }
def MinorsLaplaceWrongFalsely : Prop := minorsLaplaceRow.holds Tryd.pinned (OpenSpec.ofChange minorsLaplaceWrong)

/-- 'rankmerelaw2.SolveSays': WHATEVER THE INPUT: true; the input reads as it did. -/
def solveSaysSpec : ChangeSpec := { name := "solveSays", fn := fun _ => fun
  | [d1, d2] => { results := [.lit (.bool true)], args := [d1, d2] }
  | _ => none }
def solveSaysRow : OpenClaim := { program := "ytkielldinghmbaadoor", sum := "35c6edf200210a431b5d1f377cd768095df918d663a44d05cd7a1a3225d06223", func := "rankmere/rankmerelaw2.SolveSays", spec := "solveSays", inPlace := ["internal/reflectlite.ValueOf", "(internal/reflectlite.Value).Type", "(internal/reflectlite.Value).IsNil", "internal/reflectlite.TypeOf", "(internal/reflectlite.Value).Elem", "(internal/reflectlite.Value).Set"], unfollowed := true, recurses := true, named := ["errors.errorType"], apart := false, laid := [("errors.errorType", laid_errors_errorType)] }
def SolveSaysSaid : Prop := solveSaysRow.holds Tryd.pinned (OpenSpec.ofChange solveSaysSpec)

/-- ITS FALSE NEIGHBOUR: 'it returns false'. Refute it at one input. -/
def solveSaysWrong : ChangeSpec := { name := "solveSays", fn := fun _ => fun
  | [d1, d2] => { results := [.lit (.bool false)], args := [d1, d2] }
  | _ => none }
def SolveSaysWrongFalsely : Prop := solveSaysRow.holds Tryd.pinned (OpenSpec.ofChange solveSaysWrong)

/-- 'rankmerelaw2.SolveAll': WHATEVER THE INPUT: true; the input reads as it did. -/
def solveAllSpec : ChangeSpec := { name := "solveAll", fn := fun _ => fun
  | [d1, d2] => { results := [.lit (.bool true)], args := [d1, d2] }
  | _ => none }
def solveAllRow : OpenClaim := { program := "ytkielldinghmbaadoor", sum := "35c6edf200210a431b5d1f377cd768095df918d663a44d05cd7a1a3225d06223", func := "rankmere/rankmerelaw2.SolveAll", spec := "solveAll", inPlace := ["internal/reflectlite.ValueOf", "(internal/reflectlite.Value).Type", "(internal/reflectlite.Value).IsNil", "internal/reflectlite.TypeOf", "(internal/reflectlite.Value).Elem", "(internal/reflectlite.Value).Set"], unfollowed := true, recurses := true, named := ["errors.errorType"], apart := false, laid := [("errors.errorType", laid_errors_errorType)] }
def SolveAllSaid : Prop := solveAllRow.holds Tryd.pinned (OpenSpec.ofChange solveAllSpec)

/-- ITS FALSE NEIGHBOUR: 'it returns false'. Refute it at one input. -/
def solveAllWrong : ChangeSpec := { name := "solveAll", fn := fun _ => fun
  | [d1, d2] => { results := [.lit (.bool false)], args := [d1, d2] }
  | _ => none }
def SolveAllWrongFalsely : Prop := solveAllRow.holds Tryd.pinned (OpenSpec.ofChange solveAllWrong)

/-- 'rankmerelaw2.InvSays': WHATEVER THE INPUT: true; the input reads as it did. -/
def invSaysSpec : ChangeSpec := { name := "invSays", fn := fun _ => fun
  | [d1, d2, d3] => { results := [.lit (.bool true)], args := [d1, d2, d3] }
  | _ => none }
def invSaysRow : OpenClaim := { program := "ytkielldinghmbaadoor", sum := "35c6edf200210a431b5d1f377cd768095df918d663a44d05cd7a1a3225d06223", func := "rankmere/rankmerelaw2.InvSays", spec := "invSays", inPlace := ["internal/reflectlite.ValueOf", "(internal/reflectlite.Value).Type", "(internal/reflectlite.Value).IsNil", "internal/reflectlite.TypeOf", "(internal/reflectlite.Value).Elem", "(internal/reflectlite.Value).Set"], unfollowed := true, recurses := true, named := ["errors.errorType"], apart := false, laid := [("errors.errorType", laid_errors_errorType)] }
def InvSaysSaid : Prop := invSaysRow.holds Tryd.pinned (OpenSpec.ofChange invSaysSpec)

/-- ITS FALSE NEIGHBOUR: 'it returns false'. Refute it at one input. -/
def invSaysWrong : ChangeSpec := { name := "invSays", fn := fun _ => fun
  | [d1, d2, d3] => { results := [.lit (.bool false)], args := [d1, d2, d3] }
  | _ => none }
def InvSaysWrongFalsely : Prop := invSaysRow.holds Tryd.pinned (OpenSpec.ofChange invSaysWrong)

/-- 'rankmerelaw2.InvMul': WHATEVER THE INPUT: true; the input reads as it did. -/
def invMulSpec : ChangeSpec := { name := "invMul", fn := fun _ => fun
  | [d1, d2] => { results := [.lit (.bool true)], args := [d1, d2] }
  | _ => none }
def invMulRow : OpenClaim := { program := "ytkielldinghmbaadoor", sum := "35c6edf200210a431b5d1f377cd768095df918d663a44d05cd7a1a3225d06223", func := "rankmere/rankmerelaw2.InvMul", spec := "invMul", inPlace := ["internal/reflectlite.ValueOf", "(internal/reflectlite.Value).Type", "(internal/reflectlite.Value).IsNil", "internal/reflectlite.TypeOf", "(internal/reflectlite.Value).Elem", "(internal/reflectlite.Value).Set"], unfollowed := true, recurses := true, named := ["errors.errorType"], apart := false, laid := [("errors.errorType", laid_errors_errorType)] }
def InvMulSaid : Prop := invMulRow.holds Tryd.pinned (OpenSpec.ofChange invMulSpec)

/-- ITS FALSE NEIGHBOUR: 'it returns false'. Refute it at one input. -/
def invMulWrong : ChangeSpec := { name := "invMul", fn := fun _ => fun
  | [d1, d2] => { results := [.lit (.bool false)], args := [d1, d2] }
  | _ => none }
def InvMulWrongFalsely : Prop := invMulRow.holds Tryd.pinned (OpenSpec.ofChange invMulWrong)

/-- 'rankmerelaw2.InvChange': WHATEVER THE INPUT: true; the input reads as it did. -/
def invChangeSpec : ChangeSpec := { name := "invChange", fn := fun _ => fun
  | [d1, d2, d3] => { results := [.lit (.bool true)], args := [d1, d2, d3] }
  | _ => none }
def invChangeRow : OpenClaim := { program := "ytkielldinghmbaadoor", sum := "35c6edf200210a431b5d1f377cd768095df918d663a44d05cd7a1a3225d06223", func := "rankmere/rankmerelaw2.InvChange", spec := "invChange", inPlace := ["internal/reflectlite.ValueOf", "(internal/reflectlite.Value).Type", "(internal/reflectlite.Value).IsNil", "internal/reflectlite.TypeOf", "(internal/reflectlite.Value).Elem", "(internal/reflectlite.Value).Set"], unfollowed := true, recurses := true, named := ["errors.errorType"], apart := false, laid := [("errors.errorType", laid_errors_errorType)] }
def InvChangeSaid : Prop := invChangeRow.holds Tryd.pinned (OpenSpec.ofChange invChangeSpec)

/-- ITS FALSE NEIGHBOUR: 'it returns false'. Refute it at one input. -/
def invChangeWrong : ChangeSpec := { name := "invChange", fn := fun _ => fun
  | [d1, d2, d3] => { results := [.lit (.bool false)], args := [d1, d2, d3] }
  | _ => none }
def InvChangeWrongFalsely : Prop := invChangeRow.holds Tryd.pinned (OpenSpec.ofChange invChangeWrong)

/-- 'rankmerelaw2.InvBack': WHATEVER THE INPUT: true; the input reads as it did. -/
def invBackSpec : ChangeSpec := { name := "invBack", fn := fun _ => fun
  | [d] => { results := [.lit (.bool true)], args := [d] }
  | _ => none }
def invBackRow : OpenClaim := { program := "ytkielldinghmbaadoor", sum := "35c6edf200210a431b5d1f377cd768095df918d663a44d05cd7a1a3225d06223", func := "rankmere/rankmerelaw2.InvBack", spec := "invBack", inPlace := ["internal/reflectlite.ValueOf", "(internal/reflectlite.Value).Type", "(internal/reflectlite.Value).IsNil", "internal/reflectlite.TypeOf", "(internal/reflectlite.Value).Elem", "(internal/reflectlite.Value).Set"], unfollowed := true, recurses := true, named := ["errors.errorType"], apart := false, laid := [("errors.errorType", laid_errors_errorType)] }
def InvBackSaid : Prop := invBackRow.holds Tryd.pinned (OpenSpec.ofChange invBackSpec)

/-- ITS FALSE NEIGHBOUR: 'it returns false'. Refute it at one input. -/
def invBackWrong : ChangeSpec := { name := "invBack", fn := fun _ => fun
  | [d] => { results := [.lit (.bool false)], args := [d] }
  | _ => none }
def InvBackWrongFalsely : Prop := invBackRow.holds Tryd.pinned (OpenSpec.ofChange invBackWrong)

/-- 'rankmeretop.TopRank': WHATEVER THE INPUT: true; the input reads as it did. -/
def topRankSpec : ChangeSpec := { name := "topRank", fn := fun _ => fun
  | [d] => { results := [.lit (.bool true)], args := [d] }
  | _ => none }
def topRankRow : OpenClaim := { program := "ytkielldinghmbaadoor", sum := "35c6edf200210a431b5d1f377cd768095df918d663a44d05cd7a1a3225d06223", func := "rankmere/rankmeretop.TopRank", spec := "topRank", inPlace := ["internal/reflectlite.ValueOf", "(internal/reflectlite.Value).Type", "(internal/reflectlite.Value).IsNil", "internal/reflectlite.TypeOf", "(internal/reflectlite.Value).Elem", "(internal/reflectlite.Value).Set"], unfollowed := true, recurses := true, named := ["errors.errorType"], apart := false, laid := [("errors.errorType", laid_errors_errorType)] }
def TopRankSaid : Prop := topRankRow.holds Tryd.pinned (OpenSpec.ofChange topRankSpec)

/-- ITS FALSE NEIGHBOUR: 'it returns false'. Refute it at one input. -/
def topRankWrong : ChangeSpec := { name := "topRank", fn := fun _ => fun
  | [d] => { results := [.lit (.bool false)], args := [d] }
  | _ => none }
def TopRankWrongFalsely : Prop := topRankRow.holds Tryd.pinned (OpenSpec.ofChange topRankWrong)

/- THE SECOND FORM. 'bulk': how many values and letters a reading holds, each counted each time it is reached (what is shared counts as often as it is met; a slice's spare places count too). A statement '..UptoSaid' is the law's where the arguments, and the package variables that the reading takes, are together of bulk at most 1048576: NARROWER than '..Said'. Prove '..Said' where nothing that the law and all that it calls make is longer than what came in: it says more and counts as full. Else prove '..UptoSaid'. A law counts once. -/
mutual
def uptoBulk {H : Type} : DataW H → Nat
  | .lit (.string bytes) => bytes.length + 1
  | .lit _ => 1
  | .nil => 1
  | .ptr d => uptoBulk d + 1
  | .slice elems spare => uptoBulkAll elems + uptoBulkAll spare + 1
  | .agg parts => uptoBulkAll parts + 1
  | .iface _ d => uptoBulk d + 1
  | .map entries => uptoBulkEntries entries + 1
  | .held _ => 1
def uptoBulkAll {H : Type} : List (DataW H) → Nat
  | [] => 0
  | d :: r => uptoBulk d + uptoBulkAll r
def uptoBulkEntries {H : Type} : List (Lit × DataW H) → Nat
  | [] => 0
  | x :: r => uptoBulkEntry x + uptoBulkEntries r
def uptoBulkEntry {H : Type} : Lit × DataW H → Nat
  | (.string bytes, d) => bytes.length + uptoBulk d + 1
  | (_, d) => uptoBulk d + 1
 end
def uptoSmall : (H : Type) → List (DataW H) → Bool := fun _ ds => decide (uptoBulkAll ds ≤ 1048576)
def OpenSpec.upto (s : _root_.Go.ChangeSpec) : _root_.Go.OpenSpec := { _root_.Go.OpenSpec.ofChange s with cond := some uptoSmall }

/-- 'rankmerelaw2.MatSays', WHERE WHAT IT READS IS OF BULK AT MOST 1048576: true; the input reads as it did. -/
def matSaysUptoRow : OpenClaim := { program := "ytkielldinghmbaadoor", sum := "35c6edf200210a431b5d1f377cd768095df918d663a44d05cd7a1a3225d06223", func := "rankmere/rankmerelaw2.MatSays", spec := "matSays", inPlace := ["internal/reflectlite.ValueOf", "(internal/reflectlite.Value).Type", "(internal/reflectlite.Value).IsNil", "internal/reflectlite.TypeOf", "(internal/reflectlite.Value).Elem", "(internal/reflectlite.Value).Set"], unfollowed := true, recurses := true, named := ["errors.errorType"], apart := false, laid := [("errors.errorType", laid_errors_errorType)], narrowed := true }
def MatSaysUptoSaid : Prop := matSaysUptoRow.holds Tryd.pinned (OpenSpec.upto matSaysSpec)

/-- 'rankmerelaw2.GaussSays', WHERE WHAT IT READS IS OF BULK AT MOST 1048576: true; the input reads as it did. -/
def gaussSaysUptoRow : OpenClaim := { program := "ytkielldinghmbaadoor", sum := "35c6edf200210a431b5d1f377cd768095df918d663a44d05cd7a1a3225d06223", func := "rankmere/rankmerelaw2.GaussSays", spec := "gaussSays", inPlace := ["internal/reflectlite.ValueOf", "(internal/reflectlite.Value).Type", "(internal/reflectlite.Value).IsNil", "internal/reflectlite.TypeOf", "(internal/reflectlite.Value).Elem", "(internal/reflectlite.Value).Set"], unfollowed := true, recurses := true, named := ["errors.errorType"], apart := false, laid := [("errors.errorType", laid_errors_errorType)], narrowed := true }
def GaussSaysUptoSaid : Prop := gaussSaysUptoRow.holds Tryd.pinned (OpenSpec.upto gaussSaysSpec)

/-- 'rankmerelaw2.LuSays', WHERE WHAT IT READS IS OF BULK AT MOST 1048576: true; the input reads as it did. -/
def luSaysUptoRow : OpenClaim := { program := "ytkielldinghmbaadoor", sum := "35c6edf200210a431b5d1f377cd768095df918d663a44d05cd7a1a3225d06223", func := "rankmere/rankmerelaw2.LuSays", spec := "luSays", inPlace := ["internal/reflectlite.ValueOf", "(internal/reflectlite.Value).Type", "(internal/reflectlite.Value).IsNil", "internal/reflectlite.TypeOf", "(internal/reflectlite.Value).Elem", "(internal/reflectlite.Value).Set"], unfollowed := true, recurses := true, named := ["errors.errorType"], apart := false, laid := [("errors.errorType", laid_errors_errorType)], narrowed := true }
def LuSaysUptoSaid : Prop := luSaysUptoRow.holds Tryd.pinned (OpenSpec.upto luSaysSpec)

/-- 'rankmerelaw2.DetSays', WHERE WHAT IT READS IS OF BULK AT MOST 1048576: true; the input reads as it did. -/
def detSaysUptoRow : OpenClaim := { program := "ytkielldinghmbaadoor", sum := "35c6edf200210a431b5d1f377cd768095df918d663a44d05cd7a1a3225d06223", func := "rankmere/rankmerelaw2.DetSays", spec := "detSays", inPlace := ["internal/reflectlite.ValueOf", "(internal/reflectlite.Value).Type", "(internal/reflectlite.Value).IsNil", "internal/reflectlite.TypeOf", "(internal/reflectlite.Value).Elem", "(internal/reflectlite.Value).Set"], unfollowed := true, recurses := true, named := ["errors.errorType"], apart := false, laid := [("errors.errorType", laid_errors_errorType)], narrowed := true }
def DetSaysUptoSaid : Prop := detSaysUptoRow.holds Tryd.pinned (OpenSpec.upto detSaysSpec)

/-- 'rankmerelaw2.MinorsSays', WHERE WHAT IT READS IS OF BULK AT MOST 1048576: true; the input reads as it did. -/
def minorsSaysUptoRow : OpenClaim := { program := "ytkielldinghmbaadoor", sum := "35c6edf200210a431b5d1f377cd768095df918d663a44d05cd7a1a3225d06223", func := "rankmere/rankmerelaw2.MinorsSays", spec := "minorsSays", inPlace := ["internal/reflectlite.ValueOf", "(internal/reflectlite.Value).Type", "(internal/reflectlite.Value).IsNil", "internal/reflectlite.TypeOf", "(internal/reflectlite.Value).Elem", "(internal/reflectlite.Value).Set"], unfollowed := true, recurses := true, named := ["errors.errorType"], apart := false, laid := [("errors.errorType", laid_errors_errorType)], narrowed := true }
def MinorsSaysUptoSaid : Prop := minorsSaysUptoRow.holds Tryd.pinned (OpenSpec.upto minorsSaysSpec)

/-- 'rankmerelaw2.MinorsLaplace', WHERE WHAT IT READS IS OF BULK AT MOST 1048576: true; the input reads as it did. -/
def minorsLaplaceUptoRow : OpenClaim := { program := "ytkielldinghmbaadoor", sum := "35c6edf200210a431b5d1f377cd768095df918d663a44d05cd7a1a3225d06223", func := "rankmere/rankmerelaw2.MinorsLaplace", spec := "minorsLaplace", inPlace := ["internal/reflectlite.ValueOf", "(internal/reflectlite.Value).Type", "(internal/reflectlite.Value).IsNil", "internal/reflectlite.TypeOf", "(internal/reflectlite.Value).Elem", "(internal/reflectlite.Value).Set"], unfollowed := true, recurses := true, named := ["errors.errorType"], apart := false, laid := [("errors.errorType", laid_errors_errorType)], narrowed := true }
def MinorsLaplaceUptoSaid : Prop := minorsLaplaceUptoRow.holds Tryd.pinned (OpenSpec.upto minorsLaplaceSpec)

/-- 'rankmerelaw2.SolveSays', WHERE WHAT IT READS IS OF BULK AT MOST 1048576: true; the input reads as it did. -/
def solveSaysUptoRow : OpenClaim := { program := "ytkielldinghmbaadoor", sum := "35c6edf200210a431b5d1f377cd768095df918d663a44d05cd7a1a3225d06223", func := "rankmere/rankmerelaw2.SolveSays", spec := "solveSays", inPlace := ["internal/reflectlite.ValueOf", "(internal/reflectlite.Value).Type", "(internal/reflectlite.Value).IsNil", "internal/reflectlite.TypeOf", "(internal/reflectlite.Value).Elem", "(internal/reflectlite.Value).Set"], unfollowed := true, recurses := true, named := ["errors.errorType"], apart := false, laid := [("errors.errorType", laid_errors_errorType)], narrowed := true }
def SolveSaysUptoSaid : Prop := solveSaysUptoRow.holds Tryd.pinned (OpenSpec.upto solveSaysSpec)

/-- 'rankmerelaw2.SolveAll', WHERE WHAT IT READS IS OF BULK AT MOST 1048576: true; the input reads as it did. -/
def solveAllUptoRow : OpenClaim := { program := "ytkielldinghmbaadoor", sum := "35c6edf200210a431b5d1f377cd768095df918d663a44d05cd7a1a3225d06223", func := "rankmere/rankmerelaw2.SolveAll", spec := "solveAll", inPlace := ["internal/reflectlite.ValueOf", "(internal/reflectlite.Value).Type", "(internal/reflectlite.Value).IsNil", "internal/reflectlite.TypeOf", "(internal/reflectlite.Value).Elem", "(internal/reflectlite.Value).Set"], unfollowed := true, recurses := true, named := ["errors.errorType"], apart := false, laid := [("errors.errorType", laid_errors_errorType)], narrowed := true }
def SolveAllUptoSaid : Prop := solveAllUptoRow.holds Tryd.pinned (OpenSpec.upto solveAllSpec)

/-- 'rankmerelaw2.InvSays', WHERE WHAT IT READS IS OF BULK AT MOST 1048576: true; the input reads as it did. -/
def invSaysUptoRow : OpenClaim := { program := "ytkielldinghmbaadoor", sum := "35c6edf200210a431b5d1f377cd768095df918d663a44d05cd7a1a3225d06223", func := "rankmere/rankmerelaw2.InvSays", spec := "invSays", inPlace := ["internal/reflectlite.ValueOf", "(internal/reflectlite.Value).Type", "(internal/reflectlite.Value).IsNil", "internal/reflectlite.TypeOf", "(internal/reflectlite.Value).Elem", "(internal/reflectlite.Value).Set"], unfollowed := true, recurses := true, named := ["errors.errorType"], apart := false, laid := [("errors.errorType", laid_errors_errorType)], narrowed := true }
def InvSaysUptoSaid : Prop := invSaysUptoRow.holds Tryd.pinned (OpenSpec.upto invSaysSpec)

/-- 'rankmerelaw2.InvMul', WHERE WHAT IT READS IS OF BULK AT MOST 1048576: true; the input reads as it did. -/
def invMulUptoRow : OpenClaim := { program := "ytkielldinghmbaadoor", sum := "35c6edf200210a431b5d1f377cd768095df918d663a44d05cd7a1a3225d06223", func := "rankmere/rankmerelaw2.InvMul", spec := "invMul", inPlace := ["internal/reflectlite.ValueOf", "(internal/reflectlite.Value).Type", "(internal/reflectlite.Value).IsNil", "internal/reflectlite.TypeOf", "(internal/reflectlite.Value).Elem", "(internal/reflectlite.Value).Set"], unfollowed := true, recurses := true, named := ["errors.errorType"], apart := false, laid := [("errors.errorType", laid_errors_errorType)], narrowed := true }
def InvMulUptoSaid : Prop := invMulUptoRow.holds Tryd.pinned (OpenSpec.upto invMulSpec)

/-- 'rankmerelaw2.InvChange', WHERE WHAT IT READS IS OF BULK AT MOST 1048576: true; the input reads as it did. -/
def invChangeUptoRow : OpenClaim := { program := "ytkielldinghmbaadoor", sum := "35c6edf200210a431b5d1f377cd768095df918d663a44d05cd7a1a3225d06223", func := "rankmere/rankmerelaw2.InvChange", spec := "invChange", inPlace := ["internal/reflectlite.ValueOf", "(internal/reflectlite.Value).Type", "(internal/reflectlite.Value).IsNil", "internal/reflectlite.TypeOf", "(internal/reflectlite.Value).Elem", "(internal/reflectlite.Value).Set"], unfollowed := true, recurses := true, named := ["errors.errorType"], apart := false, laid := [("errors.errorType", laid_errors_errorType)], narrowed := true }
def InvChangeUptoSaid : Prop := invChangeUptoRow.holds Tryd.pinned (OpenSpec.upto invChangeSpec)

/-- 'rankmerelaw2.InvBack', WHERE WHAT IT READS IS OF BULK AT MOST 1048576: true; the input reads as it did. -/
def invBackUptoRow : OpenClaim := { program := "ytkielldinghmbaadoor", sum := "35c6edf200210a431b5d1f377cd768095df918d663a44d05cd7a1a3225d06223", func := "rankmere/rankmerelaw2.InvBack", spec := "invBack", inPlace := ["internal/reflectlite.ValueOf", "(internal/reflectlite.Value).Type", "(internal/reflectlite.Value).IsNil", "internal/reflectlite.TypeOf", "(internal/reflectlite.Value).Elem", "(internal/reflectlite.Value).Set"], unfollowed := true, recurses := true, named := ["errors.errorType"], apart := false, laid := [("errors.errorType", laid_errors_errorType)], narrowed := true }
def InvBackUptoSaid : Prop := invBackUptoRow.holds Tryd.pinned (OpenSpec.upto invBackSpec)

/-- 'rankmeretop.TopRank', WHERE WHAT IT READS IS OF BULK AT MOST 1048576: true; the input reads as it did. -/
def topRankUptoRow : OpenClaim := { program := "ytkielldinghmbaadoor", sum := "35c6edf200210a431b5d1f377cd768095df918d663a44d05cd7a1a3225d06223", func := "rankmere/rankmeretop.TopRank", spec := "topRank", inPlace := ["internal/reflectlite.ValueOf", "(internal/reflectlite.Value).Type", "(internal/reflectlite.Value).IsNil", "internal/reflectlite.TypeOf", "(internal/reflectlite.Value).Elem", "(internal/reflectlite.Value).Set"], unfollowed := true, recurses := true, named := ["errors.errorType"], apart := false, laid := [("errors.errorType", laid_errors_errorType)], narrowed := true }
def TopRankUptoSaid : Prop := topRankUptoRow.holds Tryd.pinned (OpenSpec.upto topRankSpec)

end Rows
end Go.Proofs.YtkielldinghmbaaDoor
