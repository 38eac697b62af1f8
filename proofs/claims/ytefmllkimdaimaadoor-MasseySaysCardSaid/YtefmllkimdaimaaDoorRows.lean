/-
  NARROWER THAN 'FOR EVERY INPUT', by the rows' own cells (each row's printed sentence says how): BandSays: laid · VanderSays: laid · BareissSays: laid · DefiniteSays: laid · MasseySays: laid · MasseyLeast: laid · SturmSays: laid · ResultSays: laid · CharSays: laid · CharBoth: laid.
  DERIVED. THE GIVEN ROWS OF THIS SEAT. 10 by the template 'for every input the law returns true; each argument reads behind the call as it read before'; 0 by the template 'total and deterministic' (their statements: YtefmllkimdaimaaDoorTotals.lean).
  GIVEN WITH THE SEED: the statements are not yours to turn. If you find one false, say at which input.
  Laid BY PROGRAM, IN A SANDBOX (cutbox-rows.mjs): the forced cells as the released guide's own fill.sh prints them over the translation 2cc5a4c290f5d255… (all of the seat's roots in one cut). By AI agents, Wed Nov 11 2026. No macro, syntax, notation, axiom, sorry.
-/
import Derived.Test.YtefmllkimdaimaaDoorChecked
import GoSem.Claim
import GoSem.ClaimJoined
import GoSem.ClaimMapViews
import Derived.JoinedTies
import Derived.KernelRfl
namespace Go.Proofs.YtefmllkimdaimaaDoor
/- THE CELL 'sum', in the pinned program and in every row, IS THE sha256 OF THE DUMP (.gsa) THAT YtefmllkimdaimaaDoorProg.lean LOADS. Nothing in Lean hashes anything: it is a label: what it is worth is what the hold of that sum in a sandbox is worth. -/
noncomputable def Tryd.pinned : Pinned := { name := "ytefmllkimdaimaadoor", sum := "2cc5a4c290f5d255a4e2a9c869d4387b8b548151680bea3028839a8600fbf5fe", checked := Tryd.checked }
namespace Rows
def none {H : Type} : Left H := { results := [], args := [] }

/- WHAT THE LISTED PACKAGE-LEVEL VARIABLES READ AS WHEN THE CALL BEGINS. Each datum BY PROGRAM (the guide's laid-datum.mjs) off the statement by which the dump's own 'gosem.cut.vars' lays the variable. In a bare row this is a premise. The card (YtefmllkimdaimaaDoorCards.lean) ties it to the program's text. -/
def laid_errors_errorType {H : Type} : DataW H := .iface "internal/reflectlite.rtype" (.agg [.ptr (.lit (.string [101, 114, 114, 111, 114]))])

/-- 'rankmerelaw3.BandSays': WHATEVER THE INPUT: true; the input reads as it did. -/
def bandSaysSpec : ChangeSpec := { name := "bandSays", fn := fun _ => fun
  | [d1, d2, d3, d4] => { results := [.lit (.bool true)], args := [d1, d2, d3, d4] }
  | _ => none }
def bandSaysRow : OpenClaim := { program := "ytefmllkimdaimaadoor", sum := "2cc5a4c290f5d255a4e2a9c869d4387b8b548151680bea3028839a8600fbf5fe", func := "rankmere/rankmerelaw3.BandSays", spec := "bandSays", inPlace := ["internal/reflectlite.ValueOf", "(internal/reflectlite.Value).Type", "(internal/reflectlite.Value).IsNil", "internal/reflectlite.TypeOf", "(internal/reflectlite.Value).Elem", "(internal/reflectlite.Value).Set"], unfollowed := true, recurses := true, named := ["errors.errorType"], apart := false, laid := [("errors.errorType", laid_errors_errorType)] }
def BandSaysSaid : Prop := bandSaysRow.holds Tryd.pinned (OpenSpec.ofChange bandSaysSpec)

/-- ITS FALSE NEIGHBOUR: 'it returns false'. Refute it at one input. -/
def bandSaysWrong : ChangeSpec := { name := "bandSays", fn := fun _ => fun
  | [d1, d2, d3, d4] => { results := [.lit (.bool false)], args := [d1, d2, d3, d4] }
  | _ => none }
def BandSaysWrongFalsely : Prop := bandSaysRow.holds Tryd.pinned (OpenSpec.ofChange bandSaysWrong)

/-- 'rankmerelaw3.VanderSays': WHATEVER THE INPUT: true; the input reads as it did. -/
def vanderSaysSpec : ChangeSpec := { name := "vanderSays", fn := fun _ => fun
  | [d] => { results := [.lit (.bool true)], args := [d] }
  | _ => none }
def vanderSaysRow : OpenClaim := { program := "ytefmllkimdaimaadoor", sum := "2cc5a4c290f5d255a4e2a9c869d4387b8b548151680bea3028839a8600fbf5fe", func := "rankmere/rankmerelaw3.VanderSays", spec := "vanderSays", inPlace := ["internal/reflectlite.ValueOf", "(internal/reflectlite.Value).Type", "(internal/reflectlite.Value).IsNil", "internal/reflectlite.TypeOf", "(internal/reflectlite.Value).Elem", "(internal/reflectlite.Value).Set"], unfollowed := true, recurses := true, named := ["errors.errorType"], apart := false, laid := [("errors.errorType", laid_errors_errorType)] }
def VanderSaysSaid : Prop := vanderSaysRow.holds Tryd.pinned (OpenSpec.ofChange vanderSaysSpec)

/-- ITS FALSE NEIGHBOUR: 'it returns false'. Refute it at one input. -/
def vanderSaysWrong : ChangeSpec := { name := "vanderSays", fn := fun _ => fun
  | [d] => { results := [.lit (.bool false)], args := [d] }
  | _ => none }
def VanderSaysWrongFalsely : Prop := vanderSaysRow.holds Tryd.pinned (OpenSpec.ofChange vanderSaysWrong)

/-- 'rankmerelaw2.BareissSays': WHATEVER THE INPUT: true; the input reads as it did. -/
def bareissSaysSpec : ChangeSpec := { name := "bareissSays", fn := fun _ => fun
  | [d] => { results := [.lit (.bool true)], args := [d] }
  | _ => none }
def bareissSaysRow : OpenClaim := { program := "ytefmllkimdaimaadoor", sum := "2cc5a4c290f5d255a4e2a9c869d4387b8b548151680bea3028839a8600fbf5fe", func := "rankmere/rankmerelaw2.BareissSays", spec := "bareissSays", inPlace := ["internal/reflectlite.ValueOf", "(internal/reflectlite.Value).Type", "(internal/reflectlite.Value).IsNil", "internal/reflectlite.TypeOf", "(internal/reflectlite.Value).Elem", "(internal/reflectlite.Value).Set"], unfollowed := true, recurses := true, named := ["errors.errorType"], apart := false, laid := [("errors.errorType", laid_errors_errorType)] }
def BareissSaysSaid : Prop := bareissSaysRow.holds Tryd.pinned (OpenSpec.ofChange bareissSaysSpec)

/-- ITS FALSE NEIGHBOUR: 'it returns false'. Refute it at one input. -/
def bareissSaysWrong : ChangeSpec := { name := "bareissSays", fn := fun _ => fun
  | [d] => { results := [.lit (.bool false)], args := [d] }
  | _ => none }
def BareissSaysWrongFalsely : Prop := bareissSaysRow.holds Tryd.pinned (OpenSpec.ofChange bareissSaysWrong)

/-- 'rankmerelaw3.DefiniteSays': WHATEVER THE INPUT: true; the input reads as it did. -/
def definiteSaysSpec : ChangeSpec := { name := "definiteSays", fn := fun _ => fun
  | [d1, d2] => { results := [.lit (.bool true)], args := [d1, d2] }
  | _ => none }
def definiteSaysRow : OpenClaim := { program := "ytefmllkimdaimaadoor", sum := "2cc5a4c290f5d255a4e2a9c869d4387b8b548151680bea3028839a8600fbf5fe", func := "rankmere/rankmerelaw3.DefiniteSays", spec := "definiteSays", inPlace := ["internal/reflectlite.ValueOf", "(internal/reflectlite.Value).Type", "(internal/reflectlite.Value).IsNil", "internal/reflectlite.TypeOf", "(internal/reflectlite.Value).Elem", "(internal/reflectlite.Value).Set"], unfollowed := true, recurses := true, named := ["errors.errorType"], apart := false, laid := [("errors.errorType", laid_errors_errorType)] }
def DefiniteSaysSaid : Prop := definiteSaysRow.holds Tryd.pinned (OpenSpec.ofChange definiteSaysSpec)

/-- ITS FALSE NEIGHBOUR: 'it returns false'. Refute it at one input. -/
def definiteSaysWrong : ChangeSpec := { name := "definiteSays", fn := fun _ => fun
  | [d1, d2] => { results := [.lit (.bool false)], args := [d1, d2] }
  | _ => none }
def DefiniteSaysWrongFalsely : Prop := definiteSaysRow.holds Tryd.pinned (OpenSpec.ofChange definiteSaysWrong)

/-- 'rankmerelaw3.MasseySays': WHATEVER THE INPUT: true; the input reads as it did. -/
def masseySaysSpec : ChangeSpec := { name := "masseySays", fn := fun _ => fun
  | [d1, d2] => { results := [.lit (.bool true)], args := [d1, d2] }
  | _ => none }
def masseySaysRow : OpenClaim := { program := "ytefmllkimdaimaadoor", sum := "2cc5a4c290f5d255a4e2a9c869d4387b8b548151680bea3028839a8600fbf5fe", func := "rankmere/rankmerelaw3.MasseySays", spec := "masseySays", inPlace := ["internal/reflectlite.ValueOf", "(internal/reflectlite.Value).Type", "(internal/reflectlite.Value).IsNil", "internal/reflectlite.TypeOf", "(internal/reflectlite.Value).Elem", "(internal/reflectlite.Value).Set"], unfollowed := true, recurses := true, named := ["errors.errorType"], apart := false, laid := [("errors.errorType", laid_errors_errorType)] }
def MasseySaysSaid : Prop := masseySaysRow.holds Tryd.pinned (OpenSpec.ofChange masseySaysSpec)

/-- ITS FALSE NEIGHBOUR: 'it returns false'. Refute it at one input. -/
def masseySaysWrong : ChangeSpec := { name := "masseySays", fn := fun _ => fun
  | [d1, d2] => { results := [.lit (.bool false)], args := [d1, d2] }
  | _ => none }
def MasseySaysWrongFalsely : Prop := masseySaysRow.holds Tryd.pinned (OpenSpec.ofChange masseySaysWrong)

/-- 'rankmerelaw3.MasseyLeast': WHATEVER THE INPUT: true; the input reads as it did. -/
def masseyLeastSpec : ChangeSpec := { name := "masseyLeast", fn := fun _ => fun
  | [d1, d2] => { results := [.lit (.bool true)], args := [d1, d2] }
  | _ => none }
def masseyLeastRow : OpenClaim := { program := "ytefmllkimdaimaadoor", sum := "2cc5a4c290f5d255a4e2a9c869d4387b8b548151680bea3028839a8600fbf5fe", func := "rankmere/rankmerelaw3.MasseyLeast", spec := "masseyLeast", inPlace := ["internal/reflectlite.ValueOf", "(internal/reflectlite.Value).Type", "(internal/reflectlite.Value).IsNil", "internal/reflectlite.TypeOf", "(internal/reflectlite.Value).Elem", "(internal/reflectlite.Value).Set"], unfollowed := true, recurses := true, named := ["errors.errorType"], apart := false, laid := [("errors.errorType", laid_errors_errorType)] }
def MasseyLeastSaid : Prop := masseyLeastRow.holds Tryd.pinned (OpenSpec.ofChange masseyLeastSpec)

/-- ITS FALSE NEIGHBOUR: 'it returns false'. Refute it at one input. -/
def masseyLeastWrong : ChangeSpec := { name := "masseyLeast", fn := fun _ => fun
  | [d1, d2] => { results := [.lit (.bool false)], args := [d1, d2] }
  | _ => none }
def MasseyLeastWrongFalsely : Prop := masseyLeastRow.holds Tryd.pinned (OpenSpec.ofChange masseyLeastWrong)

/-- 'rankmerelaw3.SturmSays': WHATEVER THE INPUT: true; the input reads as it did. -/
def sturmSaysSpec : ChangeSpec := { name := "sturmSays", fn := fun _ => fun
  | [d1, d2, d3] => { results := [.lit (.bool true)], args := [d1, d2, d3] }
  | _ => none }
def sturmSaysRow : OpenClaim := { program := "ytefmllkimdaimaadoor", sum := "2cc5a4c290f5d255a4e2a9c869d4387b8b548151680bea3028839a8600fbf5fe", func := "rankmere/rankmerelaw3.SturmSays", spec := "sturmSays", inPlace := ["internal/reflectlite.ValueOf", "(internal/reflectlite.Value).Type", "(internal/reflectlite.Value).IsNil", "internal/reflectlite.TypeOf", "(internal/reflectlite.Value).Elem", "(internal/reflectlite.Value).Set"], unfollowed := true, recurses := true, named := ["errors.errorType"], apart := false, laid := [("errors.errorType", laid_errors_errorType)] }
def SturmSaysSaid : Prop := sturmSaysRow.holds Tryd.pinned (OpenSpec.ofChange sturmSaysSpec)

/-- ITS FALSE NEIGHBOUR: 'it returns false'. Refute it at one input. -/
def sturmSaysWrong : ChangeSpec := { name := "sturmSays", fn := fun _ => fun
  | [d1, d2, d3] => { results := [.lit (.bool false)], args := [d1, d2, d3] }
  | _ => none }
def SturmSaysWrongFalsely : Prop := sturmSaysRow.holds Tryd.pinned (OpenSpec.ofChange sturmSaysWrong)

/-- 'rankmerelaw3.ResultSays': WHATEVER THE INPUT: true; the input reads as it did. -/
def resultSaysSpec : ChangeSpec := { name := "resultSays", fn := fun _ => fun
  | [d1, d2] => { results := [.lit (.bool true)], args := [d1, d2] }
  | _ => none }
def resultSaysRow : OpenClaim := { program := "ytefmllkimdaimaadoor", sum := "2cc5a4c290f5d255a4e2a9c869d4387b8b548151680bea3028839a8600fbf5fe", func := "rankmere/rankmerelaw3.ResultSays", spec := "resultSays", inPlace := ["internal/reflectlite.ValueOf", "(internal/reflectlite.Value).Type", "(internal/reflectlite.Value).IsNil", "internal/reflectlite.TypeOf", "(internal/reflectlite.Value).Elem", "(internal/reflectlite.Value).Set"], unfollowed := true, recurses := true, named := ["errors.errorType"], apart := false, laid := [("errors.errorType", laid_errors_errorType)] }
def ResultSaysSaid : Prop := resultSaysRow.holds Tryd.pinned (OpenSpec.ofChange resultSaysSpec)

/-- ITS FALSE NEIGHBOUR: 'it returns false'. Refute it at one input. -/
def resultSaysWrong : ChangeSpec := { name := "resultSays", fn := fun _ => fun
  | [d1, d2] => { results := [.lit (.bool false)], args := [d1, d2] }
  | _ => none }
def ResultSaysWrongFalsely : Prop := resultSaysRow.holds Tryd.pinned (OpenSpec.ofChange resultSaysWrong)

/-- 'rankmerelaw3.CharSays': WHATEVER THE INPUT: true; the input reads as it did. -/
def charSaysSpec : ChangeSpec := { name := "charSays", fn := fun _ => fun
  | [d] => { results := [.lit (.bool true)], args := [d] }
  | _ => none }
def charSaysRow : OpenClaim := { program := "ytefmllkimdaimaadoor", sum := "2cc5a4c290f5d255a4e2a9c869d4387b8b548151680bea3028839a8600fbf5fe", func := "rankmere/rankmerelaw3.CharSays", spec := "charSays", inPlace := ["internal/reflectlite.ValueOf", "(internal/reflectlite.Value).Type", "(internal/reflectlite.Value).IsNil", "internal/reflectlite.TypeOf", "(internal/reflectlite.Value).Elem", "(internal/reflectlite.Value).Set"], unfollowed := true, recurses := true, named := ["errors.errorType"], apart := false, laid := [("errors.errorType", laid_errors_errorType)] }
def CharSaysSaid : Prop := charSaysRow.holds Tryd.pinned (OpenSpec.ofChange charSaysSpec)

/-- ITS FALSE NEIGHBOUR: 'it returns false'. Refute it at one input. -/
def charSaysWrong : ChangeSpec := { name := "charSays", fn := fun _ => fun
  | [d] => { results := [.lit (.bool false)], args := [d] }
  | _ => none }
def CharSaysWrongFalsely : Prop := charSaysRow.holds Tryd.pinned (OpenSpec.ofChange charSaysWrong)

/-- 'rankmerelaw3.CharBoth': WHATEVER THE INPUT: true; the input reads as it did. -/
def charBothSpec : ChangeSpec := { name := "charBoth", fn := fun _ => fun
  | [d1, d2] => { results := [.lit (.bool true)], args := [d1, d2] }
  | _ => none }
def charBothRow : OpenClaim := { program := "ytefmllkimdaimaadoor", sum := "2cc5a4c290f5d255a4e2a9c869d4387b8b548151680bea3028839a8600fbf5fe", func := "rankmere/rankmerelaw3.CharBoth", spec := "charBoth", inPlace := ["internal/reflectlite.ValueOf", "(internal/reflectlite.Value).Type", "(internal/reflectlite.Value).IsNil", "internal/reflectlite.TypeOf", "(internal/reflectlite.Value).Elem", "(internal/reflectlite.Value).Set"], unfollowed := true, recurses := true, named := ["errors.errorType"], apart := false, laid := [("errors.errorType", laid_errors_errorType)] }
def CharBothSaid : Prop := charBothRow.holds Tryd.pinned (OpenSpec.ofChange charBothSpec)

/-- ITS FALSE NEIGHBOUR: 'it returns false'. Refute it at one input. -/
def charBothWrong : ChangeSpec := { name := "charBoth", fn := fun _ => fun
  | [d1, d2] => { results := [.lit (.bool false)], args := [d1, d2] }
  | _ => none }
def CharBothWrongFalsely : Prop := charBothRow.holds Tryd.pinned (OpenSpec.ofChange charBothWrong)

/- THE SECOND FORM. 'bulk': how many values and letters a reading holds, each counted each time it is reached (what is shared counts as often as it is met; a slice's spare places count too). A statement '..UptoSaid' is the law's where the arguments, and the package variables that the reading takes, are together of bulk at most 1048576: NARROWER than '..Said'. Prove '..Said' where nothing that the law and all that it calls make is longer than what came in: it says more and counts as full. Else prove '..UptoSaid'. A law counts once. -/
mutual
def uptoBulk {H : Type} : DataW H → Nat
  | .lit (.string bytes) => bytes.length + 1
  | .lit _ => 1
  | .nil => 1
  | .ptr d => uptoBulk d + 1
  | .slice elems spare => uptoBulkAll elems + uptoBulkAll spare + 1
  | .agg parts => uptoBulkAll parts + 1
  | .iface _ d => uptoBulk d + 1
  | .map entries => uptoBulkEntries entries + 1
  | .held _ => 1
def uptoBulkAll {H : Type} : List (DataW H) → Nat
  | [] => 0
  | d :: r => uptoBulk d + uptoBulkAll r
def uptoBulkEntries {H : Type} : List (Lit × DataW H) → Nat
  | [] => 0
  | x :: r => uptoBulkEntry x + uptoBulkEntries r
def uptoBulkEntry {H : Type} : Lit × DataW H → Nat
  | (.string bytes, d) => bytes.length + uptoBulk d + 1
  | (_, d) => uptoBulk d + 1
 end
def uptoSmall : (H : Type) → List (DataW H) → Bool := fun _ ds => decide (uptoBulkAll ds ≤ 1048576)
def OpenSpec.upto (s : _root_.Go.ChangeSpec) : _root_.Go.OpenSpec := { _root_.Go.OpenSpec.ofChange s with cond := some uptoSmall }

/-- 'rankmerelaw3.BandSays', WHERE WHAT IT READS IS OF BULK AT MOST 1048576: true; the input reads as it did. -/
def bandSaysUptoRow : OpenClaim := { program := "ytefmllkimdaimaadoor", sum := "2cc5a4c290f5d255a4e2a9c869d4387b8b548151680bea3028839a8600fbf5fe", func := "rankmere/rankmerelaw3.BandSays", spec := "bandSays", inPlace := ["internal/reflectlite.ValueOf", "(internal/reflectlite.Value).Type", "(internal/reflectlite.Value).IsNil", "internal/reflectlite.TypeOf", "(internal/reflectlite.Value).Elem", "(internal/reflectlite.Value).Set"], unfollowed := true, recurses := true, named := ["errors.errorType"], apart := false, laid := [("errors.errorType", laid_errors_errorType)], narrowed := true }
def BandSaysUptoSaid : Prop := bandSaysUptoRow.holds Tryd.pinned (OpenSpec.upto bandSaysSpec)

/-- 'rankmerelaw3.VanderSays', WHERE WHAT IT READS IS OF BULK AT MOST 1048576: true; the input reads as it did. -/
def vanderSaysUptoRow : OpenClaim := { program := "ytefmllkimdaimaadoor", sum := "2cc5a4c290f5d255a4e2a9c869d4387b8b548151680bea3028839a8600fbf5fe", func := "rankmere/rankmerelaw3.VanderSays", spec := "vanderSays", inPlace := ["internal/reflectlite.ValueOf", "(internal/reflectlite.Value).Type", "(internal/reflectlite.Value).IsNil", "internal/reflectlite.TypeOf", "(internal/reflectlite.Value).Elem", "(internal/reflectlite.Value).Set"], unfollowed := true, recurses := true, named := ["errors.errorType"], apart := false, laid := [("errors.errorType", laid_errors_errorType)], narrowed := true }
def VanderSaysUptoSaid : Prop := vanderSaysUptoRow.holds Tryd.pinned (OpenSpec.upto vanderSaysSpec)

/-- 'rankmerelaw2.BareissSays', WHERE WHAT IT READS IS OF BULK AT MOST 1048576: true; the input reads as it did. -/
def bareissSaysUptoRow : OpenClaim := { program := "ytefmllkimdaimaadoor", sum := "2cc5a4c290f5d255a4e2a9c869d4387b8b548151680bea3028839a8600fbf5fe", func := "rankmere/rankmerelaw2.BareissSays", spec := "bareissSays", inPlace := ["internal/reflectlite.ValueOf", "(internal/reflectlite.Value).Type", "(internal/reflectlite.Value).IsNil", "internal/reflectlite.TypeOf", "(internal/reflectlite.Value).Elem", "(internal/reflectlite.Value).Set"], unfollowed := true, recurses := true, named := ["errors.errorType"], apart := false, laid := [("errors.errorType", laid_errors_errorType)], narrowed := true }
def BareissSaysUptoSaid : Prop := bareissSaysUptoRow.holds Tryd.pinned (OpenSpec.upto bareissSaysSpec)

/-- 'rankmerelaw3.DefiniteSays', WHERE WHAT IT READS IS OF BULK AT MOST 1048576: true; the input reads as it did. -/
def definiteSaysUptoRow : OpenClaim := { program := "ytefmllkimdaimaadoor", sum := "2cc5a4c290f5d255a4e2a9c869d4387b8b548151680bea3028839a8600fbf5fe", func := "rankmere/rankmerelaw3.DefiniteSays", spec := "definiteSays", inPlace := ["internal/reflectlite.ValueOf", "(internal/reflectlite.Value).Type", "(internal/reflectlite.Value).IsNil", "internal/reflectlite.TypeOf", "(internal/reflectlite.Value).Elem", "(internal/reflectlite.Value).Set"], unfollowed := true, recurses := true, named := ["errors.errorType"], apart := false, laid := [("errors.errorType", laid_errors_errorType)], narrowed := true }
def DefiniteSaysUptoSaid : Prop := definiteSaysUptoRow.holds Tryd.pinned (OpenSpec.upto definiteSaysSpec)

/-- 'rankmerelaw3.MasseySays', WHERE WHAT IT READS IS OF BULK AT MOST 1048576: true; the input reads as it did. -/
def masseySaysUptoRow : OpenClaim := { program := "ytefmllkimdaimaadoor", sum := "2cc5a4c290f5d255a4e2a9c869d4387b8b548151680bea3028839a8600fbf5fe", func := "rankmere/rankmerelaw3.MasseySays", spec := "masseySays", inPlace := ["internal/reflectlite.ValueOf", "(internal/reflectlite.Value).Type", "(internal/reflectlite.Value).IsNil", "internal/reflectlite.TypeOf", "(internal/reflectlite.Value).Elem", "(internal/reflectlite.Value).Set"], unfollowed := true, recurses := true, named := ["errors.errorType"], apart := false, laid := [("errors.errorType", laid_errors_errorType)], narrowed := true }
def MasseySaysUptoSaid : Prop := masseySaysUptoRow.holds Tryd.pinned (OpenSpec.upto masseySaysSpec)

/-- 'rankmerelaw3.MasseyLeast', WHERE WHAT IT READS IS OF BULK AT MOST 1048576: true; the input reads as it did. -/
def masseyLeastUptoRow : OpenClaim := { program := "ytefmllkimdaimaadoor", sum := "2cc5a4c290f5d255a4e2a9c869d4387b8b548151680bea3028839a8600fbf5fe", func := "rankmere/rankmerelaw3.MasseyLeast", spec := "masseyLeast", inPlace := ["internal/reflectlite.ValueOf", "(internal/reflectlite.Value).Type", "(internal/reflectlite.Value).IsNil", "internal/reflectlite.TypeOf", "(internal/reflectlite.Value).Elem", "(internal/reflectlite.Value).Set"], unfollowed := true, recurses := true, named := ["errors.errorType"], apart := false, laid := [("errors.errorType", laid_errors_errorType)], narrowed := true }
def MasseyLeastUptoSaid : Prop := masseyLeastUptoRow.holds Tryd.pinned (OpenSpec.upto masseyLeastSpec)

/-- 'rankmerelaw3.SturmSays', WHERE WHAT IT READS IS OF BULK AT MOST 1048576: true; the input reads as it did. -/
def sturmSaysUptoRow : OpenClaim := { program := "ytefmllkimdaimaadoor", sum := "2cc5a4c290f5d255a4e2a9c869d4387b8b548151680bea3028839a8600fbf5fe", func := "rankmere/rankmerelaw3.SturmSays", spec := "sturmSays", inPlace := ["internal/reflectlite.ValueOf", "(internal/reflectlite.Value).Type", "(internal/reflectlite.Value).IsNil", "internal/reflectlite.TypeOf", "(internal/reflectlite.Value).Elem", "(internal/reflectlite.Value).Set"], unfollowed := true, recurses := true, named := ["errors.errorType"], apart := false, laid := [("errors.errorType", laid_errors_errorType)], narrowed := true }
def SturmSaysUptoSaid : Prop := sturmSaysUptoRow.holds Tryd.pinned (OpenSpec.upto sturmSaysSpec)

/-- 'rankmerelaw3.ResultSays', WHERE WHAT IT READS IS OF BULK AT MOST 1048576: true; the input reads as it did. -/
def resultSaysUptoRow : OpenClaim := { program := "ytefmllkimdaimaadoor", sum := "2cc5a4c290f5d255a4e2a9c869d4387b8b548151680bea3028839a8600fbf5fe", func := "rankmere/rankmerelaw3.ResultSays", spec := "resultSays", inPlace := ["internal/reflectlite.ValueOf", "(internal/reflectlite.Value).Type", "(internal/reflectlite.Value).IsNil", "internal/reflectlite.TypeOf", "(internal/reflectlite.Value).Elem", "(internal/reflectlite.Value).Set"], unfollowed := true, recurses := true, named := ["errors.errorType"], apart := false, laid := [("errors.errorType", laid_errors_errorType)], narrowed := true }
def ResultSaysUptoSaid : Prop := resultSaysUptoRow.holds Tryd.pinned (OpenSpec.upto resultSaysSpec)

/-- 'rankmerelaw3.CharSays', WHERE WHAT IT READS IS OF BULK AT MOST 1048576: true; the input reads as it did. -/
def charSaysUptoRow : OpenClaim := { program := "ytefmllkimdaimaadoor", sum := "2cc5a4c290f5d255a4e2a9c869d4387b8b548151680bea3028839a8600fbf5fe", func := "rankmere/rankmerelaw3.CharSays", spec := "charSays", inPlace := ["internal/reflectlite.ValueOf", "(internal/reflectlite.Value).Type", "(internal/reflectlite.Value).IsNil", "internal/reflectlite.TypeOf", "(internal/reflectlite.Value).Elem", "(internal/reflectlite.Value).Set"], unfollowed := true, recurses := true, named := ["errors.errorType"], apart := false, laid := [("errors.errorType", laid_errors_errorType)], narrowed := true }
def CharSaysUptoSaid : Prop := charSaysUptoRow.holds Tryd.pinned (OpenSpec.upto charSaysSpec)

/-- 'rankmerelaw3.CharBoth', WHERE WHAT IT READS IS OF BULK AT MOST 1048576: true; the input reads as it did. -/
def charBothUptoRow : OpenClaim := { program := "ytefmllkimdaimaadoor", sum := "2cc5a4c290f5d255a4e2a9c869d4387b8b548151680bea3028839a8600fbf5fe", func := "rankmere/rankmerelaw3.CharBoth", spec := "charBoth", inPlace := ["internal/reflectlite.ValueOf", "(internal/reflectlite.Value).Type", "(internal/reflectlite.Value).IsNil", "internal/reflectlite.TypeOf", "(internal/reflectlite.Value).Elem", "(internal/reflectlite.Value).Set"], unfollowed := true, recurses := true, named := ["errors.errorType"], apart := false, laid := [("errors.errorType", laid_errors_errorType)], narrowed := true }
def CharBothUptoSaid : Prop := charBothUptoRow.holds Tryd.pinned (OpenSpec.upto charBothSpec)

end Rows
end Go.Proofs.YtefmllkimdaimaaDoor
