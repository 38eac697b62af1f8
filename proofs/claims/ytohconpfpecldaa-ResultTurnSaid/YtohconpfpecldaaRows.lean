/-
  No cell of these rows narrows 'for every input' (looked for: loops, veiled, ifaces, maps, wideKeys, modest, calm, conditions, laid).
  DERIVED. THE GIVEN ROWS OF THIS SEAT. 12 by the template 'for every input the law returns true; each argument reads behind the call as it read before'; 0 by the template 'total and deterministic' (their statements: YtohconpfpecldaaTotals.lean).
  GIVEN WITH THE SEED: the statements are not yours to turn. If you find one false, say at which input.
  Laid BY PROGRAM, IN A SANDBOX (cutbox-rows.mjs): the forced cells as the released guide's own fill.sh prints them over the translation 82979b9ac6bb56fc… (all of the seat's roots in one cut). By AI agents, Wed Nov 11 2026. No macro, syntax, notation, axiom, sorry.
-/
import Derived.Test.YtohconpfpecldaaChecked
import GoSem.Claim
import GoSem.ClaimJoined
import GoSem.ClaimMapViews
import Derived.JoinedTies
import Derived.KernelRfl
namespace Go.Proofs.Ytohconpfpecldaa
/- THE CELL 'sum', in the pinned program and in every row, IS THE sha256 OF THE DUMP (.gsa) THAT YtohconpfpecldaaProg.lean LOADS. Nothing in Lean hashes anything: it is a label: what it is worth is what the hold of that sum in a sandbox is worth. -/
noncomputable def Try.pinned : Pinned := { name := "ytohconpfpecldaa", sum := "82979b9ac6bb56fc2388d6a3770659c5178908d47fc7a98900302ee5e43ea9f6", checked := Try.checked }
namespace Rows
def none {H : Type} : Left H := { results := [], args := [] }

/-- 'rankmerelaw3.ResultTurn': WHATEVER THE INPUT: true; the input reads as it did. -/
def resultTurnSpec : ChangeSpec := { name := "resultTurn", fn := fun _ => fun
  | [d1, d2] => { results := [.lit (.bool true)], args := [d1, d2] }
  | _ => none }
def resultTurnRow : OpenClaim := { program := "ytohconpfpecldaa", sum := "82979b9ac6bb56fc2388d6a3770659c5178908d47fc7a98900302ee5e43ea9f6", func := "rankmere/rankmerelaw3.ResultTurn", spec := "resultTurn", unfollowed := true, recurses := true, apart := false }
def ResultTurnSaid : Prop := resultTurnRow.holds Try.pinned (OpenSpec.ofChange resultTurnSpec)

/-- ITS FALSE NEIGHBOUR: 'it returns false'. Refute it at one input. -/
def resultTurnWrong : ChangeSpec := { name := "resultTurn", fn := fun _ => fun
  | [d1, d2] => { results := [.lit (.bool false)], args := [d1, d2] }
  | _ => none }
def ResultTurnWrongFalsely : Prop := resultTurnRow.holds Try.pinned (OpenSpec.ofChange resultTurnWrong)

/-- 'rankmerelaw3.ResultProduct': WHATEVER THE INPUT: true; the input reads as it did. -/
def resultProductSpec : ChangeSpec := { name := "resultProduct", fn := fun _ => fun
  | [d1, d2, d3] => { results := [.lit (.bool true)], args := [d1, d2, d3] }
  | _ => none }
def resultProductRow : OpenClaim := { program := "ytohconpfpecldaa", sum := "82979b9ac6bb56fc2388d6a3770659c5178908d47fc7a98900302ee5e43ea9f6", func := "rankmere/rankmerelaw3.ResultProduct", spec := "resultProduct", unfollowed := true, recurses := true, apart := false }
def ResultProductSaid : Prop := resultProductRow.holds Try.pinned (OpenSpec.ofChange resultProductSpec)

/-- ITS FALSE NEIGHBOUR: 'it returns false'. Refute it at one input. -/
def resultProductWrong : ChangeSpec := { name := "resultProduct", fn := fun _ => fun
  | [d1, d2, d3] => { results := [.lit (.bool false)], args := [d1, d2, d3] }
  | _ => none }
def ResultProductWrongFalsely : Prop := resultProductRow.holds Try.pinned (OpenSpec.ofChange resultProductWrong)

/-- 'rankmerelaw3.ResultRoots': WHATEVER THE INPUT: true; the input reads as it did. -/
def resultRootsSpec : ChangeSpec := { name := "resultRoots", fn := fun _ => fun
  | [d1, d2] => { results := [.lit (.bool true)], args := [d1, d2] }
  | _ => none }
def resultRootsRow : OpenClaim := { program := "ytohconpfpecldaa", sum := "82979b9ac6bb56fc2388d6a3770659c5178908d47fc7a98900302ee5e43ea9f6", func := "rankmere/rankmerelaw3.ResultRoots", spec := "resultRoots", unfollowed := true, recurses := true, apart := false }
def ResultRootsSaid : Prop := resultRootsRow.holds Try.pinned (OpenSpec.ofChange resultRootsSpec)

/-- ITS FALSE NEIGHBOUR: 'it returns false'. Refute it at one input. -/
def resultRootsWrong : ChangeSpec := { name := "resultRoots", fn := fun _ => fun
  | [d1, d2] => { results := [.lit (.bool false)], args := [d1, d2] }
  | _ => none }
def ResultRootsWrongFalsely : Prop := resultRootsRow.holds Try.pinned (OpenSpec.ofChange resultRootsWrong)

/-- 'rankmerelaw3.ResultCommon': WHATEVER THE INPUT: true; the input reads as it did. -/
def resultCommonSpec : ChangeSpec := { name := "resultCommon", fn := fun _ => fun
  | [d1, d2] => { results := [.lit (.bool true)], args := [d1, d2] }
  | _ => none }
def resultCommonRow : OpenClaim := { program := "ytohconpfpecldaa", sum := "82979b9ac6bb56fc2388d6a3770659c5178908d47fc7a98900302ee5e43ea9f6", func := "rankmere/rankmerelaw3.ResultCommon", spec := "resultCommon", unfollowed := true, recurses := true, apart := false }
def ResultCommonSaid : Prop := resultCommonRow.holds Try.pinned (OpenSpec.ofChange resultCommonSpec)

/-- ITS FALSE NEIGHBOUR: 'it returns false'. Refute it at one input. -/
def resultCommonWrong : ChangeSpec := { name := "resultCommon", fn := fun _ => fun
  | [d1, d2] => { results := [.lit (.bool false)], args := [d1, d2] }
  | _ => none }
def ResultCommonWrongFalsely : Prop := resultCommonRow.holds Try.pinned (OpenSpec.ofChange resultCommonWrong)

/-- 'rankmerelaw3.CharCayley': WHATEVER THE INPUT: true; the input reads as it did. -/
def charCayleySpec : ChangeSpec := { name := "charCayley", fn := fun _ => fun
  | [d] => { results := [.lit (.bool true)], args := [d] }
  | _ => none }
def charCayleyRow : OpenClaim := { program := "ytohconpfpecldaa", sum := "82979b9ac6bb56fc2388d6a3770659c5178908d47fc7a98900302ee5e43ea9f6", func := "rankmere/rankmerelaw3.CharCayley", spec := "charCayley", unfollowed := true, recurses := true, apart := false }
def CharCayleySaid : Prop := charCayleyRow.holds Try.pinned (OpenSpec.ofChange charCayleySpec)

/-- ITS FALSE NEIGHBOUR: 'it returns false'. Refute it at one input. -/
def charCayleyWrong : ChangeSpec := { name := "charCayley", fn := fun _ => fun
  | [d] => { results := [.lit (.bool false)], args := [d] }
  | _ => none }
def CharCayleyWrongFalsely : Prop := charCayleyRow.holds Try.pinned (OpenSpec.ofChange charCayleyWrong)

/-- 'rankmerelaw3.CharEnds': WHATEVER THE INPUT: true; the input reads as it did. -/
def charEndsSpec : ChangeSpec := { name := "charEnds", fn := fun _ => fun
  | [d] => { results := [.lit (.bool true)], args := [d] }
  | _ => none }
def charEndsRow : OpenClaim := { program := "ytohconpfpecldaa", sum := "82979b9ac6bb56fc2388d6a3770659c5178908d47fc7a98900302ee5e43ea9f6", func := "rankmere/rankmerelaw3.CharEnds", spec := "charEnds", unfollowed := true, recurses := true, apart := false }
def CharEndsSaid : Prop := charEndsRow.holds Try.pinned (OpenSpec.ofChange charEndsSpec)

/-- ITS FALSE NEIGHBOUR: 'it returns false'. Refute it at one input. -/
def charEndsWrong : ChangeSpec := { name := "charEnds", fn := fun _ => fun
  | [d] => { results := [.lit (.bool false)], args := [d] }
  | _ => none }
def CharEndsWrongFalsely : Prop := charEndsRow.holds Try.pinned (OpenSpec.ofChange charEndsWrong)

/-- 'rankmerelaw3.BandFull': WHATEVER THE INPUT: true; the input reads as it did. -/
def bandFullSpec : ChangeSpec := { name := "bandFull", fn := fun _ => fun
  | [d1, d2, d3, d4] => { results := [.lit (.bool true)], args := [d1, d2, d3, d4] }
  | _ => none }
def bandFullRow : OpenClaim := { program := "ytohconpfpecldaa", sum := "82979b9ac6bb56fc2388d6a3770659c5178908d47fc7a98900302ee5e43ea9f6", func := "rankmere/rankmerelaw3.BandFull", spec := "bandFull", unfollowed := true, recurses := true, apart := false }
def BandFullSaid : Prop := bandFullRow.holds Try.pinned (OpenSpec.ofChange bandFullSpec)

/-- ITS FALSE NEIGHBOUR: 'it returns false'. Refute it at one input. -/
def bandFullWrong : ChangeSpec := { name := "bandFull", fn := fun _ => fun
  | [d1, d2, d3, d4] => { results := [.lit (.bool false)], args := [d1, d2, d3, d4] }
  | _ => none }
def BandFullWrongFalsely : Prop := bandFullRow.holds Try.pinned (OpenSpec.ofChange bandFullWrong)

/-- 'rankmerelaw2.MinorsCramer': WHATEVER THE INPUT: true; the input reads as it did. -/
def minorsCramerSpec : ChangeSpec := { name := "minorsCramer", fn := fun _ => fun
  | [d1, d2] => { results := [.lit (.bool true)], args := [d1, d2] }
  | _ => none }
def minorsCramerRow : OpenClaim := { program := "ytohconpfpecldaa", sum := "82979b9ac6bb56fc2388d6a3770659c5178908d47fc7a98900302ee5e43ea9f6", func := "rankmere/rankmerelaw2.MinorsCramer", spec := "minorsCramer", unfollowed := true, recurses := true, apart := false }
def MinorsCramerSaid : Prop := minorsCramerRow.holds Try.pinned (OpenSpec.ofChange minorsCramerSpec)

/-- ITS FALSE NEIGHBOUR: 'it returns false'. Refute it at one input. -/
def minorsCramerWrong : ChangeSpec := { name := "minorsCramer", fn := fun _ => fun
  | [d1, d2] => { results := [.lit (.bool false)], args := [d1, d2] }
  | _ => none }
def MinorsCramerWrongFalsely : Prop := minorsCramerRow.holds Try.pinned (OpenSpec.ofChange minorsCramerWrong)

/-- 'rankmerelaw2.MinorsAdj': WHATEVER THE INPUT: true; the input reads as it did. -/
def minorsAdjSpec : ChangeSpec := { name := "minorsAdj", fn := fun _ => fun
  | [d] => { results := [.lit (.bool true)], args := [d] }
  | _ => none }
def minorsAdjRow : OpenClaim := { program := "ytohconpfpecldaa", sum := "82979b9ac6bb56fc2388d6a3770659c5178908d47fc7a98900302ee5e43ea9f6", func := "rankmere/rankmerelaw2.MinorsAdj", spec := "minorsAdj", unfollowed := true, recurses := true, apart := false }
def MinorsAdjSaid : Prop := minorsAdjRow.holds Try.pinned (OpenSpec.ofChange minorsAdjSpec)

/-- ITS FALSE NEIGHBOUR: 'it returns false'. Refute it at one input. -/
def minorsAdjWrong : ChangeSpec := { name := "minorsAdj", fn := fun _ => fun
  | [d] => { results := [.lit (.bool false)], args := [d] }
  | _ => none }
def MinorsAdjWrongFalsely : Prop := minorsAdjRow.holds Try.pinned (OpenSpec.ofChange minorsAdjWrong)

/-- 'rankmerelaw2.DetZero': WHATEVER THE INPUT: true; the input reads as it did. -/
def detZeroSpec : ChangeSpec := { name := "detZero", fn := fun _ => fun
  | [d] => { results := [.lit (.bool true)], args := [d] }
  | _ => none }
def detZeroRow : OpenClaim := { program := "ytohconpfpecldaa", sum := "82979b9ac6bb56fc2388d6a3770659c5178908d47fc7a98900302ee5e43ea9f6", func := "rankmere/rankmerelaw2.DetZero", spec := "detZero", unfollowed := true, recurses := true, apart := false }
def DetZeroSaid : Prop := detZeroRow.holds Try.pinned (OpenSpec.ofChange detZeroSpec)

/-- ITS FALSE NEIGHBOUR: 'it returns false'. Refute it at one input. -/
def detZeroWrong : ChangeSpec := { name := "detZero", fn := fun _ => fun
  | [d] => { results := [.lit (.bool false)], args := [d] }
  | _ => none }
def DetZeroWrongFalsely : Prop := detZeroRow.holds Try.pinned (OpenSpec.ofChange detZeroWrong)

/-- 'rankmerelaw2.SolveMore': WHATEVER THE INPUT: true; the input reads as it did. -/
def solveMoreSpec : ChangeSpec := { name := "solveMore", fn := fun _ => fun
  | [d1, d2] => { results := [.lit (.bool true)], args := [d1, d2] }
  | _ => none }
def solveMoreRow : OpenClaim := { program := "ytohconpfpecldaa", sum := "82979b9ac6bb56fc2388d6a3770659c5178908d47fc7a98900302ee5e43ea9f6", func := "rankmere/rankmerelaw2.SolveMore", spec := "solveMore", unfollowed := true, recurses := true, apart := false }
def SolveMoreSaid : Prop := solveMoreRow.holds Try.pinned (OpenSpec.ofChange solveMoreSpec)

/-- ITS FALSE NEIGHBOUR: 'it returns false'. Refute it at one input. -/
def solveMoreWrong : ChangeSpec := { name := "solveMore", fn := fun _ => fun
  | [d1, d2] => { results := [.lit (.bool false)], args := [d1, d2] }
  | _ => none }
def SolveMoreWrongFalsely : Prop := solveMoreRow.holds Try.pinned (OpenSpec.ofChange solveMoreWrong)

/-- 'rankmerelaw2.SolveNull': WHATEVER THE INPUT: true; the input reads as it did. -/
def solveNullSpec : ChangeSpec := { name := "solveNull", fn := fun _ => fun
  | [d] => { results := [.lit (.bool true)], args := [d] }
  | _ => none }
def solveNullRow : OpenClaim := { program := "ytohconpfpecldaa", sum := "82979b9ac6bb56fc2388d6a3770659c5178908d47fc7a98900302ee5e43ea9f6", func := "rankmere/rankmerelaw2.SolveNull", spec := "solveNull", unfollowed := true, recurses := true, apart := false }
def SolveNullSaid : Prop := solveNullRow.holds Try.pinned (OpenSpec.ofChange solveNullSpec)

/-- ITS FALSE NEIGHBOUR: 'it returns false'. Refute it at one input. -/
def solveNullWrong : ChangeSpec := { name := "solveNull", fn := fun _ => fun
  | [d] => { results := [.lit (.bool false)], args := [d] }
  | _ => none }
def SolveNullWrongFalsely : Prop := solveNullRow.holds Try.pinned (OpenSpec.ofChange solveNullWrong)

/- THE SECOND FORM. 'bulk': how many values and letters a reading holds, each counted each time it is reached (what is shared counts as often as it is met; a slice's spare places count too). A statement '..UptoSaid' is the law's where the arguments, and the package variables that the reading takes, are together of bulk at most 1048576: NARROWER than '..Said'. Prove '..Said' where nothing that the law and all that it calls make is longer than what came in: it says more and counts as full. Else prove '..UptoSaid'. A law counts once. -/
mutual
def uptoBulk {H : Type} : DataW H → Nat
  | .lit (.string bytes) => bytes.length + 1
  | .lit _ => 1
  | .nil => 1
  | .ptr d => uptoBulk d + 1
  | .slice elems spare => uptoBulkAll elems + uptoBulkAll spare + 1
  | .agg parts => uptoBulkAll parts + 1
  | .iface _ d => uptoBulk d + 1
  | .map entries => uptoBulkEntries entries + 1
  | .held _ => 1
def uptoBulkAll {H : Type} : List (DataW H) → Nat
  | [] => 0
  | d :: r => uptoBulk d + uptoBulkAll r
def uptoBulkEntries {H : Type} : List (Lit × DataW H) → Nat
  | [] => 0
  | x :: r => uptoBulkEntry x + uptoBulkEntries r
def uptoBulkEntry {H : Type} : Lit × DataW H → Nat
  | (.string bytes, d) => bytes.length + uptoBulk d + 1
  | (_, d) => uptoBulk d + 1
 end
def uptoSmall : (H : Type) → List (DataW H) → Bool := fun _ ds => decide (uptoBulkAll ds ≤ 1048576)
def OpenSpec.upto (s : _root_.Go.ChangeSpec) : _root_.Go.OpenSpec := { _root_.Go.OpenSpec.ofChange s with cond := some uptoSmall }

/-- 'rankmerelaw3.ResultTurn', WHERE WHAT IT READS IS OF BULK AT MOST 1048576: true; the input reads as it did. -/
def resultTurnUptoRow : OpenClaim := { program := "ytohconpfpecldaa", sum := "82979b9ac6bb56fc2388d6a3770659c5178908d47fc7a98900302ee5e43ea9f6", func := "rankmere/rankmerelaw3.ResultTurn", spec := "resultTurn", unfollowed := true, recurses := true, apart := false, narrowed := true }
def ResultTurnUptoSaid : Prop := resultTurnUptoRow.holds Try.pinned (OpenSpec.upto resultTurnSpec)

/-- 'rankmerelaw3.ResultProduct', WHERE WHAT IT READS IS OF BULK AT MOST 1048576: true; the input reads as it did. -/
def resultProductUptoRow : OpenClaim := { program := "ytohconpfpecldaa", sum := "82979b9ac6bb56fc2388d6a3770659c5178908d47fc7a98900302ee5e43ea9f6", func := "rankmere/rankmerelaw3.ResultProduct", spec := "resultProduct", unfollowed := true, recurses := true, apart := false, narrowed := true }
def ResultProductUptoSaid : Prop := resultProductUptoRow.holds Try.pinned (OpenSpec.upto resultProductSpec)

/-- 'rankmerelaw3.ResultRoots', WHERE WHAT IT READS IS OF BULK AT MOST 1048576: true; the input reads as it did. -/
def resultRootsUptoRow : OpenClaim := { program := "ytohconpfpecldaa", sum := "82979b9ac6bb56fc2388d6a3770659c5178908d47fc7a98900302ee5e43ea9f6", func := "rankmere/rankmerelaw3.ResultRoots", spec := "resultRoots", unfollowed := true, recurses := true, apart := false, narrowed := true }
def ResultRootsUptoSaid : Prop := resultRootsUptoRow.holds Try.pinned (OpenSpec.upto resultRootsSpec)

/-- 'rankmerelaw3.ResultCommon', WHERE WHAT IT READS IS OF BULK AT MOST 1048576: true; the input reads as it did. -/
def resultCommonUptoRow : OpenClaim := { program := "ytohconpfpecldaa", sum := "82979b9ac6bb56fc2388d6a3770659c5178908d47fc7a98900302ee5e43ea9f6", func := "rankmere/rankmerelaw3.ResultCommon", spec := "resultCommon", unfollowed := true, recurses := true, apart := false, narrowed := true }
def ResultCommonUptoSaid : Prop := resultCommonUptoRow.holds Try.pinned (OpenSpec.upto resultCommonSpec)

/-- 'rankmerelaw3.CharCayley', WHERE WHAT IT READS IS OF BULK AT MOST 1048576: true; the input reads as it did. -/
def charCayleyUptoRow : OpenClaim := { program := "ytohconpfpecldaa", sum := "82979b9ac6bb56fc2388d6a3770659c5178908d47fc7a98900302ee5e43ea9f6", func := "rankmere/rankmerelaw3.CharCayley", spec := "charCayley", unfollowed := true, recurses := true, apart := false, narrowed := true }
def CharCayleyUptoSaid : Prop := charCayleyUptoRow.holds Try.pinned (OpenSpec.upto charCayleySpec)

/-- 'rankmerelaw3.CharEnds', WHERE WHAT IT READS IS OF BULK AT MOST 1048576: true; the input reads as it did. -/
def charEndsUptoRow : OpenClaim := { program := "ytohconpfpecldaa", sum := "82979b9ac6bb56fc2388d6a3770659c5178908d47fc7a98900302ee5e43ea9f6", func := "rankmere/rankmerelaw3.CharEnds", spec := "charEnds", unfollowed := true, recurses := true, apart := false, narrowed := true }
def CharEndsUptoSaid : Prop := charEndsUptoRow.holds Try.pinned (OpenSpec.upto charEndsSpec)

/-- 'rankmerelaw3.BandFull', WHERE WHAT IT READS IS OF BULK AT MOST 1048576: true; the input reads as it did. -/
def bandFullUptoRow : OpenClaim := { program := "ytohconpfpecldaa", sum := "82979b9ac6bb56fc2388d6a3770659c5178908d47fc7a98900302ee5e43ea9f6", func := "rankmere/rankmerelaw3.BandFull", spec := "bandFull", unfollowed := true, recurses := true, apart := false, narrowed := true }
def BandFullUptoSaid : Prop := bandFullUptoRow.holds Try.pinned (OpenSpec.upto bandFullSpec)

/-- 'rankmerelaw2.MinorsCramer', WHERE WHAT IT READS IS OF BULK AT MOST 1048576: true; the input reads as it did. -/
def minorsCramerUptoRow : OpenClaim := { program := "ytohconpfpecldaa", sum := "82979b9ac6bb56fc2388d6a3770659c5178908d47fc7a98900302ee5e43ea9f6", func := "rankmere/rankmerelaw2.MinorsCramer", spec := "minorsCramer", unfollowed := true, recurses := true, apart := false, narrowed := true }
def MinorsCramerUptoSaid : Prop := minorsCramerUptoRow.holds Try.pinned (OpenSpec.upto minorsCramerSpec)

/-- 'rankmerelaw2.MinorsAdj', WHERE WHAT IT READS IS OF BULK AT MOST 1048576: true; the input reads as it did. -/
def minorsAdjUptoRow : OpenClaim := { program := "ytohconpfpecldaa", sum := "82979b9ac6bb56fc2388d6a3770659c5178908d47fc7a98900302ee5e43ea9f6", func := "rankmere/rankmerelaw2.MinorsAdj", spec := "minorsAdj", unfollowed := true, recurses := true, apart := false, narrowed := true }
def MinorsAdjUptoSaid : Prop := minorsAdjUptoRow.holds Try.pinned (OpenSpec.upto minorsAdjSpec)

/-- 'rankmerelaw2.DetZero', WHERE WHAT IT READS IS OF BULK AT MOST 1048576: true; the input reads as it did. -/
def detZeroUptoRow : OpenClaim := { program := "ytohconpfpecldaa", sum := "82979b9ac6bb56fc2388d6a3770659c5178908d47fc7a98900302ee5e43ea9f6", func := "rankmere/rankmerelaw2.DetZero", spec := "detZero", unfollowed := true, recurses := true, apart := false, narrowed := true }
def DetZeroUptoSaid : Prop := detZeroUptoRow.holds Try.pinned (OpenSpec.upto detZeroSpec)

/-- 'rankmerelaw2.SolveMore', WHERE WHAT IT READS IS OF BULK AT MOST 1048576: true; the input reads as it did. -/
def solveMoreUptoRow : OpenClaim := { program := "ytohconpfpecldaa", sum := "82979b9ac6bb56fc2388d6a3770659c5178908d47fc7a98900302ee5e43ea9f6", func := "rankmere/rankmerelaw2.SolveMore", spec := "solveMore", unfollowed := true, recurses := true, apart := false, narrowed := true }
def SolveMoreUptoSaid : Prop := solveMoreUptoRow.holds Try.pinned (OpenSpec.upto solveMoreSpec)

/-- 'rankmerelaw2.SolveNull', WHERE WHAT IT READS IS OF BULK AT MOST 1048576: true; the input reads as it did. -/
def solveNullUptoRow : OpenClaim := { program := "ytohconpfpecldaa", sum := "82979b9ac6bb56fc2388d6a3770659c5178908d47fc7a98900302ee5e43ea9f6", func := "rankmere/rankmerelaw2.SolveNull", spec := "solveNull", unfollowed := true, recurses := true, apart := false, narrowed := true }
def SolveNullUptoSaid : Prop := solveNullUptoRow.holds Try.pinned (OpenSpec.upto solveNullSpec)

end Rows
end Go.Proofs.Ytohconpfpecldaa
