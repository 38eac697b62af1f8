/-
  No cell of these rows narrows 'for every input' (looked for: loops, veiled, ifaces, maps, wideKeys, modest, calm, conditions, laid).
  DERIVED. THE GIVEN ROWS OF THIS SEAT. 10 by the template 'for every input the law returns true; each argument reads behind the call as it read before'; 0 by the template 'total and deterministic' (their statements: YtoahegjjffggaaaTotals.lean).
  GIVEN WITH THE SEED: the statements are not yours to turn. If you find one false, say at which input.
  Laid BY PROGRAM, IN A SANDBOX (cutbox-rows.mjs): the forced cells as the released guide's own fill.sh prints them over the translation 8b9d1ef296edb944… (all of the seat's roots in one cut). By AI agents, Wed Nov 11 2026. No macro, syntax, notation, axiom, sorry.
-/
import Derived.Test.YtoahegjjffggaaaChecked
import GoSem.Claim
import GoSem.ClaimJoined
import GoSem.ClaimMapViews
import Derived.JoinedTies
import Derived.KernelRfl
namespace Go.Proofs.Ytoahegjjffggaaa
/- THE CELL 'sum', in the pinned program and in every row, IS THE sha256 OF THE DUMP (.gsa) THAT YtoahegjjffggaaaProg.lean LOADS. Nothing in Lean hashes anything: it is a label: what it is worth is what the hold of that sum in a sandbox is worth. -/
noncomputable def Try.pinned : Pinned := { name := "ytoahegjjffggaaa", sum := "8b9d1ef296edb944dfb3358aec514cec84115b7c3061571ef77b984b4757c173", checked := Try.checked }
namespace Rows
def none {H : Type} : Left H := { results := [], args := [] }

/-- 'rankmerelaw3.ResultProduct': WHATEVER THE INPUT: true; the input reads as it did. -/
def resultProductSpec : ChangeSpec := { name := "resultProduct", fn := fun _ => fun
  | [d1, d2, d3] => { results := [.lit (.bool true)], args := [d1, d2, d3] }
  | _ => none }
def resultProductRow : OpenClaim := { program := "ytoahegjjffggaaa", sum := "8b9d1ef296edb944dfb3358aec514cec84115b7c3061571ef77b984b4757c173", func := "rankmere/rankmerelaw3.ResultProduct", spec := "resultProduct", unfollowed := true, recurses := true, apart := false }
def ResultProductSaid : Prop := resultProductRow.holds Try.pinned (OpenSpec.ofChange resultProductSpec)

/-- ITS FALSE NEIGHBOUR: 'it returns false'. Refute it at one input. -/
def resultProductWrong : ChangeSpec := { name := "resultProduct", fn := fun _ => fun
  | [d1, d2, d3] => { results := [.lit (.bool false)], args := [d1, d2, d3] }
  | _ => none }
def ResultProductWrongFalsely : Prop := resultProductRow.holds Try.pinned (OpenSpec.ofChange resultProductWrong)

/-- 'rankmerelaw3.ResultRoots': WHATEVER THE INPUT: true; the input reads as it did. -/
def resultRootsSpec : ChangeSpec := { name := "resultRoots", fn := fun _ => fun
  | [d1, d2] => { results := [.lit (.bool true)], args := [d1, d2] }
  | _ => none }
def resultRootsRow : OpenClaim := { program := "ytoahegjjffggaaa", sum := "8b9d1ef296edb944dfb3358aec514cec84115b7c3061571ef77b984b4757c173", func := "rankmere/rankmerelaw3.ResultRoots", spec := "resultRoots", unfollowed := true, recurses := true, apart := false }
def ResultRootsSaid : Prop := resultRootsRow.holds Try.pinned (OpenSpec.ofChange resultRootsSpec)

/-- ITS FALSE NEIGHBOUR: 'it returns false'. Refute it at one input. -/
def resultRootsWrong : ChangeSpec := { name := "resultRoots", fn := fun _ => fun
  | [d1, d2] => { results := [.lit (.bool false)], args := [d1, d2] }
  | _ => none }
def ResultRootsWrongFalsely : Prop := resultRootsRow.holds Try.pinned (OpenSpec.ofChange resultRootsWrong)

/-- 'rankmerelaw3.ResultCommon': WHATEVER THE INPUT: true; the input reads as it did. -/
def resultCommonSpec : ChangeSpec := { name := "resultCommon", fn := fun _ => fun
  | [d1, d2] => { results := [.lit (.bool true)], args := [d1, d2] }
  | _ => none }
def resultCommonRow : OpenClaim := { program := "ytoahegjjffggaaa", sum := "8b9d1ef296edb944dfb3358aec514cec84115b7c3061571ef77b984b4757c173", func := "rankmere/rankmerelaw3.ResultCommon", spec := "resultCommon", unfollowed := true, recurses := true, apart := false }
def ResultCommonSaid : Prop := resultCommonRow.holds Try.pinned (OpenSpec.ofChange resultCommonSpec)

/-- ITS FALSE NEIGHBOUR: 'it returns false'. Refute it at one input. -/
def resultCommonWrong : ChangeSpec := { name := "resultCommon", fn := fun _ => fun
  | [d1, d2] => { results := [.lit (.bool false)], args := [d1, d2] }
  | _ => none }
def ResultCommonWrongFalsely : Prop := resultCommonRow.holds Try.pinned (OpenSpec.ofChange resultCommonWrong)

/-- 'rankmerelaw3.SturmRoots': WHATEVER THE INPUT: true; the input reads as it did. -/
def sturmRootsSpec : ChangeSpec := { name := "sturmRoots", fn := fun _ => fun
  | [d1, d2, d3, d4] => { results := [.lit (.bool true)], args := [d1, d2, d3, d4] }
  | _ => none }
def sturmRootsRow : OpenClaim := { program := "ytoahegjjffggaaa", sum := "8b9d1ef296edb944dfb3358aec514cec84115b7c3061571ef77b984b4757c173", func := "rankmere/rankmerelaw3.SturmRoots", spec := "sturmRoots", apart := false }
def SturmRootsSaid : Prop := sturmRootsRow.holds Try.pinned (OpenSpec.ofChange sturmRootsSpec)

/-- ITS FALSE NEIGHBOUR: 'it returns false'. Refute it at one input. -/
def sturmRootsWrong : ChangeSpec := { name := "sturmRoots", fn := fun _ => fun
  | [d1, d2, d3, d4] => { results := [.lit (.bool false)], args := [d1, d2, d3, d4] }
  | _ => none }
def SturmRootsWrongFalsely : Prop := sturmRootsRow.holds Try.pinned (OpenSpec.ofChange sturmRootsWrong)

/-- 'rankmerelaw3.SturmParts': WHATEVER THE INPUT: true; the input reads as it did. -/
def sturmPartsSpec : ChangeSpec := { name := "sturmParts", fn := fun _ => fun
  | [d1, d2, d3, d4] => { results := [.lit (.bool true)], args := [d1, d2, d3, d4] }
  | _ => none }
def sturmPartsRow : OpenClaim := { program := "ytoahegjjffggaaa", sum := "8b9d1ef296edb944dfb3358aec514cec84115b7c3061571ef77b984b4757c173", func := "rankmere/rankmerelaw3.SturmParts", spec := "sturmParts", apart := false }
def SturmPartsSaid : Prop := sturmPartsRow.holds Try.pinned (OpenSpec.ofChange sturmPartsSpec)

/-- ITS FALSE NEIGHBOUR: 'it returns false'. Refute it at one input. -/
def sturmPartsWrong : ChangeSpec := { name := "sturmParts", fn := fun _ => fun
  | [d1, d2, d3, d4] => { results := [.lit (.bool false)], args := [d1, d2, d3, d4] }
  | _ => none }
def SturmPartsWrongFalsely : Prop := sturmPartsRow.holds Try.pinned (OpenSpec.ofChange sturmPartsWrong)

/-- 'rankmerelaw3.SturmCubes': WHATEVER THE INPUT: true; the input reads as it did. -/
def sturmCubesSpec : ChangeSpec := { name := "sturmCubes", fn := fun _ => fun
  | [d1, d2, d3] => { results := [.lit (.bool true)], args := [d1, d2, d3] }
  | _ => none }
def sturmCubesRow : OpenClaim := { program := "ytoahegjjffggaaa", sum := "8b9d1ef296edb944dfb3358aec514cec84115b7c3061571ef77b984b4757c173", func := "rankmere/rankmerelaw3.SturmCubes", spec := "sturmCubes", apart := false }
def SturmCubesSaid : Prop := sturmCubesRow.holds Try.pinned (OpenSpec.ofChange sturmCubesSpec)

/-- ITS FALSE NEIGHBOUR: 'it returns false'. Refute it at one input. -/
def sturmCubesWrong : ChangeSpec := { name := "sturmCubes", fn := fun _ => fun
  | [d1, d2, d3] => { results := [.lit (.bool false)], args := [d1, d2, d3] }
  | _ => none }
def SturmCubesWrongFalsely : Prop := sturmCubesRow.holds Try.pinned (OpenSpec.ofChange sturmCubesWrong)

/-- 'rankmerelaw3.SturmSigns': WHATEVER THE INPUT: true; the input reads as it did. -/
def sturmSignsSpec : ChangeSpec := { name := "sturmSigns", fn := fun _ => fun
  | [d] => { results := [.lit (.bool true)], args := [d] }
  | _ => none }
def sturmSignsRow : OpenClaim := { program := "ytoahegjjffggaaa", sum := "8b9d1ef296edb944dfb3358aec514cec84115b7c3061571ef77b984b4757c173", func := "rankmere/rankmerelaw3.SturmSigns", spec := "sturmSigns", apart := false }
def SturmSignsSaid : Prop := sturmSignsRow.holds Try.pinned (OpenSpec.ofChange sturmSignsSpec)

/-- ITS FALSE NEIGHBOUR: 'it returns false'. Refute it at one input. -/
def sturmSignsWrong : ChangeSpec := { name := "sturmSigns", fn := fun _ => fun
  | [d] => { results := [.lit (.bool false)], args := [d] }
  | _ => none }
def SturmSignsWrongFalsely : Prop := sturmSignsRow.holds Try.pinned (OpenSpec.ofChange sturmSignsWrong)

/-- 'rankmeretop.TopReal': WHATEVER THE INPUT: true; the input reads as it did. -/
def topRealSpec : ChangeSpec := { name := "topReal", fn := fun _ => fun
  | [d1, d2, d3] => { results := [.lit (.bool true)], args := [d1, d2, d3] }
  | _ => none }
def topRealRow : OpenClaim := { program := "ytoahegjjffggaaa", sum := "8b9d1ef296edb944dfb3358aec514cec84115b7c3061571ef77b984b4757c173", func := "rankmere/rankmeretop.TopReal", spec := "topReal", unfollowed := true, recurses := true, apart := false }
def TopRealSaid : Prop := topRealRow.holds Try.pinned (OpenSpec.ofChange topRealSpec)

/-- ITS FALSE NEIGHBOUR: 'it returns false'. Refute it at one input. -/
def topRealWrong : ChangeSpec := { name := "topReal", fn := fun _ => fun
  | [d1, d2, d3] => { results := [.lit (.bool false)], args := [d1, d2, d3] }
  | _ => none }
def TopRealWrongFalsely : Prop := topRealRow.holds Try.pinned (OpenSpec.ofChange topRealWrong)

/-- 'rankmeretop.TopThrough': WHATEVER THE INPUT: true; the input reads as it did. -/
def topThroughSpec : ChangeSpec := { name := "topThrough", fn := fun _ => fun
  | [d1, d2] => { results := [.lit (.bool true)], args := [d1, d2] }
  | _ => none }
def topThroughRow : OpenClaim := { program := "ytoahegjjffggaaa", sum := "8b9d1ef296edb944dfb3358aec514cec84115b7c3061571ef77b984b4757c173", func := "rankmere/rankmeretop.TopThrough", spec := "topThrough", unfollowed := true, recurses := true, apart := false }
def TopThroughSaid : Prop := topThroughRow.holds Try.pinned (OpenSpec.ofChange topThroughSpec)

/-- ITS FALSE NEIGHBOUR: 'it returns false'. Refute it at one input. -/
def topThroughWrong : ChangeSpec := { name := "topThrough", fn := fun _ => fun
  | [d1, d2] => { results := [.lit (.bool false)], args := [d1, d2] }
  | _ => none }
def TopThroughWrongFalsely : Prop := topThroughRow.holds Try.pinned (OpenSpec.ofChange topThroughWrong)

/-- 'rankmeretop.TopUndo': WHATEVER THE INPUT: true; the input reads as it did. -/
def topUndoSpec : ChangeSpec := { name := "topUndo", fn := fun _ => fun
  | [d] => { results := [.lit (.bool true)], args := [d] }
  | _ => none }
def topUndoRow : OpenClaim := { program := "ytoahegjjffggaaa", sum := "8b9d1ef296edb944dfb3358aec514cec84115b7c3061571ef77b984b4757c173", func := "rankmere/rankmeretop.TopUndo", spec := "topUndo", unfollowed := true, recurses := true, apart := false }
def TopUndoSaid : Prop := topUndoRow.holds Try.pinned (OpenSpec.ofChange topUndoSpec)

/-- ITS FALSE NEIGHBOUR: 'it returns false'. Refute it at one input. -/
def topUndoWrong : ChangeSpec := { name := "topUndo", fn := fun _ => fun
  | [d] => { results := [.lit (.bool false)], args := [d] }
  | _ => none }
def TopUndoWrongFalsely : Prop := topUndoRow.holds Try.pinned (OpenSpec.ofChange topUndoWrong)

/- THE SECOND FORM. 'bulk': how many values and letters a reading holds, each counted each time it is reached (what is shared counts as often as it is met; a slice's spare places count too). A statement '..UptoSaid' is the law's where the arguments, and the package variables that the reading takes, are together of bulk at most 1048576: NARROWER than '..Said'. Prove '..Said' where nothing that the law and all that it calls make is longer than what came in: it says more and counts as full. Else prove '..UptoSaid'. A law counts once. -/
mutual
def uptoBulk {H : Type} : DataW H → Nat
  | .lit (.string bytes) => bytes.length + 1
  | .lit _ => 1
  | .nil => 1
  | .ptr d => uptoBulk d + 1
  | .slice elems spare => uptoBulkAll elems + uptoBulkAll spare + 1
  | .agg parts => uptoBulkAll parts + 1
  | .iface _ d => uptoBulk d + 1
  | .map entries => uptoBulkEntries entries + 1
  | .held _ => 1
def uptoBulkAll {H : Type} : List (DataW H) → Nat
  | [] => 0
  | d :: r => uptoBulk d + uptoBulkAll r
def uptoBulkEntries {H : Type} : List (Lit × DataW H) → Nat
  | [] => 0
  | x :: r => uptoBulkEntry x + uptoBulkEntries r
def uptoBulkEntry {H : Type} : Lit × DataW H → Nat
  | (.string bytes, d) => bytes.length + uptoBulk d + 1
  | (_, d) => uptoBulk d + 1
 end
def uptoSmall : (H : Type) → List (DataW H) → Bool := fun _ ds => decide (uptoBulkAll ds ≤ 1048576)
def OpenSpec.upto (s : _root_.Go.ChangeSpec) : _root_.Go.OpenSpec := { _root_.Go.OpenSpec.ofChange s with cond := some uptoSmall }

/-- 'rankmerelaw3.ResultProduct', WHERE WHAT IT READS IS OF BULK AT MOST 1048576: true; the input reads as it did. -/
def resultProductUptoRow : OpenClaim := { program := "ytoahegjjffggaaa", sum := "8b9d1ef296edb944dfb3358aec514cec84115b7c3061571ef77b984b4757c173", func := "rankmere/rankmerelaw3.ResultProduct", spec := "resultProduct", unfollowed := true, recurses := true, apart := false, narrowed := true }
def ResultProductUptoSaid : Prop := resultProductUptoRow.holds Try.pinned (OpenSpec.upto resultProductSpec)

/-- 'rankmerelaw3.ResultRoots', WHERE WHAT IT READS IS OF BULK AT MOST 1048576: true; the input reads as it did. -/
def resultRootsUptoRow : OpenClaim := { program := "ytoahegjjffggaaa", sum := "8b9d1ef296edb944dfb3358aec514cec84115b7c3061571ef77b984b4757c173", func := "rankmere/rankmerelaw3.ResultRoots", spec := "resultRoots", unfollowed := true, recurses := true, apart := false, narrowed := true }
def ResultRootsUptoSaid : Prop := resultRootsUptoRow.holds Try.pinned (OpenSpec.upto resultRootsSpec)

/-- 'rankmerelaw3.ResultCommon', WHERE WHAT IT READS IS OF BULK AT MOST 1048576: true; the input reads as it did. -/
def resultCommonUptoRow : OpenClaim := { program := "ytoahegjjffggaaa", sum := "8b9d1ef296edb944dfb3358aec514cec84115b7c3061571ef77b984b4757c173", func := "rankmere/rankmerelaw3.ResultCommon", spec := "resultCommon", unfollowed := true, recurses := true, apart := false, narrowed := true }
def ResultCommonUptoSaid : Prop := resultCommonUptoRow.holds Try.pinned (OpenSpec.upto resultCommonSpec)

/-- 'rankmerelaw3.SturmRoots', WHERE WHAT IT READS IS OF BULK AT MOST 1048576: true; the input reads as it did. -/
def sturmRootsUptoRow : OpenClaim := { program := "ytoahegjjffggaaa", sum := "8b9d1ef296edb944dfb3358aec514cec84115b7c3061571ef77b984b4757c173", func := "rankmere/rankmerelaw3.SturmRoots", spec := "sturmRoots", apart := false, narrowed := true }
def SturmRootsUptoSaid : Prop := sturmRootsUptoRow.holds Try.pinned (OpenSpec.upto sturmRootsSpec)

/-- 'rankmerelaw3.SturmParts', WHERE WHAT IT READS IS OF BULK AT MOST 1048576: true; the input reads as it did. -/
def sturmPartsUptoRow : OpenClaim := { program := "ytoahegjjffggaaa", sum := "8b9d1ef296edb944dfb3358aec514cec84115b7c3061571ef77b984b4757c173", func := "rankmere/rankmerelaw3.SturmParts", spec := "sturmParts", apart := false, narrowed := true }
def SturmPartsUptoSaid : Prop := sturmPartsUptoRow.holds Try.pinned (OpenSpec.upto sturmPartsSpec)

/-- 'rankmerelaw3.SturmCubes', WHERE WHAT IT READS IS OF BULK AT MOST 1048576: true; the input reads as it did. -/
def sturmCubesUptoRow : OpenClaim := { program := "ytoahegjjffggaaa", sum := "8b9d1ef296edb944dfb3358aec514cec84115b7c3061571ef77b984b4757c173", func := "rankmere/rankmerelaw3.SturmCubes", spec := "sturmCubes", apart := false, narrowed := true }
def SturmCubesUptoSaid : Prop := sturmCubesUptoRow.holds Try.pinned (OpenSpec.upto sturmCubesSpec)

/-- 'rankmerelaw3.SturmSigns', WHERE WHAT IT READS IS OF BULK AT MOST 1048576: true; the input reads as it did. -/
def sturmSignsUptoRow : OpenClaim := { program := "ytoahegjjffggaaa", sum := "8b9d1ef296edb944dfb3358aec514cec84115b7c3061571ef77b984b4757c173", func := "rankmere/rankmerelaw3.SturmSigns", spec := "sturmSigns", apart := false, narrowed := true }
def SturmSignsUptoSaid : Prop := sturmSignsUptoRow.holds Try.pinned (OpenSpec.upto sturmSignsSpec)

/-- 'rankmeretop.TopReal', WHERE WHAT IT READS IS OF BULK AT MOST 1048576: true; the input reads as it did. -/
def topRealUptoRow : OpenClaim := { program := "ytoahegjjffggaaa", sum := "8b9d1ef296edb944dfb3358aec514cec84115b7c3061571ef77b984b4757c173", func := "rankmere/rankmeretop.TopReal", spec := "topReal", unfollowed := true, recurses := true, apart := false, narrowed := true }
def TopRealUptoSaid : Prop := topRealUptoRow.holds Try.pinned (OpenSpec.upto topRealSpec)

/-- 'rankmeretop.TopThrough', WHERE WHAT IT READS IS OF BULK AT MOST 1048576: true; the input reads as it did. -/
def topThroughUptoRow : OpenClaim := { program := "ytoahegjjffggaaa", sum := "8b9d1ef296edb944dfb3358aec514cec84115b7c3061571ef77b984b4757c173", func := "rankmere/rankmeretop.TopThrough", spec := "topThrough", unfollowed := true, recurses := true, apart := false, narrowed := true }
def TopThroughUptoSaid : Prop := topThroughUptoRow.holds Try.pinned (OpenSpec.upto topThroughSpec)

/-- 'rankmeretop.TopUndo', WHERE WHAT IT READS IS OF BULK AT MOST 1048576: true; the input reads as it did. -/
def topUndoUptoRow : OpenClaim := { program := "ytoahegjjffggaaa", sum := "8b9d1ef296edb944dfb3358aec514cec84115b7c3061571ef77b984b4757c173", func := "rankmere/rankmeretop.TopUndo", spec := "topUndo", unfollowed := true, recurses := true, apart := false, narrowed := true }
def TopUndoUptoSaid : Prop := topUndoUptoRow.holds Try.pinned (OpenSpec.upto topUndoSpec)

end Rows
end Go.Proofs.Ytoahegjjffggaaa
