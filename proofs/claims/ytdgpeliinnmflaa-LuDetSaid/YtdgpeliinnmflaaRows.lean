/-
  No cell of these rows narrows 'for every input' (looked for: loops, veiled, ifaces, maps, wideKeys, modest, calm, conditions, laid).
  DERIVED. THE GIVEN ROWS OF THIS SEAT. 12 by the template 'for every input the law returns true; each argument reads behind the call as it read before'; 0 by the template 'total and deterministic' (their statements: YtdgpeliinnmflaaTotals.lean).
  GIVEN WITH THE SEED: the statements are not yours to turn. If you find one false, say at which input.
  Laid BY PROGRAM, IN A SANDBOX (cutbox-rows.mjs): the forced cells as the released guide's own fill.sh prints them over the translation d8d5be1300880e99… (all of the seat's roots in one cut). By AI agents, Wed Nov 11 2026. No macro, syntax, notation, axiom, sorry.
-/
import Derived.Test.YtdgpeliinnmflaaChecked
import GoSem.Claim
import GoSem.ClaimJoined
import GoSem.ClaimMapViews
import Derived.JoinedTies
import Derived.KernelRfl
namespace Go.Proofs.Ytdgpeliinnmflaa
/- THE CELL 'sum', in the pinned program and in every row, IS THE sha256 OF THE DUMP (.gsa) THAT YtdgpeliinnmflaaProg.lean LOADS. Nothing in Lean hashes anything: it is a label: what it is worth is what the hold of that sum in a sandbox is worth. -/
noncomputable def Try.pinned : Pinned := { name := "ytdgpeliinnmflaa", sum := "d8d5be1300880e9968fe3372732dbd9708ab333592b17db01949c49b4a03c9fc", checked := Try.checked }
namespace Rows
def none {H : Type} : Left H := { results := [], args := [] }

/-- 'rankmerelaw2.MatPow': WHATEVER THE INPUT: true; the input reads as it did. -/
def matPowSpec : ChangeSpec := { name := "matPow", fn := fun _ => fun
  | [d1, d2, d3] => { results := [.lit (.bool true)], args := [d1, d2, d3] }
  | _ => none }
def matPowRow : OpenClaim := { program := "ytdgpeliinnmflaa", sum := "d8d5be1300880e9968fe3372732dbd9708ab333592b17db01949c49b4a03c9fc", func := "rankmere/rankmerelaw2.MatPow", spec := "matPow", unfollowed := true, recurses := true, apart := false }
def MatPowSaid : Prop := matPowRow.holds Try.pinned (OpenSpec.ofChange matPowSpec)

/-- ITS FALSE NEIGHBOUR: 'it returns false'. Refute it at one input. -/
def matPowWrong : ChangeSpec := { name := "matPow", fn := fun _ => fun
  | [d1, d2, d3] => { results := [.lit (.bool false)], args := [d1, d2, d3] }
  | _ => none }
def MatPowWrongFalsely : Prop := matPowRow.holds Try.pinned (OpenSpec.ofChange matPowWrong)

/-- 'rankmerelaw2.MatTurn': WHATEVER THE INPUT: true; the input reads as it did. -/
def matTurnSpec : ChangeSpec := { name := "matTurn", fn := fun _ => fun
  | [d1, d2] => { results := [.lit (.bool true)], args := [d1, d2] }
  | _ => none }
def matTurnRow : OpenClaim := { program := "ytdgpeliinnmflaa", sum := "d8d5be1300880e9968fe3372732dbd9708ab333592b17db01949c49b4a03c9fc", func := "rankmere/rankmerelaw2.MatTurn", spec := "matTurn", unfollowed := true, recurses := true, apart := false }
def MatTurnSaid : Prop := matTurnRow.holds Try.pinned (OpenSpec.ofChange matTurnSpec)

/-- ITS FALSE NEIGHBOUR: 'it returns false'. Refute it at one input. -/
def matTurnWrong : ChangeSpec := { name := "matTurn", fn := fun _ => fun
  | [d1, d2] => { results := [.lit (.bool false)], args := [d1, d2] }
  | _ => none }
def MatTurnWrongFalsely : Prop := matTurnRow.holds Try.pinned (OpenSpec.ofChange matTurnWrong)

/-- 'rankmerelaw2.MatRing': WHATEVER THE INPUT: true; the input reads as it did. -/
def matRingSpec : ChangeSpec := { name := "matRing", fn := fun _ => fun
  | [d1, d2, d3, d4] => { results := [.lit (.bool true)], args := [d1, d2, d3, d4] }
  | _ => none }
def matRingRow : OpenClaim := { program := "ytdgpeliinnmflaa", sum := "d8d5be1300880e9968fe3372732dbd9708ab333592b17db01949c49b4a03c9fc", func := "rankmere/rankmerelaw2.MatRing", spec := "matRing", unfollowed := true, recurses := true, apart := false }
def MatRingSaid : Prop := matRingRow.holds Try.pinned (OpenSpec.ofChange matRingSpec)

/-- ITS FALSE NEIGHBOUR: 'it returns false'. Refute it at one input. -/
def matRingWrong : ChangeSpec := { name := "matRing", fn := fun _ => fun
  | [d1, d2, d3, d4] => { results := [.lit (.bool false)], args := [d1, d2, d3, d4] }
  | _ => none }
def MatRingWrongFalsely : Prop := matRingRow.holds Try.pinned (OpenSpec.ofChange matRingWrong)

/-- 'rankmerelaw2.DetRows': WHATEVER THE INPUT: true; the input reads as it did. -/
def detRowsSpec : ChangeSpec := { name := "detRows", fn := fun _ => fun
  | [d1, d2, d3, d4] => { results := [.lit (.bool true)], args := [d1, d2, d3, d4] }
  | _ => none }
def detRowsRow : OpenClaim := { program := "ytdgpeliinnmflaa", sum := "d8d5be1300880e9968fe3372732dbd9708ab333592b17db01949c49b4a03c9fc", func := "rankmere/rankmerelaw2.DetRows", spec := "detRows", unfollowed := true, recurses := true, apart := false }
def DetRowsSaid : Prop := detRowsRow.holds Try.pinned (OpenSpec.ofChange detRowsSpec)

/-- ITS FALSE NEIGHBOUR: 'it returns false'. Refute it at one input. -/
def detRowsWrong : ChangeSpec := { name := "detRows", fn := fun _ => fun
  | [d1, d2, d3, d4] => { results := [.lit (.bool false)], args := [d1, d2, d3, d4] }
  | _ => none }
def DetRowsWrongFalsely : Prop := detRowsRow.holds Try.pinned (OpenSpec.ofChange detRowsWrong)

/-- 'rankmerelaw2.DetSum': WHATEVER THE INPUT: true; the input reads as it did. -/
def detSumSpec : ChangeSpec := { name := "detSum", fn := fun _ => fun
  | [d1, d2, d3] => { results := [.lit (.bool true)], args := [d1, d2, d3] }
  | _ => none }
def detSumRow : OpenClaim := { program := "ytdgpeliinnmflaa", sum := "d8d5be1300880e9968fe3372732dbd9708ab333592b17db01949c49b4a03c9fc", func := "rankmere/rankmerelaw2.DetSum", spec := "detSum", unfollowed := true, recurses := true, apart := false }
def DetSumSaid : Prop := detSumRow.holds Try.pinned (OpenSpec.ofChange detSumSpec)

/-- ITS FALSE NEIGHBOUR: 'it returns false'. Refute it at one input. -/
def detSumWrong : ChangeSpec := { name := "detSum", fn := fun _ => fun
  | [d1, d2, d3] => { results := [.lit (.bool false)], args := [d1, d2, d3] }
  | _ => none }
def DetSumWrongFalsely : Prop := detSumRow.holds Try.pinned (OpenSpec.ofChange detSumWrong)

/-- 'rankmerelaw2.DetSign': WHATEVER THE INPUT: true; the input reads as it did. -/
def detSignSpec : ChangeSpec := { name := "detSign", fn := fun _ => fun
  | [d1, d2, d3] => { results := [.lit (.bool true)], args := [d1, d2, d3] }
  | _ => none }
def detSignRow : OpenClaim := { program := "ytdgpeliinnmflaa", sum := "d8d5be1300880e9968fe3372732dbd9708ab333592b17db01949c49b4a03c9fc", func := "rankmere/rankmerelaw2.DetSign", spec := "detSign", unfollowed := true, recurses := true, apart := false }
def DetSignSaid : Prop := detSignRow.holds Try.pinned (OpenSpec.ofChange detSignSpec)

/-- ITS FALSE NEIGHBOUR: 'it returns false'. Refute it at one input. -/
def detSignWrong : ChangeSpec := { name := "detSign", fn := fun _ => fun
  | [d1, d2, d3] => { results := [.lit (.bool false)], args := [d1, d2, d3] }
  | _ => none }
def DetSignWrongFalsely : Prop := detSignRow.holds Try.pinned (OpenSpec.ofChange detSignWrong)

/-- 'rankmerelaw2.DetMul': WHATEVER THE INPUT: true; the input reads as it did. -/
def detMulSpec : ChangeSpec := { name := "detMul", fn := fun _ => fun
  | [d1, d2] => { results := [.lit (.bool true)], args := [d1, d2] }
  | _ => none }
def detMulRow : OpenClaim := { program := "ytdgpeliinnmflaa", sum := "d8d5be1300880e9968fe3372732dbd9708ab333592b17db01949c49b4a03c9fc", func := "rankmere/rankmerelaw2.DetMul", spec := "detMul", unfollowed := true, recurses := true, apart := false }
def DetMulSaid : Prop := detMulRow.holds Try.pinned (OpenSpec.ofChange detMulSpec)

/-- ITS FALSE NEIGHBOUR: 'it returns false'. Refute it at one input. -/
def detMulWrong : ChangeSpec := { name := "detMul", fn := fun _ => fun
  | [d1, d2] => { results := [.lit (.bool false)], args := [d1, d2] }
  | _ => none }
def DetMulWrongFalsely : Prop := detMulRow.holds Try.pinned (OpenSpec.ofChange detMulWrong)

/-- 'rankmerelaw2.GaussSum': WHATEVER THE INPUT: true; the input reads as it did. -/
def gaussSumSpec : ChangeSpec := { name := "gaussSum", fn := fun _ => fun
  | [d1, d2] => { results := [.lit (.bool true)], args := [d1, d2] }
  | _ => none }
def gaussSumRow : OpenClaim := { program := "ytdgpeliinnmflaa", sum := "d8d5be1300880e9968fe3372732dbd9708ab333592b17db01949c49b4a03c9fc", func := "rankmere/rankmerelaw2.GaussSum", spec := "gaussSum", unfollowed := true, recurses := true, apart := false }
def GaussSumSaid : Prop := gaussSumRow.holds Try.pinned (OpenSpec.ofChange gaussSumSpec)

/-- ITS FALSE NEIGHBOUR: 'it returns false'. Refute it at one input. -/
def gaussSumWrong : ChangeSpec := { name := "gaussSum", fn := fun _ => fun
  | [d1, d2] => { results := [.lit (.bool false)], args := [d1, d2] }
  | _ => none }
def GaussSumWrongFalsely : Prop := gaussSumRow.holds Try.pinned (OpenSpec.ofChange gaussSumWrong)

/-- 'rankmerelaw2.GaussOne': WHATEVER THE INPUT: true; the input reads as it did. -/
def gaussOneSpec : ChangeSpec := { name := "gaussOne", fn := fun _ => fun
  | [d1, d2] => { results := [.lit (.bool true)], args := [d1, d2] }
  | _ => none }
def gaussOneRow : OpenClaim := { program := "ytdgpeliinnmflaa", sum := "d8d5be1300880e9968fe3372732dbd9708ab333592b17db01949c49b4a03c9fc", func := "rankmere/rankmerelaw2.GaussOne", spec := "gaussOne", unfollowed := true, recurses := true, apart := false }
def GaussOneSaid : Prop := gaussOneRow.holds Try.pinned (OpenSpec.ofChange gaussOneSpec)

/-- ITS FALSE NEIGHBOUR: 'it returns false'. Refute it at one input. -/
def gaussOneWrong : ChangeSpec := { name := "gaussOne", fn := fun _ => fun
  | [d1, d2] => { results := [.lit (.bool false)], args := [d1, d2] }
  | _ => none }
def GaussOneWrongFalsely : Prop := gaussOneRow.holds Try.pinned (OpenSpec.ofChange gaussOneWrong)

/-- 'rankmerelaw2.GaussRank': WHATEVER THE INPUT: true; the input reads as it did. -/
def gaussRankSpec : ChangeSpec := { name := "gaussRank", fn := fun _ => fun
  | [d1, d2] => { results := [.lit (.bool true)], args := [d1, d2] }
  | _ => none }
def gaussRankRow : OpenClaim := { program := "ytdgpeliinnmflaa", sum := "d8d5be1300880e9968fe3372732dbd9708ab333592b17db01949c49b4a03c9fc", func := "rankmere/rankmerelaw2.GaussRank", spec := "gaussRank", unfollowed := true, recurses := true, apart := false }
def GaussRankSaid : Prop := gaussRankRow.holds Try.pinned (OpenSpec.ofChange gaussRankSpec)

/-- ITS FALSE NEIGHBOUR: 'it returns false'. Refute it at one input. -/
def gaussRankWrong : ChangeSpec := { name := "gaussRank", fn := fun _ => fun
  | [d1, d2] => { results := [.lit (.bool false)], args := [d1, d2] }
  | _ => none }
def GaussRankWrongFalsely : Prop := gaussRankRow.holds Try.pinned (OpenSpec.ofChange gaussRankWrong)

/-- 'rankmerelaw2.LuBack': WHATEVER THE INPUT: true; the input reads as it did. -/
def luBackSpec : ChangeSpec := { name := "luBack", fn := fun _ => fun
  | [d] => { results := [.lit (.bool true)], args := [d] }
  | _ => none }
def luBackRow : OpenClaim := { program := "ytdgpeliinnmflaa", sum := "d8d5be1300880e9968fe3372732dbd9708ab333592b17db01949c49b4a03c9fc", func := "rankmere/rankmerelaw2.LuBack", spec := "luBack", unfollowed := true, recurses := true, apart := false }
def LuBackSaid : Prop := luBackRow.holds Try.pinned (OpenSpec.ofChange luBackSpec)

/-- ITS FALSE NEIGHBOUR: 'it returns false'. Refute it at one input. -/
def luBackWrong : ChangeSpec := { name := "luBack", fn := fun _ => fun
  | [d] => { results := [.lit (.bool false)], args := [d] }
  | _ => none }
def LuBackWrongFalsely : Prop := luBackRow.holds Try.pinned (OpenSpec.ofChange luBackWrong)

/-- 'rankmerelaw2.LuDet': WHATEVER THE INPUT: true; the input reads as it did. -/
def luDetSpec : ChangeSpec := { name := "luDet", fn := fun _ => fun
  | [d] => { results := [.lit (.bool true)], args := [d] }
  | _ => none }
def luDetRow : OpenClaim := { program := "ytdgpeliinnmflaa", sum := "d8d5be1300880e9968fe3372732dbd9708ab333592b17db01949c49b4a03c9fc", func := "rankmere/rankmerelaw2.LuDet", spec := "luDet", unfollowed := true, recurses := true, apart := false }
def LuDetSaid : Prop := luDetRow.holds Try.pinned (OpenSpec.ofChange luDetSpec)

/-- ITS FALSE NEIGHBOUR: 'it returns false'. Refute it at one input. -/
def luDetWrong : ChangeSpec := { name := "luDet", fn := fun _ => fun
  | [d] => { results := [.lit (.bool false)], args := [d] }
  | _ => none }
def LuDetWrongFalsely : Prop := luDetRow.holds Try.pinned (OpenSpec.ofChange luDetWrong)

/- THE SECOND FORM. 'bulk': how many values and letters a reading holds, each counted each time it is reached (what is shared counts as often as it is met; a slice's spare places count too). A statement '..UptoSaid' is the law's where the arguments, and the package variables that the reading takes, are together of bulk at most 1048576: NARROWER than '..Said'. Prove '..Said' where nothing that the law and all that it calls make is longer than what came in: it says more and counts as full. Else prove '..UptoSaid'. A law counts once. -/
mutual
def uptoBulk {H : Type} : DataW H → Nat
  | .lit (.string bytes) => bytes.length + 1
  | .lit _ => 1
  | .nil => 1
  | .ptr d => uptoBulk d + 1
  | .slice elems spare => uptoBulkAll elems + uptoBulkAll spare + 1
  | .agg parts => uptoBulkAll parts + 1
  | .iface _ d => uptoBulk d + 1
  | .map entries => uptoBulkEntries entries + 1
  | .held _ => 1
def uptoBulkAll {H : Type} : List (DataW H) → Nat
  | [] => 0
  | d :: r => uptoBulk d + uptoBulkAll r
def uptoBulkEntries {H : Type} : List (Lit × DataW H) → Nat
  | [] => 0
  | x :: r => uptoBulkEntry x + uptoBulkEntries r
def uptoBulkEntry {H : Type} : Lit × DataW H → Nat
  | (.string bytes, d) => bytes.length + uptoBulk d + 1
  | (_, d) => uptoBulk d + 1
 end
def uptoSmall : (H : Type) → List (DataW H) → Bool := fun _ ds => decide (uptoBulkAll ds ≤ 1048576)
def OpenSpec.upto (s : _root_.Go.ChangeSpec) : _root_.Go.OpenSpec := { _root_.Go.OpenSpec.ofChange s with cond := some uptoSmall }

/-- 'rankmerelaw2.MatPow', WHERE WHAT IT READS IS OF BULK AT MOST 1048576: true; the input reads as it did. -/
def matPowUptoRow : OpenClaim := { program := "ytdgpeliinnmflaa", sum := "d8d5be1300880e9968fe3372732dbd9708ab333592b17db01949c49b4a03c9fc", func := "rankmere/rankmerelaw2.MatPow", spec := "matPow", unfollowed := true, recurses := true, apart := false, narrowed := true }
def MatPowUptoSaid : Prop := matPowUptoRow.holds Try.pinned (OpenSpec.upto matPowSpec)

/-- 'rankmerelaw2.MatTurn', WHERE WHAT IT READS IS OF BULK AT MOST 1048576: true; the input reads as it did. -/
def matTurnUptoRow : OpenClaim := { program := "ytdgpeliinnmflaa", sum := "d8d5be1300880e9968fe3372732dbd9708ab333592b17db01949c49b4a03c9fc", func := "rankmere/rankmerelaw2.MatTurn", spec := "matTurn", unfollowed := true, recurses := true, apart := false, narrowed := true }
def MatTurnUptoSaid : Prop := matTurnUptoRow.holds Try.pinned (OpenSpec.upto matTurnSpec)

/-- 'rankmerelaw2.MatRing', WHERE WHAT IT READS IS OF BULK AT MOST 1048576: true; the input reads as it did. -/
def matRingUptoRow : OpenClaim := { program := "ytdgpeliinnmflaa", sum := "d8d5be1300880e9968fe3372732dbd9708ab333592b17db01949c49b4a03c9fc", func := "rankmere/rankmerelaw2.MatRing", spec := "matRing", unfollowed := true, recurses := true, apart := false, narrowed := true }
def MatRingUptoSaid : Prop := matRingUptoRow.holds Try.pinned (OpenSpec.upto matRingSpec)

/-- 'rankmerelaw2.DetRows', WHERE WHAT IT READS IS OF BULK AT MOST 1048576: true; the input reads as it did. -/
def detRowsUptoRow : OpenClaim := { program := "ytdgpeliinnmflaa", sum := "d8d5be1300880e9968fe3372732dbd9708ab333592b17db01949c49b4a03c9fc", func := "rankmere/rankmerelaw2.DetRows", spec := "detRows", unfollowed := true, recurses := true, apart := false, narrowed := true }
def DetRowsUptoSaid : Prop := detRowsUptoRow.holds Try.pinned (OpenSpec.upto detRowsSpec)

/-- 'rankmerelaw2.DetSum', WHERE WHAT IT READS IS OF BULK AT MOST 1048576: true; the input reads as it did. -/
def detSumUptoRow : OpenClaim := { program := "ytdgpeliinnmflaa", sum := "d8d5be1300880e9968fe3372732dbd9708ab333592b17db01949c49b4a03c9fc", func := "rankmere/rankmerelaw2.DetSum", spec := "detSum", unfollowed := true, recurses := true, apart := false, narrowed := true }
def DetSumUptoSaid : Prop := detSumUptoRow.holds Try.pinned (OpenSpec.upto detSumSpec)

/-- 'rankmerelaw2.DetSign', WHERE WHAT IT READS IS OF BULK AT MOST 1048576: true; the input reads as it did. -/
def detSignUptoRow : OpenClaim := { program := "ytdgpeliinnmflaa", sum := "d8d5be1300880e9968fe3372732dbd9708ab333592b17db01949c49b4a03c9fc", func := "rankmere/rankmerelaw2.DetSign", spec := "detSign", unfollowed := true, recurses := true, apart := false, narrowed := true }
def DetSignUptoSaid : Prop := detSignUptoRow.holds Try.pinned (OpenSpec.upto detSignSpec)

/-- 'rankmerelaw2.DetMul', WHERE WHAT IT READS IS OF BULK AT MOST 1048576: true; the input reads as it did. -/
def detMulUptoRow : OpenClaim := { program := "ytdgpeliinnmflaa", sum := "d8d5be1300880e9968fe3372732dbd9708ab333592b17db01949c49b4a03c9fc", func := "rankmere/rankmerelaw2.DetMul", spec := "detMul", unfollowed := true, recurses := true, apart := false, narrowed := true }
def DetMulUptoSaid : Prop := detMulUptoRow.holds Try.pinned (OpenSpec.upto detMulSpec)

/-- 'rankmerelaw2.GaussSum', WHERE WHAT IT READS IS OF BULK AT MOST 1048576: true; the input reads as it did. -/
def gaussSumUptoRow : OpenClaim := { program := "ytdgpeliinnmflaa", sum := "d8d5be1300880e9968fe3372732dbd9708ab333592b17db01949c49b4a03c9fc", func := "rankmere/rankmerelaw2.GaussSum", spec := "gaussSum", unfollowed := true, recurses := true, apart := false, narrowed := true }
def GaussSumUptoSaid : Prop := gaussSumUptoRow.holds Try.pinned (OpenSpec.upto gaussSumSpec)

/-- 'rankmerelaw2.GaussOne', WHERE WHAT IT READS IS OF BULK AT MOST 1048576: true; the input reads as it did. -/
def gaussOneUptoRow : OpenClaim := { program := "ytdgpeliinnmflaa", sum := "d8d5be1300880e9968fe3372732dbd9708ab333592b17db01949c49b4a03c9fc", func := "rankmere/rankmerelaw2.GaussOne", spec := "gaussOne", unfollowed := true, recurses := true, apart := false, narrowed := true }
def GaussOneUptoSaid : Prop := gaussOneUptoRow.holds Try.pinned (OpenSpec.upto gaussOneSpec)

/-- 'rankmerelaw2.GaussRank', WHERE WHAT IT READS IS OF BULK AT MOST 1048576: true; the input reads as it did. -/
def gaussRankUptoRow : OpenClaim := { program := "ytdgpeliinnmflaa", sum := "d8d5be1300880e9968fe3372732dbd9708ab333592b17db01949c49b4a03c9fc", func := "rankmere/rankmerelaw2.GaussRank", spec := "gaussRank", unfollowed := true, recurses := true, apart := false, narrowed := true }
def GaussRankUptoSaid : Prop := gaussRankUptoRow.holds Try.pinned (OpenSpec.upto gaussRankSpec)

/-- 'rankmerelaw2.LuBack', WHERE WHAT IT READS IS OF BULK AT MOST 1048576: true; the input reads as it did. -/
def luBackUptoRow : OpenClaim := { program := "ytdgpeliinnmflaa", sum := "d8d5be1300880e9968fe3372732dbd9708ab333592b17db01949c49b4a03c9fc", func := "rankmere/rankmerelaw2.LuBack", spec := "luBack", unfollowed := true, recurses := true, apart := false, narrowed := true }
def LuBackUptoSaid : Prop := luBackUptoRow.holds Try.pinned (OpenSpec.upto luBackSpec)

/-- 'rankmerelaw2.LuDet', WHERE WHAT IT READS IS OF BULK AT MOST 1048576: true; the input reads as it did. -/
def luDetUptoRow : OpenClaim := { program := "ytdgpeliinnmflaa", sum := "d8d5be1300880e9968fe3372732dbd9708ab333592b17db01949c49b4a03c9fc", func := "rankmere/rankmerelaw2.LuDet", spec := "luDet", unfollowed := true, recurses := true, apart := false, narrowed := true }
def LuDetUptoSaid : Prop := luDetUptoRow.holds Try.pinned (OpenSpec.upto luDetSpec)

end Rows
end Go.Proofs.Ytdgpeliinnmflaa
