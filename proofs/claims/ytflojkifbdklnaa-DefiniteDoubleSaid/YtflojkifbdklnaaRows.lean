/-
  No cell of these rows narrows 'for every input' (looked for: loops, veiled, ifaces, maps, wideKeys, modest, calm, conditions, laid).
  DERIVED. THE GIVEN ROWS OF THIS SEAT. 12 by the template 'for every input the law returns true; each argument reads behind the call as it read before'; 0 by the template 'total and deterministic' (their statements: YtflojkifbdklnaaTotals.lean).
  GIVEN WITH THE SEED: the statements are not yours to turn. If you find one false, say at which input.
  Laid BY PROGRAM, IN A SANDBOX (cutbox-rows.mjs): the forced cells as the released guide's own fill.sh prints them over the translation 280df3c9197f7589… (all of the seat's roots in one cut). By AI agents, Wed Nov 11 2026. No macro, syntax, notation, axiom, sorry.
-/
import Derived.Test.YtflojkifbdklnaaChecked
import GoSem.Claim
import GoSem.ClaimJoined
import GoSem.ClaimMapViews
import Derived.JoinedTies
import Derived.KernelRfl
namespace Go.Proofs.Ytflojkifbdklnaa
/- THE CELL 'sum', in the pinned program and in every row, IS THE sha256 OF THE DUMP (.gsa) THAT YtflojkifbdklnaaProg.lean LOADS. Nothing in Lean hashes anything: it is a label: what it is worth is what the hold of that sum in a sandbox is worth. -/
noncomputable def Try.pinned : Pinned := { name := "ytflojkifbdklnaa", sum := "280df3c9197f75896f91fb8f23ae113af9d6257f9fb47fc9707e41bfe00c3ab3", checked := Try.checked }
namespace Rows
def none {H : Type} : Left H := { results := [], args := [] }

/-- 'rankmerelaw3.BandMuir': WHATEVER THE INPUT: true; the input reads as it did. -/
def bandMuirSpec : ChangeSpec := { name := "bandMuir", fn := fun _ => fun
  | [d1, d2, d3] => { results := [.lit (.bool true)], args := [d1, d2, d3] }
  | _ => none }
def bandMuirRow : OpenClaim := { program := "ytflojkifbdklnaa", sum := "280df3c9197f75896f91fb8f23ae113af9d6257f9fb47fc9707e41bfe00c3ab3", func := "rankmere/rankmerelaw3.BandMuir", spec := "bandMuir", apart := false }
def BandMuirSaid : Prop := bandMuirRow.holds Try.pinned (OpenSpec.ofChange bandMuirSpec)

/-- ITS FALSE NEIGHBOUR: 'it returns false'. Refute it at one input. -/
def bandMuirWrong : ChangeSpec := { name := "bandMuir", fn := fun _ => fun
  | [d1, d2, d3] => { results := [.lit (.bool false)], args := [d1, d2, d3] }
  | _ => none }
def BandMuirWrongFalsely : Prop := bandMuirRow.holds Try.pinned (OpenSpec.ofChange bandMuirWrong)

/-- 'rankmerelaw3.VanderPowers': WHATEVER THE INPUT: true; the input reads as it did. -/
def vanderPowersSpec : ChangeSpec := { name := "vanderPowers", fn := fun _ => fun
  | [d1, d2] => { results := [.lit (.bool true)], args := [d1, d2] }
  | _ => none }
def vanderPowersRow : OpenClaim := { program := "ytflojkifbdklnaa", sum := "280df3c9197f75896f91fb8f23ae113af9d6257f9fb47fc9707e41bfe00c3ab3", func := "rankmere/rankmerelaw3.VanderPowers", spec := "vanderPowers", unfollowed := true, recurses := true, apart := false }
def VanderPowersSaid : Prop := vanderPowersRow.holds Try.pinned (OpenSpec.ofChange vanderPowersSpec)

/-- ITS FALSE NEIGHBOUR: 'it returns false'. Refute it at one input. -/
def vanderPowersWrong : ChangeSpec := { name := "vanderPowers", fn := fun _ => fun
  | [d1, d2] => { results := [.lit (.bool false)], args := [d1, d2] }
  | _ => none }
def VanderPowersWrongFalsely : Prop := vanderPowersRow.holds Try.pinned (OpenSpec.ofChange vanderPowersWrong)

/-- 'rankmerelaw2.BareissHadamard': WHATEVER THE INPUT: true; the input reads as it did. -/
def bareissHadamardSpec : ChangeSpec := { name := "bareissHadamard", fn := fun _ => fun
  | [d] => { results := [.lit (.bool true)], args := [d] }
  | _ => none }
def bareissHadamardRow : OpenClaim := { program := "ytflojkifbdklnaa", sum := "280df3c9197f75896f91fb8f23ae113af9d6257f9fb47fc9707e41bfe00c3ab3", func := "rankmere/rankmerelaw2.BareissHadamard", spec := "bareissHadamard", unfollowed := true, recurses := true, apart := false }
def BareissHadamardSaid : Prop := bareissHadamardRow.holds Try.pinned (OpenSpec.ofChange bareissHadamardSpec)

/-- ITS FALSE NEIGHBOUR: 'it returns false'. Refute it at one input. -/
def bareissHadamardWrong : ChangeSpec := { name := "bareissHadamard", fn := fun _ => fun
  | [d] => { results := [.lit (.bool false)], args := [d] }
  | _ => none }
def BareissHadamardWrongFalsely : Prop := bareissHadamardRow.holds Try.pinned (OpenSpec.ofChange bareissHadamardWrong)

/-- 'rankmerelaw2.BareissHeavy': WHATEVER THE INPUT: true; the input reads as it did. -/
def bareissHeavySpec : ChangeSpec := { name := "bareissHeavy", fn := fun _ => fun
  | [d] => { results := [.lit (.bool true)], args := [d] }
  | _ => none }
def bareissHeavyRow : OpenClaim := { program := "ytflojkifbdklnaa", sum := "280df3c9197f75896f91fb8f23ae113af9d6257f9fb47fc9707e41bfe00c3ab3", func := "rankmere/rankmerelaw2.BareissHeavy", spec := "bareissHeavy", unfollowed := true, recurses := true, apart := false }
def BareissHeavySaid : Prop := bareissHeavyRow.holds Try.pinned (OpenSpec.ofChange bareissHeavySpec)

/-- ITS FALSE NEIGHBOUR: 'it returns false'. Refute it at one input. -/
def bareissHeavyWrong : ChangeSpec := { name := "bareissHeavy", fn := fun _ => fun
  | [d] => { results := [.lit (.bool false)], args := [d] }
  | _ => none }
def BareissHeavyWrongFalsely : Prop := bareissHeavyRow.holds Try.pinned (OpenSpec.ofChange bareissHeavyWrong)

/-- 'rankmerelaw3.DefiniteAbove': WHATEVER THE INPUT: true; the input reads as it did. -/
def definiteAboveSpec : ChangeSpec := { name := "definiteAbove", fn := fun _ => fun
  | [d1, d2] => { results := [.lit (.bool true)], args := [d1, d2] }
  | _ => none }
def definiteAboveRow : OpenClaim := { program := "ytflojkifbdklnaa", sum := "280df3c9197f75896f91fb8f23ae113af9d6257f9fb47fc9707e41bfe00c3ab3", func := "rankmere/rankmerelaw3.DefiniteAbove", spec := "definiteAbove", unfollowed := true, recurses := true, apart := false }
def DefiniteAboveSaid : Prop := definiteAboveRow.holds Try.pinned (OpenSpec.ofChange definiteAboveSpec)

/-- ITS FALSE NEIGHBOUR: 'it returns false'. Refute it at one input. -/
def definiteAboveWrong : ChangeSpec := { name := "definiteAbove", fn := fun _ => fun
  | [d1, d2] => { results := [.lit (.bool false)], args := [d1, d2] }
  | _ => none }
def DefiniteAboveWrongFalsely : Prop := definiteAboveRow.holds Try.pinned (OpenSpec.ofChange definiteAboveWrong)

/-- 'rankmerelaw3.DefiniteMiddle': WHATEVER THE INPUT: true; the input reads as it did. -/
def definiteMiddleSpec : ChangeSpec := { name := "definiteMiddle", fn := fun _ => fun
  | [d] => { results := [.lit (.bool true)], args := [d] }
  | _ => none }
def definiteMiddleRow : OpenClaim := { program := "ytflojkifbdklnaa", sum := "280df3c9197f75896f91fb8f23ae113af9d6257f9fb47fc9707e41bfe00c3ab3", func := "rankmere/rankmerelaw3.DefiniteMiddle", spec := "definiteMiddle", unfollowed := true, recurses := true, apart := false }
def DefiniteMiddleSaid : Prop := definiteMiddleRow.holds Try.pinned (OpenSpec.ofChange definiteMiddleSpec)

/-- ITS FALSE NEIGHBOUR: 'it returns false'. Refute it at one input. -/
def definiteMiddleWrong : ChangeSpec := { name := "definiteMiddle", fn := fun _ => fun
  | [d] => { results := [.lit (.bool false)], args := [d] }
  | _ => none }
def DefiniteMiddleWrongFalsely : Prop := definiteMiddleRow.holds Try.pinned (OpenSpec.ofChange definiteMiddleWrong)

/-- 'rankmerelaw3.DefiniteSum': WHATEVER THE INPUT: true; the input reads as it did. -/
def definiteSumSpec : ChangeSpec := { name := "definiteSum", fn := fun _ => fun
  | [d1, d2] => { results := [.lit (.bool true)], args := [d1, d2] }
  | _ => none }
def definiteSumRow : OpenClaim := { program := "ytflojkifbdklnaa", sum := "280df3c9197f75896f91fb8f23ae113af9d6257f9fb47fc9707e41bfe00c3ab3", func := "rankmere/rankmerelaw3.DefiniteSum", spec := "definiteSum", unfollowed := true, recurses := true, apart := false }
def DefiniteSumSaid : Prop := definiteSumRow.holds Try.pinned (OpenSpec.ofChange definiteSumSpec)

/-- ITS FALSE NEIGHBOUR: 'it returns false'. Refute it at one input. -/
def definiteSumWrong : ChangeSpec := { name := "definiteSum", fn := fun _ => fun
  | [d1, d2] => { results := [.lit (.bool false)], args := [d1, d2] }
  | _ => none }
def DefiniteSumWrongFalsely : Prop := definiteSumRow.holds Try.pinned (OpenSpec.ofChange definiteSumWrong)

/-- 'rankmerelaw3.DefiniteDouble': WHATEVER THE INPUT: true; the input reads as it did. -/
def definiteDoubleSpec : ChangeSpec := { name := "definiteDouble", fn := fun _ => fun
  | [d1, d2, d3] => { results := [.lit (.bool true)], args := [d1, d2, d3] }
  | _ => none }
def definiteDoubleRow : OpenClaim := { program := "ytflojkifbdklnaa", sum := "280df3c9197f75896f91fb8f23ae113af9d6257f9fb47fc9707e41bfe00c3ab3", func := "rankmere/rankmerelaw3.DefiniteDouble", spec := "definiteDouble", unfollowed := true, recurses := true, apart := false }
def DefiniteDoubleSaid : Prop := definiteDoubleRow.holds Try.pinned (OpenSpec.ofChange definiteDoubleSpec)

/-- ITS FALSE NEIGHBOUR: 'it returns false'. Refute it at one input. -/
def definiteDoubleWrong : ChangeSpec := { name := "definiteDouble", fn := fun _ => fun
  | [d1, d2, d3] => { results := [.lit (.bool false)], args := [d1, d2, d3] }
  | _ => none }
def DefiniteDoubleWrongFalsely : Prop := definiteDoubleRow.holds Try.pinned (OpenSpec.ofChange definiteDoubleWrong)

/-- 'rankmerelaw3.MasseyGrows': WHATEVER THE INPUT: true; the input reads as it did. -/
def masseyGrowsSpec : ChangeSpec := { name := "masseyGrows", fn := fun _ => fun
  | [d1, d2] => { results := [.lit (.bool true)], args := [d1, d2] }
  | _ => none }
def masseyGrowsRow : OpenClaim := { program := "ytflojkifbdklnaa", sum := "280df3c9197f75896f91fb8f23ae113af9d6257f9fb47fc9707e41bfe00c3ab3", func := "rankmere/rankmerelaw3.MasseyGrows", spec := "masseyGrows", unfollowed := true, recurses := true, apart := false }
def MasseyGrowsSaid : Prop := masseyGrowsRow.holds Try.pinned (OpenSpec.ofChange masseyGrowsSpec)

/-- ITS FALSE NEIGHBOUR: 'it returns false'. Refute it at one input. -/
def masseyGrowsWrong : ChangeSpec := { name := "masseyGrows", fn := fun _ => fun
  | [d1, d2] => { results := [.lit (.bool false)], args := [d1, d2] }
  | _ => none }
def MasseyGrowsWrongFalsely : Prop := masseyGrowsRow.holds Try.pinned (OpenSpec.ofChange masseyGrowsWrong)

/-- 'rankmerelaw3.MasseyFinds': WHATEVER THE INPUT: true; the input reads as it did. -/
def masseyFindsSpec : ChangeSpec := { name := "masseyFinds", fn := fun _ => fun
  | [d1, d2, d3] => { results := [.lit (.bool true)], args := [d1, d2, d3] }
  | _ => none }
def masseyFindsRow : OpenClaim := { program := "ytflojkifbdklnaa", sum := "280df3c9197f75896f91fb8f23ae113af9d6257f9fb47fc9707e41bfe00c3ab3", func := "rankmere/rankmerelaw3.MasseyFinds", spec := "masseyFinds", unfollowed := true, recurses := true, apart := false }
def MasseyFindsSaid : Prop := masseyFindsRow.holds Try.pinned (OpenSpec.ofChange masseyFindsSpec)

/-- ITS FALSE NEIGHBOUR: 'it returns false'. Refute it at one input. -/
def masseyFindsWrong : ChangeSpec := { name := "masseyFinds", fn := fun _ => fun
  | [d1, d2, d3] => { results := [.lit (.bool false)], args := [d1, d2, d3] }
  | _ => none }
def MasseyFindsWrongFalsely : Prop := masseyFindsRow.holds Try.pinned (OpenSpec.ofChange masseyFindsWrong)

/-- 'rankmerelaw3.VanderDet': WHATEVER THE INPUT: true; the input reads as it did. -/
def vanderDetSpec : ChangeSpec := { name := "vanderDet", fn := fun _ => fun
  | [d] => { results := [.lit (.bool true)], args := [d] }
  | _ => none }
def vanderDetRow : OpenClaim := { program := "ytflojkifbdklnaa", sum := "280df3c9197f75896f91fb8f23ae113af9d6257f9fb47fc9707e41bfe00c3ab3", func := "rankmere/rankmerelaw3.VanderDet", spec := "vanderDet", unfollowed := true, recurses := true, apart := false }
def VanderDetSaid : Prop := vanderDetRow.holds Try.pinned (OpenSpec.ofChange vanderDetSpec)

/-- ITS FALSE NEIGHBOUR: 'it returns false'. Refute it at one input. -/
def vanderDetWrong : ChangeSpec := { name := "vanderDet", fn := fun _ => fun
  | [d] => { results := [.lit (.bool false)], args := [d] }
  | _ => none }
def VanderDetWrongFalsely : Prop := vanderDetRow.holds Try.pinned (OpenSpec.ofChange vanderDetWrong)

/-- 'rankmerelaw2.BareissMod': WHATEVER THE INPUT: true; the input reads as it did. -/
def bareissModSpec : ChangeSpec := { name := "bareissMod", fn := fun _ => fun
  | [d] => { results := [.lit (.bool true)], args := [d] }
  | _ => none }
def bareissModRow : OpenClaim := { program := "ytflojkifbdklnaa", sum := "280df3c9197f75896f91fb8f23ae113af9d6257f9fb47fc9707e41bfe00c3ab3", func := "rankmere/rankmerelaw2.BareissMod", spec := "bareissMod", unfollowed := true, recurses := true, apart := false }
def BareissModSaid : Prop := bareissModRow.holds Try.pinned (OpenSpec.ofChange bareissModSpec)

/-- ITS FALSE NEIGHBOUR: 'it returns false'. Refute it at one input. -/
def bareissModWrong : ChangeSpec := { name := "bareissMod", fn := fun _ => fun
  | [d] => { results := [.lit (.bool false)], args := [d] }
  | _ => none }
def BareissModWrongFalsely : Prop := bareissModRow.holds Try.pinned (OpenSpec.ofChange bareissModWrong)

/- THE SECOND FORM. 'bulk': how many values and letters a reading holds, each counted each time it is reached (what is shared counts as often as it is met; a slice's spare places count too). A statement '..UptoSaid' is the law's where the arguments, and the package variables that the reading takes, are together of bulk at most 1048576: NARROWER than '..Said'. Prove '..Said' where nothing that the law and all that it calls make is longer than what came in: it says more and counts as full. Else prove '..UptoSaid'. A law counts once. -/
mutual
def uptoBulk {H : Type} : DataW H → Nat
  | .lit (.string bytes) => bytes.length + 1
  | .lit _ => 1
  | .nil => 1
  | .ptr d => uptoBulk d + 1
  | .slice elems spare => uptoBulkAll elems + uptoBulkAll spare + 1
  | .agg parts => uptoBulkAll parts + 1
  | .iface _ d => uptoBulk d + 1
  | .map entries => uptoBulkEntries entries + 1
  | .held _ => 1
def uptoBulkAll {H : Type} : List (DataW H) → Nat
  | [] => 0
  | d :: r => uptoBulk d + uptoBulkAll r
def uptoBulkEntries {H : Type} : List (Lit × DataW H) → Nat
  | [] => 0
  | x :: r => uptoBulkEntry x + uptoBulkEntries r
def uptoBulkEntry {H : Type} : Lit × DataW H → Nat
  | (.string bytes, d) => bytes.length + uptoBulk d + 1
  | (_, d) => uptoBulk d + 1
 end
def uptoSmall : (H : Type) → List (DataW H) → Bool := fun _ ds => decide (uptoBulkAll ds ≤ 1048576)
def OpenSpec.upto (s : _root_.Go.ChangeSpec) : _root_.Go.OpenSpec := { _root_.Go.OpenSpec.ofChange s with cond := some uptoSmall }

/-- 'rankmerelaw3.BandMuir', WHERE WHAT IT READS IS OF BULK AT MOST 1048576: true; the input reads as it did. -/
def bandMuirUptoRow : OpenClaim := { program := "ytflojkifbdklnaa", sum := "280df3c9197f75896f91fb8f23ae113af9d6257f9fb47fc9707e41bfe00c3ab3", func := "rankmere/rankmerelaw3.BandMuir", spec := "bandMuir", apart := false, narrowed := true }
def BandMuirUptoSaid : Prop := bandMuirUptoRow.holds Try.pinned (OpenSpec.upto bandMuirSpec)

/-- 'rankmerelaw3.VanderPowers', WHERE WHAT IT READS IS OF BULK AT MOST 1048576: true; the input reads as it did. -/
def vanderPowersUptoRow : OpenClaim := { program := "ytflojkifbdklnaa", sum := "280df3c9197f75896f91fb8f23ae113af9d6257f9fb47fc9707e41bfe00c3ab3", func := "rankmere/rankmerelaw3.VanderPowers", spec := "vanderPowers", unfollowed := true, recurses := true, apart := false, narrowed := true }
def VanderPowersUptoSaid : Prop := vanderPowersUptoRow.holds Try.pinned (OpenSpec.upto vanderPowersSpec)

/-- 'rankmerelaw2.BareissHadamard', WHERE WHAT IT READS IS OF BULK AT MOST 1048576: true; the input reads as it did. -/
def bareissHadamardUptoRow : OpenClaim := { program := "ytflojkifbdklnaa", sum := "280df3c9197f75896f91fb8f23ae113af9d6257f9fb47fc9707e41bfe00c3ab3", func := "rankmere/rankmerelaw2.BareissHadamard", spec := "bareissHadamard", unfollowed := true, recurses := true, apart := false, narrowed := true }
def BareissHadamardUptoSaid : Prop := bareissHadamardUptoRow.holds Try.pinned (OpenSpec.upto bareissHadamardSpec)

/-- 'rankmerelaw2.BareissHeavy', WHERE WHAT IT READS IS OF BULK AT MOST 1048576: true; the input reads as it did. -/
def bareissHeavyUptoRow : OpenClaim := { program := "ytflojkifbdklnaa", sum := "280df3c9197f75896f91fb8f23ae113af9d6257f9fb47fc9707e41bfe00c3ab3", func := "rankmere/rankmerelaw2.BareissHeavy", spec := "bareissHeavy", unfollowed := true, recurses := true, apart := false, narrowed := true }
def BareissHeavyUptoSaid : Prop := bareissHeavyUptoRow.holds Try.pinned (OpenSpec.upto bareissHeavySpec)

/-- 'rankmerelaw3.DefiniteAbove', WHERE WHAT IT READS IS OF BULK AT MOST 1048576: true; the input reads as it did. -/
def definiteAboveUptoRow : OpenClaim := { program := "ytflojkifbdklnaa", sum := "280df3c9197f75896f91fb8f23ae113af9d6257f9fb47fc9707e41bfe00c3ab3", func := "rankmere/rankmerelaw3.DefiniteAbove", spec := "definiteAbove", unfollowed := true, recurses := true, apart := false, narrowed := true }
def DefiniteAboveUptoSaid : Prop := definiteAboveUptoRow.holds Try.pinned (OpenSpec.upto definiteAboveSpec)

/-- 'rankmerelaw3.DefiniteMiddle', WHERE WHAT IT READS IS OF BULK AT MOST 1048576: true; the input reads as it did. -/
def definiteMiddleUptoRow : OpenClaim := { program := "ytflojkifbdklnaa", sum := "280df3c9197f75896f91fb8f23ae113af9d6257f9fb47fc9707e41bfe00c3ab3", func := "rankmere/rankmerelaw3.DefiniteMiddle", spec := "definiteMiddle", unfollowed := true, recurses := true, apart := false, narrowed := true }
def DefiniteMiddleUptoSaid : Prop := definiteMiddleUptoRow.holds Try.pinned (OpenSpec.upto definiteMiddleSpec)

/-- 'rankmerelaw3.DefiniteSum', WHERE WHAT IT READS IS OF BULK AT MOST 1048576: true; the input reads as it did. -/
def definiteSumUptoRow : OpenClaim := { program := "ytflojkifbdklnaa", sum := "280df3c9197f75896f91fb8f23ae113af9d6257f9fb47fc9707e41bfe00c3ab3", func := "rankmere/rankmerelaw3.DefiniteSum", spec := "definiteSum", unfollowed := true, recurses := true, apart := false, narrowed := true }
def DefiniteSumUptoSaid : Prop := definiteSumUptoRow.holds Try.pinned (OpenSpec.upto definiteSumSpec)

/-- 'rankmerelaw3.DefiniteDouble', WHERE WHAT IT READS IS OF BULK AT MOST 1048576: true; the input reads as it did. -/
def definiteDoubleUptoRow : OpenClaim := { program := "ytflojkifbdklnaa", sum := "280df3c9197f75896f91fb8f23ae113af9d6257f9fb47fc9707e41bfe00c3ab3", func := "rankmere/rankmerelaw3.DefiniteDouble", spec := "definiteDouble", unfollowed := true, recurses := true, apart := false, narrowed := true }
def DefiniteDoubleUptoSaid : Prop := definiteDoubleUptoRow.holds Try.pinned (OpenSpec.upto definiteDoubleSpec)

/-- 'rankmerelaw3.MasseyGrows', WHERE WHAT IT READS IS OF BULK AT MOST 1048576: true; the input reads as it did. -/
def masseyGrowsUptoRow : OpenClaim := { program := "ytflojkifbdklnaa", sum := "280df3c9197f75896f91fb8f23ae113af9d6257f9fb47fc9707e41bfe00c3ab3", func := "rankmere/rankmerelaw3.MasseyGrows", spec := "masseyGrows", unfollowed := true, recurses := true, apart := false, narrowed := true }
def MasseyGrowsUptoSaid : Prop := masseyGrowsUptoRow.holds Try.pinned (OpenSpec.upto masseyGrowsSpec)

/-- 'rankmerelaw3.MasseyFinds', WHERE WHAT IT READS IS OF BULK AT MOST 1048576: true; the input reads as it did. -/
def masseyFindsUptoRow : OpenClaim := { program := "ytflojkifbdklnaa", sum := "280df3c9197f75896f91fb8f23ae113af9d6257f9fb47fc9707e41bfe00c3ab3", func := "rankmere/rankmerelaw3.MasseyFinds", spec := "masseyFinds", unfollowed := true, recurses := true, apart := false, narrowed := true }
def MasseyFindsUptoSaid : Prop := masseyFindsUptoRow.holds Try.pinned (OpenSpec.upto masseyFindsSpec)

/-- 'rankmerelaw3.VanderDet', WHERE WHAT IT READS IS OF BULK AT MOST 1048576: true; the input reads as it did. -/
def vanderDetUptoRow : OpenClaim := { program := "ytflojkifbdklnaa", sum := "280df3c9197f75896f91fb8f23ae113af9d6257f9fb47fc9707e41bfe00c3ab3", func := "rankmere/rankmerelaw3.VanderDet", spec := "vanderDet", unfollowed := true, recurses := true, apart := false, narrowed := true }
def VanderDetUptoSaid : Prop := vanderDetUptoRow.holds Try.pinned (OpenSpec.upto vanderDetSpec)

/-- 'rankmerelaw2.BareissMod', WHERE WHAT IT READS IS OF BULK AT MOST 1048576: true; the input reads as it did. -/
def bareissModUptoRow : OpenClaim := { program := "ytflojkifbdklnaa", sum := "280df3c9197f75896f91fb8f23ae113af9d6257f9fb47fc9707e41bfe00c3ab3", func := "rankmere/rankmerelaw2.BareissMod", spec := "bareissMod", unfollowed := true, recurses := true, apart := false, narrowed := true }
def BareissModUptoSaid : Prop := bareissModUptoRow.holds Try.pinned (OpenSpec.upto bareissModSpec)

end Rows
end Go.Proofs.Ytflojkifbdklnaa
