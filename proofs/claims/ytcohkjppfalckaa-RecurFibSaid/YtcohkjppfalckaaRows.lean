/-
  No cell of these rows narrows 'for every input' (looked for: loops, veiled, ifaces, maps, wideKeys, modest, calm, conditions, laid).
  DERIVED. THE GIVEN ROWS OF THIS SEAT. 3 by the template 'for every input the law returns true; each argument reads behind the call as it read before'; 0 by the template 'total and deterministic' (their statements: YtcohkjppfalckaaTotals.lean).
  GIVEN WITH THE SEED: the statements are not yours to turn. If you find one false, say at which input.
  Laid BY PROGRAM, IN A SANDBOX (cutbox-rows.mjs): the forced cells as the released guide's own fill.sh prints them over the translation 5d72333c665745b3… (all of the seat's roots in one cut). By AI agents, Wed Nov 11 2026. No macro, syntax, notation, axiom, sorry.
-/
import Derived.Test.YtcohkjppfalckaaChecked
import GoSem.Claim
import GoSem.ClaimJoined
import GoSem.ClaimMapViews
import Derived.JoinedTies
import Derived.KernelRfl
namespace Go.Proofs.Ytcohkjppfalckaa
/- THE CELL 'sum', in the pinned program and in every row, IS THE sha256 OF THE DUMP (.gsa) THAT YtcohkjppfalckaaProg.lean LOADS. Nothing in Lean hashes anything: it is a label: what it is worth is what the hold of that sum in a sandbox is worth. -/
noncomputable def Try.pinned : Pinned := { name := "ytcohkjppfalckaa", sum := "5d72333c665745b3328f587eaf2d30cba6f631e6ffc6f2a527ce9b09510595ce", checked := Try.checked }
namespace Rows
def none {H : Type} : Left H := { results := [], args := [] }

/-- 'rankmerelaw3.RecurPlaces': WHATEVER THE INPUT: true; the input reads as it did. -/
def recurPlacesSpec : ChangeSpec := { name := "recurPlaces", fn := fun _ => fun
  | [d1, d2, d3, d4] => { results := [.lit (.bool true)], args := [d1, d2, d3, d4] }
  | _ => none }
def recurPlacesRow : OpenClaim := { program := "ytcohkjppfalckaa", sum := "5d72333c665745b3328f587eaf2d30cba6f631e6ffc6f2a527ce9b09510595ce", func := "rankmere/rankmerelaw3.RecurPlaces", spec := "recurPlaces", apart := false }
def RecurPlacesSaid : Prop := recurPlacesRow.holds Try.pinned (OpenSpec.ofChange recurPlacesSpec)

/-- ITS FALSE NEIGHBOUR: 'it returns false'. Refute it at one input. -/
def recurPlacesWrong : ChangeSpec := { name := "recurPlaces", fn := fun _ => fun
  | [d1, d2, d3, d4] => { results := [.lit (.bool false)], args := [d1, d2, d3, d4] }
  | _ => none }
def RecurPlacesWrongFalsely : Prop := recurPlacesRow.holds Try.pinned (OpenSpec.ofChange recurPlacesWrong)

/-- 'rankmerelaw3.RecurSum': WHATEVER THE INPUT: true; the input reads as it did. -/
def recurSumSpec : ChangeSpec := { name := "recurSum", fn := fun _ => fun
  | [d1, d2, d3, d4] => { results := [.lit (.bool true)], args := [d1, d2, d3, d4] }
  | _ => none }
def recurSumRow : OpenClaim := { program := "ytcohkjppfalckaa", sum := "5d72333c665745b3328f587eaf2d30cba6f631e6ffc6f2a527ce9b09510595ce", func := "rankmere/rankmerelaw3.RecurSum", spec := "recurSum", apart := false }
def RecurSumSaid : Prop := recurSumRow.holds Try.pinned (OpenSpec.ofChange recurSumSpec)

/-- ITS FALSE NEIGHBOUR: 'it returns false'. Refute it at one input. -/
def recurSumWrong : ChangeSpec := { name := "recurSum", fn := fun _ => fun
  | [d1, d2, d3, d4] => { results := [.lit (.bool false)], args := [d1, d2, d3, d4] }
  | _ => none }
def RecurSumWrongFalsely : Prop := recurSumRow.holds Try.pinned (OpenSpec.ofChange recurSumWrong)

/-- 'rankmerelaw3.RecurFib': WHATEVER THE INPUT: true; the input reads as it did. -/
def recurFibSpec : ChangeSpec := { name := "recurFib", fn := fun _ => fun
  | [d1, d2] => { results := [.lit (.bool true)], args := [d1, d2] }
  | _ => none }
def recurFibRow : OpenClaim := { program := "ytcohkjppfalckaa", sum := "5d72333c665745b3328f587eaf2d30cba6f631e6ffc6f2a527ce9b09510595ce", func := "rankmere/rankmerelaw3.RecurFib", spec := "recurFib", recurses := true, apart := false }
def RecurFibSaid : Prop := recurFibRow.holds Try.pinned (OpenSpec.ofChange recurFibSpec)

/-- ITS FALSE NEIGHBOUR: 'it returns false'. Refute it at one input. -/
def recurFibWrong : ChangeSpec := { name := "recurFib", fn := fun _ => fun
  | [d1, d2] => { results := [.lit (.bool false)], args := [d1, d2] }
  | _ => none }
def RecurFibWrongFalsely : Prop := recurFibRow.holds Try.pinned (OpenSpec.ofChange recurFibWrong)

/- THE SECOND FORM. 'bulk': how many values and letters a reading holds, each counted each time it is reached (what is shared counts as often as it is met; a slice's spare places count too). A statement '..UptoSaid' is the law's where the arguments, and the package variables that the reading takes, are together of bulk at most 1048576: NARROWER than '..Said'. Prove '..Said' where nothing that the law and all that it calls make is longer than what came in: it says more and counts as full. Else prove '..UptoSaid'. A law counts once. -/
mutual
def uptoBulk {H : Type} : DataW H → Nat
  | .lit (.string bytes) => bytes.length + 1
  | .lit _ => 1
  | .nil => 1
  | .ptr d => uptoBulk d + 1
  | .slice elems spare => uptoBulkAll elems + uptoBulkAll spare + 1
  | .agg parts => uptoBulkAll parts + 1
  | .iface _ d => uptoBulk d + 1
  | .map entries => uptoBulkEntries entries + 1
  | .held _ => 1
def uptoBulkAll {H : Type} : List (DataW H) → Nat
  | [] => 0
  | d :: r => uptoBulk d + uptoBulkAll r
def uptoBulkEntries {H : Type} : List (Lit × DataW H) → Nat
  | [] => 0
  | x :: r => uptoBulkEntry x + uptoBulkEntries r
def uptoBulkEntry {H : Type} : Lit × DataW H → Nat
  | (.string bytes, d) => bytes.length + uptoBulk d + 1
  | (_, d) => uptoBulk d + 1
 end
def uptoSmall : (H : Type) → List (DataW H) → Bool := fun _ ds => decide (uptoBulkAll ds ≤ 1048576)
def OpenSpec.upto (s : _root_.Go.ChangeSpec) : _root_.Go.OpenSpec := { _root_.Go.OpenSpec.ofChange s with cond := some uptoSmall }

/-- 'rankmerelaw3.RecurPlaces', WHERE WHAT IT READS IS OF BULK AT MOST 1048576: true; the input reads as it did. -/
def recurPlacesUptoRow : OpenClaim := { program := "ytcohkjppfalckaa", sum := "5d72333c665745b3328f587eaf2d30cba6f631e6ffc6f2a527ce9b09510595ce", func := "rankmere/rankmerelaw3.RecurPlaces", spec := "recurPlaces", apart := false, narrowed := true }
def RecurPlacesUptoSaid : Prop := recurPlacesUptoRow.holds Try.pinned (OpenSpec.upto recurPlacesSpec)

/-- 'rankmerelaw3.RecurSum', WHERE WHAT IT READS IS OF BULK AT MOST 1048576: true; the input reads as it did. -/
def recurSumUptoRow : OpenClaim := { program := "ytcohkjppfalckaa", sum := "5d72333c665745b3328f587eaf2d30cba6f631e6ffc6f2a527ce9b09510595ce", func := "rankmere/rankmerelaw3.RecurSum", spec := "recurSum", apart := false, narrowed := true }
def RecurSumUptoSaid : Prop := recurSumUptoRow.holds Try.pinned (OpenSpec.upto recurSumSpec)

/-- 'rankmerelaw3.RecurFib', WHERE WHAT IT READS IS OF BULK AT MOST 1048576: true; the input reads as it did. -/
def recurFibUptoRow : OpenClaim := { program := "ytcohkjppfalckaa", sum := "5d72333c665745b3328f587eaf2d30cba6f631e6ffc6f2a527ce9b09510595ce", func := "rankmere/rankmerelaw3.RecurFib", spec := "recurFib", recurses := true, apart := false, narrowed := true }
def RecurFibUptoSaid : Prop := recurFibUptoRow.holds Try.pinned (OpenSpec.upto recurFibSpec)

end Rows
end Go.Proofs.Ytcohkjppfalckaa
