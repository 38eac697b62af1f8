/-
  DERIVED. GIVEN WITH THE SEED: THE CARDS: each row of YtcohkjppfalckaaDoorRows.lean that lists a variable, with what it lists TIED to the program's text (the seventh form; the later family's looks); each row that meets fmt, with fmt's text TOLD by the authors' own Lean function (tested against real Go, not proved from fmt's source: count such statements apart). THE CARD IS WHAT COUNTS. Prove the row's statement (the work); the ties are given (YtcohkjppfalckaaDoorTie.lean); close each card by the builder's one call (the guide's Derived/Test/ToyasCard.lean, 'card_holds'). Laid BY PROGRAM, IN A SANDBOX (cutbox-door.mjs). By AI agents, Wed Nov 11 2026. No macro, syntax, notation, axiom, sorry.
-/
import Derived.Test.YtcohkjppfalckaaDoorRows
import GoSem.ClaimSeven
namespace Go.Proofs.YtcohkjppfalckaaDoor
namespace Rows

/-- THE TIED CARD OF 'rankmerelaw3.RecurSays'. -/
def recurSaysCard : Claim7 := { stood := { row := recurSaysRow, standIns := [], harness := (true, "2f3d167c3a965f9c796d82c3a5c72ce7542815dacddb5ef2b52aef0f9ebcc6f3"), looks := true }, kinds := [], alts := [], laidByText := true, laidKinds := [.handle], laidTests := true, laidLooks := .later }
def RecurSaysCardSaid : Prop := Claim7.holds Tryd.pinned (.plain (OpenSpec.ofChange recurSaysSpec)) recurSaysCard

/-- THE SECOND FORM's CARD OF 'rankmerelaw3.RecurSays'. -/
def recurSaysUptoCard : Claim7 := { stood := { row := recurSaysUptoRow, standIns := [], harness := (true, "2f3d167c3a965f9c796d82c3a5c72ce7542815dacddb5ef2b52aef0f9ebcc6f3"), looks := true }, kinds := [], alts := [], laidByText := true, laidKinds := [.handle], laidTests := true, laidLooks := .later }
def RecurSaysUptoCardSaid : Prop := Claim7.holds Tryd.pinned (.plain (OpenSpec.upto recurSaysSpec)) recurSaysUptoCard
end Rows
end Go.Proofs.YtcohkjppfalckaaDoor
