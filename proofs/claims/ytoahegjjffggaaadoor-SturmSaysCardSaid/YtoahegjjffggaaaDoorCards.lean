/-
  DERIVED. GIVEN WITH THE SEED: THE CARDS: each row of YtoahegjjffggaaaDoorRows.lean that lists a variable, with what it lists TIED to the program's text (the seventh form; the later family's looks); each row that meets fmt, with fmt's text TOLD by the authors' own Lean function (tested against real Go, not proved from fmt's source: count such statements apart). THE CARD IS WHAT COUNTS. Prove the row's statement (the work); the ties are given (YtoahegjjffggaaaDoorTie.lean); close each card by the builder's one call (the guide's Derived/Test/ToyasCard.lean, 'card_holds'). Laid BY PROGRAM, IN A SANDBOX (cutbox-door.mjs). By AI agents, Wed Nov 11 2026. No macro, syntax, notation, axiom, sorry.
-/
import Derived.Test.YtoahegjjffggaaaDoorRows
import GoSem.ClaimSeven
namespace Go.Proofs.YtoahegjjffggaaaDoor
namespace Rows

/-- THE TIED CARD OF 'rankmerelaw3.CharSays'. -/
def charSaysCard : Claim7 := { stood := { row := charSaysRow, standIns := [], harness := (true, "c59fa5b399be25450d3ceab337771b1ebc2405c4a5487deb98d1d66c7672f509"), looks := true }, kinds := [], alts := [], laidByText := true, laidKinds := [.handle], laidTests := true, laidLooks := .later }
def CharSaysCardSaid : Prop := Claim7.holds Tryd.pinned (.plain (OpenSpec.ofChange charSaysSpec)) charSaysCard

/-- THE TIED CARD OF 'rankmerelaw3.CharBoth'. -/
def charBothCard : Claim7 := { stood := { row := charBothRow, standIns := [], harness := (true, "c59fa5b399be25450d3ceab337771b1ebc2405c4a5487deb98d1d66c7672f509"), looks := true }, kinds := [], alts := [], laidByText := true, laidKinds := [.handle], laidTests := true, laidLooks := .later }
def CharBothCardSaid : Prop := Claim7.holds Tryd.pinned (.plain (OpenSpec.ofChange charBothSpec)) charBothCard

/-- THE TIED CARD OF 'rankmerelaw3.SturmSays'. -/
def sturmSaysCard : Claim7 := { stood := { row := sturmSaysRow, standIns := [], harness := (true, "c59fa5b399be25450d3ceab337771b1ebc2405c4a5487deb98d1d66c7672f509"), looks := true }, kinds := [], alts := [], laidByText := true, laidKinds := [.handle], laidTests := true, laidLooks := .later }
def SturmSaysCardSaid : Prop := Claim7.holds Tryd.pinned (.plain (OpenSpec.ofChange sturmSaysSpec)) sturmSaysCard

/-- THE SECOND FORM's CARD OF 'rankmerelaw3.CharSays'. -/
def charSaysUptoCard : Claim7 := { stood := { row := charSaysUptoRow, standIns := [], harness := (true, "c59fa5b399be25450d3ceab337771b1ebc2405c4a5487deb98d1d66c7672f509"), looks := true }, kinds := [], alts := [], laidByText := true, laidKinds := [.handle], laidTests := true, laidLooks := .later }
def CharSaysUptoCardSaid : Prop := Claim7.holds Tryd.pinned (.plain (OpenSpec.upto charSaysSpec)) charSaysUptoCard

/-- THE SECOND FORM's CARD OF 'rankmerelaw3.CharBoth'. -/
def charBothUptoCard : Claim7 := { stood := { row := charBothUptoRow, standIns := [], harness := (true, "c59fa5b399be25450d3ceab337771b1ebc2405c4a5487deb98d1d66c7672f509"), looks := true }, kinds := [], alts := [], laidByText := true, laidKinds := [.handle], laidTests := true, laidLooks := .later }
def CharBothUptoCardSaid : Prop := Claim7.holds Tryd.pinned (.plain (OpenSpec.upto charBothSpec)) charBothUptoCard

/-- THE SECOND FORM's CARD OF 'rankmerelaw3.SturmSays'. -/
def sturmSaysUptoCard : Claim7 := { stood := { row := sturmSaysUptoRow, standIns := [], harness := (true, "c59fa5b399be25450d3ceab337771b1ebc2405c4a5487deb98d1d66c7672f509"), looks := true }, kinds := [], alts := [], laidByText := true, laidKinds := [.handle], laidTests := true, laidLooks := .later }
def SturmSaysUptoCardSaid : Prop := Claim7.holds Tryd.pinned (.plain (OpenSpec.upto sturmSaysSpec)) sturmSaysUptoCard
end Rows
end Go.Proofs.YtoahegjjffggaaaDoor
