/-
  DERIVED. GIVEN WITH THE SEED: THE CARDS: each row of YtefmllkimdaimaaDoorRows.lean that lists a variable, with what it lists TIED to the program's text (the seventh form; the later family's looks); each row that meets fmt, with fmt's text TOLD by the authors' own Lean function (tested against real Go, not proved from fmt's source: count such statements apart). THE CARD IS WHAT COUNTS. Prove the row's statement (the work); the ties are given (YtefmllkimdaimaaDoorTie.lean); close each card by the builder's one call (the guide's Derived/Test/ToyasCard.lean, 'card_holds'). Laid BY PROGRAM, IN A SANDBOX (cutbox-door.mjs). By AI agents, Wed Nov 11 2026. No macro, syntax, notation, axiom, sorry.
-/
import Derived.Test.YtefmllkimdaimaaDoorRows
import GoSem.ClaimSeven
namespace Go.Proofs.YtefmllkimdaimaaDoor
namespace Rows

/-- THE TIED CARD OF 'rankmerelaw3.BandSays'. -/
def bandSaysCard : Claim7 := { stood := { row := bandSaysRow, standIns := [], harness := (true, "ac1632180f5a93dc4e9cf3be35c36d372c69109dfb602637c10f86f2c3f6e1e0"), looks := true }, kinds := [], alts := [], laidByText := true, laidKinds := [.handle], laidTests := true, laidLooks := .later }
def BandSaysCardSaid : Prop := Claim7.holds Tryd.pinned (.plain (OpenSpec.ofChange bandSaysSpec)) bandSaysCard

/-- THE TIED CARD OF 'rankmerelaw3.VanderSays'. -/
def vanderSaysCard : Claim7 := { stood := { row := vanderSaysRow, standIns := [], harness := (true, "ac1632180f5a93dc4e9cf3be35c36d372c69109dfb602637c10f86f2c3f6e1e0"), looks := true }, kinds := [], alts := [], laidByText := true, laidKinds := [.handle], laidTests := true, laidLooks := .later }
def VanderSaysCardSaid : Prop := Claim7.holds Tryd.pinned (.plain (OpenSpec.ofChange vanderSaysSpec)) vanderSaysCard

/-- THE TIED CARD OF 'rankmerelaw2.BareissSays'. -/
def bareissSaysCard : Claim7 := { stood := { row := bareissSaysRow, standIns := [], harness := (true, "ac1632180f5a93dc4e9cf3be35c36d372c69109dfb602637c10f86f2c3f6e1e0"), looks := true }, kinds := [], alts := [], laidByText := true, laidKinds := [.handle], laidTests := true, laidLooks := .later }
def BareissSaysCardSaid : Prop := Claim7.holds Tryd.pinned (.plain (OpenSpec.ofChange bareissSaysSpec)) bareissSaysCard

/-- THE TIED CARD OF 'rankmerelaw3.DefiniteSays'. -/
def definiteSaysCard : Claim7 := { stood := { row := definiteSaysRow, standIns := [], harness := (true, "ac1632180f5a93dc4e9cf3be35c36d372c69109dfb602637c10f86f2c3f6e1e0"), looks := true }, kinds := [], alts := [], laidByText := true, laidKinds := [.handle], laidTests := true, laidLooks := .later }
def DefiniteSaysCardSaid : Prop := Claim7.holds Tryd.pinned (.plain (OpenSpec.ofChange definiteSaysSpec)) definiteSaysCard

/-- THE TIED CARD OF 'rankmerelaw3.MasseySays'. -/
def masseySaysCard : Claim7 := { stood := { row := masseySaysRow, standIns := [], harness := (true, "ac1632180f5a93dc4e9cf3be35c36d372c69109dfb602637c10f86f2c3f6e1e0"), looks := true }, kinds := [], alts := [], laidByText := true, laidKinds := [.handle], laidTests := true, laidLooks := .later }
def MasseySaysCardSaid : Prop := Claim7.holds Tryd.pinned (.plain (OpenSpec.ofChange masseySaysSpec)) masseySaysCard

/-- THE TIED CARD OF 'rankmerelaw3.MasseyLeast'. -/
def masseyLeastCard : Claim7 := { stood := { row := masseyLeastRow, standIns := [], harness := (true, "ac1632180f5a93dc4e9cf3be35c36d372c69109dfb602637c10f86f2c3f6e1e0"), looks := true }, kinds := [], alts := [], laidByText := true, laidKinds := [.handle], laidTests := true, laidLooks := .later }
def MasseyLeastCardSaid : Prop := Claim7.holds Tryd.pinned (.plain (OpenSpec.ofChange masseyLeastSpec)) masseyLeastCard

/-- THE TIED CARD OF 'rankmerelaw3.SturmSays'. -/
def sturmSaysCard : Claim7 := { stood := { row := sturmSaysRow, standIns := [], harness := (true, "ac1632180f5a93dc4e9cf3be35c36d372c69109dfb602637c10f86f2c3f6e1e0"), looks := true }, kinds := [], alts := [], laidByText := true, laidKinds := [.handle], laidTests := true, laidLooks := .later }
def SturmSaysCardSaid : Prop := Claim7.holds Tryd.pinned (.plain (OpenSpec.ofChange sturmSaysSpec)) sturmSaysCard

/-- THE TIED CARD OF 'rankmerelaw3.ResultSays'. -/
def resultSaysCard : Claim7 := { stood := { row := resultSaysRow, standIns := [], harness := (true, "ac1632180f5a93dc4e9cf3be35c36d372c69109dfb602637c10f86f2c3f6e1e0"), looks := true }, kinds := [], alts := [], laidByText := true, laidKinds := [.handle], laidTests := true, laidLooks := .later }
def ResultSaysCardSaid : Prop := Claim7.holds Tryd.pinned (.plain (OpenSpec.ofChange resultSaysSpec)) resultSaysCard

/-- THE TIED CARD OF 'rankmerelaw3.CharSays'. -/
def charSaysCard : Claim7 := { stood := { row := charSaysRow, standIns := [], harness := (true, "ac1632180f5a93dc4e9cf3be35c36d372c69109dfb602637c10f86f2c3f6e1e0"), looks := true }, kinds := [], alts := [], laidByText := true, laidKinds := [.handle], laidTests := true, laidLooks := .later }
def CharSaysCardSaid : Prop := Claim7.holds Tryd.pinned (.plain (OpenSpec.ofChange charSaysSpec)) charSaysCard

/-- THE TIED CARD OF 'rankmerelaw3.CharBoth'. -/
def charBothCard : Claim7 := { stood := { row := charBothRow, standIns := [], harness := (true, "ac1632180f5a93dc4e9cf3be35c36d372c69109dfb602637c10f86f2c3f6e1e0"), looks := true }, kinds := [], alts := [], laidByText := true, laidKinds := [.handle], laidTests := true, laidLooks := .later }
def CharBothCardSaid : Prop := Claim7.holds Tryd.pinned (.plain (OpenSpec.ofChange charBothSpec)) charBothCard

/-- THE SECOND FORM's CARD OF 'rankmerelaw3.BandSays'. -/
def bandSaysUptoCard : Claim7 := { stood := { row := bandSaysUptoRow, standIns := [], harness := (true, "ac1632180f5a93dc4e9cf3be35c36d372c69109dfb602637c10f86f2c3f6e1e0"), looks := true }, kinds := [], alts := [], laidByText := true, laidKinds := [.handle], laidTests := true, laidLooks := .later }
def BandSaysUptoCardSaid : Prop := Claim7.holds Tryd.pinned (.plain (OpenSpec.upto bandSaysSpec)) bandSaysUptoCard

/-- THE SECOND FORM's CARD OF 'rankmerelaw3.VanderSays'. -/
def vanderSaysUptoCard : Claim7 := { stood := { row := vanderSaysUptoRow, standIns := [], harness := (true, "ac1632180f5a93dc4e9cf3be35c36d372c69109dfb602637c10f86f2c3f6e1e0"), looks := true }, kinds := [], alts := [], laidByText := true, laidKinds := [.handle], laidTests := true, laidLooks := .later }
def VanderSaysUptoCardSaid : Prop := Claim7.holds Tryd.pinned (.plain (OpenSpec.upto vanderSaysSpec)) vanderSaysUptoCard

/-- THE SECOND FORM's CARD OF 'rankmerelaw2.BareissSays'. -/
def bareissSaysUptoCard : Claim7 := { stood := { row := bareissSaysUptoRow, standIns := [], harness := (true, "ac1632180f5a93dc4e9cf3be35c36d372c69109dfb602637c10f86f2c3f6e1e0"), looks := true }, kinds := [], alts := [], laidByText := true, laidKinds := [.handle], laidTests := true, laidLooks := .later }
def BareissSaysUptoCardSaid : Prop := Claim7.holds Tryd.pinned (.plain (OpenSpec.upto bareissSaysSpec)) bareissSaysUptoCard

/-- THE SECOND FORM's CARD OF 'rankmerelaw3.DefiniteSays'. -/
def definiteSaysUptoCard : Claim7 := { stood := { row := definiteSaysUptoRow, standIns := [], harness := (true, "ac1632180f5a93dc4e9cf3be35c36d372c69109dfb602637c10f86f2c3f6e1e0"), looks := true }, kinds := [], alts := [], laidByText := true, laidKinds := [.handle], laidTests := true, laidLooks := .later }
def DefiniteSaysUptoCardSaid : Prop := Claim7.holds Tryd.pinned (.plain (OpenSpec.upto definiteSaysSpec)) definiteSaysUptoCard

/-- THE SECOND FORM's CARD OF 'rankmerelaw3.MasseySays'. -/
def masseySaysUptoCard : Claim7 := { stood := { row := masseySaysUptoRow, standIns := [], harness := (true, "ac1632180f5a93dc4e9cf3be35c36d372c69109dfb602637c10f86f2c3f6e1e0"), looks := true }, kinds := [], alts := [], laidByText := true, laidKinds := [.handle], laidTests := true, laidLooks := .later }
def MasseySaysUptoCardSaid : Prop := Claim7.holds Tryd.pinned (.plain (OpenSpec.upto masseySaysSpec)) masseySaysUptoCard

/-- THE SECOND FORM's CARD OF 'rankmerelaw3.MasseyLeast'. -/
def masseyLeastUptoCard : Claim7 := { stood := { row := masseyLeastUptoRow, standIns := [], harness := (true, "ac1632180f5a93dc4e9cf3be35c36d372c69109dfb602637c10f86f2c3f6e1e0"), looks := true }, kinds := [], alts := [], laidByText := true, laidKinds := [.handle], laidTests := true, laidLooks := .later }
def MasseyLeastUptoCardSaid : Prop := Claim7.holds Tryd.pinned (.plain (OpenSpec.upto masseyLeastSpec)) masseyLeastUptoCard

/-- THE SECOND FORM's CARD OF 'rankmerelaw3.SturmSays'. -/
def sturmSaysUptoCard : Claim7 := { stood := { row := sturmSaysUptoRow, standIns := [], harness := (true, "ac1632180f5a93dc4e9cf3be35c36d372c69109dfb602637c10f86f2c3f6e1e0"), looks := true }, kinds := [], alts := [], laidByText := true, laidKinds := [.handle], laidTests := true, laidLooks := .later }
def SturmSaysUptoCardSaid : Prop := Claim7.holds Tryd.pinned (.plain (OpenSpec.upto sturmSaysSpec)) sturmSaysUptoCard

/-- THE SECOND FORM's CARD OF 'rankmerelaw3.ResultSays'. -/
def resultSaysUptoCard : Claim7 := { stood := { row := resultSaysUptoRow, standIns := [], harness := (true, "ac1632180f5a93dc4e9cf3be35c36d372c69109dfb602637c10f86f2c3f6e1e0"), looks := true }, kinds := [], alts := [], laidByText := true, laidKinds := [.handle], laidTests := true, laidLooks := .later }
def ResultSaysUptoCardSaid : Prop := Claim7.holds Tryd.pinned (.plain (OpenSpec.upto resultSaysSpec)) resultSaysUptoCard

/-- THE SECOND FORM's CARD OF 'rankmerelaw3.CharSays'. -/
def charSaysUptoCard : Claim7 := { stood := { row := charSaysUptoRow, standIns := [], harness := (true, "ac1632180f5a93dc4e9cf3be35c36d372c69109dfb602637c10f86f2c3f6e1e0"), looks := true }, kinds := [], alts := [], laidByText := true, laidKinds := [.handle], laidTests := true, laidLooks := .later }
def CharSaysUptoCardSaid : Prop := Claim7.holds Tryd.pinned (.plain (OpenSpec.upto charSaysSpec)) charSaysUptoCard

/-- THE SECOND FORM's CARD OF 'rankmerelaw3.CharBoth'. -/
def charBothUptoCard : Claim7 := { stood := { row := charBothUptoRow, standIns := [], harness := (true, "ac1632180f5a93dc4e9cf3be35c36d372c69109dfb602637c10f86f2c3f6e1e0"), looks := true }, kinds := [], alts := [], laidByText := true, laidKinds := [.handle], laidTests := true, laidLooks := .later }
def CharBothUptoCardSaid : Prop := Claim7.holds Tryd.pinned (.plain (OpenSpec.upto charBothSpec)) charBothUptoCard
end Rows
end Go.Proofs.YtefmllkimdaimaaDoor
