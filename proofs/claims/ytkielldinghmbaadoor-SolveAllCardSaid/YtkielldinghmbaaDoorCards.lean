/-
  DERIVED. GIVEN WITH THE SEED: THE CARDS: each row of YtkielldinghmbaaDoorRows.lean that lists a variable, with what it lists TIED to the program's text (the seventh form; the later family's looks); each row that meets fmt, with fmt's text TOLD by the authors' own Lean function (tested against real Go, not proved from fmt's source: count such statements apart). THE CARD IS WHAT COUNTS. Prove the row's statement (the work); the ties are given (YtkielldinghmbaaDoorTie.lean); close each card by the builder's one call (the guide's Derived/Test/ToyasCard.lean, 'card_holds'). Laid BY PROGRAM, IN A SANDBOX (cutbox-door.mjs). By AI agents, Wed Nov 11 2026. No macro, syntax, notation, axiom, sorry.
-/
import Derived.Test.YtkielldinghmbaaDoorRows
import GoSem.ClaimSeven
namespace Go.Proofs.YtkielldinghmbaaDoor
namespace Rows

/-- THE TIED CARD OF 'rankmerelaw2.MatSays'. -/
def matSaysCard : Claim7 := { stood := { row := matSaysRow, standIns := [], harness := (true, "7b256e2d9ca2160ce31f443c066a3f59d7476a7aa9c598690609538f3da1e4f8"), looks := true }, kinds := [], alts := [], laidByText := true, laidKinds := [.handle], laidTests := true, laidLooks := .later }
def MatSaysCardSaid : Prop := Claim7.holds Tryd.pinned (.plain (OpenSpec.ofChange matSaysSpec)) matSaysCard

/-- THE TIED CARD OF 'rankmerelaw2.GaussSays'. -/
def gaussSaysCard : Claim7 := { stood := { row := gaussSaysRow, standIns := [], harness := (true, "7b256e2d9ca2160ce31f443c066a3f59d7476a7aa9c598690609538f3da1e4f8"), looks := true }, kinds := [], alts := [], laidByText := true, laidKinds := [.handle], laidTests := true, laidLooks := .later }
def GaussSaysCardSaid : Prop := Claim7.holds Tryd.pinned (.plain (OpenSpec.ofChange gaussSaysSpec)) gaussSaysCard

/-- THE TIED CARD OF 'rankmerelaw2.LuSays'. -/
def luSaysCard : Claim7 := { stood := { row := luSaysRow, standIns := [], harness := (true, "7b256e2d9ca2160ce31f443c066a3f59d7476a7aa9c598690609538f3da1e4f8"), looks := true }, kinds := [], alts := [], laidByText := true, laidKinds := [.handle], laidTests := true, laidLooks := .later }
def LuSaysCardSaid : Prop := Claim7.holds Tryd.pinned (.plain (OpenSpec.ofChange luSaysSpec)) luSaysCard

/-- THE TIED CARD OF 'rankmerelaw2.DetSays'. -/
def detSaysCard : Claim7 := { stood := { row := detSaysRow, standIns := [], harness := (true, "7b256e2d9ca2160ce31f443c066a3f59d7476a7aa9c598690609538f3da1e4f8"), looks := true }, kinds := [], alts := [], laidByText := true, laidKinds := [.handle], laidTests := true, laidLooks := .later }
def DetSaysCardSaid : Prop := Claim7.holds Tryd.pinned (.plain (OpenSpec.ofChange detSaysSpec)) detSaysCard

/-- THE TIED CARD OF 'rankmerelaw2.MinorsSays'. -/
def minorsSaysCard : Claim7 := { stood := { row := minorsSaysRow, standIns := [], harness := (true, "7b256e2d9ca2160ce31f443c066a3f59d7476a7aa9c598690609538f3da1e4f8"), looks := true }, kinds := [], alts := [], laidByText := true, laidKinds := [.handle], laidTests := true, laidLooks := .later }
def MinorsSaysCardSaid : Prop := Claim7.holds Tryd.pinned (.plain (OpenSpec.ofChange minorsSaysSpec)) minorsSaysCard

/-- THE TIED CARD OF 'rankmerelaw2.MinorsLaplace'. -/
def minorsLaplaceCard : Claim7 := { stood := { row := minorsLaplaceRow, standIns := [], harness := (true, "7b256e2d9ca2160ce31f443c066a3f59d7476a7aa9c598690609538f3da1e4f8"), looks := true }, kinds := [], alts := [], laidByText := true, laidKinds := [.handle], laidTests := true, laidLooks := .later }
def MinorsLaplaceCardSaid : Prop := Claim7.holds Tryd.pinned (.plain (OpenSpec.ofChange minorsLaplaceSpec)) minorsLaplaceCard

/-- THE TIED CARD OF 'rankmerelaw2.SolveSays'. -/
def solveSaysCard : Claim7 := { stood := { row := solveSaysRow, standIns := [], harness := (true, "7b256e2d9ca2160ce31f443c066a3f59d7476a7aa9c598690609538f3da1e4f8"), looks := true }, kinds := [], alts := [], laidByText := true, laidKinds := [.handle], laidTests := true, laidLooks := .later }
def SolveSaysCardSaid : Prop := Claim7.holds Tryd.pinned (.plain (OpenSpec.ofChange solveSaysSpec)) solveSaysCard

/-- THE TIED CARD OF 'rankmerelaw2.SolveAll'. -/
def solveAllCard : Claim7 := { stood := { row := solveAllRow, standIns := [], harness := (true, "7b256e2d9ca2160ce31f443c066a3f59d7476a7aa9c598690609538f3da1e4f8"), looks := true }, kinds := [], alts := [], laidByText := true, laidKinds := [.handle], laidTests := true, laidLooks := .later }
def SolveAllCardSaid : Prop := Claim7.holds Tryd.pinned (.plain (OpenSpec.ofChange solveAllSpec)) solveAllCard

/-- THE TIED CARD OF 'rankmerelaw2.InvSays'. -/
def invSaysCard : Claim7 := { stood := { row := invSaysRow, standIns := [], harness := (true, "7b256e2d9ca2160ce31f443c066a3f59d7476a7aa9c598690609538f3da1e4f8"), looks := true }, kinds := [], alts := [], laidByText := true, laidKinds := [.handle], laidTests := true, laidLooks := .later }
def InvSaysCardSaid : Prop := Claim7.holds Tryd.pinned (.plain (OpenSpec.ofChange invSaysSpec)) invSaysCard

/-- THE TIED CARD OF 'rankmerelaw2.InvMul'. -/
def invMulCard : Claim7 := { stood := { row := invMulRow, standIns := [], harness := (true, "7b256e2d9ca2160ce31f443c066a3f59d7476a7aa9c598690609538f3da1e4f8"), looks := true }, kinds := [], alts := [], laidByText := true, laidKinds := [.handle], laidTests := true, laidLooks := .later }
def InvMulCardSaid : Prop := Claim7.holds Tryd.pinned (.plain (OpenSpec.ofChange invMulSpec)) invMulCard

/-- THE TIED CARD OF 'rankmerelaw2.InvChange'. -/
def invChangeCard : Claim7 := { stood := { row := invChangeRow, standIns := [], harness := (true, "7b256e2d9ca2160ce31f443c066a3f59d7476a7aa9c598690609538f3da1e4f8"), looks := true }, kinds := [], alts := [], laidByText := true, laidKinds := [.handle], laidTests := true, laidLooks := .later }
def InvChangeCardSaid : Prop := Claim7.holds Tryd.pinned (.plain (OpenSpec.ofChange invChangeSpec)) invChangeCard

/-- THE TIED CARD OF 'rankmerelaw2.InvBack'. -/
def invBackCard : Claim7 := { stood := { row := invBackRow, standIns := [], harness := (true, "7b256e2d9ca2160ce31f443c066a3f59d7476a7aa9c598690609538f3da1e4f8"), looks := true }, kinds := [], alts := [], laidByText := true, laidKinds := [.handle], laidTests := true, laidLooks := .later }
def InvBackCardSaid : Prop := Claim7.holds Tryd.pinned (.plain (OpenSpec.ofChange invBackSpec)) invBackCard

/-- THE TIED CARD OF 'rankmeretop.TopRank'. -/
def topRankCard : Claim7 := { stood := { row := topRankRow, standIns := [], harness := (true, "7b256e2d9ca2160ce31f443c066a3f59d7476a7aa9c598690609538f3da1e4f8"), looks := true }, kinds := [], alts := [], laidByText := true, laidKinds := [.handle], laidTests := true, laidLooks := .later }
def TopRankCardSaid : Prop := Claim7.holds Tryd.pinned (.plain (OpenSpec.ofChange topRankSpec)) topRankCard

/-- THE SECOND FORM's CARD OF 'rankmerelaw2.MatSays'. -/
def matSaysUptoCard : Claim7 := { stood := { row := matSaysUptoRow, standIns := [], harness := (true, "7b256e2d9ca2160ce31f443c066a3f59d7476a7aa9c598690609538f3da1e4f8"), looks := true }, kinds := [], alts := [], laidByText := true, laidKinds := [.handle], laidTests := true, laidLooks := .later }
def MatSaysUptoCardSaid : Prop := Claim7.holds Tryd.pinned (.plain (OpenSpec.upto matSaysSpec)) matSaysUptoCard

/-- THE SECOND FORM's CARD OF 'rankmerelaw2.GaussSays'. -/
def gaussSaysUptoCard : Claim7 := { stood := { row := gaussSaysUptoRow, standIns := [], harness := (true, "7b256e2d9ca2160ce31f443c066a3f59d7476a7aa9c598690609538f3da1e4f8"), looks := true }, kinds := [], alts := [], laidByText := true, laidKinds := [.handle], laidTests := true, laidLooks := .later }
def GaussSaysUptoCardSaid : Prop := Claim7.holds Tryd.pinned (.plain (OpenSpec.upto gaussSaysSpec)) gaussSaysUptoCard

/-- THE SECOND FORM's CARD OF 'rankmerelaw2.LuSays'. -/
def luSaysUptoCard : Claim7 := { stood := { row := luSaysUptoRow, standIns := [], harness := (true, "7b256e2d9ca2160ce31f443c066a3f59d7476a7aa9c598690609538f3da1e4f8"), looks := true }, kinds := [], alts := [], laidByText := true, laidKinds := [.handle], laidTests := true, laidLooks := .later }
def LuSaysUptoCardSaid : Prop := Claim7.holds Tryd.pinned (.plain (OpenSpec.upto luSaysSpec)) luSaysUptoCard

/-- THE SECOND FORM's CARD OF 'rankmerelaw2.DetSays'. -/
def detSaysUptoCard : Claim7 := { stood := { row := detSaysUptoRow, standIns := [], harness := (true, "7b256e2d9ca2160ce31f443c066a3f59d7476a7aa9c598690609538f3da1e4f8"), looks := true }, kinds := [], alts := [], laidByText := true, laidKinds := [.handle], laidTests := true, laidLooks := .later }
def DetSaysUptoCardSaid : Prop := Claim7.holds Tryd.pinned (.plain (OpenSpec.upto detSaysSpec)) detSaysUptoCard

/-- THE SECOND FORM's CARD OF 'rankmerelaw2.MinorsSays'. -/
def minorsSaysUptoCard : Claim7 := { stood := { row := minorsSaysUptoRow, standIns := [], harness := (true, "7b256e2d9ca2160ce31f443c066a3f59d7476a7aa9c598690609538f3da1e4f8"), looks := true }, kinds := [], alts := [], laidByText := true, laidKinds := [.handle], laidTests := true, laidLooks := .later }
def MinorsSaysUptoCardSaid : Prop := Claim7.holds Tryd.pinned (.plain (OpenSpec.upto minorsSaysSpec)) minorsSaysUptoCard

/-- THE SECOND FORM's CARD OF 'rankmerelaw2.MinorsLaplace'. -/
def minorsLaplaceUptoCard : Claim7 := { stood := { row := minorsLaplaceUptoRow, standIns := [], harness := (true, "7b256e2d9ca2160ce31f443c066a3f59d7476a7aa9c598690609538f3da1e4f8"), looks := true }, kinds := [], alts := [], laidByText := true, laidKinds := [.handle], laidTests := true, laidLooks := .later }
def MinorsLaplaceUptoCardSaid : Prop := Claim7.holds Tryd.pinned (.plain (OpenSpec.upto minorsLaplaceSpec)) minorsLaplaceUptoCard

/-- THE SECOND FORM's CARD OF 'rankmerelaw2.SolveSays'. -/
def solveSaysUptoCard : Claim7 := { stood := { row := solveSaysUptoRow, standIns := [], harness := (true, "7b256e2d9ca2160ce31f443c066a3f59d7476a7aa9c598690609538f3da1e4f8"), looks := true }, kinds := [], alts := [], laidByText := true, laidKinds := [.handle], laidTests := true, laidLooks := .later }
def SolveSaysUptoCardSaid : Prop := Claim7.holds Tryd.pinned (.plain (OpenSpec.upto solveSaysSpec)) solveSaysUptoCard

/-- THE SECOND FORM's CARD OF 'rankmerelaw2.SolveAll'. -/
def solveAllUptoCard : Claim7 := { stood := { row := solveAllUptoRow, standIns := [], harness := (true, "7b256e2d9ca2160ce31f443c066a3f59d7476a7aa9c598690609538f3da1e4f8"), looks := true }, kinds := [], alts := [], laidByText := true, laidKinds := [.handle], laidTests := true, laidLooks := .later }
def SolveAllUptoCardSaid : Prop := Claim7.holds Tryd.pinned (.plain (OpenSpec.upto solveAllSpec)) solveAllUptoCard

/-- THE SECOND FORM's CARD OF 'rankmerelaw2.InvSays'. -/
def invSaysUptoCard : Claim7 := { stood := { row := invSaysUptoRow, standIns := [], harness := (true, "7b256e2d9ca2160ce31f443c066a3f59d7476a7aa9c598690609538f3da1e4f8"), looks := true }, kinds := [], alts := [], laidByText := true, laidKinds := [.handle], laidTests := true, laidLooks := .later }
def InvSaysUptoCardSaid : Prop := Claim7.holds Tryd.pinned (.plain (OpenSpec.upto invSaysSpec)) invSaysUptoCard

/-- THE SECOND FORM's CARD OF 'rankmerelaw2.InvMul'. -/
def invMulUptoCard : Claim7 := { stood := { row := invMulUptoRow, standIns := [], harness := (true, "7b256e2d9ca2160ce31f443c066a3f59d7476a7aa9c598690609538f3da1e4f8"), looks := true }, kinds := [], alts := [], laidByText := true, laidKinds := [.handle], laidTests := true, laidLooks := .later }
def InvMulUptoCardSaid : Prop := Claim7.holds Tryd.pinned (.plain (OpenSpec.upto invMulSpec)) invMulUptoCard

/-- THE SECOND FORM's CARD OF 'rankmerelaw2.InvChange'. -/
def invChangeUptoCard : Claim7 := { stood := { row := invChangeUptoRow, standIns := [], harness := (true, "7b256e2d9ca2160ce31f443c066a3f59d7476a7aa9c598690609538f3da1e4f8"), looks := true }, kinds := [], alts := [], laidByText := true, laidKinds := [.handle], laidTests := true, laidLooks := .later }
def InvChangeUptoCardSaid : Prop := Claim7.holds Tryd.pinned (.plain (OpenSpec.upto invChangeSpec)) invChangeUptoCard

/-- THE SECOND FORM's CARD OF 'rankmerelaw2.InvBack'. -/
def invBackUptoCard : Claim7 := { stood := { row := invBackUptoRow, standIns := [], harness := (true, "7b256e2d9ca2160ce31f443c066a3f59d7476a7aa9c598690609538f3da1e4f8"), looks := true }, kinds := [], alts := [], laidByText := true, laidKinds := [.handle], laidTests := true, laidLooks := .later }
def InvBackUptoCardSaid : Prop := Claim7.holds Tryd.pinned (.plain (OpenSpec.upto invBackSpec)) invBackUptoCard

/-- THE SECOND FORM's CARD OF 'rankmeretop.TopRank'. -/
def topRankUptoCard : Claim7 := { stood := { row := topRankUptoRow, standIns := [], harness := (true, "7b256e2d9ca2160ce31f443c066a3f59d7476a7aa9c598690609538f3da1e4f8"), looks := true }, kinds := [], alts := [], laidByText := true, laidKinds := [.handle], laidTests := true, laidLooks := .later }
def TopRankUptoCardSaid : Prop := Claim7.holds Tryd.pinned (.plain (OpenSpec.upto topRankSpec)) topRankUptoCard
end Rows
end Go.Proofs.YtkielldinghmbaaDoor
