/-
  DERIVED. GIVEN WITH THE SEED: THE CARDS: each row of YtifoekadjnlhcaaGreatDoorRows.lean that lists a variable, with what it lists TIED to the program's text (the seventh form; the later family's looks); each row that meets fmt, with fmt's text TOLD by the authors' own Lean function (tested against real Go, not proved from fmt's source: count such statements apart). THE CARD IS WHAT COUNTS. Prove the row's statement (the work); the ties are given (YtifoekadjnlhcaaGreatDoorTie.lean); close each card by the builder's one call (the guide's Derived/Test/ToyasCard.lean, 'card_holds'). Laid BY PROGRAM, IN A SANDBOX (cutbox-door.mjs). By AI agents, Wed Nov 11 2026. No macro, syntax, notation, axiom, sorry.
-/
import Derived.Test.YtifoekadjnlhcaaGreatDoorRows
import GoSem.ClaimSeven
namespace Go.Proofs.YtifoekadjnlhcaaGreatDoor
namespace Rows

/-- THE TIED CARD OF 'bilanderlaw28.ConsoleParses'. -/
def consoleParsesCard : Claim7 := { stood := { row := consoleParsesRow, standIns := [], harness := (true, "66a72f4dfcaea2da5de4ecd3b70126346d6aa0500037a88b6dd692a7c3874d32"), looks := true }, kinds := [], alts := [], laidByText := true, laidKinds := [.data, .pinned], laidTests := true, laidLooks := .later }
def ConsoleParsesCardSaid : Prop := Claim7.holds Tryz.pinned (.plain (OpenSpec.ofChange consoleParsesSpec)) consoleParsesCard

/-- THE TIED CARD OF 'bilanderlaw28.ConsoleTells'. -/
def consoleTellsCard : Claim7 := { stood := { row := consoleTellsRow, standIns := [], harness := (true, "66a72f4dfcaea2da5de4ecd3b70126346d6aa0500037a88b6dd692a7c3874d32"), looks := true }, kinds := [], alts := [], laidByText := true, laidKinds := [.data, .pinned], laidTests := true, laidLooks := .later }
def ConsoleTellsCardSaid : Prop := Claim7.holds Tryz.pinned (.plain (OpenSpec.ofChange consoleTellsSpec)) consoleTellsCard

/-- THE TIED CARD OF 'bilanderlaw28.ConsoleNobody'. -/
def consoleNobodyCard : Claim7 := { stood := { row := consoleNobodyRow, standIns := [], harness := (true, "66a72f4dfcaea2da5de4ecd3b70126346d6aa0500037a88b6dd692a7c3874d32"), looks := true }, kinds := [], alts := [], laidByText := true, laidKinds := [.data, .pinned], laidTests := true, laidLooks := .later }
def ConsoleNobodyCardSaid : Prop := Claim7.holds Tryz.pinned (.plain (OpenSpec.ofChange consoleNobodySpec)) consoleNobodyCard

/-- THE SECOND FORM's CARD OF 'bilanderlaw28.ConsoleParses'. -/
def consoleParsesUptoCard : Claim7 := { stood := { row := consoleParsesUptoRow, standIns := [], harness := (true, "66a72f4dfcaea2da5de4ecd3b70126346d6aa0500037a88b6dd692a7c3874d32"), looks := true }, kinds := [], alts := [], laidByText := true, laidKinds := [.data, .pinned], laidTests := true, laidLooks := .later }
def ConsoleParsesUptoCardSaid : Prop := Claim7.holds Tryz.pinned (.plain (OpenSpec.upto consoleParsesSpec)) consoleParsesUptoCard

/-- THE SECOND FORM's CARD OF 'bilanderlaw28.ConsoleTells'. -/
def consoleTellsUptoCard : Claim7 := { stood := { row := consoleTellsUptoRow, standIns := [], harness := (true, "66a72f4dfcaea2da5de4ecd3b70126346d6aa0500037a88b6dd692a7c3874d32"), looks := true }, kinds := [], alts := [], laidByText := true, laidKinds := [.data, .pinned], laidTests := true, laidLooks := .later }
def ConsoleTellsUptoCardSaid : Prop := Claim7.holds Tryz.pinned (.plain (OpenSpec.upto consoleTellsSpec)) consoleTellsUptoCard

/-- THE SECOND FORM's CARD OF 'bilanderlaw28.ConsoleNobody'. -/
def consoleNobodyUptoCard : Claim7 := { stood := { row := consoleNobodyUptoRow, standIns := [], harness := (true, "66a72f4dfcaea2da5de4ecd3b70126346d6aa0500037a88b6dd692a7c3874d32"), looks := true }, kinds := [], alts := [], laidByText := true, laidKinds := [.data, .pinned], laidTests := true, laidLooks := .later }
def ConsoleNobodyUptoCardSaid : Prop := Claim7.holds Tryz.pinned (.plain (OpenSpec.upto consoleNobodySpec)) consoleNobodyUptoCard
end Rows
end Go.Proofs.YtifoekadjnlhcaaGreatDoor
