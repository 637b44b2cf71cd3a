/-
  DERIVED. GIVEN WITH THE SEED: THE CARDS: each row of YtejokhgabcldhaaDoorRows.lean that lists a variable, with what it lists TIED to the program's text (the seventh form; the later family's looks); each row that meets fmt, with fmt's text TOLD by the authors' own Lean function (tested against real Go, not proved from fmt's source: count such statements apart). THE CARD IS WHAT COUNTS. Prove the row's statement (the work); the ties are given (YtejokhgabcldhaaDoorTie.lean); close each card by the builder's one call (the guide's Derived/Test/ToyasCard.lean, 'card_holds'). Laid BY PROGRAM, IN A SANDBOX (cutbox-door.mjs). By AI agents, Wed Nov 11 2026. No macro, syntax, notation, axiom, sorry.
-/
import Derived.Test.YtejokhgabcldhaaDoorRows
import GoSem.ClaimSeven
namespace Go.Proofs.YtejokhgabcldhaaDoor
namespace Rows

/-- THE TIED CARD OF 'bilanderlaw30.DumpQuotes'. -/
def dumpQuotesCard : Claim7 := { stood := { row := dumpQuotesRow, standIns := [], harness := (true, "0bf0dc7e50eec7ecf3a86415f0f6f66c85acf3758ab66e62f6a1946dd55e0909"), looks := false }, kinds := [], alts := [], laidByText := true, laidKinds := [.data, .pinned], laidTests := true, laidLooks := .later }
def DumpQuotesCardSaid : Prop := Claim7.holds Tryd.pinned (.plain (OpenSpec.ofChange dumpQuotesSpec)) dumpQuotesCard

/-- THE TIED CARD OF 'bilanderlaw30.DumpTexts'. -/
def dumpTextsCard : Claim7 := { stood := { row := dumpTextsRow, standIns := [], harness := (true, "0bf0dc7e50eec7ecf3a86415f0f6f66c85acf3758ab66e62f6a1946dd55e0909"), looks := false }, kinds := [], alts := [], laidByText := true, laidKinds := [.data, .pinned], laidTests := true, laidLooks := .later }
def DumpTextsCardSaid : Prop := Claim7.holds Tryd.pinned (.plain (OpenSpec.ofChange dumpTextsSpec)) dumpTextsCard

/-- THE TIED CARD OF 'bilanderlaw30.DumpBack'. -/
def dumpBackCard : Claim7 := { stood := { row := dumpBackRow, standIns := [], harness := (true, "0bf0dc7e50eec7ecf3a86415f0f6f66c85acf3758ab66e62f6a1946dd55e0909"), looks := false }, kinds := [], alts := [], laidByText := true, laidKinds := [.data, .pinned], laidTests := true, laidLooks := .later }
def DumpBackCardSaid : Prop := Claim7.holds Tryd.pinned (.plain (OpenSpec.ofChange dumpBackSpec)) dumpBackCard

/-- THE TIED CARD OF 'bilanderlaw30.DumpWrong'. -/
def dumpWrongCard : Claim7 := { stood := { row := dumpWrongRow, standIns := [], harness := (true, "0bf0dc7e50eec7ecf3a86415f0f6f66c85acf3758ab66e62f6a1946dd55e0909"), looks := false }, kinds := [], alts := [], laidByText := true, laidKinds := [.data, .pinned], laidTests := true, laidLooks := .later }
def DumpWrongCardSaid : Prop := Claim7.holds Tryd.pinned (.plain (OpenSpec.ofChange dumpWrongSpec)) dumpWrongCard

/-- THE SECOND FORM's CARD OF 'bilanderlaw30.DumpQuotes'. -/
def dumpQuotesUptoCard : Claim7 := { stood := { row := dumpQuotesUptoRow, standIns := [], harness := (true, "0bf0dc7e50eec7ecf3a86415f0f6f66c85acf3758ab66e62f6a1946dd55e0909"), looks := false }, kinds := [], alts := [], laidByText := true, laidKinds := [.data, .pinned], laidTests := true, laidLooks := .later }
def DumpQuotesUptoCardSaid : Prop := Claim7.holds Tryd.pinned (.plain (OpenSpec.upto dumpQuotesSpec)) dumpQuotesUptoCard

/-- THE SECOND FORM's CARD OF 'bilanderlaw30.DumpTexts'. -/
def dumpTextsUptoCard : Claim7 := { stood := { row := dumpTextsUptoRow, standIns := [], harness := (true, "0bf0dc7e50eec7ecf3a86415f0f6f66c85acf3758ab66e62f6a1946dd55e0909"), looks := false }, kinds := [], alts := [], laidByText := true, laidKinds := [.data, .pinned], laidTests := true, laidLooks := .later }
def DumpTextsUptoCardSaid : Prop := Claim7.holds Tryd.pinned (.plain (OpenSpec.upto dumpTextsSpec)) dumpTextsUptoCard

/-- THE SECOND FORM's CARD OF 'bilanderlaw30.DumpBack'. -/
def dumpBackUptoCard : Claim7 := { stood := { row := dumpBackUptoRow, standIns := [], harness := (true, "0bf0dc7e50eec7ecf3a86415f0f6f66c85acf3758ab66e62f6a1946dd55e0909"), looks := false }, kinds := [], alts := [], laidByText := true, laidKinds := [.data, .pinned], laidTests := true, laidLooks := .later }
def DumpBackUptoCardSaid : Prop := Claim7.holds Tryd.pinned (.plain (OpenSpec.upto dumpBackSpec)) dumpBackUptoCard

/-- THE SECOND FORM's CARD OF 'bilanderlaw30.DumpWrong'. -/
def dumpWrongUptoCard : Claim7 := { stood := { row := dumpWrongUptoRow, standIns := [], harness := (true, "0bf0dc7e50eec7ecf3a86415f0f6f66c85acf3758ab66e62f6a1946dd55e0909"), looks := false }, kinds := [], alts := [], laidByText := true, laidKinds := [.data, .pinned], laidTests := true, laidLooks := .later }
def DumpWrongUptoCardSaid : Prop := Claim7.holds Tryd.pinned (.plain (OpenSpec.upto dumpWrongSpec)) dumpWrongUptoCard
end Rows
end Go.Proofs.YtejokhgabcldhaaDoor
