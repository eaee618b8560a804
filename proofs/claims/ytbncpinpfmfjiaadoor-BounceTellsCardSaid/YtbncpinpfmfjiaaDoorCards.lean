/-
  DERIVED. GIVEN WITH THE SEED: THE CARDS: each row of YtbncpinpfmfjiaaDoorRows.lean that lists a variable, with what it lists TIED to the program's text (the seventh form; the later family's looks); each row that meets fmt, with fmt's text TOLD by the authors' own Lean function (tested against real Go, not proved from fmt's source: count such statements apart). THE CARD IS WHAT COUNTS. Prove the row's statement (the work); the ties are given (YtbncpinpfmfjiaaDoorTie.lean); close each card by the builder's one call (the guide's Derived/Test/ToyasCard.lean, 'card_holds'). Laid BY PROGRAM, IN A SANDBOX (cutbox-door.mjs). By AI agents, Wed Nov 11 2026. No macro, syntax, notation, axiom, sorry.
-/
import Derived.Test.YtbncpinpfmfjiaaDoorRows
import GoSem.ClaimSeven
namespace Go.Proofs.YtbncpinpfmfjiaaDoor
namespace Rows

/-- THE TIED CARD OF 'scriptoriumlaw11.MimeBoundaries'. -/
def mimeBoundariesCard : Claim7 := { stood := { row := mimeBoundariesRow, standIns := [], harness := (true, "2f5581b7b69b3440409b466fba5bd08c363b0aebba2a5ae4361655b0ef0d31e1"), looks := true }, kinds := [], alts := [], laidByText := true, laidKinds := [.data, .data, .data], laidTests := true, laidLooks := .later }
def MimeBoundariesCardSaid : Prop := Claim7.holds Tryd.pinned (.plain (OpenSpec.ofChange mimeBoundariesSpec)) mimeBoundariesCard

/-- THE TIED CARD OF 'scriptoriumlaw11.MimeReports'. -/
def mimeReportsCard : Claim7 := { stood := { row := mimeReportsRow, standIns := [], harness := (true, "2f5581b7b69b3440409b466fba5bd08c363b0aebba2a5ae4361655b0ef0d31e1"), looks := true }, kinds := [], alts := [], laidByText := true, laidKinds := [.data, .data, .data], laidTests := true, laidLooks := .later }
def MimeReportsCardSaid : Prop := Claim7.holds Tryd.pinned (.plain (OpenSpec.ofChange mimeReportsSpec)) mimeReportsCard

/-- THE TIED CARD OF 'scriptoriumlaw10.MboxExports'. -/
def mboxExportsCard : Claim7 := { stood := { row := mboxExportsRow, standIns := [], harness := (true, "2f5581b7b69b3440409b466fba5bd08c363b0aebba2a5ae4361655b0ef0d31e1"), looks := true }, kinds := [], alts := [], laidByText := true, laidKinds := [.data, .data, .data, .data, .pinned], laidTests := true, laidLooks := .later }
def MboxExportsCardSaid : Prop := Claim7.holds Tryd.pinned (.plain (OpenSpec.ofChange mboxExportsSpec)) mboxExportsCard

/-- THE TIED CARD OF 'scriptoriumlaw10.MboxLines'. -/
def mboxLinesCard : Claim7 := { stood := { row := mboxLinesRow, standIns := [], harness := (true, "2f5581b7b69b3440409b466fba5bd08c363b0aebba2a5ae4361655b0ef0d31e1"), looks := true }, kinds := [], alts := [], laidByText := true, laidKinds := [.data, .data, .data, .data, .pinned], laidTests := true, laidLooks := .later }
def MboxLinesCardSaid : Prop := Claim7.holds Tryd.pinned (.plain (OpenSpec.ofChange mboxLinesSpec)) mboxLinesCard

/-- THE TIED CARD OF 'scriptoriumlaw10.MboxQuotes'. -/
def mboxQuotesCard : Claim7 := { stood := { row := mboxQuotesRow, standIns := [], harness := (true, "2f5581b7b69b3440409b466fba5bd08c363b0aebba2a5ae4361655b0ef0d31e1"), looks := true }, kinds := [], alts := [], laidByText := true, laidKinds := [.data, .data, .data, .data, .pinned], laidTests := true, laidLooks := .later }
def MboxQuotesCardSaid : Prop := Claim7.holds Tryd.pinned (.plain (OpenSpec.ofChange mboxQuotesSpec)) mboxQuotesCard

/-- THE TIED CARD OF 'scriptoriumlaw23.BounceTells'. -/
def bounceTellsCard : Claim7 := { stood := { row := bounceTellsRow, standIns := [], harness := (true, "2f5581b7b69b3440409b466fba5bd08c363b0aebba2a5ae4361655b0ef0d31e1"), looks := true }, kinds := [], alts := [], laidByText := true, laidKinds := [.data, .data, .data, .data, .pinned], laidTests := true, laidLooks := .later }
def BounceTellsCardSaid : Prop := Claim7.holds Tryd.pinned (.plain (OpenSpec.ofChange bounceTellsSpec)) bounceTellsCard

/-- THE TIED CARD OF 'scriptoriumlaw11.MimeReads'. -/
def mimeReadsCard : Claim7 := { stood := { row := mimeReadsRow, standIns := [], harness := (true, "2f5581b7b69b3440409b466fba5bd08c363b0aebba2a5ae4361655b0ef0d31e1"), looks := true }, kinds := [], alts := [], laidByText := true, laidKinds := [.data, .data, .data, .sentinel, .sentinel], laidTests := true, laidLooks := .later }
def MimeReadsCardSaid : Prop := Claim7.holds Tryd.pinned (.plain (OpenSpec.ofChange mimeReadsSpec)) mimeReadsCard

/-- THE TIED CARD OF 'scriptoriumlaw11.MimeBack'. -/
def mimeBackCard : Claim7 := { stood := { row := mimeBackRow, standIns := [], harness := (true, "2f5581b7b69b3440409b466fba5bd08c363b0aebba2a5ae4361655b0ef0d31e1"), looks := true }, kinds := [], alts := [], laidByText := true, laidKinds := [.data, .data, .data, .sentinel, .sentinel], laidTests := true, laidLooks := .later }
def MimeBackCardSaid : Prop := Claim7.holds Tryd.pinned (.plain (OpenSpec.ofChange mimeBackSpec)) mimeBackCard

/-- THE TIED CARD OF 'scriptoriumlaw10.MboxParses'. -/
def mboxParsesCard : Claim7 := { stood := { row := mboxParsesRow, standIns := [], harness := (true, "2f5581b7b69b3440409b466fba5bd08c363b0aebba2a5ae4361655b0ef0d31e1"), looks := true }, kinds := [], alts := [], laidByText := true, laidKinds := [.data, .data, .data, .data, .sentinel, .sentinel, .pinned], laidTests := true, laidLooks := .later }
def MboxParsesCardSaid : Prop := Claim7.holds Tryd.pinned (.plain (OpenSpec.ofChange mboxParsesSpec)) mboxParsesCard

/-- THE TIED CARD OF 'scriptoriumlaw10.MboxBack'. -/
def mboxBackCard : Claim7 := { stood := { row := mboxBackRow, standIns := [], harness := (true, "2f5581b7b69b3440409b466fba5bd08c363b0aebba2a5ae4361655b0ef0d31e1"), looks := true }, kinds := [], alts := [], laidByText := true, laidKinds := [.data, .data, .data, .data, .sentinel, .sentinel, .pinned], laidTests := true, laidLooks := .later }
def MboxBackCardSaid : Prop := Claim7.holds Tryd.pinned (.plain (OpenSpec.ofChange mboxBackSpec)) mboxBackCard

/-- THE SECOND FORM's CARD OF 'scriptoriumlaw11.MimeBoundaries'. -/
def mimeBoundariesUptoCard : Claim7 := { stood := { row := mimeBoundariesUptoRow, standIns := [], harness := (true, "2f5581b7b69b3440409b466fba5bd08c363b0aebba2a5ae4361655b0ef0d31e1"), looks := true }, kinds := [], alts := [], laidByText := true, laidKinds := [.data, .data, .data], laidTests := true, laidLooks := .later }
def MimeBoundariesUptoCardSaid : Prop := Claim7.holds Tryd.pinned (.plain (OpenSpec.upto mimeBoundariesSpec)) mimeBoundariesUptoCard

/-- THE SECOND FORM's CARD OF 'scriptoriumlaw11.MimeReports'. -/
def mimeReportsUptoCard : Claim7 := { stood := { row := mimeReportsUptoRow, standIns := [], harness := (true, "2f5581b7b69b3440409b466fba5bd08c363b0aebba2a5ae4361655b0ef0d31e1"), looks := true }, kinds := [], alts := [], laidByText := true, laidKinds := [.data, .data, .data], laidTests := true, laidLooks := .later }
def MimeReportsUptoCardSaid : Prop := Claim7.holds Tryd.pinned (.plain (OpenSpec.upto mimeReportsSpec)) mimeReportsUptoCard

/-- THE SECOND FORM's CARD OF 'scriptoriumlaw10.MboxExports'. -/
def mboxExportsUptoCard : Claim7 := { stood := { row := mboxExportsUptoRow, standIns := [], harness := (true, "2f5581b7b69b3440409b466fba5bd08c363b0aebba2a5ae4361655b0ef0d31e1"), looks := true }, kinds := [], alts := [], laidByText := true, laidKinds := [.data, .data, .data, .data, .pinned], laidTests := true, laidLooks := .later }
def MboxExportsUptoCardSaid : Prop := Claim7.holds Tryd.pinned (.plain (OpenSpec.upto mboxExportsSpec)) mboxExportsUptoCard

/-- THE SECOND FORM's CARD OF 'scriptoriumlaw10.MboxLines'. -/
def mboxLinesUptoCard : Claim7 := { stood := { row := mboxLinesUptoRow, standIns := [], harness := (true, "2f5581b7b69b3440409b466fba5bd08c363b0aebba2a5ae4361655b0ef0d31e1"), looks := true }, kinds := [], alts := [], laidByText := true, laidKinds := [.data, .data, .data, .data, .pinned], laidTests := true, laidLooks := .later }
def MboxLinesUptoCardSaid : Prop := Claim7.holds Tryd.pinned (.plain (OpenSpec.upto mboxLinesSpec)) mboxLinesUptoCard

/-- THE SECOND FORM's CARD OF 'scriptoriumlaw10.MboxQuotes'. -/
def mboxQuotesUptoCard : Claim7 := { stood := { row := mboxQuotesUptoRow, standIns := [], harness := (true, "2f5581b7b69b3440409b466fba5bd08c363b0aebba2a5ae4361655b0ef0d31e1"), looks := true }, kinds := [], alts := [], laidByText := true, laidKinds := [.data, .data, .data, .data, .pinned], laidTests := true, laidLooks := .later }
def MboxQuotesUptoCardSaid : Prop := Claim7.holds Tryd.pinned (.plain (OpenSpec.upto mboxQuotesSpec)) mboxQuotesUptoCard

/-- THE SECOND FORM's CARD OF 'scriptoriumlaw23.BounceTells'. -/
def bounceTellsUptoCard : Claim7 := { stood := { row := bounceTellsUptoRow, standIns := [], harness := (true, "2f5581b7b69b3440409b466fba5bd08c363b0aebba2a5ae4361655b0ef0d31e1"), looks := true }, kinds := [], alts := [], laidByText := true, laidKinds := [.data, .data, .data, .data, .pinned], laidTests := true, laidLooks := .later }
def BounceTellsUptoCardSaid : Prop := Claim7.holds Tryd.pinned (.plain (OpenSpec.upto bounceTellsSpec)) bounceTellsUptoCard

/-- THE SECOND FORM's CARD OF 'scriptoriumlaw11.MimeReads'. -/
def mimeReadsUptoCard : Claim7 := { stood := { row := mimeReadsUptoRow, standIns := [], harness := (true, "2f5581b7b69b3440409b466fba5bd08c363b0aebba2a5ae4361655b0ef0d31e1"), looks := true }, kinds := [], alts := [], laidByText := true, laidKinds := [.data, .data, .data, .sentinel, .sentinel], laidTests := true, laidLooks := .later }
def MimeReadsUptoCardSaid : Prop := Claim7.holds Tryd.pinned (.plain (OpenSpec.upto mimeReadsSpec)) mimeReadsUptoCard

/-- THE SECOND FORM's CARD OF 'scriptoriumlaw11.MimeBack'. -/
def mimeBackUptoCard : Claim7 := { stood := { row := mimeBackUptoRow, standIns := [], harness := (true, "2f5581b7b69b3440409b466fba5bd08c363b0aebba2a5ae4361655b0ef0d31e1"), looks := true }, kinds := [], alts := [], laidByText := true, laidKinds := [.data, .data, .data, .sentinel, .sentinel], laidTests := true, laidLooks := .later }
def MimeBackUptoCardSaid : Prop := Claim7.holds Tryd.pinned (.plain (OpenSpec.upto mimeBackSpec)) mimeBackUptoCard

/-- THE SECOND FORM's CARD OF 'scriptoriumlaw10.MboxParses'. -/
def mboxParsesUptoCard : Claim7 := { stood := { row := mboxParsesUptoRow, standIns := [], harness := (true, "2f5581b7b69b3440409b466fba5bd08c363b0aebba2a5ae4361655b0ef0d31e1"), looks := true }, kinds := [], alts := [], laidByText := true, laidKinds := [.data, .data, .data, .data, .sentinel, .sentinel, .pinned], laidTests := true, laidLooks := .later }
def MboxParsesUptoCardSaid : Prop := Claim7.holds Tryd.pinned (.plain (OpenSpec.upto mboxParsesSpec)) mboxParsesUptoCard

/-- THE SECOND FORM's CARD OF 'scriptoriumlaw10.MboxBack'. -/
def mboxBackUptoCard : Claim7 := { stood := { row := mboxBackUptoRow, standIns := [], harness := (true, "2f5581b7b69b3440409b466fba5bd08c363b0aebba2a5ae4361655b0ef0d31e1"), looks := true }, kinds := [], alts := [], laidByText := true, laidKinds := [.data, .data, .data, .data, .sentinel, .sentinel, .pinned], laidTests := true, laidLooks := .later }
def MboxBackUptoCardSaid : Prop := Claim7.holds Tryd.pinned (.plain (OpenSpec.upto mboxBackSpec)) mboxBackUptoCard
end Rows
end Go.Proofs.YtbncpinpfmfjiaaDoor
