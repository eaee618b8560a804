/-
  DERIVED. GIVEN WITH THE SEED: THE CARDS: each row of YtpdjgbpmlckepaaDoorRows.lean that lists a variable, with what it lists TIED to the program's text (the seventh form; the later family's looks); each row that meets fmt, with fmt's text TOLD by the authors' own Lean function (tested against real Go, not proved from fmt's source: count such statements apart). THE CARD IS WHAT COUNTS. Prove the row's statement (the work); the ties are given (YtpdjgbpmlckepaaDoorTie.lean); close each card by the builder's one call (the guide's Derived/Test/ToyasCard.lean, 'card_holds'). Laid BY PROGRAM, IN A SANDBOX (cutbox-door.mjs). By AI agents, Wed Nov 11 2026. No macro, syntax, notation, axiom, sorry.
-/
import Derived.Test.YtpdjgbpmlckepaaDoorRows
import GoSem.ClaimSeven
namespace Go.Proofs.YtpdjgbpmlckepaaDoor
namespace Rows

/-- THE TIED CARD OF 'scriptoriumlaw15.EntryDecodes'. -/
def entryDecodesCard : Claim7 := { stood := { row := entryDecodesRow, standIns := [], harness := (true, "9908f47fd202151bd8e8da685d25d0cdf719914ab06368f74eb1768821069e08"), looks := true }, kinds := [], alts := [], laidByText := true, laidKinds := [.data, .data, .data, .sentinel, .sentinel], laidTests := true, laidLooks := .later }
def EntryDecodesCardSaid : Prop := Claim7.holds Tryd.pinned (.plain (OpenSpec.ofChange entryDecodesSpec)) entryDecodesCard

/-- THE TIED CARD OF 'scriptoriumlaw11.MimeReads'. -/
def mimeReadsCard : Claim7 := { stood := { row := mimeReadsRow, standIns := [], harness := (true, "9908f47fd202151bd8e8da685d25d0cdf719914ab06368f74eb1768821069e08"), looks := true }, kinds := [], alts := [], laidByText := true, laidKinds := [.data, .data, .data, .sentinel, .sentinel], laidTests := true, laidLooks := .later }
def MimeReadsCardSaid : Prop := Claim7.holds Tryd.pinned (.plain (OpenSpec.ofChange mimeReadsSpec)) mimeReadsCard

/-- THE TIED CARD OF 'scriptoriumlaw11.MimeBack'. -/
def mimeBackCard : Claim7 := { stood := { row := mimeBackRow, standIns := [], harness := (true, "9908f47fd202151bd8e8da685d25d0cdf719914ab06368f74eb1768821069e08"), looks := true }, kinds := [], alts := [], laidByText := true, laidKinds := [.data, .data, .data, .sentinel, .sentinel], laidTests := true, laidLooks := .later }
def MimeBackCardSaid : Prop := Claim7.holds Tryd.pinned (.plain (OpenSpec.ofChange mimeBackSpec)) mimeBackCard

/-- THE TIED CARD OF 'scriptoriumlaw10.MboxParses'. -/
def mboxParsesCard : Claim7 := { stood := { row := mboxParsesRow, standIns := [], harness := (true, "9908f47fd202151bd8e8da685d25d0cdf719914ab06368f74eb1768821069e08"), looks := true }, kinds := [], alts := [], laidByText := true, laidKinds := [.data, .data, .data, .data, .sentinel, .sentinel, .pinned], laidTests := true, laidLooks := .later }
def MboxParsesCardSaid : Prop := Claim7.holds Tryd.pinned (.plain (OpenSpec.ofChange mboxParsesSpec)) mboxParsesCard

/-- THE TIED CARD OF 'scriptoriumlaw10.MboxBack'. -/
def mboxBackCard : Claim7 := { stood := { row := mboxBackRow, standIns := [], harness := (true, "9908f47fd202151bd8e8da685d25d0cdf719914ab06368f74eb1768821069e08"), looks := true }, kinds := [], alts := [], laidByText := true, laidKinds := [.data, .data, .data, .data, .sentinel, .sentinel, .pinned], laidTests := true, laidLooks := .later }
def MboxBackCardSaid : Prop := Claim7.holds Tryd.pinned (.plain (OpenSpec.ofChange mboxBackSpec)) mboxBackCard

/-- THE TIED CARD OF 'scriptoriumlaw16.RecordBack'. -/
def recordBackCard : Claim7 := { stood := { row := recordBackRow, standIns := [], harness := (true, "9908f47fd202151bd8e8da685d25d0cdf719914ab06368f74eb1768821069e08"), looks := true }, kinds := [], alts := [], laidByText := true, laidKinds := [.data, .data, .data, .sentinel, .sentinel], laidTests := true, laidLooks := .later }
def RecordBackCardSaid : Prop := Claim7.holds Tryd.pinned (.plain (OpenSpec.ofChange recordBackSpec)) recordBackCard

/-- THE SECOND FORM's CARD OF 'scriptoriumlaw15.EntryDecodes'. -/
def entryDecodesUptoCard : Claim7 := { stood := { row := entryDecodesUptoRow, standIns := [], harness := (true, "9908f47fd202151bd8e8da685d25d0cdf719914ab06368f74eb1768821069e08"), looks := true }, kinds := [], alts := [], laidByText := true, laidKinds := [.data, .data, .data, .sentinel, .sentinel], laidTests := true, laidLooks := .later }
def EntryDecodesUptoCardSaid : Prop := Claim7.holds Tryd.pinned (.plain (OpenSpec.upto entryDecodesSpec)) entryDecodesUptoCard

/-- THE SECOND FORM's CARD OF 'scriptoriumlaw11.MimeReads'. -/
def mimeReadsUptoCard : Claim7 := { stood := { row := mimeReadsUptoRow, standIns := [], harness := (true, "9908f47fd202151bd8e8da685d25d0cdf719914ab06368f74eb1768821069e08"), looks := true }, kinds := [], alts := [], laidByText := true, laidKinds := [.data, .data, .data, .sentinel, .sentinel], laidTests := true, laidLooks := .later }
def MimeReadsUptoCardSaid : Prop := Claim7.holds Tryd.pinned (.plain (OpenSpec.upto mimeReadsSpec)) mimeReadsUptoCard

/-- THE SECOND FORM's CARD OF 'scriptoriumlaw11.MimeBack'. -/
def mimeBackUptoCard : Claim7 := { stood := { row := mimeBackUptoRow, standIns := [], harness := (true, "9908f47fd202151bd8e8da685d25d0cdf719914ab06368f74eb1768821069e08"), looks := true }, kinds := [], alts := [], laidByText := true, laidKinds := [.data, .data, .data, .sentinel, .sentinel], laidTests := true, laidLooks := .later }
def MimeBackUptoCardSaid : Prop := Claim7.holds Tryd.pinned (.plain (OpenSpec.upto mimeBackSpec)) mimeBackUptoCard

/-- THE SECOND FORM's CARD OF 'scriptoriumlaw10.MboxParses'. -/
def mboxParsesUptoCard : Claim7 := { stood := { row := mboxParsesUptoRow, standIns := [], harness := (true, "9908f47fd202151bd8e8da685d25d0cdf719914ab06368f74eb1768821069e08"), looks := true }, kinds := [], alts := [], laidByText := true, laidKinds := [.data, .data, .data, .data, .sentinel, .sentinel, .pinned], laidTests := true, laidLooks := .later }
def MboxParsesUptoCardSaid : Prop := Claim7.holds Tryd.pinned (.plain (OpenSpec.upto mboxParsesSpec)) mboxParsesUptoCard

/-- THE SECOND FORM's CARD OF 'scriptoriumlaw10.MboxBack'. -/
def mboxBackUptoCard : Claim7 := { stood := { row := mboxBackUptoRow, standIns := [], harness := (true, "9908f47fd202151bd8e8da685d25d0cdf719914ab06368f74eb1768821069e08"), looks := true }, kinds := [], alts := [], laidByText := true, laidKinds := [.data, .data, .data, .data, .sentinel, .sentinel, .pinned], laidTests := true, laidLooks := .later }
def MboxBackUptoCardSaid : Prop := Claim7.holds Tryd.pinned (.plain (OpenSpec.upto mboxBackSpec)) mboxBackUptoCard

/-- THE SECOND FORM's CARD OF 'scriptoriumlaw16.RecordBack'. -/
def recordBackUptoCard : Claim7 := { stood := { row := recordBackUptoRow, standIns := [], harness := (true, "9908f47fd202151bd8e8da685d25d0cdf719914ab06368f74eb1768821069e08"), looks := true }, kinds := [], alts := [], laidByText := true, laidKinds := [.data, .data, .data, .sentinel, .sentinel], laidTests := true, laidLooks := .later }
def RecordBackUptoCardSaid : Prop := Claim7.holds Tryd.pinned (.plain (OpenSpec.upto recordBackSpec)) recordBackUptoCard
end Rows
end Go.Proofs.YtpdjgbpmlckepaaDoor
