/-
  DERIVED. GIVEN WITH THE SEED: THE CARDS: each row of YtadghefkbjacjaaGreatDoorRows.lean that lists a variable, with what it lists TIED to the program's text (the seventh form; the later family's looks); each row that meets fmt, with fmt's text TOLD by the authors' own Lean function (tested against real Go, not proved from fmt's source: count such statements apart). THE CARD IS WHAT COUNTS. Prove the row's statement (the work); the ties are given (YtadghefkbjacjaaGreatDoorTie.lean); close each card by the builder's one call (the guide's Derived/Test/ToyasCard.lean, 'card_holds'). Laid BY PROGRAM, IN A SANDBOX (cutbox-door.mjs). By AI agents, Wed Nov 11 2026. No macro, syntax, notation, axiom, sorry.
-/
import Derived.Test.YtadghefkbjacjaaGreatDoorRows
import GoSem.ClaimSeven
namespace Go.Proofs.YtadghefkbjacjaaGreatDoor
namespace Rows

/-- THE TIED CARD OF 'scriptoriumlaw19.QueryLogic'. -/
def queryLogicCard : Claim7 := { stood := { row := queryLogicRow, standIns := [], harness := (true, "2048bf839c778b630cf3827caa3fac0f68d908dd184e2cbbd05eb312387ec64b"), looks := true }, kinds := [], alts := [], laidByText := true, laidKinds := [.data, .data, .data, .sentinel, .sentinel], laidTests := true, laidLooks := .later }
def QueryLogicCardSaid : Prop := Claim7.holds Tryz.pinned (.plain (OpenSpec.ofChange queryLogicSpec)) queryLogicCard

/-- THE TIED CARD OF 'scriptoriumlaw16.RecordPurges'. -/
def recordPurgesCard : Claim7 := { stood := { row := recordPurgesRow, standIns := [], harness := (true, "2048bf839c778b630cf3827caa3fac0f68d908dd184e2cbbd05eb312387ec64b"), looks := true }, kinds := [], alts := [], laidByText := true, laidKinds := [.data, .data, .data, .sentinel, .sentinel], laidTests := true, laidLooks := .later }
def RecordPurgesCardSaid : Prop := Claim7.holds Tryz.pinned (.plain (OpenSpec.ofChange recordPurgesSpec)) recordPurgesCard

/-- THE TIED CARD OF 'scriptoriumlaw16.RecordDecodes'. -/
def recordDecodesCard : Claim7 := { stood := { row := recordDecodesRow, standIns := [], harness := (true, "2048bf839c778b630cf3827caa3fac0f68d908dd184e2cbbd05eb312387ec64b"), looks := true }, kinds := [], alts := [], laidByText := true, laidKinds := [.data, .data, .data, .sentinel, .sentinel], laidTests := true, laidLooks := .later }
def RecordDecodesCardSaid : Prop := Claim7.holds Tryz.pinned (.plain (OpenSpec.ofChange recordDecodesSpec)) recordDecodesCard

/-- THE TIED CARD OF 'scriptoriumlaw16.RecordStays'. -/
def recordStaysCard : Claim7 := { stood := { row := recordStaysRow, standIns := [], harness := (true, "2048bf839c778b630cf3827caa3fac0f68d908dd184e2cbbd05eb312387ec64b"), looks := true }, kinds := [], alts := [], laidByText := true, laidKinds := [.data, .data, .data, .sentinel, .sentinel], laidTests := true, laidLooks := .later }
def RecordStaysCardSaid : Prop := Claim7.holds Tryz.pinned (.plain (OpenSpec.ofChange recordStaysSpec)) recordStaysCard

/-- THE TIED CARD OF 'scriptoriumlaw23.BounceReads'. -/
def bounceReadsCard : Claim7 := { stood := { row := bounceReadsRow, standIns := [], harness := (true, "2048bf839c778b630cf3827caa3fac0f68d908dd184e2cbbd05eb312387ec64b"), looks := true }, kinds := [], alts := [], laidByText := true, laidKinds := [.data, .data, .data, .data, .sentinel, .sentinel, .pinned], laidTests := true, laidLooks := .later }
def BounceReadsCardSaid : Prop := Claim7.holds Tryz.pinned (.plain (OpenSpec.ofChange bounceReadsSpec)) bounceReadsCard

/-- THE TIED CARD OF 'scriptoriumlaw23.BounceBack'. -/
def bounceBackCard : Claim7 := { stood := { row := bounceBackRow, standIns := [], harness := (true, "2048bf839c778b630cf3827caa3fac0f68d908dd184e2cbbd05eb312387ec64b"), looks := true }, kinds := [], alts := [], laidByText := true, laidKinds := [.data, .data, .data, .data, .sentinel, .sentinel, .pinned], laidTests := true, laidLooks := .later }
def BounceBackCardSaid : Prop := Claim7.holds Tryz.pinned (.plain (OpenSpec.ofChange bounceBackSpec)) bounceBackCard

/-- THE TIED CARD OF 'scriptoriumlaw25.ServerActs'. -/
def serverActsCard : Claim7 := { stood := { row := serverActsRow, standIns := [], harness := (true, "2048bf839c778b630cf3827caa3fac0f68d908dd184e2cbbd05eb312387ec64b"), looks := true }, kinds := [], alts := [], laidByText := true, laidKinds := [.data, .data, .data, .data, .sentinel, .sentinel, .pinned], laidTests := true, laidLooks := .later }
def ServerActsCardSaid : Prop := Claim7.holds Tryz.pinned (.plain (OpenSpec.ofChange serverActsSpec)) serverActsCard

/-- THE TIED CARD OF 'scriptoriumlaw25.ServerCuts'. -/
def serverCutsCard : Claim7 := { stood := { row := serverCutsRow, standIns := [], harness := (true, "2048bf839c778b630cf3827caa3fac0f68d908dd184e2cbbd05eb312387ec64b"), looks := true }, kinds := [], alts := [], laidByText := true, laidKinds := [.data, .data, .data, .data, .sentinel, .sentinel, .pinned], laidTests := true, laidLooks := .later }
def ServerCutsCardSaid : Prop := Claim7.holds Tryz.pinned (.plain (OpenSpec.ofChange serverCutsSpec)) serverCutsCard

/-- THE TIED CARD OF 'scriptoriumlaw25.ServerTakes'. -/
def serverTakesCard : Claim7 := { stood := { row := serverTakesRow, standIns := [], harness := (true, "2048bf839c778b630cf3827caa3fac0f68d908dd184e2cbbd05eb312387ec64b"), looks := true }, kinds := [], alts := [], laidByText := true, laidKinds := [.data, .data, .data, .data, .sentinel, .sentinel, .pinned], laidTests := true, laidLooks := .later }
def ServerTakesCardSaid : Prop := Claim7.holds Tryz.pinned (.plain (OpenSpec.ofChange serverTakesSpec)) serverTakesCard

/-- THE TIED CARD OF 'scriptoriumlaw25.ServerNone'. -/
def serverNoneCard : Claim7 := { stood := { row := serverNoneRow, standIns := [], harness := (true, "2048bf839c778b630cf3827caa3fac0f68d908dd184e2cbbd05eb312387ec64b"), looks := true }, kinds := [], alts := [], laidByText := true, laidKinds := [.data, .data, .data, .data, .sentinel, .sentinel, .pinned], laidTests := true, laidLooks := .later }
def ServerNoneCardSaid : Prop := Claim7.holds Tryz.pinned (.plain (OpenSpec.ofChange serverNoneSpec)) serverNoneCard

/-- THE TIED CARD OF 'scriptoriumlaw25.ServerGreets'. -/
def serverGreetsCard : Claim7 := { stood := { row := serverGreetsRow, standIns := [], harness := (true, "2048bf839c778b630cf3827caa3fac0f68d908dd184e2cbbd05eb312387ec64b"), looks := true }, kinds := [], alts := [], laidByText := true, laidKinds := [.data, .data, .data, .data, .sentinel, .sentinel, .pinned], laidTests := true, laidLooks := .later }
def ServerGreetsCardSaid : Prop := Claim7.holds Tryz.pinned (.plain (OpenSpec.ofChange serverGreetsSpec)) serverGreetsCard

/-- THE TIED CARD OF 'scriptoriumlaw19.QueryDocs'. -/
def queryDocsCard : Claim7 := { stood := { row := queryDocsRow, standIns := [], harness := (true, "2048bf839c778b630cf3827caa3fac0f68d908dd184e2cbbd05eb312387ec64b"), looks := true }, kinds := [], alts := [], laidByText := true, laidKinds := [.data, .data, .data, .sentinel, .sentinel], laidTests := true, laidLooks := .later }
def QueryDocsCardSaid : Prop := Claim7.holds Tryz.pinned (.plain (OpenSpec.ofChange queryDocsSpec)) queryDocsCard

/-- THE SECOND FORM's CARD OF 'scriptoriumlaw19.QueryLogic'. -/
def queryLogicUptoCard : Claim7 := { stood := { row := queryLogicUptoRow, standIns := [], harness := (true, "2048bf839c778b630cf3827caa3fac0f68d908dd184e2cbbd05eb312387ec64b"), looks := true }, kinds := [], alts := [], laidByText := true, laidKinds := [.data, .data, .data, .sentinel, .sentinel], laidTests := true, laidLooks := .later }
def QueryLogicUptoCardSaid : Prop := Claim7.holds Tryz.pinned (.plain (OpenSpec.upto queryLogicSpec)) queryLogicUptoCard

/-- THE SECOND FORM's CARD OF 'scriptoriumlaw16.RecordPurges'. -/
def recordPurgesUptoCard : Claim7 := { stood := { row := recordPurgesUptoRow, standIns := [], harness := (true, "2048bf839c778b630cf3827caa3fac0f68d908dd184e2cbbd05eb312387ec64b"), looks := true }, kinds := [], alts := [], laidByText := true, laidKinds := [.data, .data, .data, .sentinel, .sentinel], laidTests := true, laidLooks := .later }
def RecordPurgesUptoCardSaid : Prop := Claim7.holds Tryz.pinned (.plain (OpenSpec.upto recordPurgesSpec)) recordPurgesUptoCard

/-- THE SECOND FORM's CARD OF 'scriptoriumlaw16.RecordDecodes'. -/
def recordDecodesUptoCard : Claim7 := { stood := { row := recordDecodesUptoRow, standIns := [], harness := (true, "2048bf839c778b630cf3827caa3fac0f68d908dd184e2cbbd05eb312387ec64b"), looks := true }, kinds := [], alts := [], laidByText := true, laidKinds := [.data, .data, .data, .sentinel, .sentinel], laidTests := true, laidLooks := .later }
def RecordDecodesUptoCardSaid : Prop := Claim7.holds Tryz.pinned (.plain (OpenSpec.upto recordDecodesSpec)) recordDecodesUptoCard

/-- THE SECOND FORM's CARD OF 'scriptoriumlaw16.RecordStays'. -/
def recordStaysUptoCard : Claim7 := { stood := { row := recordStaysUptoRow, standIns := [], harness := (true, "2048bf839c778b630cf3827caa3fac0f68d908dd184e2cbbd05eb312387ec64b"), looks := true }, kinds := [], alts := [], laidByText := true, laidKinds := [.data, .data, .data, .sentinel, .sentinel], laidTests := true, laidLooks := .later }
def RecordStaysUptoCardSaid : Prop := Claim7.holds Tryz.pinned (.plain (OpenSpec.upto recordStaysSpec)) recordStaysUptoCard

/-- THE SECOND FORM's CARD OF 'scriptoriumlaw23.BounceReads'. -/
def bounceReadsUptoCard : Claim7 := { stood := { row := bounceReadsUptoRow, standIns := [], harness := (true, "2048bf839c778b630cf3827caa3fac0f68d908dd184e2cbbd05eb312387ec64b"), looks := true }, kinds := [], alts := [], laidByText := true, laidKinds := [.data, .data, .data, .data, .sentinel, .sentinel, .pinned], laidTests := true, laidLooks := .later }
def BounceReadsUptoCardSaid : Prop := Claim7.holds Tryz.pinned (.plain (OpenSpec.upto bounceReadsSpec)) bounceReadsUptoCard

/-- THE SECOND FORM's CARD OF 'scriptoriumlaw23.BounceBack'. -/
def bounceBackUptoCard : Claim7 := { stood := { row := bounceBackUptoRow, standIns := [], harness := (true, "2048bf839c778b630cf3827caa3fac0f68d908dd184e2cbbd05eb312387ec64b"), looks := true }, kinds := [], alts := [], laidByText := true, laidKinds := [.data, .data, .data, .data, .sentinel, .sentinel, .pinned], laidTests := true, laidLooks := .later }
def BounceBackUptoCardSaid : Prop := Claim7.holds Tryz.pinned (.plain (OpenSpec.upto bounceBackSpec)) bounceBackUptoCard

/-- THE SECOND FORM's CARD OF 'scriptoriumlaw25.ServerActs'. -/
def serverActsUptoCard : Claim7 := { stood := { row := serverActsUptoRow, standIns := [], harness := (true, "2048bf839c778b630cf3827caa3fac0f68d908dd184e2cbbd05eb312387ec64b"), looks := true }, kinds := [], alts := [], laidByText := true, laidKinds := [.data, .data, .data, .data, .sentinel, .sentinel, .pinned], laidTests := true, laidLooks := .later }
def ServerActsUptoCardSaid : Prop := Claim7.holds Tryz.pinned (.plain (OpenSpec.upto serverActsSpec)) serverActsUptoCard

/-- THE SECOND FORM's CARD OF 'scriptoriumlaw25.ServerCuts'. -/
def serverCutsUptoCard : Claim7 := { stood := { row := serverCutsUptoRow, standIns := [], harness := (true, "2048bf839c778b630cf3827caa3fac0f68d908dd184e2cbbd05eb312387ec64b"), looks := true }, kinds := [], alts := [], laidByText := true, laidKinds := [.data, .data, .data, .data, .sentinel, .sentinel, .pinned], laidTests := true, laidLooks := .later }
def ServerCutsUptoCardSaid : Prop := Claim7.holds Tryz.pinned (.plain (OpenSpec.upto serverCutsSpec)) serverCutsUptoCard

/-- THE SECOND FORM's CARD OF 'scriptoriumlaw25.ServerTakes'. -/
def serverTakesUptoCard : Claim7 := { stood := { row := serverTakesUptoRow, standIns := [], harness := (true, "2048bf839c778b630cf3827caa3fac0f68d908dd184e2cbbd05eb312387ec64b"), looks := true }, kinds := [], alts := [], laidByText := true, laidKinds := [.data, .data, .data, .data, .sentinel, .sentinel, .pinned], laidTests := true, laidLooks := .later }
def ServerTakesUptoCardSaid : Prop := Claim7.holds Tryz.pinned (.plain (OpenSpec.upto serverTakesSpec)) serverTakesUptoCard

/-- THE SECOND FORM's CARD OF 'scriptoriumlaw25.ServerNone'. -/
def serverNoneUptoCard : Claim7 := { stood := { row := serverNoneUptoRow, standIns := [], harness := (true, "2048bf839c778b630cf3827caa3fac0f68d908dd184e2cbbd05eb312387ec64b"), looks := true }, kinds := [], alts := [], laidByText := true, laidKinds := [.data, .data, .data, .data, .sentinel, .sentinel, .pinned], laidTests := true, laidLooks := .later }
def ServerNoneUptoCardSaid : Prop := Claim7.holds Tryz.pinned (.plain (OpenSpec.upto serverNoneSpec)) serverNoneUptoCard

/-- THE SECOND FORM's CARD OF 'scriptoriumlaw25.ServerGreets'. -/
def serverGreetsUptoCard : Claim7 := { stood := { row := serverGreetsUptoRow, standIns := [], harness := (true, "2048bf839c778b630cf3827caa3fac0f68d908dd184e2cbbd05eb312387ec64b"), looks := true }, kinds := [], alts := [], laidByText := true, laidKinds := [.data, .data, .data, .data, .sentinel, .sentinel, .pinned], laidTests := true, laidLooks := .later }
def ServerGreetsUptoCardSaid : Prop := Claim7.holds Tryz.pinned (.plain (OpenSpec.upto serverGreetsSpec)) serverGreetsUptoCard

/-- THE SECOND FORM's CARD OF 'scriptoriumlaw19.QueryDocs'. -/
def queryDocsUptoCard : Claim7 := { stood := { row := queryDocsUptoRow, standIns := [], harness := (true, "2048bf839c778b630cf3827caa3fac0f68d908dd184e2cbbd05eb312387ec64b"), looks := true }, kinds := [], alts := [], laidByText := true, laidKinds := [.data, .data, .data, .sentinel, .sentinel], laidTests := true, laidLooks := .later }
def QueryDocsUptoCardSaid : Prop := Claim7.holds Tryz.pinned (.plain (OpenSpec.upto queryDocsSpec)) queryDocsUptoCard
end Rows
end Go.Proofs.YtadghefkbjacjaaGreatDoor
