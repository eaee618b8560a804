/-
  DERIVED. GIVEN WITH THE SEED: THE CARDS: each row of YtpdjgbpmlckepaaGreatDoorRows.lean that lists a variable, with what it lists TIED to the program's text (the seventh form; the later family's looks); each row that meets fmt, with fmt's text TOLD by the authors' own Lean function (tested against real Go, not proved from fmt's source: count such statements apart). THE CARD IS WHAT COUNTS. Prove the row's statement (the work); the ties are given (YtpdjgbpmlckepaaGreatDoorTie.lean); close each card by the builder's one call (the guide's Derived/Test/ToyasCard.lean, 'card_holds'). Laid BY PROGRAM, IN A SANDBOX (cutbox-door.mjs). By AI agents, Wed Nov 11 2026. No macro, syntax, notation, axiom, sorry.
-/
import Derived.Test.YtpdjgbpmlckepaaGreatDoorRows
import GoSem.ClaimSeven
namespace Go.Proofs.YtpdjgbpmlckepaaGreatDoor
namespace Rows

/-- THE TIED CARD OF 'scriptoriumlaw16.RecordEncodes'. -/
def recordEncodesCard : Claim7 := { stood := { row := recordEncodesRow, standIns := [], harness := (true, "18dcde3b0d6d2a7feb825b15476d893c9158462dd85c24b66fd55e7a0b59aa8b"), looks := true }, kinds := [], alts := [], laidByText := true, laidKinds := [.data, .data, .data, .sentinel, .sentinel], laidTests := true, laidLooks := .later }
def RecordEncodesCardSaid : Prop := Claim7.holds Tryz.pinned (.plain (OpenSpec.ofChange recordEncodesSpec)) recordEncodesCard

/-- THE TIED CARD OF 'scriptoriumlaw16.RecordPurges'. -/
def recordPurgesCard : Claim7 := { stood := { row := recordPurgesRow, standIns := [], harness := (true, "18dcde3b0d6d2a7feb825b15476d893c9158462dd85c24b66fd55e7a0b59aa8b"), looks := true }, kinds := [], alts := [], laidByText := true, laidKinds := [.data, .data, .data, .sentinel, .sentinel], laidTests := true, laidLooks := .later }
def RecordPurgesCardSaid : Prop := Claim7.holds Tryz.pinned (.plain (OpenSpec.ofChange recordPurgesSpec)) recordPurgesCard

/-- THE TIED CARD OF 'scriptoriumlaw16.RecordDecodes'. -/
def recordDecodesCard : Claim7 := { stood := { row := recordDecodesRow, standIns := [], harness := (true, "18dcde3b0d6d2a7feb825b15476d893c9158462dd85c24b66fd55e7a0b59aa8b"), looks := true }, kinds := [], alts := [], laidByText := true, laidKinds := [.data, .data, .data, .sentinel, .sentinel], laidTests := true, laidLooks := .later }
def RecordDecodesCardSaid : Prop := Claim7.holds Tryz.pinned (.plain (OpenSpec.ofChange recordDecodesSpec)) recordDecodesCard

/-- THE TIED CARD OF 'scriptoriumlaw16.RecordStays'. -/
def recordStaysCard : Claim7 := { stood := { row := recordStaysRow, standIns := [], harness := (true, "18dcde3b0d6d2a7feb825b15476d893c9158462dd85c24b66fd55e7a0b59aa8b"), looks := true }, kinds := [], alts := [], laidByText := true, laidKinds := [.data, .data, .data, .sentinel, .sentinel], laidTests := true, laidLooks := .later }
def RecordStaysCardSaid : Prop := Claim7.holds Tryz.pinned (.plain (OpenSpec.ofChange recordStaysSpec)) recordStaysCard

/-- THE TIED CARD OF 'scriptoriumlaw23.BounceReads'. -/
def bounceReadsCard : Claim7 := { stood := { row := bounceReadsRow, standIns := [], harness := (true, "18dcde3b0d6d2a7feb825b15476d893c9158462dd85c24b66fd55e7a0b59aa8b"), looks := true }, kinds := [], alts := [], laidByText := true, laidKinds := [.data, .data, .data, .data, .sentinel, .sentinel, .pinned], laidTests := true, laidLooks := .later }
def BounceReadsCardSaid : Prop := Claim7.holds Tryz.pinned (.plain (OpenSpec.ofChange bounceReadsSpec)) bounceReadsCard

/-- THE TIED CARD OF 'scriptoriumlaw23.BounceBack'. -/
def bounceBackCard : Claim7 := { stood := { row := bounceBackRow, standIns := [], harness := (true, "18dcde3b0d6d2a7feb825b15476d893c9158462dd85c24b66fd55e7a0b59aa8b"), looks := true }, kinds := [], alts := [], laidByText := true, laidKinds := [.data, .data, .data, .data, .sentinel, .sentinel, .pinned], laidTests := true, laidLooks := .later }
def BounceBackCardSaid : Prop := Claim7.holds Tryz.pinned (.plain (OpenSpec.ofChange bounceBackSpec)) bounceBackCard

/-- THE SECOND FORM's CARD OF 'scriptoriumlaw16.RecordEncodes'. -/
def recordEncodesUptoCard : Claim7 := { stood := { row := recordEncodesUptoRow, standIns := [], harness := (true, "18dcde3b0d6d2a7feb825b15476d893c9158462dd85c24b66fd55e7a0b59aa8b"), looks := true }, kinds := [], alts := [], laidByText := true, laidKinds := [.data, .data, .data, .sentinel, .sentinel], laidTests := true, laidLooks := .later }
def RecordEncodesUptoCardSaid : Prop := Claim7.holds Tryz.pinned (.plain (OpenSpec.upto recordEncodesSpec)) recordEncodesUptoCard

/-- THE SECOND FORM's CARD OF 'scriptoriumlaw16.RecordPurges'. -/
def recordPurgesUptoCard : Claim7 := { stood := { row := recordPurgesUptoRow, standIns := [], harness := (true, "18dcde3b0d6d2a7feb825b15476d893c9158462dd85c24b66fd55e7a0b59aa8b"), looks := true }, kinds := [], alts := [], laidByText := true, laidKinds := [.data, .data, .data, .sentinel, .sentinel], laidTests := true, laidLooks := .later }
def RecordPurgesUptoCardSaid : Prop := Claim7.holds Tryz.pinned (.plain (OpenSpec.upto recordPurgesSpec)) recordPurgesUptoCard

/-- THE SECOND FORM's CARD OF 'scriptoriumlaw16.RecordDecodes'. -/
def recordDecodesUptoCard : Claim7 := { stood := { row := recordDecodesUptoRow, standIns := [], harness := (true, "18dcde3b0d6d2a7feb825b15476d893c9158462dd85c24b66fd55e7a0b59aa8b"), looks := true }, kinds := [], alts := [], laidByText := true, laidKinds := [.data, .data, .data, .sentinel, .sentinel], laidTests := true, laidLooks := .later }
def RecordDecodesUptoCardSaid : Prop := Claim7.holds Tryz.pinned (.plain (OpenSpec.upto recordDecodesSpec)) recordDecodesUptoCard

/-- THE SECOND FORM's CARD OF 'scriptoriumlaw16.RecordStays'. -/
def recordStaysUptoCard : Claim7 := { stood := { row := recordStaysUptoRow, standIns := [], harness := (true, "18dcde3b0d6d2a7feb825b15476d893c9158462dd85c24b66fd55e7a0b59aa8b"), looks := true }, kinds := [], alts := [], laidByText := true, laidKinds := [.data, .data, .data, .sentinel, .sentinel], laidTests := true, laidLooks := .later }
def RecordStaysUptoCardSaid : Prop := Claim7.holds Tryz.pinned (.plain (OpenSpec.upto recordStaysSpec)) recordStaysUptoCard

/-- THE SECOND FORM's CARD OF 'scriptoriumlaw23.BounceReads'. -/
def bounceReadsUptoCard : Claim7 := { stood := { row := bounceReadsUptoRow, standIns := [], harness := (true, "18dcde3b0d6d2a7feb825b15476d893c9158462dd85c24b66fd55e7a0b59aa8b"), looks := true }, kinds := [], alts := [], laidByText := true, laidKinds := [.data, .data, .data, .data, .sentinel, .sentinel, .pinned], laidTests := true, laidLooks := .later }
def BounceReadsUptoCardSaid : Prop := Claim7.holds Tryz.pinned (.plain (OpenSpec.upto bounceReadsSpec)) bounceReadsUptoCard

/-- THE SECOND FORM's CARD OF 'scriptoriumlaw23.BounceBack'. -/
def bounceBackUptoCard : Claim7 := { stood := { row := bounceBackUptoRow, standIns := [], harness := (true, "18dcde3b0d6d2a7feb825b15476d893c9158462dd85c24b66fd55e7a0b59aa8b"), looks := true }, kinds := [], alts := [], laidByText := true, laidKinds := [.data, .data, .data, .data, .sentinel, .sentinel, .pinned], laidTests := true, laidLooks := .later }
def BounceBackUptoCardSaid : Prop := Claim7.holds Tryz.pinned (.plain (OpenSpec.upto bounceBackSpec)) bounceBackUptoCard
end Rows
end Go.Proofs.YtpdjgbpmlckepaaGreatDoor
