/-
  DERIVED. GIVEN WITH THE SEED: THE CARDS: each row of YthdnbgaehkifkaaDoorRows.lean that lists a variable, with what it lists TIED to the program's text (the seventh form; the later family's looks); each row that meets fmt, with fmt's text TOLD by the authors' own Lean function (tested against real Go, not proved from fmt's source: count such statements apart). THE CARD IS WHAT COUNTS. Prove the row's statement (the work); the ties are given (YthdnbgaehkifkaaDoorTie.lean); close each card by the builder's one call (the guide's Derived/Test/ToyasCard.lean, 'card_holds'). Laid BY PROGRAM, IN A SANDBOX (cutbox-door.mjs). By AI agents, Wed Nov 11 2026. No macro, syntax, notation, axiom, sorry.
-/
import Derived.Test.YthdnbgaehkifkaaDoorRows
import GoSem.ClaimSeven
namespace Go.Proofs.YthdnbgaehkifkaaDoor
namespace Rows

/-- THE TIED CARD OF 'scriptoriumlaw24.CommandParses'. -/
def commandParsesCard : Claim7 := { stood := { row := commandParsesRow, standIns := [], harness := (true, "c4dc8fc36bddaa2ae0776b4a9e3b22d95fdd6542b5f267400137f905cc5490b9"), looks := true }, kinds := [], alts := [], laidByText := true, laidKinds := [.data, .data, .data, .data, .sentinel, .sentinel, .pinned], laidTests := true, laidLooks := .later }
def CommandParsesCardSaid : Prop := Claim7.holds Tryd.pinned (.plain (OpenSpec.ofChange commandParsesSpec)) commandParsesCard

/-- THE TIED CARD OF 'scriptoriumlaw24.CommandVerbs'. -/
def commandVerbsCard : Claim7 := { stood := { row := commandVerbsRow, standIns := [], harness := (true, "c4dc8fc36bddaa2ae0776b4a9e3b22d95fdd6542b5f267400137f905cc5490b9"), looks := true }, kinds := [], alts := [], laidByText := true, laidKinds := [.data, .data, .data, .data, .sentinel, .sentinel, .pinned], laidTests := true, laidLooks := .later }
def CommandVerbsCardSaid : Prop := Claim7.holds Tryd.pinned (.plain (OpenSpec.ofChange commandVerbsSpec)) commandVerbsCard

/-- THE TIED CARD OF 'scriptoriumlaw24.CommandShows'. -/
def commandShowsCard : Claim7 := { stood := { row := commandShowsRow, standIns := [], harness := (true, "c4dc8fc36bddaa2ae0776b4a9e3b22d95fdd6542b5f267400137f905cc5490b9"), looks := true }, kinds := [], alts := [], laidByText := true, laidKinds := [.data, .data, .data, .data, .sentinel, .sentinel, .pinned], laidTests := true, laidLooks := .later }
def CommandShowsCardSaid : Prop := Claim7.holds Tryd.pinned (.plain (OpenSpec.ofChange commandShowsSpec)) commandShowsCard

/-- THE TIED CARD OF 'scriptoriumlaw24.CommandBack'. -/
def commandBackCard : Claim7 := { stood := { row := commandBackRow, standIns := [], harness := (true, "c4dc8fc36bddaa2ae0776b4a9e3b22d95fdd6542b5f267400137f905cc5490b9"), looks := true }, kinds := [], alts := [], laidByText := true, laidKinds := [.data, .data, .data, .data, .sentinel, .sentinel, .pinned], laidTests := true, laidLooks := .later }
def CommandBackCardSaid : Prop := Claim7.holds Tryd.pinned (.plain (OpenSpec.ofChange commandBackSpec)) commandBackCard

/-- THE SECOND FORM's CARD OF 'scriptoriumlaw24.CommandParses'. -/
def commandParsesUptoCard : Claim7 := { stood := { row := commandParsesUptoRow, standIns := [], harness := (true, "c4dc8fc36bddaa2ae0776b4a9e3b22d95fdd6542b5f267400137f905cc5490b9"), looks := true }, kinds := [], alts := [], laidByText := true, laidKinds := [.data, .data, .data, .data, .sentinel, .sentinel, .pinned], laidTests := true, laidLooks := .later }
def CommandParsesUptoCardSaid : Prop := Claim7.holds Tryd.pinned (.plain (OpenSpec.upto commandParsesSpec)) commandParsesUptoCard

/-- THE SECOND FORM's CARD OF 'scriptoriumlaw24.CommandVerbs'. -/
def commandVerbsUptoCard : Claim7 := { stood := { row := commandVerbsUptoRow, standIns := [], harness := (true, "c4dc8fc36bddaa2ae0776b4a9e3b22d95fdd6542b5f267400137f905cc5490b9"), looks := true }, kinds := [], alts := [], laidByText := true, laidKinds := [.data, .data, .data, .data, .sentinel, .sentinel, .pinned], laidTests := true, laidLooks := .later }
def CommandVerbsUptoCardSaid : Prop := Claim7.holds Tryd.pinned (.plain (OpenSpec.upto commandVerbsSpec)) commandVerbsUptoCard

/-- THE SECOND FORM's CARD OF 'scriptoriumlaw24.CommandShows'. -/
def commandShowsUptoCard : Claim7 := { stood := { row := commandShowsUptoRow, standIns := [], harness := (true, "c4dc8fc36bddaa2ae0776b4a9e3b22d95fdd6542b5f267400137f905cc5490b9"), looks := true }, kinds := [], alts := [], laidByText := true, laidKinds := [.data, .data, .data, .data, .sentinel, .sentinel, .pinned], laidTests := true, laidLooks := .later }
def CommandShowsUptoCardSaid : Prop := Claim7.holds Tryd.pinned (.plain (OpenSpec.upto commandShowsSpec)) commandShowsUptoCard

/-- THE SECOND FORM's CARD OF 'scriptoriumlaw24.CommandBack'. -/
def commandBackUptoCard : Claim7 := { stood := { row := commandBackUptoRow, standIns := [], harness := (true, "c4dc8fc36bddaa2ae0776b4a9e3b22d95fdd6542b5f267400137f905cc5490b9"), looks := true }, kinds := [], alts := [], laidByText := true, laidKinds := [.data, .data, .data, .data, .sentinel, .sentinel, .pinned], laidTests := true, laidLooks := .later }
def CommandBackUptoCardSaid : Prop := Claim7.holds Tryd.pinned (.plain (OpenSpec.upto commandBackSpec)) commandBackUptoCard
end Rows
end Go.Proofs.YthdnbgaehkifkaaDoor
