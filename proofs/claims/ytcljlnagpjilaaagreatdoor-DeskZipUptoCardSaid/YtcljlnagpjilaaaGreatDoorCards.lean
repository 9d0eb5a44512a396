/-
  DERIVED. GIVEN WITH THE SEED: THE CARDS: each row of YtcljlnagpjilaaaGreatDoorRows.lean that lists a variable, with what it lists TIED to the program's text (the seventh form; the later family's looks); each row that meets fmt, with fmt's text TOLD by the authors' own Lean function (tested against real Go, not proved from fmt's source: count such statements apart). THE CARD IS WHAT COUNTS. Prove the row's statement (the work); the ties are given (YtcljlnagpjilaaaGreatDoorTie.lean); close each card by the builder's one call (the guide's Derived/Test/ToyasCard.lean, 'card_holds'). Laid BY PROGRAM, IN A SANDBOX (cutbox-door.mjs). By AI agents, Wed Nov 11 2026. No macro, syntax, notation, axiom, sorry.
-/
import Derived.Test.YtcljlnagpjilaaaGreatDoorRows
import GoSem.ClaimSeven
namespace Go.Proofs.YtcljlnagpjilaaaGreatDoor
namespace Rows

/-- THE TIED CARD OF 'hedgkeep.DeskZip'. -/
def deskZipCard : Claim7 := { stood := { row := deskZipRow, standIns := [], harness := (true, "8f83b33a429cffd92d991ca587204e084222101b6bbaa3bd4e87488e1ce20b87"), looks := true }, kinds := [], alts := [], laidByText := true, laidKinds := [.data, .data, .data, .data, .sentinel, .sentinel, .pinned], laidTests := true, laidLooks := .later }
def DeskZipCardSaid : Prop := Claim7.holds Tryz.pinned (.plain (OpenSpec.ofChange deskZipSpec)) deskZipCard

/-- THE TIED CARD OF 'hedglaw.DeskRuns'. -/
def deskRunsCard : Claim7 := { stood := { row := deskRunsRow, standIns := [], harness := (true, "8f83b33a429cffd92d991ca587204e084222101b6bbaa3bd4e87488e1ce20b87"), looks := true }, kinds := [], alts := [], laidByText := true, laidKinds := [.data, .data, .data, .data, .sentinel, .sentinel, .pinned], laidTests := true, laidLooks := .later }
def DeskRunsCardSaid : Prop := Claim7.holds Tryz.pinned (.plain (OpenSpec.ofChange deskRunsSpec)) deskRunsCard

/-- THE TIED CARD OF 'hedgkeep.DeskCounts'. -/
def deskCountsCard : Claim7 := { stood := { row := deskCountsRow, standIns := [], harness := (true, "8f83b33a429cffd92d991ca587204e084222101b6bbaa3bd4e87488e1ce20b87"), looks := true }, kinds := [], alts := [], laidByText := true, laidKinds := [.data, .data, .data, .data, .sentinel, .sentinel, .pinned], laidTests := true, laidLooks := .later }
def DeskCountsCardSaid : Prop := Claim7.holds Tryz.pinned (.plain (OpenSpec.ofChange deskCountsSpec)) deskCountsCard

/-- THE TIED CARD OF 'hedgkeep.DeskFront'. -/
def deskFrontCard : Claim7 := { stood := { row := deskFrontRow, standIns := [], harness := (true, "8f83b33a429cffd92d991ca587204e084222101b6bbaa3bd4e87488e1ce20b87"), looks := true }, kinds := [], alts := [], laidByText := true, laidKinds := [.data, .data, .data, .data, .sentinel, .sentinel, .pinned], laidTests := true, laidLooks := .later }
def DeskFrontCardSaid : Prop := Claim7.holds Tryz.pinned (.plain (OpenSpec.ofChange deskFrontSpec)) deskFrontCard

/-- THE SECOND FORM's CARD OF 'hedgkeep.DeskZip'. -/
def deskZipUptoCard : Claim7 := { stood := { row := deskZipUptoRow, standIns := [], harness := (true, "8f83b33a429cffd92d991ca587204e084222101b6bbaa3bd4e87488e1ce20b87"), looks := true }, kinds := [], alts := [], laidByText := true, laidKinds := [.data, .data, .data, .data, .sentinel, .sentinel, .pinned], laidTests := true, laidLooks := .later }
def DeskZipUptoCardSaid : Prop := Claim7.holds Tryz.pinned (.plain (OpenSpec.upto deskZipSpec)) deskZipUptoCard

/-- THE SECOND FORM's CARD OF 'hedglaw.DeskRuns'. -/
def deskRunsUptoCard : Claim7 := { stood := { row := deskRunsUptoRow, standIns := [], harness := (true, "8f83b33a429cffd92d991ca587204e084222101b6bbaa3bd4e87488e1ce20b87"), looks := true }, kinds := [], alts := [], laidByText := true, laidKinds := [.data, .data, .data, .data, .sentinel, .sentinel, .pinned], laidTests := true, laidLooks := .later }
def DeskRunsUptoCardSaid : Prop := Claim7.holds Tryz.pinned (.plain (OpenSpec.upto deskRunsSpec)) deskRunsUptoCard

/-- THE SECOND FORM's CARD OF 'hedgkeep.DeskCounts'. -/
def deskCountsUptoCard : Claim7 := { stood := { row := deskCountsUptoRow, standIns := [], harness := (true, "8f83b33a429cffd92d991ca587204e084222101b6bbaa3bd4e87488e1ce20b87"), looks := true }, kinds := [], alts := [], laidByText := true, laidKinds := [.data, .data, .data, .data, .sentinel, .sentinel, .pinned], laidTests := true, laidLooks := .later }
def DeskCountsUptoCardSaid : Prop := Claim7.holds Tryz.pinned (.plain (OpenSpec.upto deskCountsSpec)) deskCountsUptoCard

/-- THE SECOND FORM's CARD OF 'hedgkeep.DeskFront'. -/
def deskFrontUptoCard : Claim7 := { stood := { row := deskFrontUptoRow, standIns := [], harness := (true, "8f83b33a429cffd92d991ca587204e084222101b6bbaa3bd4e87488e1ce20b87"), looks := true }, kinds := [], alts := [], laidByText := true, laidKinds := [.data, .data, .data, .data, .sentinel, .sentinel, .pinned], laidTests := true, laidLooks := .later }
def DeskFrontUptoCardSaid : Prop := Claim7.holds Tryz.pinned (.plain (OpenSpec.upto deskFrontSpec)) deskFrontUptoCard
end Rows
end Go.Proofs.YtcljlnagpjilaaaGreatDoor
