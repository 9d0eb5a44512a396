/-
  DERIVED. GIVEN WITH THE SEED: THE CARDS: each row of YtfgbbmjnjppfnaaDoorRows.lean that lists a variable, with what it lists TIED to the program's text (the seventh form; the later family's looks); each row that meets fmt, with fmt's text TOLD by the authors' own Lean function (tested against real Go, not proved from fmt's source: count such statements apart). THE CARD IS WHAT COUNTS. Prove the row's statement (the work); the ties are given (YtfgbbmjnjppfnaaDoorTie.lean); close each card by the builder's one call (the guide's Derived/Test/ToyasCard.lean, 'card_holds'). Laid BY PROGRAM, IN A SANDBOX (cutbox-door.mjs). By AI agents, Wed Nov 11 2026. No macro, syntax, notation, axiom, sorry.
-/
import Derived.Test.YtfgbbmjnjppfnaaDoorRows
import GoSem.ClaimSeven
namespace Go.Proofs.YtfgbbmjnjppfnaaDoor
namespace Rows

/-- THE TIED CARD OF 'hedglaw.ZipParts'. -/
def zipPartsCard : Claim7 := { stood := { row := zipPartsRow, standIns := [], harness := (true, "a455c440979e0ffedb103b672182bf16a2dfbbc8ccbbb7953ba8b05b44ff88c5"), looks := false }, kinds := [], alts := [], laidByText := true, laidKinds := [.data], laidTests := true, laidLooks := .later }
def ZipPartsCardSaid : Prop := Claim7.holds Tryd.pinned (.plain (OpenSpec.ofChange zipPartsSpec)) zipPartsCard

/-- THE TIED CARD OF 'hedglaw.ZipRuns'. -/
def zipRunsCard : Claim7 := { stood := { row := zipRunsRow, standIns := [], harness := (true, "a455c440979e0ffedb103b672182bf16a2dfbbc8ccbbb7953ba8b05b44ff88c5"), looks := false }, kinds := [], alts := [], laidByText := true, laidKinds := [.data], laidTests := true, laidLooks := .later }
def ZipRunsCardSaid : Prop := Claim7.holds Tryd.pinned (.plain (OpenSpec.ofChange zipRunsSpec)) zipRunsCard

/-- THE TIED CARD OF 'hedgkeep.ZipBack'. -/
def zipBackCard : Claim7 := { stood := { row := zipBackRow, standIns := [], harness := (true, "a455c440979e0ffedb103b672182bf16a2dfbbc8ccbbb7953ba8b05b44ff88c5"), looks := false }, kinds := [], alts := [], laidByText := true, laidKinds := [.data], laidTests := true, laidLooks := .later }
def ZipBackCardSaid : Prop := Claim7.holds Tryd.pinned (.plain (OpenSpec.ofChange zipBackSpec)) zipBackCard

/-- THE TIED CARD OF 'hedgkeep.ZipPuts'. -/
def zipPutsCard : Claim7 := { stood := { row := zipPutsRow, standIns := [], harness := (true, "a455c440979e0ffedb103b672182bf16a2dfbbc8ccbbb7953ba8b05b44ff88c5"), looks := false }, kinds := [], alts := [], laidByText := true, laidKinds := [.data], laidTests := true, laidLooks := .later }
def ZipPutsCardSaid : Prop := Claim7.holds Tryd.pinned (.plain (OpenSpec.ofChange zipPutsSpec)) zipPutsCard

/-- THE TIED CARD OF 'hedgkeep.ZipOne'. -/
def zipOneCard : Claim7 := { stood := { row := zipOneRow, standIns := [], harness := (true, "a455c440979e0ffedb103b672182bf16a2dfbbc8ccbbb7953ba8b05b44ff88c5"), looks := false }, kinds := [], alts := [], laidByText := true, laidKinds := [.data], laidTests := true, laidLooks := .later }
def ZipOneCardSaid : Prop := Claim7.holds Tryd.pinned (.plain (OpenSpec.ofChange zipOneSpec)) zipOneCard

/-- THE TIED CARD OF 'hedgkeep.ZipSkip'. -/
def zipSkipCard : Claim7 := { stood := { row := zipSkipRow, standIns := [], harness := (true, "a455c440979e0ffedb103b672182bf16a2dfbbc8ccbbb7953ba8b05b44ff88c5"), looks := false }, kinds := [], alts := [], laidByText := true, laidKinds := [.data], laidTests := true, laidLooks := .later }
def ZipSkipCardSaid : Prop := Claim7.holds Tryd.pinned (.plain (OpenSpec.ofChange zipSkipSpec)) zipSkipCard

/-- THE SECOND FORM's CARD OF 'hedglaw.ZipParts'. -/
def zipPartsUptoCard : Claim7 := { stood := { row := zipPartsUptoRow, standIns := [], harness := (true, "a455c440979e0ffedb103b672182bf16a2dfbbc8ccbbb7953ba8b05b44ff88c5"), looks := false }, kinds := [], alts := [], laidByText := true, laidKinds := [.data], laidTests := true, laidLooks := .later }
def ZipPartsUptoCardSaid : Prop := Claim7.holds Tryd.pinned (.plain (OpenSpec.upto zipPartsSpec)) zipPartsUptoCard

/-- THE SECOND FORM's CARD OF 'hedglaw.ZipRuns'. -/
def zipRunsUptoCard : Claim7 := { stood := { row := zipRunsUptoRow, standIns := [], harness := (true, "a455c440979e0ffedb103b672182bf16a2dfbbc8ccbbb7953ba8b05b44ff88c5"), looks := false }, kinds := [], alts := [], laidByText := true, laidKinds := [.data], laidTests := true, laidLooks := .later }
def ZipRunsUptoCardSaid : Prop := Claim7.holds Tryd.pinned (.plain (OpenSpec.upto zipRunsSpec)) zipRunsUptoCard

/-- THE SECOND FORM's CARD OF 'hedgkeep.ZipBack'. -/
def zipBackUptoCard : Claim7 := { stood := { row := zipBackUptoRow, standIns := [], harness := (true, "a455c440979e0ffedb103b672182bf16a2dfbbc8ccbbb7953ba8b05b44ff88c5"), looks := false }, kinds := [], alts := [], laidByText := true, laidKinds := [.data], laidTests := true, laidLooks := .later }
def ZipBackUptoCardSaid : Prop := Claim7.holds Tryd.pinned (.plain (OpenSpec.upto zipBackSpec)) zipBackUptoCard

/-- THE SECOND FORM's CARD OF 'hedgkeep.ZipPuts'. -/
def zipPutsUptoCard : Claim7 := { stood := { row := zipPutsUptoRow, standIns := [], harness := (true, "a455c440979e0ffedb103b672182bf16a2dfbbc8ccbbb7953ba8b05b44ff88c5"), looks := false }, kinds := [], alts := [], laidByText := true, laidKinds := [.data], laidTests := true, laidLooks := .later }
def ZipPutsUptoCardSaid : Prop := Claim7.holds Tryd.pinned (.plain (OpenSpec.upto zipPutsSpec)) zipPutsUptoCard

/-- THE SECOND FORM's CARD OF 'hedgkeep.ZipOne'. -/
def zipOneUptoCard : Claim7 := { stood := { row := zipOneUptoRow, standIns := [], harness := (true, "a455c440979e0ffedb103b672182bf16a2dfbbc8ccbbb7953ba8b05b44ff88c5"), looks := false }, kinds := [], alts := [], laidByText := true, laidKinds := [.data], laidTests := true, laidLooks := .later }
def ZipOneUptoCardSaid : Prop := Claim7.holds Tryd.pinned (.plain (OpenSpec.upto zipOneSpec)) zipOneUptoCard

/-- THE SECOND FORM's CARD OF 'hedgkeep.ZipSkip'. -/
def zipSkipUptoCard : Claim7 := { stood := { row := zipSkipUptoRow, standIns := [], harness := (true, "a455c440979e0ffedb103b672182bf16a2dfbbc8ccbbb7953ba8b05b44ff88c5"), looks := false }, kinds := [], alts := [], laidByText := true, laidKinds := [.data], laidTests := true, laidLooks := .later }
def ZipSkipUptoCardSaid : Prop := Claim7.holds Tryd.pinned (.plain (OpenSpec.upto zipSkipSpec)) zipSkipUptoCard
end Rows
end Go.Proofs.YtfgbbmjnjppfnaaDoor
