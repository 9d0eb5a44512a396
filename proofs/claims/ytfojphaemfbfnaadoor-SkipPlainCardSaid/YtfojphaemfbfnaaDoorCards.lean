/-
  DERIVED. GIVEN WITH THE SEED: THE CARDS: each row of YtfojphaemfbfnaaDoorRows.lean that lists a variable, with what it lists TIED to the program's text (the seventh form; the later family's looks); each row that meets fmt, with fmt's text TOLD by the authors' own Lean function (tested against real Go, not proved from fmt's source: count such statements apart). THE CARD IS WHAT COUNTS. Prove the row's statement (the work); the ties are given (YtfojphaemfbfnaaDoorTie.lean); close each card by the builder's one call (the guide's Derived/Test/ToyasCard.lean, 'card_holds'). Laid BY PROGRAM, IN A SANDBOX (cutbox-door.mjs). By AI agents, Wed Nov 11 2026. No macro, syntax, notation, axiom, sorry.
-/
import Derived.Test.YtfojphaemfbfnaaDoorRows
import GoSem.ClaimSeven
namespace Go.Proofs.YtfojphaemfbfnaaDoor
namespace Rows

/-- THE TIED CARD OF 'hedglaw.SkipRows'. -/
def skipRowsCard : Claim7 := { stood := { row := skipRowsRow, standIns := [], harness := (true, "112da97eaf128ae2b301dfbd6bf9f96005720b9516b11c82fdac3a5ef9078767"), looks := false }, kinds := [], alts := [], laidByText := true, laidKinds := [.data], laidTests := true, laidLooks := .later }
def SkipRowsCardSaid : Prop := Claim7.holds Tryd.pinned (.plain (OpenSpec.ofChange skipRowsSpec)) skipRowsCard

/-- THE TIED CARD OF 'hedglaw.SkipRuns'. -/
def skipRunsCard : Claim7 := { stood := { row := skipRunsRow, standIns := [], harness := (true, "112da97eaf128ae2b301dfbd6bf9f96005720b9516b11c82fdac3a5ef9078767"), looks := false }, kinds := [], alts := [], laidByText := true, laidKinds := [.data], laidTests := true, laidLooks := .later }
def SkipRunsCardSaid : Prop := Claim7.holds Tryd.pinned (.plain (OpenSpec.ofChange skipRunsSpec)) skipRunsCard

/-- THE TIED CARD OF 'hedgkeep.SkipNested'. -/
def skipNestedCard : Claim7 := { stood := { row := skipNestedRow, standIns := [], harness := (true, "112da97eaf128ae2b301dfbd6bf9f96005720b9516b11c82fdac3a5ef9078767"), looks := false }, kinds := [], alts := [], laidByText := true, laidKinds := [.data], laidTests := true, laidLooks := .later }
def SkipNestedCardSaid : Prop := Claim7.holds Tryd.pinned (.plain (OpenSpec.ofChange skipNestedSpec)) skipNestedCard

/-- THE TIED CARD OF 'hedgkeep.SkipOne'. -/
def skipOneCard : Claim7 := { stood := { row := skipOneRow, standIns := [], harness := (true, "112da97eaf128ae2b301dfbd6bf9f96005720b9516b11c82fdac3a5ef9078767"), looks := false }, kinds := [], alts := [], laidByText := true, laidKinds := [.data], laidTests := true, laidLooks := .later }
def SkipOneCardSaid : Prop := Claim7.holds Tryd.pinned (.plain (OpenSpec.ofChange skipOneSpec)) skipOneCard

/-- THE TIED CARD OF 'hedgkeep.SkipPath'. -/
def skipPathCard : Claim7 := { stood := { row := skipPathRow, standIns := [], harness := (true, "112da97eaf128ae2b301dfbd6bf9f96005720b9516b11c82fdac3a5ef9078767"), looks := false }, kinds := [], alts := [], laidByText := true, laidKinds := [.data], laidTests := true, laidLooks := .later }
def SkipPathCardSaid : Prop := Claim7.holds Tryd.pinned (.plain (OpenSpec.ofChange skipPathSpec)) skipPathCard

/-- THE TIED CARD OF 'hedgkeep.SkipPlain'. -/
def skipPlainCard : Claim7 := { stood := { row := skipPlainRow, standIns := [], harness := (true, "112da97eaf128ae2b301dfbd6bf9f96005720b9516b11c82fdac3a5ef9078767"), looks := false }, kinds := [], alts := [], laidByText := true, laidKinds := [.data], laidTests := true, laidLooks := .later }
def SkipPlainCardSaid : Prop := Claim7.holds Tryd.pinned (.plain (OpenSpec.ofChange skipPlainSpec)) skipPlainCard

/-- THE SECOND FORM's CARD OF 'hedglaw.SkipRows'. -/
def skipRowsUptoCard : Claim7 := { stood := { row := skipRowsUptoRow, standIns := [], harness := (true, "112da97eaf128ae2b301dfbd6bf9f96005720b9516b11c82fdac3a5ef9078767"), looks := false }, kinds := [], alts := [], laidByText := true, laidKinds := [.data], laidTests := true, laidLooks := .later }
def SkipRowsUptoCardSaid : Prop := Claim7.holds Tryd.pinned (.plain (OpenSpec.upto skipRowsSpec)) skipRowsUptoCard

/-- THE SECOND FORM's CARD OF 'hedglaw.SkipRuns'. -/
def skipRunsUptoCard : Claim7 := { stood := { row := skipRunsUptoRow, standIns := [], harness := (true, "112da97eaf128ae2b301dfbd6bf9f96005720b9516b11c82fdac3a5ef9078767"), looks := false }, kinds := [], alts := [], laidByText := true, laidKinds := [.data], laidTests := true, laidLooks := .later }
def SkipRunsUptoCardSaid : Prop := Claim7.holds Tryd.pinned (.plain (OpenSpec.upto skipRunsSpec)) skipRunsUptoCard

/-- THE SECOND FORM's CARD OF 'hedgkeep.SkipNested'. -/
def skipNestedUptoCard : Claim7 := { stood := { row := skipNestedUptoRow, standIns := [], harness := (true, "112da97eaf128ae2b301dfbd6bf9f96005720b9516b11c82fdac3a5ef9078767"), looks := false }, kinds := [], alts := [], laidByText := true, laidKinds := [.data], laidTests := true, laidLooks := .later }
def SkipNestedUptoCardSaid : Prop := Claim7.holds Tryd.pinned (.plain (OpenSpec.upto skipNestedSpec)) skipNestedUptoCard

/-- THE SECOND FORM's CARD OF 'hedgkeep.SkipOne'. -/
def skipOneUptoCard : Claim7 := { stood := { row := skipOneUptoRow, standIns := [], harness := (true, "112da97eaf128ae2b301dfbd6bf9f96005720b9516b11c82fdac3a5ef9078767"), looks := false }, kinds := [], alts := [], laidByText := true, laidKinds := [.data], laidTests := true, laidLooks := .later }
def SkipOneUptoCardSaid : Prop := Claim7.holds Tryd.pinned (.plain (OpenSpec.upto skipOneSpec)) skipOneUptoCard

/-- THE SECOND FORM's CARD OF 'hedgkeep.SkipPath'. -/
def skipPathUptoCard : Claim7 := { stood := { row := skipPathUptoRow, standIns := [], harness := (true, "112da97eaf128ae2b301dfbd6bf9f96005720b9516b11c82fdac3a5ef9078767"), looks := false }, kinds := [], alts := [], laidByText := true, laidKinds := [.data], laidTests := true, laidLooks := .later }
def SkipPathUptoCardSaid : Prop := Claim7.holds Tryd.pinned (.plain (OpenSpec.upto skipPathSpec)) skipPathUptoCard

/-- THE SECOND FORM's CARD OF 'hedgkeep.SkipPlain'. -/
def skipPlainUptoCard : Claim7 := { stood := { row := skipPlainUptoRow, standIns := [], harness := (true, "112da97eaf128ae2b301dfbd6bf9f96005720b9516b11c82fdac3a5ef9078767"), looks := false }, kinds := [], alts := [], laidByText := true, laidKinds := [.data], laidTests := true, laidLooks := .later }
def SkipPlainUptoCardSaid : Prop := Claim7.holds Tryd.pinned (.plain (OpenSpec.upto skipPlainSpec)) skipPlainUptoCard
end Rows
end Go.Proofs.YtfojphaemfbfnaaDoor
