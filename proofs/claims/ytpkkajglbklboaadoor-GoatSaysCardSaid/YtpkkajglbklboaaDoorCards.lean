/-
  DERIVED. GIVEN WITH THE SEED: THE CARDS: each row of YtpkkajglbklboaaDoorRows.lean that lists a variable, with what it lists TIED to the program's text (the seventh form; the later family's looks); each row that meets fmt, with fmt's text TOLD by the authors' own Lean function (tested against real Go, not proved from fmt's source: count such statements apart). THE CARD IS WHAT COUNTS. Prove the row's statement (the work); the ties are given (YtpkkajglbklboaaDoorTie.lean); close each card by the builder's one call (the guide's Derived/Test/ToyasCard.lean, 'card_holds'). Laid BY PROGRAM, IN A SANDBOX (cutbox-door.mjs). By AI agents, Wed Nov 11 2026. No macro, syntax, notation, axiom, sorry.
-/
import Derived.Test.YtpkkajglbklboaaDoorRows
import GoSem.ClaimSeven
namespace Go.Proofs.YtpkkajglbklboaaDoor
namespace Rows

/-- THE TIED CARD OF 'hedgkeep.GoatWork'. -/
def goatWorkCard : Claim7 := { stood := { row := goatWorkRow, standIns := [], harness := (true, "0794c81f2b3cab25e6678c28ec9d599c51873a428767890159d12da5ca0c8293"), looks := false }, kinds := [], alts := [], laidByText := true, laidKinds := [.data], laidTests := true, laidLooks := .later }
def GoatWorkCardSaid : Prop := Claim7.holds Tryd.pinned (.plain (OpenSpec.ofChange goatWorkSpec)) goatWorkCard

/-- THE TIED CARD OF 'hedglaw.GoatSays'. -/
def goatSaysCard : Claim7 := { stood := { row := goatSaysRow, standIns := [], harness := (true, "0794c81f2b3cab25e6678c28ec9d599c51873a428767890159d12da5ca0c8293"), looks := false }, kinds := [], alts := [], laidByText := true, laidKinds := [.data], laidTests := true, laidLooks := .later }
def GoatSaysCardSaid : Prop := Claim7.holds Tryd.pinned (.plain (OpenSpec.ofChange goatSaysSpec)) goatSaysCard

/-- THE TIED CARD OF 'hedgkeep.GoatTree'. -/
def goatTreeCard : Claim7 := { stood := { row := goatTreeRow, standIns := [], harness := (true, "0794c81f2b3cab25e6678c28ec9d599c51873a428767890159d12da5ca0c8293"), looks := false }, kinds := [], alts := [], laidByText := true, laidKinds := [.data], laidTests := true, laidLooks := .later }
def GoatTreeCardSaid : Prop := Claim7.holds Tryd.pinned (.plain (OpenSpec.ofChange goatTreeSpec)) goatTreeCard

/-- THE TIED CARD OF 'hedgkeep.GoatDeep'. -/
def goatDeepCard : Claim7 := { stood := { row := goatDeepRow, standIns := [], harness := (true, "0794c81f2b3cab25e6678c28ec9d599c51873a428767890159d12da5ca0c8293"), looks := false }, kinds := [], alts := [], laidByText := true, laidKinds := [.data], laidTests := true, laidLooks := .later }
def GoatDeepCardSaid : Prop := Claim7.holds Tryd.pinned (.plain (OpenSpec.ofChange goatDeepSpec)) goatDeepCard

/-- THE TIED CARD OF 'hedgkeep.GoatEven'. -/
def goatEvenCard : Claim7 := { stood := { row := goatEvenRow, standIns := [], harness := (true, "0794c81f2b3cab25e6678c28ec9d599c51873a428767890159d12da5ca0c8293"), looks := false }, kinds := [], alts := [], laidByText := true, laidKinds := [.data], laidTests := true, laidLooks := .later }
def GoatEvenCardSaid : Prop := Claim7.holds Tryd.pinned (.plain (OpenSpec.ofChange goatEvenSpec)) goatEvenCard

/-- THE SECOND FORM's CARD OF 'hedgkeep.GoatWork'. -/
def goatWorkUptoCard : Claim7 := { stood := { row := goatWorkUptoRow, standIns := [], harness := (true, "0794c81f2b3cab25e6678c28ec9d599c51873a428767890159d12da5ca0c8293"), looks := false }, kinds := [], alts := [], laidByText := true, laidKinds := [.data], laidTests := true, laidLooks := .later }
def GoatWorkUptoCardSaid : Prop := Claim7.holds Tryd.pinned (.plain (OpenSpec.upto goatWorkSpec)) goatWorkUptoCard

/-- THE SECOND FORM's CARD OF 'hedglaw.GoatSays'. -/
def goatSaysUptoCard : Claim7 := { stood := { row := goatSaysUptoRow, standIns := [], harness := (true, "0794c81f2b3cab25e6678c28ec9d599c51873a428767890159d12da5ca0c8293"), looks := false }, kinds := [], alts := [], laidByText := true, laidKinds := [.data], laidTests := true, laidLooks := .later }
def GoatSaysUptoCardSaid : Prop := Claim7.holds Tryd.pinned (.plain (OpenSpec.upto goatSaysSpec)) goatSaysUptoCard

/-- THE SECOND FORM's CARD OF 'hedgkeep.GoatTree'. -/
def goatTreeUptoCard : Claim7 := { stood := { row := goatTreeUptoRow, standIns := [], harness := (true, "0794c81f2b3cab25e6678c28ec9d599c51873a428767890159d12da5ca0c8293"), looks := false }, kinds := [], alts := [], laidByText := true, laidKinds := [.data], laidTests := true, laidLooks := .later }
def GoatTreeUptoCardSaid : Prop := Claim7.holds Tryd.pinned (.plain (OpenSpec.upto goatTreeSpec)) goatTreeUptoCard

/-- THE SECOND FORM's CARD OF 'hedgkeep.GoatDeep'. -/
def goatDeepUptoCard : Claim7 := { stood := { row := goatDeepUptoRow, standIns := [], harness := (true, "0794c81f2b3cab25e6678c28ec9d599c51873a428767890159d12da5ca0c8293"), looks := false }, kinds := [], alts := [], laidByText := true, laidKinds := [.data], laidTests := true, laidLooks := .later }
def GoatDeepUptoCardSaid : Prop := Claim7.holds Tryd.pinned (.plain (OpenSpec.upto goatDeepSpec)) goatDeepUptoCard

/-- THE SECOND FORM's CARD OF 'hedgkeep.GoatEven'. -/
def goatEvenUptoCard : Claim7 := { stood := { row := goatEvenUptoRow, standIns := [], harness := (true, "0794c81f2b3cab25e6678c28ec9d599c51873a428767890159d12da5ca0c8293"), looks := false }, kinds := [], alts := [], laidByText := true, laidKinds := [.data], laidTests := true, laidLooks := .later }
def GoatEvenUptoCardSaid : Prop := Claim7.holds Tryd.pinned (.plain (OpenSpec.upto goatEvenSpec)) goatEvenUptoCard
end Rows
end Go.Proofs.YtpkkajglbklboaaDoor
