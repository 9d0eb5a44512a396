/-
  hedgkeep.plainLives: what it answers; plain laws on what Do answers. Conditions: none.
-/
import Derived.Test.YtfgbbmjnjppfnaaDoorRun
import Derived.Test.YtfgbbmjnjppfnaaDoorSame
namespace Go.Proofs.YtfgbbmjnjppfnaaDoor
open Go.ChangeShapes Go.WideShapes Go.ChangeAt Go.RowKit
set_option linter.unusedVariables false
set_option linter.unusedSimpArgs false

theorem plainLives_run : runOf [(1, 7, 1), (1, 3, 2), (4, 3, 0), (3, 7, 0)] = ([(3, 2)], [⟨0, 0, 0, false⟩, ⟨0, 0, 0, false⟩, ⟨0, 7, 1, true⟩, ⟨0, 0, 1, true⟩], 0) := by decide +kernel
end Go.Proofs.YtfgbbmjnjppfnaaDoor
