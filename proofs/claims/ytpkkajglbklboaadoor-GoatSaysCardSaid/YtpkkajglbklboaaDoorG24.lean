/-
  skip.stack.do: what it answers and leaves. Conditions: the stack reads as ts (SK); the table of math/bits holds what it is laid with (DTb).
-/
import Derived.Test.YtpkkajglbklboaaDoorG22
import Derived.Test.YtpkkajglbklboaaDoorG23

namespace Go.Proofs.YtpkkajglbklboaaDoor
open Go.ChangeShapes Go.WideShapes Go.ChangeAt Go.RowKit
set_option linter.unusedVariables false
set_option linter.unusedSimpArgs false

end Go.Proofs.YtpkkajglbklboaaDoor
