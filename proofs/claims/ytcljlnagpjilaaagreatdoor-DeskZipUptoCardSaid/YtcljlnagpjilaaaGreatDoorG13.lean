/-
  skip.stack.do: what it answers and leaves
-/
import Derived.Test.YtcljlnagpjilaaaGreatDoorG11
import Derived.Test.YtcljlnagpjilaaaGreatDoorG12

set_option linter.unusedVariables false
set_option linter.unusedSimpArgs false
set_option maxRecDepth 100000
set_option maxHeartbeats 8000000
