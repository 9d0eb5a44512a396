/-
  What goat.Run leaves is a right tree of the keys that are there
-/
import Derived.Test.YtcljlnagpjilaaaGreatDoorG27

set_option linter.unusedVariables false
set_option linter.unusedSimpArgs false
set_option maxRecDepth 100000
set_option maxHeartbeats 8000000
