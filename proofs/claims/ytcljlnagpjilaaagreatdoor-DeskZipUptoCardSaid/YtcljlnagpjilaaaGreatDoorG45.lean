/-
  hedgref.deskLine: path, tree, deep, and whatever is none: what it answers
-/
import Derived.Test.YtcljlnagpjilaaaGreatDoorG44
import Derived.Lib.MinMax

set_option linter.unusedVariables false
set_option linter.unusedSimpArgs false
set_option maxRecDepth 100000
set_option maxHeartbeats 8000000
