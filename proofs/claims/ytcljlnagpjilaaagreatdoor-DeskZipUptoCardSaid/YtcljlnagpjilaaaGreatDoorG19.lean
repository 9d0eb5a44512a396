/-
  hedgref.Done: what it answers
-/
import Derived.Test.YtcljlnagpjilaaaGreatDoorG18
import Derived.Test.YtcljlnagpjilaaaGreatDoorG8

set_option linter.unusedVariables false
set_option linter.unusedSimpArgs false
set_option maxRecDepth 100000
set_option maxHeartbeats 8000000
