/-
  hedgref.Goated: what it answers
-/
import Derived.Test.YtcljlnagpjilaaaGreatDoorG36
import Derived.Test.YtcljlnagpjilaaaGreatDoorG37
import Derived.Test.YtcljlnagpjilaaaGreatDoorG9

set_option linter.unusedVariables false
set_option linter.unusedSimpArgs false
set_option maxRecDepth 100000
set_option maxHeartbeats 8000000
