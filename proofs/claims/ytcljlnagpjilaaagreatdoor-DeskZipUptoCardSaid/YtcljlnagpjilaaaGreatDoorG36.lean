/-
  hedgref.Goated: what it answers
-/
import Derived.Test.YtcljlnagpjilaaaGreatDoorG34
import Derived.Test.YtcljlnagpjilaaaGreatDoorG35
import Derived.Test.YtcljlnagpjilaaaGreatDoorG9

set_option linter.unusedVariables false
set_option linter.unusedSimpArgs false
set_option maxRecDepth 100000
set_option maxHeartbeats 8000000
