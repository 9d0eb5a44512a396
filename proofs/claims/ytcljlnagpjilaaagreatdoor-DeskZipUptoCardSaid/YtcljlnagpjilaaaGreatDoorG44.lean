/-
  hedgref.deskLine: a line that asks nothing of the map: what it answers
-/
import Derived.Test.YtcljlnagpjilaaaGreatDoorG42
import Derived.Test.YtcljlnagpjilaaaGreatDoorG43
import Derived.Test.YtcljlnagpjilaaaGreatDoorG14
import Derived.Test.YtcljlnagpjilaaaGreatDoorG21
import Derived.Test.YtcljlnagpjilaaaGreatDoorG37
import Derived.Test.YtcljlnagpjilaaaGreatDoorG33

set_option linter.unusedVariables false
set_option linter.unusedSimpArgs false
set_option maxRecDepth 100000
set_option maxHeartbeats 8000000
