/-
  hedgref.deskLine: a line that asks nothing of the map: what it answers
-/
import Derived.Test.YtcljlnagpjilaaaGreatDoorG44
import Derived.Test.YtcljlnagpjilaaaGreatDoorG45
import Derived.Test.YtcljlnagpjilaaaGreatDoorG14
import Derived.Test.YtcljlnagpjilaaaGreatDoorG22
import Derived.Test.YtcljlnagpjilaaaGreatDoorG39
import Derived.Test.YtcljlnagpjilaaaGreatDoorG35

set_option linter.unusedVariables false
set_option linter.unusedSimpArgs false
set_option maxRecDepth 100000
set_option maxHeartbeats 8000000
