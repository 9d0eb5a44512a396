/-
  hedgref.deskLine: a line that asks the map: what it answers
-/
import Derived.Test.YtcljlnagpjilaaaGreatDoorG40
import Derived.Test.YtcljlnagpjilaaaGreatDoorG19
import Derived.Test.YtcljlnagpjilaaaGreatDoorG20
import Derived.Test.YtcljlnagpjilaaaGreatDoorG27
import Derived.Test.YtcljlnagpjilaaaGreatDoorG41
import Derived.Test.YtcljlnagpjilaaaGreatDoorG28

set_option linter.unusedVariables false
set_option linter.unusedSimpArgs false
set_option maxRecDepth 100000
set_option maxHeartbeats 8000000
