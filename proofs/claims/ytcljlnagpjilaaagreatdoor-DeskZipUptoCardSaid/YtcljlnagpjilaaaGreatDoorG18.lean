/-
  hedgref.Below, Has, Without, nth, With: what they answer
-/
import Derived.Test.YtcljlnagpjilaaaGreatDoorG7

set_option linter.unusedVariables false
set_option linter.unusedSimpArgs false
set_option maxRecDepth 100000
set_option maxHeartbeats 8000000
