/-
  slices.symMergeCmpFunc at spots: what it leaves of two sorted parts, of whatever length
-/
import Derived.Test.YtcljlnagpjilaaaGreatDoorG37

set_option linter.unusedVariables false
set_option linter.unusedSimpArgs false
set_option maxRecDepth 100000
set_option maxHeartbeats 8000000
