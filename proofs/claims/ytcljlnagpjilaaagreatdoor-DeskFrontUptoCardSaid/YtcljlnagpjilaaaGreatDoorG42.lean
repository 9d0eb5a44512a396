/-
  The document's trees and desk.tree's: plain laws
  hedgref.Digits, numbersOf, wordsOf: what they answer
  hedgref.numbersOf: what it answers
-/
import Derived.Test.YtcljlnagpjilaaaGreatDoorG34
import Derived.Test.YtcljlnagpjilaaaGreatDoorG35
import Derived.Test.YtcljlnagpjilaaaGreatDoorG38
import Derived.Test.YtcljlnagpjilaaaGreatDoorG41
import Derived.Test.YtcljlnagpjilaaaGreatDoorG15
import Derived.Lib.ItoaMem
import Derived.Test.YtcljlnagpjilaaaGreatDoorG7
import Derived.Lib.ConvBytes

set_option linter.unusedVariables false
set_option linter.unusedSimpArgs false
set_option maxRecDepth 100000
set_option maxHeartbeats 8000000
