/-
  A stable sort by blocks: rows whose blocks are sorted
  slices.SortStableFunc at spots
  slices.SortStableFunc at spots
  shape.Order by depths: what it answers
  hedgref.TreeOf, hedgref.SpotsRight: what they answer
  Plain laws: hedgref.TreeOf makes of right spots the tree that shape.Parents reads, and the
  A tree told node first, node last, row by row: what the shape's order tells
  The keys behind ops are right
-/
import Derived.Test.YtcljlnagpjilaaaGreatDoorG39
import Derived.Test.YtcljlnagpjilaaaGreatDoorG40
import Derived.Test.YtcljlnagpjilaaaGreatDoorG17
import Derived.Test.YtcljlnagpjilaaaGreatDoorG7
import Derived.Test.YtcljlnagpjilaaaGreatDoorG35
import Derived.Test.YtcljlnagpjilaaaGreatDoorG21
import Derived.Test.YtcljlnagpjilaaaGreatDoorG14

set_option linter.unusedVariables false
set_option linter.unusedSimpArgs false
set_option maxRecDepth 100000
set_option maxHeartbeats 8000000
