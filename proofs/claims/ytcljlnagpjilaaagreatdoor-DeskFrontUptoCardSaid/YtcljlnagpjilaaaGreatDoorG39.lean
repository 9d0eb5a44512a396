/-
  hedgref.ToldKeys, node first and node last: what it answers
  A stable sort: what its steps leave of the order of those of one key
  A stable sort, plain laws by segments: swapped elements, blocks that change places, rotati
  A region that reads and stores twice at its end, whatever the order (JS): what its world i
  A row of pairs that is sorted in place, in memory: an element loaded, two that change plac
  slices.insertionSortCmpFunc at spots: what it leaves of a part of a row
  slices.swapRangeCmpFunc, rotateCmpFunc at spots: what they leave
  slices.rotateCmpFunc at spots: what it leaves
  slices.symMergeCmpFunc at spots: what it leaves of two sorted parts
  slices.symMergeCmpFunc at spots, where the second part is of one element
-/
import Derived.Test.YtcljlnagpjilaaaGreatDoorG35
import Derived.Test.YtcljlnagpjilaaaGreatDoorG7
import Derived.Test.YtcljlnagpjilaaaGreatDoorG1
import Derived.Test.YtcljlnagpjilaaaGreatDoorG29
import Derived.Test.YtcljlnagpjilaaaGreatDoorG3

set_option linter.unusedVariables false
set_option linter.unusedSimpArgs false
set_option maxRecDepth 100000
set_option maxHeartbeats 8000000
namespace Go.Proofs.YtcljlnagpjilaaaGreatDoor
open Go.ChangeShapes Go.WideShapes Go.ChangeAt Go.RowKit
abbrev pv (p : IP) : Value := .agg #[.int .i64 p.1, .int .i64 p.2]
end Go.Proofs.YtcljlnagpjilaaaGreatDoor
