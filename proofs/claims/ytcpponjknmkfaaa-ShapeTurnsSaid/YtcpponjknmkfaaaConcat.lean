/-
  slices.Grow of nil, slices.Concat: what they answer. Conditions: the parts read as lists, of fewer than 2^30 elements together.
-/
import Derived.Test.YtcpponjknmkfaaaRds
import Derived.Lib.AppendZeros
import Derived.Lib.SliceRun
namespace Go.Proofs.Ytcpponjknmkfaaa
open Go.ChangeShapes Go.WideShapes Go.ChangeAt Go.RowKit
set_option linter.unusedVariables false
set_option linter.unusedSimpArgs false

/-- How many elements the first k parts have. -/
def fl {α : Type} (ls : List (List α)) (k : Nat) : Nat := (ls.take k).flatten.length
theorem fl_succ {α : Type} (ls : List (List α)) (k : Nat) (h : k < ls.length) : fl ls (k + 1) = fl ls k + ls[k].length := by
  unfold fl
  rw [List.take_succ_eq_append_getElem h, List.flatten_append, List.length_append, List.flatten_cons, List.flatten_nil, List.append_nil]
theorem fl_all {α : Type} (ls : List (List α)) : fl ls ls.length = ls.flatten.length := by unfold fl; rw [List.take_length]
theorem fl_le {α : Type} (ls : List (List α)) (k : Nat) : fl ls k ≤ fl ls ls.length := by
  unfold fl
  rw [List.take_length]
  conv => rhs; rw [← List.take_append_drop k ls, List.flatten_append, List.length_append]
  omega

end Go.Proofs.Ytcpponjknmkfaaa
