/-
  Trees of the references that are only read (TR); hedgref.Spots: what it answers
  hedgref.Leaf: what it answers
  hedgref.Least, hedgref.Unleafed: what they answer
  hedgref.SortedKeys: what it answers
  hedgref.Leaf, Least, Unleafed, Grown, HeldOften, UnlikeKeys, SortedKeys: what they answer
  The document's trees are the packages' trees without values
  The document's grown tree is the package's without values
  Plain laws of zipped trees: which keys they hold; that they are the one tree of their keys
  Plain laws: run op by op the tree is the one of the keys that are there
  heap.above, heap.built: what they answer
  heap.spots and its closure: what they answer
  hedgref.HeapTree: what it answers
  The plain law of heap.built: who stands next above, by the stack, is who stands next above
  heap.Check, heap.Of: what they answer
  Plain laws
  hedgref.ZipTree: what it answers
  hedgref.EvenTree, inOrder, depthIn, DeepestOf: what they answer
  hedgref.DeepestOf, builtAnew: what they answer
-/
import Derived.Test.YtcljlnagpjilaaaGreatDoorG1
import Derived.Test.YtcljlnagpjilaaaGreatDoorG3
import Derived.Test.YtcljlnagpjilaaaGreatDoorG22
import Derived.Test.YtcljlnagpjilaaaGreatDoorG16
import Derived.Test.YtcljlnagpjilaaaGreatDoorG18
import Derived.Test.YtcljlnagpjilaaaGreatDoorG23
import Derived.Test.YtcljlnagpjilaaaGreatDoorG21
import Derived.Test.YtcljlnagpjilaaaGreatDoorG7
import Derived.Laws.EntriesVeiled
import Derived.Test.YtcljlnagpjilaaaGreatDoorG17
import Derived.Test.YtcljlnagpjilaaaGreatDoorG14
import Derived.Lib.MinMax

set_option linter.unusedVariables false
set_option linter.unusedSimpArgs false
set_option maxRecDepth 100000
set_option maxHeartbeats 8000000
namespace Go.Proofs.YtcljlnagpjilaaaGreatDoor
open Go.ChangeShapes Go.WideShapes Go.ChangeAt Go.RowKit
inductive T where
 | nil
 | node (k : Int) (l r : T)
def T.size : T -> Nat
 | .nil => 0
 | .node _ l r => l.size + 1 + r.size
def hd (st : List Nat) : Int := match st with | [] => -1 | t :: _ => (t : Int)
def dl (l : List IP) (D : Nat -> Int) : List IP := (List.range l.length).map fun k => ((l.getD k (0, 0)).1, D k)
def amax (l : List IP) : Nat -> Nat -> Nat -> Nat
 | 0, _, at_ => at_
 | n + 1, k, at_ => amax l n (k + 1) (if (l.getD at_ (0, 0)).2 < (l.getD k (0, 0)).2 then k else at_)
def top (l : List IP) : Nat := amax l l.length 0 0
theorem amax_lt (l : List IP) : ∀ n k a, a < l.length -> k + n <= l.length -> amax l n k a < l.length
 | 0, _, a, h, _ => h
 | n + 1, k, a, h, hk => by
  unfold amax
  split
  ·exact amax_lt l n (k + 1) k (by omega) (by omega)
  ·exact amax_lt l n (k + 1) a h (by omega)
theorem top_lt (l : List IP) (h : l ≠ []) : top l < l.length := amax_lt l l.length 0 0 (List.length_pos_iff.2 h) (by omega)
def ptree (l : List IP) (off : Nat) : PT :=
 if h : l = [] then .nil
 else
  have := top_lt l h
  .node (off + top l) (ptree (l.take (top l)) off) (ptree (l.drop (top l + 1)) (off + top l + 1))
termination_by l.length
decreasing_by
 ·simp; omega
 ·simp; omega
def hD (l : List IP) (k : Nat) : Int := ((ptree l 0).deps 0).getD k 0
end Go.Proofs.YtcljlnagpjilaaaGreatDoor
