/-
  The spots of a tree that is written (grow.spots, vine.spots, ..), told: what they answer. Conditions: the tree as MR says; of spots: the variable holds a slice of the call's own (OB).
-/
import Derived.Test.YtcpponjknmkfaaaOutVar
namespace Go.Proofs.Ytcpponjknmkfaaa
open Go.ChangeShapes Go.WideShapes Go.ChangeAt Go.RowKit
set_option linter.unusedVariables false
set_option linter.unusedSimpArgs false

def MT.spotsBy {α : Type} (key : α → Int) : MT α → Int → List IP
  | .nil, _ => []
  | .node a l r, d => l.spotsBy key (d + 1) ++ [(key a, d)] ++ r.spotsBy key (d + 1)
theorem MT.spotsBy_len {α : Type} (key : α → Int) : ∀ (t : MT α) (d : Int), (t.spotsBy key d).length = t.size
  | .nil, _ => rfl
  | .node a l r, d => by simp [spotsBy, size, spotsBy_len key l, spotsBy_len key r]; omega
end Go.Proofs.Ytcpponjknmkfaaa
