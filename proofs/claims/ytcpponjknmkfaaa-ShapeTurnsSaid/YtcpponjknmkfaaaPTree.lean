/-
  Trees of places: plain words, no program. Conditions: none.
-/
import Derived.Test.YtcpponjknmkfaaaArr
namespace Go.Proofs.Ytcpponjknmkfaaa
open Go.ChangeShapes Go.WideShapes Go.ChangeAt Go.RowKit
set_option linter.unusedVariables false
set_option linter.unusedSimpArgs false

/-- The tree of places. -/
inductive PT where
  | nil
  | node (p : Nat) (l r : PT)
def PT.size : PT → Nat
  | .nil => 0
  | .node _ l r => l.size + 1 + r.size
/-- In order the places are off, off + 1, .. -/
def PT.At : PT → Nat → Prop
  | .nil, _ => True
  | .node p l r, off => p = off + l.size ∧ l.At off ∧ r.At (p + 1)
def PT.pars : PT → Int → List Int
  | .nil, _ => []
  | .node p l r, up => l.pars p ++ [up] ++ r.pars p
def PT.deps : PT → Int → List Int
  | .nil, _ => []
  | .node p l r, d => l.deps (d + 1) ++ [d] ++ r.deps (d + 1)
theorem PT.pars_len : ∀ (t : PT) (up : Int), (t.pars up).length = t.size
  | .nil, _ => rfl
  | .node p l r, up => by simp [pars, size, pars_len l, pars_len r]; omega
theorem PT.deps_len : ∀ (t : PT) (d : Int), (t.deps d).length = t.size
  | .nil, _ => rfl
  | .node p l r, d => by simp [deps, size, deps_len l, deps_len r]; omega
end Go.Proofs.Ytcpponjknmkfaaa
