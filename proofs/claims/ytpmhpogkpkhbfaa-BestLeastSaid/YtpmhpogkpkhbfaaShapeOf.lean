/-
  shape.Of: what it answers. Conditions: the list reads as l (RD).
-/
import Derived.Test.YtpmhpogkpkhbfaaPart
namespace Go.Proofs.Ytpmhpogkpkhbfaa
open Go.ChangeShapes Go.WideShapes Go.ChangeAt Go.RowKit
set_option linter.unusedVariables false
set_option linter.unusedSimpArgs false

def keysIn (l : List Int) : Prop := ∀ k ∈ l, 0 ≤ k ∧ k ≤ 1000000
instance (l : List Int) : Decidable (keysIn l) := by unfold keysIn; infer_instance
def shapeOf (l : List Int) : List IP × Int := if l.length > 200 then ([], 2) else if ¬ keysIn l then ([], 3) else if (partF l.length l 0).1 = false then ([], 3) else ((partF l.length l 0).2, 0)
def KiRel (l : List Int) (w : World) (iv : Value) (wr : World) : Prop := ∃ k : Nat, k ≤ l.length ∧ iv = .int .i64 k ∧ (∀ j (h : j < l.length), j < k → 0 ≤ l[j] ∧ l[j] ≤ 1000000) ∧ w = wr
theorem KO.none {g B : Nat} {w w' a : World} (h : KO g B w w') (hk : Kp a w) (hg : a.heap.size ≤ g) (hv : w.cell? ⟨g, 0, none⟩ = some (.slice none 0 0)) : Kp a w' :=
  h.kp hk hg fun v h1 => by
    rw [hv] at h1
    injection h1 with h1
    subst h1
    intro k hk
    simp [Value.ownBlock] at hk

end Go.Proofs.Ytpmhpogkpkhbfaa
