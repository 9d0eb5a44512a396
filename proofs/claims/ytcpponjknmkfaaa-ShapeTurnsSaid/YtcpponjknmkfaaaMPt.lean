/-
  Plain laws: keys, places, spots of a tree that is written (MT). No program. Conditions: none.
-/
import Derived.Test.YtcpponjknmkfaaaTSpots
import Derived.Test.YtcpponjknmkfaaaBackLaw
namespace Go.Proofs.Ytcpponjknmkfaaa
open Go.ChangeShapes Go.WideShapes Go.ChangeAt Go.RowKit
set_option linter.unusedVariables false
set_option linter.unusedSimpArgs false

def keysM {α : Type} (kf : α → Int) : MT α → List Int
  | .nil => []
  | .node a l r => keysM kf l ++ [kf a] ++ keysM kf r
theorem keysM_len {α : Type} (kf : α → Int) : ∀ t : MT α, (keysM kf t).length = t.size
  | .nil => rfl
  | .node a l r => by simp [keysM, MT.size, keysM_len kf l, keysM_len kf r]; omega
theorem spotsBy_keys {α : Type} (kf : α → Int) : ∀ (t : MT α) (d : Int), (t.spotsBy kf d).map Prod.fst = keysM kf t
  | .nil, _ => rfl
  | .node a l r, d => by simp [MT.spotsBy, keysM, spotsBy_keys kf l, spotsBy_keys kf r]
def ptM {α : Type} : MT α → Nat → PT
  | .nil, _ => .nil
  | .node _ l r, off => .node (off + l.size) (ptM l off) (ptM r (off + l.size + 1))
theorem ptM_size {α : Type} : ∀ (t : MT α) (off : Nat), (ptM t off).size = t.size
  | .nil, _ => rfl
  | .node a l r, off => by simp [ptM, PT.size, MT.size, ptM_size l, ptM_size r]
theorem ptM_at {α : Type} : ∀ (t : MT α) (off : Nat), (ptM t off).At off
  | .nil, _ => trivial
  | .node a l r, off => ⟨by rw [ptM_size], ptM_at l off, ptM_at r _⟩
theorem ptM_deps {α : Type} (kf : α → Int) : ∀ (t : MT α) (off : Nat) (d : Int), (ptM t off).deps d = (t.spotsBy kf d).map Prod.snd
  | .nil, _, _ => rfl
  | .node a l r, off, d => by simp [ptM, PT.deps, MT.spotsBy, ptM_deps kf l, ptM_deps kf r]
/-- The spots of a tree whose keys rise are right. -/
theorem spotsBy_right {α : Type} (kf : α → Int) (t : MT α) (h1 : t.size ≤ 200) (h2 : (keysM kf t).Pairwise (fun a b => a < b)) (h3 : ∀ x ∈ keysM kf t, 0 ≤ x ∧ x ≤ 1000000) : parOf (t.spotsBy kf 0) = ((ptM t 0).pars (-1), 0) := by
  have hk := spotsBy_keys kf t 0
  have hl := MT.spotsBy_len kf t 0
  have hm : mapRight (t.spotsBy kf 0) = 0 := mapRight_of _ (by omega) (by rw [← hk] at h2; exact List.pairwise_map.1 h2) (fun x hx => h3 _ (by rw [← hk]; exact List.mem_map_of_mem hx))
  refine parOf_tree _ (ptM t 0) hm (ptM_at t 0) (by rw [ptM_size, hl]) fun j hj => ?_
  rw [ptM_deps kf, gv_eq _ j hj]
  simp [List.getElem?_eq_getElem hj]
end Go.Proofs.Ytcpponjknmkfaaa
