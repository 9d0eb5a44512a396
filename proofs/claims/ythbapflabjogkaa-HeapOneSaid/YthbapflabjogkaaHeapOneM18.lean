/-
  Keys of which each stands ahead of those below it grow the tree: the law. No program. Conditions: none.
-/
import Derived.Test.YthbapflabjogkaaHeapOneM5
import Derived.Test.YthbapflabjogkaaHeapOneM17

namespace Go.Proofs.Ythbapflabjogkaa
open Go.ChangeShapes Go.WideShapes Go.ChangeAt Go.RowKit
set_option linter.unusedVariables false
set_option linter.unusedSimpArgs false

theorem topo_grow : ∀ (t : T) (F : List Int) (d : Int), Topo t F → (ofT F).spotsBy Prod.fst d = t.spots d
  | .nil, F, d, h => by
    obtain rfl : F = [] := h
    rfl
  | .node k l r, F, d, h => by
    obtain ⟨F', rfl, h1, h2, h3⟩ := h
    rw [ofT_cons k F' h1]
    simp only [MT.spotsBy, T.spots, topo_grow l _ (d + 1) h2, topo_grow r _ (d + 1) h3]
theorem grow_topo (t : T) (F : List Int) (hp : F.Perm (keysT t)) (ht : Topo t F) (hb : Bst t) (hs : t.size ≤ 200) (hk : keysIn (keysT t)) : growOf F = (t.spots 0, 0) := by
  have hr : rightG F = 0 := by
    unfold rightG
    rw [if_neg (by rw [hp.length_eq, keysT_len]; omega), if_neg, if_neg]
    · exact Decidable.not_not.2 (hp.nodup_iff.2 (hb.imp fun h => by omega))
    · exact Decidable.not_not.2 fun k hk' => hk k (hp.mem_iff.1 hk')
  rw [growOf, if_neg (by simp [hr]), topo_grow t F 0 ht]
end Go.Proofs.Ythbapflabjogkaa
