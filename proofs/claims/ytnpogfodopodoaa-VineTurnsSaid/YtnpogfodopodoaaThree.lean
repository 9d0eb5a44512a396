/-
  hedgkeep.threeSpots: what it answers. Conditions: none.
-/
import Derived.Test.YtnpogfodopodoaaOkf
import Derived.Test.YtnpogfodopodoaaSame
namespace Go.Proofs.Ytnpogfodopodoaa
open Go.ChangeShapes Go.WideShapes Go.ChangeAt Go.RowKit
set_option linter.unusedVariables false
set_option linter.unusedSimpArgs false

theorem three_any (w : World) : Calls Try.prog 31 #[] w fun e w' => ∃ v, e = .returned v ∧ RD w' ePair v [(1, 1), (2, 0), (3, 1)] ∧ Kp w w' := by
  go_enter Try.func31, Try.ntmps31
  go_wp2
  go_ret
  exact ⟨_, rfl, RD.block (l := [(1, 1), (2, 0), (3, 1)]) (heap_alloc_new w _) rfl (by simp [maxLen]), (Kp.refl w).alloc⟩
end Go.Proofs.Ytnpogfodopodoaa
