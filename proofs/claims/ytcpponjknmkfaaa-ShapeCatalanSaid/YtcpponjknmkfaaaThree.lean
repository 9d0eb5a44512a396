/-
  hedgkeep.threeSpots: what it answers. Conditions: none.
-/
import Derived.Test.YtcpponjknmkfaaaOkf
import Derived.Test.YtcpponjknmkfaaaSame
namespace Go.Proofs.Ytcpponjknmkfaaa
open Go.ChangeShapes Go.WideShapes Go.ChangeAt Go.RowKit
set_option linter.unusedVariables false
set_option linter.unusedSimpArgs false

theorem three_any (w : World) : Calls Try.prog 40 #[] w fun e w' => ∃ v, e = .returned v ∧ RD w' ePair v [(1, 1), (2, 0), (3, 1)] ∧ Kp w w' := by
  go_enter Try.func40, Try.ntmps40
  go_wp2
  go_ret
  exact ⟨_, rfl, RD.block (l := [(1, 1), (2, 0), (3, 1)]) (heap_alloc_new w _) rfl (by simp [maxLen]), (Kp.refl w).alloc⟩
end Go.Proofs.Ytcpponjknmkfaaa
