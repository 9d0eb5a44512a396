/-
  skip.told, skip.stack.nth: what they answer
  skip.within: what it answers
-/
import Derived.Test.YtcljlnagpjilaaaGreatDoorG9
import Derived.LaidEqlPtr
import Derived.Test.YtcljlnagpjilaaaGreatDoorG7

set_option linter.unusedVariables false
set_option linter.unusedSimpArgs false
set_option maxRecDepth 100000
set_option maxHeartbeats 8000000
namespace Go.Proofs.YtcljlnagpjilaaaGreatDoor
open Go.ChangeShapes Go.WideShapes Go.ChangeAt Go.RowKit
theorem sk_within_any (n lo hi : Int) (w : World) :
  Calls Tryz.prog 115 #[.int .i64 n, .int .i64 lo, .int .i64 hi] w fun e w' => e = .returned (.bool (btw n lo hi)) /\ w = w' := by
 by_cases h1 : lo <= n
 ·by_cases h2 : n <= hi
  ·go_enter Tryz.func115, Tryz.ntmps115
   go_wp2
   go_ret
   exact ⟨by simp [btw]; omega, rfl⟩
  ·go_enter Tryz.func115, Tryz.ntmps115
   go_wp2
   go_ret
   exact ⟨by simp [btw]; omega, rfl⟩
 ·go_enter Tryz.func115, Tryz.ntmps115
  go_wp2
  go_ret
  exact ⟨by simp [btw]; omega, rfl⟩
theorem sk_within_to (n lo hi : Int) (b : Bool) (w : World) (h : btw n lo hi = b) :
  Calls Tryz.prog 115 #[.int .i64 n, .int .i64 lo, .int .i64 hi] w fun e w' => e = .returned (.bool b) /\ w = w' := by
 have := sk_within_any n lo hi w
 rwa [h] at this
end Go.Proofs.YtcljlnagpjilaaaGreatDoor
