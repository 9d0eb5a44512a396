/-
  hedgkeep.threeSpots, hedgkeep.heapLives: what they answer. Conditions: none.
-/
import Derived.Test.YthbapflabjogkaaHeapOf
import Derived.Test.YthbapflabjogkaaLeast
import Derived.Test.YthbapflabjogkaaSame
import Derived.Test.YthbapflabjogkaaOkf
namespace Go.Proofs.Ythbapflabjogkaa
open Go.ChangeShapes Go.WideShapes Go.ChangeAt Go.RowKit
set_option linter.unusedVariables false
set_option linter.unusedSimpArgs false

theorem three_any (w : World) : Calls Try.prog 31 #[] w fun e w' => ∃ v, e = .returned v ∧ RD w' ePair v [(1, 1), (2, 0), (3, 1)] ∧ Kp w w' := by
  go_enter Try.func31, Try.ntmps31
  go_wp2
  go_ret
  exact ⟨_, rfl, RD.block (l := [(1, 1), (2, 0), (3, 1)]) (heap_alloc_new w _) rfl (by simp [maxLen]), (Kp.refl w).alloc⟩

theorem heapLives_of : heapOf [(1, 4), (2, 9), (3, 4)] = ([(1, 1), (2, 0), (3, 1)], 0) := by decide +kernel
theorem heapLives_least : leastOf [3, 1, 2] = ([-1, -1, 1], 0) := by decide +kernel

set_option maxHeartbeats 1000000 in
theorem heapLives_any (w : World) : Calls Try.prog 17 #[] w (Ret (.bool true) w) := by
  have H1 := hide (fun W v h => heapOf_any [(1, 4), (2, 9), (3, 4)] v W h)
  have H2 := hide (fun W v h => least_any [3, 1, 2] v W h)
  rw [heapLives_of] at H1
  rw [heapLives_least] at H2
  go_enter Try.func17, Try.ntmps17
  go_wp2_with fail
  refine (H1.out _ _ (RD.block (l := [(1, 4), (2, 9), (3, 4)]) (heap_alloc_new w _) rfl (by simp [maxLen]))).mono ?_
  rintro e w1 ⟨v1, rfl, hr1, hb1⟩
  have k1 : Kp w w1 := (Kp.refl w).alloc.trans hb1
  have HR1 := hide hr1
  clear hr1 hb1
  go_wp2_with fail
  refine (H2.out _ _ (RD.block (l := [3, 1, 2]) (heap_alloc_new w1 _) rfl (by simp [maxLen]))).mono ?_
  rintro e w2 ⟨v2, rfl, hr2, hb2⟩
  have k2 : Kp w1 w2 := (Kp.refl w1).alloc.trans hb2
  have HR2 := hide hr2
  clear hr2 hb2
  go_wp2_with fail
  refine (ok_any [0, 0] _ _ (RD.block (l := [0, 0]) (heap_alloc_new w2 _) rfl (by simp [maxLen]))).mono ?_
  rintro e w3 ⟨rfl, rfl⟩
  have k3 : Kp w2 (w2.alloc (.cells #[.int .i64 0, .int .i64 0] 25)) := (Kp.refl w2).alloc
  have hok : okL [0, 0] = true := rfl
  go_wp2_with fail
  refine (three_any _).mono ?_
  rintro e w4 ⟨v4, rfl, hr4, hb4⟩
  have k4 := k3.trans hb4
  have HR4 := hide hr4
  clear hr4 hb4
  go_wp2_with fail
  refine (eqSpots_to _ _ true _ _ _ (HR1.out.kp (k2.trans k4)) HR4.out (by decide)).mono ?_
  rintro e w5 ⟨rfl, hb5⟩
  have k5 : Kp w2 w5 := k4.trans hb5
  clear hb5
  go_wp2_with fail
  refine (eqInts_to _ _ true _ _ _ ((HR2.out.kp k5).alloc _) (RD.block (l := [-1, -1, 1]) (heap_alloc_new w5 _) rfl (by simp [maxLen])) (by decide)).mono ?_
  rintro e w6 ⟨rfl, hb6⟩
  go_wp2
  go_ret
  exact ⟨rfl, (k1.trans (k2.trans (k5.trans ((Kp.refl w5).alloc.trans hb6)))).bel⟩
end Go.Proofs.Ythbapflabjogkaa
