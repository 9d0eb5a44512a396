/-
  hedgkeep.vineLives: what it answers. Conditions: none.
-/
import Derived.Test.YtnpogfodopodoaaVLaw2
import Derived.Test.YtnpogfodopodoaaVEven
import Derived.Test.YtnpogfodopodoaaTurnW
import Derived.Test.YtnpogfodopodoaaThree
namespace Go.Proofs.Ytnpogfodopodoaa
open Go.ChangeShapes Go.WideShapes Go.ChangeAt Go.RowKit
set_option linter.unusedVariables false
set_option linter.unusedSimpArgs false

theorem vineLives_vine : vineOf [(1, 1), (2, 0), (3, 1)] = ([1], 0) := by decide +kernel
theorem vineLives_even : evenOf [(1, 0), (2, 1), (3, 2)] = ([(1, 1), (2, 0), (3, 1)], 1, 0) := by decide +kernel
theorem okL_ok2 : okL [0, 0] = true := rfl

set_option maxRecDepth 100000 in
set_option maxHeartbeats 2000000 in
theorem vineLives_any (w : World) : Calls Try.prog 17 #[] w (Ret (.bool true) w) := by
  have H1 := hide (fun W v h => vineVine_any [(1, 1), (2, 0), (3, 1)] v W h)
  have H2 := hide (fun W v h => vineEven_any [(1, 0), (2, 1), (3, 2)] v W h)
  rw [vineLives_vine] at H1
  rw [vineLives_even] at H2
  go_enter Try.func17, Try.ntmps17
  go_wp2_with fail
  refine (three_any _).mono ?_
  rintro e w1 ⟨v1, rfl, hr1, hb1⟩
  have HR1 := hide hr1
  have kk1 := hb1
  clear hr1 hb1
  go_wp2_with fail
  with_reducible refine (H1.out _ _ HR1.out).mono ?_
  rintro e w2 ⟨v2, rfl, hr2, hb2⟩
  have kk2 := Kp.of hb2
  have HR2 := hide hr2
  clear hr2 hb2
  go_wp2_with fail
  refine (H2.out _ _ (RD.block (l := [(1, 0), (2, 1), (3, 2)]) (heap_alloc_new w2 _) rfl (by simp [maxLen]))).mono ?_
  rintro e w3 ⟨v3, rfl, hr3, hb3⟩
  have kk3 : Kp w2 w3 := (Kp.refl w2).alloc.trans hb3
  have HR3 := hide hr3
  clear hr3 hb3
  go_wp2_with fail
  refine (ok_any [0, 0] _ _ (RD.block (l := [0, 0]) (heap_alloc_new w3 _) rfl (by simp [maxLen]))).mono ?_
  rintro e w4 ⟨rfl, hw4⟩
  have kk4 : Kp w3 w4 := by rw [← hw4]; exact (Kp.refl w3).alloc
  clear hw4
  have hok := okL_ok2
  go_wp2_with fail
  refine (eqInts_to _ _ true _ _ _ ((HR2.out.kp (kk3.trans kk4)).alloc _) (RD.block (l := [1]) (heap_alloc_new w4 _) rfl (by simp [maxLen])) (by decide)).mono ?_
  rintro e w5 ⟨rfl, hb5⟩
  have kk5 : Kp w4 w5 := (Kp.refl w4).alloc.trans hb5
  clear hb5
  go_wp2_with fail
  refine (three_any _).mono ?_
  rintro e w6 ⟨v6, rfl, hr6, hb6⟩
  have HR6 := hide hr6
  have kk6 := hb6
  clear hr6 hb6
  go_wp2_with fail
  refine (eqSpots_to _ _ true _ _ _ (HR3.out.kp (kk4.trans (kk5.trans kk6))) HR6.out (by decide)).mono ?_
  rintro e w7 ⟨rfl, hb7⟩
  have kk7 := Kp.of hb7
  clear hb7
  go_wp2
  go_ret
  exact ⟨rfl, (kk1.trans (kk2.trans (kk3.trans (kk4.trans (kk5.trans (kk6.trans kk7)))))).bel⟩
end Go.Proofs.Ytnpogfodopodoaa
