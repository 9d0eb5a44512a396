/-
  hedgkeep.shapeLives: what it answers. Conditions: none.
-/
import Derived.Test.YtcpponjknmkfaaaTurnW
import Derived.Test.YtcpponjknmkfaaaThree
import Derived.Test.YtcpponjknmkfaaaAnsw
namespace Go.Proofs.Ytcpponjknmkfaaa
open Go.ChangeShapes Go.WideShapes Go.ChangeAt Go.RowKit
set_option linter.unusedVariables false
set_option linter.unusedSimpArgs false

theorem shapeLives_order : orderOf [(1, 1), (2, 0), (3, 1)] 1 = ([2, 1, 3], 0) := by decide +kernel
theorem shapeLives_of : shapeOf [2, 1, 3] = ([(1, 1), (2, 0), (3, 1)], 0) := by decide +kernel
theorem shapeLives_turn : turnOf [(1, 1), (2, 0), (3, 1)] 3 = ([(1, 2), (2, 1), (3, 0)], 0) := by decide +kernel
theorem okL_ok : okL [0, 0, 0] = true := rfl

set_option maxRecDepth 100000 in
set_option maxHeartbeats 2000000 in
theorem shapeLives_any (w : World) : Calls Try.prog 23 #[] w (Ret (.bool true) w) := by
  have H1 := hide (fun W v h => order_any [(1, 1), (2, 0), (3, 1)] 1 v W h (by decide))
  have H2 := hide (fun W v h => shapeOf_any [2, 1, 3] v W h)
  have H3 := hide (fun W v h => turn_any [(1, 1), (2, 0), (3, 1)] 3 v W h)
  rw [shapeLives_order] at H1
  rw [shapeLives_of] at H2
  rw [shapeLives_turn] at H3
  go_enter Try.func23, Try.ntmps23
  go_wp2_with fail
  refine (three_any _).mono ?_
  rintro e w1 ⟨v1, rfl, hr1, hb1⟩
  have HR1 := hide hr1
  have kk1 := hb1
  clear hr1 hb1
  go_wp2_with fail
  with_reducible refine (H1.out _ _ HR1.out).mono ?_
  rintro e w2 ⟨v2, rfl, hr2, hb2⟩
  have kk2 := Kp.of hb2
  have HR2 := hide hr2
  clear hr2 hb2
  go_wp2_with fail
  refine (H2.out _ _ (RD.block (l := [2, 1, 3]) (heap_alloc_new w2 _) rfl (by simp [maxLen]))).mono ?_
  rintro e w3 ⟨v3, rfl, hr3, hb3⟩
  have kk3 : Kp w2 w3 := (Kp.refl w2).alloc.trans hb3
  have HR3 := hide hr3
  clear hr3 hb3
  go_wp2_with fail
  refine (three_any _).mono ?_
  rintro e w4 ⟨v4, rfl, hr4, hb4⟩
  have HR4 := hide hr4
  have kk4 := hb4
  clear hr4 hb4
  go_wp2_with fail
  with_reducible refine (H3.out _ _ HR4.out).mono ?_
  rintro e w5 ⟨v5, rfl, hr5, hb5⟩
  have kk5 := Kp.of hb5
  have HR5 := hide hr5
  clear hr5 hb5
  go_wp2_with fail
  refine (ok_any [0, 0, 0] _ _ (RD.block (l := [0, 0, 0]) (heap_alloc_new w5 _) rfl (by simp [maxLen]))).mono ?_
  rintro e w6 ⟨rfl, hw6⟩
  have kk6 : Kp w5 w6 := by rw [← hw6]; exact (Kp.refl w5).alloc
  clear hw6
  have hok := okL_ok
  go_wp2_with fail
  refine (eqInts_to _ _ true _ _ _ (((HR2.out.kp (by (focus ((repeat (first | (with_reducible assumption) | (with_reducible exact Kp.refl _) | (with_reducible apply Kp.drew) | (with_reducible apply Kp.drewN) | (with_reducible apply Kp.alloc) | ((with_reducible apply Kp.callK); (with_reducible assumption)))); done)))).alloc _)) (RD.block (l := [2, 1, 3]) (heap_alloc_new w6 _) rfl (by simp [maxLen])) (by decide)).mono ?_
  rintro e w7 ⟨rfl, hb7⟩
  have kk7 : Kp w6 w7 := (Kp.refl w6).alloc.trans hb7
  clear hb7
  go_wp2_with fail
  refine (three_any _).mono ?_
  rintro e w8 ⟨v8, rfl, hr8, hb8⟩
  have HR8 := hide hr8
  have kk8 := hb8
  clear hr8 hb8
  go_wp2_with fail
  refine (eqSpots_to _ _ true _ _ _ (HR3.out.kp (by (focus ((repeat (first | (with_reducible assumption) | (with_reducible exact Kp.refl _) | (with_reducible apply Kp.drew) | (with_reducible apply Kp.drewN) | (with_reducible apply Kp.alloc) | ((with_reducible apply Kp.callK); (with_reducible assumption)))); done)))) HR8.out (by decide)).mono ?_
  rintro e w9 ⟨rfl, hb9⟩
  have kk9 := Kp.of hb9
  clear hb9
  go_wp2_with fail
  refine (eqSpots_to _ _ true _ _ _ ((HR5.out.kp (by (focus ((repeat (first | (with_reducible assumption) | (with_reducible exact Kp.refl _) | (with_reducible apply Kp.drew) | (with_reducible apply Kp.drewN) | (with_reducible apply Kp.alloc) | ((with_reducible apply Kp.callK); (with_reducible assumption)))); done)))).alloc _) (RD.block (l := [(1, 2), (2, 1), (3, 0)]) (heap_alloc_new w9 _) rfl (by simp [maxLen])) (by decide)).mono ?_
  rintro e w10 ⟨rfl, hb10⟩
  have kk10 : Kp w9 w10 := (Kp.refl w9).alloc.trans hb10
  clear hb10
  go_wp2
  go_ret
  exact ⟨rfl, (kk1.trans (kk2.trans (kk3.trans (kk4.trans (kk5.trans (kk6.trans (kk7.trans (kk8.trans (kk9.trans kk10))))))))).bel⟩
end Go.Proofs.Ytcpponjknmkfaaa
