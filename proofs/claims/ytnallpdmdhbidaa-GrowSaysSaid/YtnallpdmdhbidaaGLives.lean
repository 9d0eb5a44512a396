/-
  grow.Sort, hedgkeep.growLives: what they answer. Conditions: the list reads as l (RD).
-/
import Derived.Test.YtnallpdmdhbidaaGSort
import Derived.Test.YtnallpdmdhbidaaGRun
import Derived.Test.YtnallpdmdhbidaaThree
namespace Go.Proofs.Ytnallpdmdhbidaa
open Go.ChangeShapes Go.WideShapes Go.ChangeAt Go.RowKit
set_option linter.unusedVariables false
set_option linter.unusedSimpArgs false

def sortG (l : List Int) : List Int × Int × Int := if rightG l ≠ 0 then ([], 0, rightG l) else ((sortF l.length l).1, (sortF l.length l).2, 0)
def Sort3 (r : List Int × Int × Int) (w : World) (e : Ending) (w' : World) : Prop := ∃ v, e = .returned (.tuple #[v, .int .i64 r.2.1, .int .i64 r.2.2]) ∧ RD w' eInt v r.1 ∧ Below w.heap.size w w'
set_option maxRecDepth 100000 in
set_option maxHeartbeats 2000000 in
theorem growSort_any (l : List Int) (v : Value) (w : World) (hr : RD w eInt v l) : Calls Try.prog 14 #[v] w (Sort3 (sortG l) w) := by
  obtain ⟨A, c, rfl, hc, hm⟩ := hr.shape
  have HR := hide hr
  have HG := hide (fun W v h => growRight_any l v W h)
  clear hr
  by_cases h0 : rightG l = 0
  · have hlen := rightG_len l h0
    have H1 : Hid (sortG l = ((sortF l.length l).1, (sortF l.length l).2, 0)) := hide (by rw [sortG, if_neg (by simp [h0])])
    have HSF := hide (fun v W h => growSorted_any l.length l v W (Nat.le_refl _) (by omega) h)
    obtain ⟨⟨ls, n⟩, hP⟩ : ∃ P, P = sortF l.length l := ⟨_, rfl⟩
    rw [← hP] at HSF H1
    rw [h0] at HG
    clear h0 hP
    go_enter Try.func14, Try.ntmps14
    go_wp2_with fail
    with_reducible refine (HG.out _ _ HR.out).mono ?_
    rintro e w1 ⟨rfl, hb1⟩
    have k1 := Kp.of hb1
    go_wp2_with fail
    with_reducible refine (HSF.out _ _ (HR.out.kp k1)).mono ?_
    rintro e w2 ⟨v2, rfl, ho2, hb2⟩
    have HO2 := hide ho2.rd
    clear ho2
    go_wp2
    go_ret3
    exact ⟨v2, by rw [H1.out]; rfl, by rw [H1.out]; exact HO2.out, (k1.trans hb2).bel⟩
  · have H1 : Hid (sortG l = ([], 0, rightG l)) := hide (by rw [sortG, if_pos h0])
    obtain ⟨r, hr⟩ : ∃ r, r = rightG l := ⟨_, rfl⟩
    rw [← hr] at HG H1 h0
    have hne : (r != 0) = true := by simp [h0]
    clear h0 hr
    go_enter Try.func14, Try.ntmps14
    go_wp2_with fail
    with_reducible refine (HG.out _ _ HR.out).mono ?_
    rintro e w1 ⟨rfl, hb1⟩
    go_wp2
    go_ret3
    exact ⟨_, by rw [H1.out]; rfl, by rw [H1.out]; exact RD.nil, hb1⟩
theorem growLives_of : growOf [2, 1, 3] = ([(1, 1), (2, 0), (3, 1)], 0) := by decide +kernel
theorem growLives_sort : sortG [2, 3, 1] = ([1, 2, 3], 2, 0) := by decide +kernel
theorem growLives_run : growRun [(1, 2, 0), (1, 1, 0), (1, 3, 0), (3, 2, 0)] = ([(1, 1), (3, 0)], [⟨0, 0, 0, false⟩, ⟨0, 0, 0, false⟩, ⟨0, 0, 0, false⟩, ⟨0, 0, 0, true⟩], 0) := by decide +kernel
theorem okL_ok3 : okL [0, 0, 0] = true := rfl
set_option maxRecDepth 100000 in
set_option maxHeartbeats 2000000 in
theorem growLives_any (w : World) : Calls Try.prog 8 #[] w (Ret (.bool true) w) := by
  have H1 := hide (fun W v h => growOf_any [2, 1, 3] v W h)
  have H2 := hide (fun W v h => growSort_any [2, 3, 1] v W h)
  have H3 := hide (fun W v h => growRun_any [(1, 2, 0), (1, 1, 0), (1, 3, 0), (3, 2, 0)] v W h)
  rw [growLives_of] at H1
  rw [growLives_sort] at H2
  rw [growLives_run] at H3
  go_enter Try.func8, Try.ntmps8
  go_wp2_with fail
  refine (H1.out _ _ (RD.block (l := [2, 1, 3]) (heap_alloc_new w _) rfl (by simp [maxLen]))).mono ?_
  rintro e w1 ⟨v1, rfl, hr1, hb1⟩
  have kk1 : Kp w w1 := (Kp.refl w).alloc.trans hb1
  have HR1 := hide hr1
  clear hr1 hb1
  go_wp2_with fail
  refine (H2.out _ _ (RD.block (l := [2, 3, 1]) (heap_alloc_new w1 _) rfl (by simp [maxLen]))).mono ?_
  rintro e w2 ⟨v2, rfl, hr2, hb2⟩
  have kk2 : Kp w1 w2 := (Kp.refl w1).alloc.trans hb2
  have HR2 := hide hr2
  clear hr2 hb2
  go_wp2_with fail
  refine (H3.out _ _ (RD.block (l := [(1, 2, 0), (1, 1, 0), (1, 3, 0), (3, 2, 0)]) (heap_alloc_new w2 _) rfl (by simp [maxLen]))).mono ?_
  rintro e w3 ⟨v3, u3, rfl, hr3, _, hb3⟩
  have kk3 : Kp w2 w3 := (Kp.refl w2).alloc.trans hb3
  have HR3 := hide hr3
  clear hr3 hb3
  go_wp2_with fail
  refine (ok_any [0, 0, 0] _ _ (RD.block (l := [0, 0, 0]) (heap_alloc_new w3 _) rfl (by simp [maxLen]))).mono ?_
  rintro e w4 ⟨rfl, hw4⟩
  have kk4 : Kp w3 w4 := by rw [← hw4]; exact (Kp.refl w3).alloc
  have hok := okL_ok3
  clear hw4
  go_wp2_with fail
  refine (three_any _).mono ?_
  rintro e w5 ⟨v5, rfl, hr5, hb5⟩
  have HR5 := hide hr5
  have kk5 := hb5
  clear hr5 hb5
  go_wp2_with fail
  refine (eqSpots_to _ _ true _ _ _ (HR1.out.kp (by (focus ((repeat (first | (with_reducible assumption) | (with_reducible exact Kp.refl _) | (with_reducible apply Kp.drew) | (with_reducible apply Kp.drewN) | (with_reducible apply Kp.alloc) | ((with_reducible apply Kp.callK); (with_reducible assumption)))); done)))) HR5.out (by decide)).mono ?_
  rintro e w6 ⟨rfl, hb6⟩
  have kk6 := Kp.of hb6
  clear hb6
  go_wp2_with fail
  refine (eqInts_to _ _ true _ _ _ ((HR2.out.kp (by (focus ((repeat (first | (with_reducible assumption) | (with_reducible exact Kp.refl _) | (with_reducible apply Kp.drew) | (with_reducible apply Kp.drewN) | (with_reducible apply Kp.alloc) | ((with_reducible apply Kp.callK); (with_reducible assumption)))); done)))).alloc _) (RD.block (l := [1, 2, 3]) (heap_alloc_new w6 _) rfl (by simp [maxLen])) (by decide)).mono ?_
  rintro e w7 ⟨rfl, hb7⟩
  have kk7 : Kp w6 w7 := (Kp.refl w6).alloc.trans hb7
  clear hb7
  go_wp2_with fail
  refine (eqSpots_to _ _ true _ _ _ ((HR3.out.kp (by (focus ((repeat (first | (with_reducible assumption) | (with_reducible exact Kp.refl _) | (with_reducible apply Kp.drew) | (with_reducible apply Kp.drewN) | (with_reducible apply Kp.alloc) | ((with_reducible apply Kp.callK); (with_reducible assumption)))); done)))).alloc _) (RD.block (l := [(1, 1), (3, 0)]) (heap_alloc_new w7 _) rfl (by simp [maxLen])) (by decide)).mono ?_
  rintro e w8 ⟨rfl, hb8⟩
  have kk8 : Kp w7 w8 := (Kp.refl w7).alloc.trans hb8
  clear hb8
  go_wp2
  go_ret
  exact ⟨rfl, Kp.bel (by (focus ((repeat (first | (with_reducible assumption) | (with_reducible exact Kp.refl _) | (with_reducible apply Kp.drew) | (with_reducible apply Kp.drewN) | (with_reducible apply Kp.alloc) | ((with_reducible apply Kp.callK); (with_reducible assumption)))); done)))⟩
end Go.Proofs.Ytnallpdmdhbidaa
