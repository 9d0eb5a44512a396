/-
  grow.Sort, hedgkeep.growLives: what they answer. Conditions: the list reads as l (RD).
  hedgkeep.GrowFirst: the walk: it answers true. Conditions: the list reads as l (RD).
  hedgkeep.GrowFirst: THE STATEMENT: for every input it answers true. Conditions: none.
-/
import Derived.Test.YtnallpdmdhbidaaGrowFirstM26
import Derived.Test.YtnallpdmdhbidaaGrowFirstM32
import Derived.Test.YtnallpdmdhbidaaGrowFirstM34
import Derived.Test.YtnallpdmdhbidaaGrowFirstM23
import Derived.Test.YtnallpdmdhbidaaGrowFirstM4

namespace Go.Proofs.Ytnallpdmdhbidaa
open Go.ChangeShapes Go.WideShapes Go.ChangeAt Go.RowKit
set_option linter.unusedVariables false
set_option linter.unusedSimpArgs false

def sortG (l : List Int) : List Int × Int × Int := if rightG l ≠ 0 then ([], 0, rightG l) else ((sortF l.length l).1, (sortF l.length l).2, 0)
def Sort3 (r : List Int × Int × Int) (w : World) (e : Ending) (w' : World) : Prop := ∃ v, e = .returned (.tuple #[v, .int .i64 r.2.1, .int .i64 r.2.2]) ∧ RD w' eInt v r.1 ∧ Below w.heap.size w w'
set_option maxRecDepth 100000 in
set_option maxHeartbeats 2000000 in
theorem growSort_any (l : List Int) (v : Value) (w : World) (hr : RD w eInt v l) : Calls Try.prog 14 #[v] w (Sort3 (sortG l) w) := by
  obtain ⟨A, c, rfl, hc, hm⟩ := hr.shape
  have HR := hide hr
  have HG := hide (fun W v h => growRight_any l v W h)
  clear hr
  by_cases h0 : rightG l = 0
  · have hlen := rightG_len l h0
    have H1 : Hid (sortG l = ((sortF l.length l).1, (sortF l.length l).2, 0)) := hide (by rw [sortG, if_neg (by simp [h0])])
    have HSF := hide (fun v W h => growSorted_any l.length l v W (Nat.le_refl _) (by omega) h)
    obtain ⟨⟨ls, n⟩, hP⟩ : ∃ P, P = sortF l.length l := ⟨_, rfl⟩
    rw [← hP] at HSF H1
    rw [h0] at HG
    clear h0 hP
    go_enter Try.func14, Try.ntmps14
    go_wp2_with fail
    with_reducible refine (HG.out _ _ HR.out).mono ?_
    rintro e w1 ⟨rfl, hb1⟩
    have k1 := Kp.of hb1
    go_wp2_with fail
    with_reducible refine (HSF.out _ _ (HR.out.kp k1)).mono ?_
    rintro e w2 ⟨v2, rfl, ho2, hb2⟩
    have HO2 := hide ho2.rd
    clear ho2
    go_wp2
    go_ret3
    exact ⟨v2, by rw [H1.out]; rfl, by rw [H1.out]; exact HO2.out, (k1.trans hb2).bel⟩
  · have H1 : Hid (sortG l = ([], 0, rightG l)) := hide (by rw [sortG, if_pos h0])
    obtain ⟨r, hr⟩ : ∃ r, r = rightG l := ⟨_, rfl⟩
    rw [← hr] at HG H1 h0
    have hne : (r != 0) = true := by simp [h0]
    clear h0 hr
    go_enter Try.func14, Try.ntmps14
    go_wp2_with fail
    with_reducible refine (HG.out _ _ HR.out).mono ?_
    rintro e w1 ⟨rfl, hb1⟩
    go_wp2
    go_ret3
    exact ⟨_, by rw [H1.out]; rfl, by rw [H1.out]; exact RD.nil, hb1⟩
theorem growLives_of : growOf [2, 1, 3] = ([(1, 1), (2, 0), (3, 1)], 0) := by decide +kernel
theorem growLives_sort : sortG [2, 3, 1] = ([1, 2, 3], 2, 0) := by decide +kernel
theorem growLives_run : growRun [(1, 2, 0), (1, 1, 0), (1, 3, 0), (3, 2, 0)] = ([(1, 1), (3, 0)], [⟨0, 0, 0, false⟩, ⟨0, 0, 0, false⟩, ⟨0, 0, 0, false⟩, ⟨0, 0, 0, true⟩], 0) := by decide +kernel
theorem okL_ok3 : okL [0, 0, 0] = true := rfl
set_option maxRecDepth 100000 in
set_option maxHeartbeats 2000000 in
theorem growLives_any (w : World) : Calls Try.prog 8 #[] w (Ret (.bool true) w) := by
  have H1 := hide (fun W v h => growOf_any [2, 1, 3] v W h)
  have H2 := hide (fun W v h => growSort_any [2, 3, 1] v W h)
  have H3 := hide (fun W v h => growRun_any [(1, 2, 0), (1, 1, 0), (1, 3, 0), (3, 2, 0)] v W h)
  rw [growLives_of] at H1
  rw [growLives_sort] at H2
  rw [growLives_run] at H3
  go_enter Try.func8, Try.ntmps8
  go_wp2_with fail
  refine (H1.out _ _ (RD.block (l := [2, 1, 3]) (heap_alloc_new w _) rfl (by simp [maxLen]))).mono ?_
  rintro e w1 ⟨v1, rfl, hr1, hb1⟩
  have kk1 : Kp w w1 := (Kp.refl w).alloc.trans hb1
  have HR1 := hide hr1
  clear hr1 hb1
  go_wp2_with fail
  refine (H2.out _ _ (RD.block (l := [2, 3, 1]) (heap_alloc_new w1 _) rfl (by simp [maxLen]))).mono ?_
  rintro e w2 ⟨v2, rfl, hr2, hb2⟩
  have kk2 : Kp w1 w2 := (Kp.refl w1).alloc.trans hb2
  have HR2 := hide hr2
  clear hr2 hb2
  go_wp2_with fail
  refine (H3.out _ _ (RD.block (l := [(1, 2, 0), (1, 1, 0), (1, 3, 0), (3, 2, 0)]) (heap_alloc_new w2 _) rfl (by simp [maxLen]))).mono ?_
  rintro e w3 ⟨v3, u3, rfl, hr3, _, hb3⟩
  have kk3 : Kp w2 w3 := (Kp.refl w2).alloc.trans hb3
  have HR3 := hide hr3
  clear hr3 hb3
  go_wp2_with fail
  refine (ok_any [0, 0, 0] _ _ (RD.block (l := [0, 0, 0]) (heap_alloc_new w3 _) rfl (by simp [maxLen]))).mono ?_
  rintro e w4 ⟨rfl, hw4⟩
  have kk4 : Kp w3 w4 := by rw [← hw4]; exact (Kp.refl w3).alloc
  have hok := okL_ok3
  clear hw4
  go_wp2_with fail
  refine (three_any _).mono ?_
  rintro e w5 ⟨v5, rfl, hr5, hb5⟩
  have HR5 := hide hr5
  have kk5 := hb5
  clear hr5 hb5
  go_wp2_with fail
  refine (eqSpots_to _ _ true _ _ _ (HR1.out.kp (by (focus ((repeat (first | (with_reducible assumption) | (with_reducible exact Kp.refl _) | (with_reducible apply Kp.drew) | (with_reducible apply Kp.drewN) | (with_reducible apply Kp.alloc) | ((with_reducible apply Kp.callK); (with_reducible assumption)))); done)))) HR5.out (by decide)).mono ?_
  rintro e w6 ⟨rfl, hb6⟩
  have kk6 := Kp.of hb6
  clear hb6
  go_wp2_with fail
  refine (eqInts_to _ _ true _ _ _ ((HR2.out.kp (by (focus ((repeat (first | (with_reducible assumption) | (with_reducible exact Kp.refl _) | (with_reducible apply Kp.drew) | (with_reducible apply Kp.drewN) | (with_reducible apply Kp.alloc) | ((with_reducible apply Kp.callK); (with_reducible assumption)))); done)))).alloc _) (RD.block (l := [1, 2, 3]) (heap_alloc_new w6 _) rfl (by simp [maxLen])) (by decide)).mono ?_
  rintro e w7 ⟨rfl, hb7⟩
  have kk7 : Kp w6 w7 := (Kp.refl w6).alloc.trans hb7
  clear hb7
  go_wp2_with fail
  refine (eqSpots_to _ _ true _ _ _ ((HR3.out.kp (by (focus ((repeat (first | (with_reducible assumption) | (with_reducible exact Kp.refl _) | (with_reducible apply Kp.drew) | (with_reducible apply Kp.drewN) | (with_reducible apply Kp.alloc) | ((with_reducible apply Kp.callK); (with_reducible assumption)))); done)))).alloc _) (RD.block (l := [(1, 1), (3, 0)]) (heap_alloc_new w7 _) rfl (by simp [maxLen])) (by decide)).mono ?_
  rintro e w8 ⟨rfl, hb8⟩
  have kk8 : Kp w7 w8 := (Kp.refl w7).alloc.trans hb8
  clear hb8
  go_wp2
  go_ret
  exact ⟨rfl, Kp.bel (by (focus ((repeat (first | (with_reducible assumption) | (with_reducible exact Kp.refl _) | (with_reducible apply Kp.drew) | (with_reducible apply Kp.drewN) | (with_reducible apply Kp.alloc) | ((with_reducible apply Kp.callK); (with_reducible assumption)))); done)))⟩
end Go.Proofs.Ytnallpdmdhbidaa
namespace Go.Proofs.Ytnallpdmdhbidaa
open Go.ChangeShapes Go.WideShapes Go.ChangeAt Go.RowKit
set_option linter.unusedVariables false
set_option linter.unusedSimpArgs false

theorem ok_pair (a b : Int) (q : Bool) (w : World) (h : okL [a, b] = q) : Calls Try.prog 11 #[.slice (some ⟨w.heap.size, 0, none⟩) 2 2] (w.alloc (.cells #[.int .i64 a, .int .i64 b] 25)) (fun e w' => e = .returned (.bool q) ∧ Kp w w') := by
  have hrb : RD (w.alloc (.cells #[.int .i64 a, .int .i64 b] 25)) eInt (.slice (some ⟨w.heap.size, 0, none⟩) 2 2) [a, b] := RD.block (l := [a, b]) (heap_alloc_new w _) rfl (by simp [maxLen])
  have := ok_any [a, b] _ _ hrb
  rw [h] at this
  exact this.mono fun e w' ⟨h1, h2⟩ => ⟨h1, by rw [← h2]; exact (Kp.refl w).alloc⟩
set_option maxRecDepth 100000 in
set_option maxHeartbeats 8000000 in
theorem growFirst_walk (l : List IP) (v : Value) (w : World) (hr : RD w ePair v l) : Calls Try.prog 7 #[v] w (Ret (.bool true) w) := by
  obtain ⟨A, c, rfl, hc, hm⟩ := hr.shape
  have HR := hide hr
  clear hr
  have HO1 := hide (fun W v h => order_any l 1 v W h (by decide))
  have HO3 := hide (fun W v h => order3_any l v W h)
  by_cases h0 : (parOf l).2 = 0
  · obtain ⟨f1, f2, f3, f4⟩ := grow_first l h0
    obtain ⟨A1, hA1⟩ : ∃ A1, A1 = told1 (treeOf l 0).1 := ⟨_, rfl⟩
    obtain ⟨A3, hA3⟩ : ∃ A3, A3 = told3 (treeOf l 0).1 := ⟨_, rfl⟩
    rw [← hA1] at f1 f3
    rw [← hA3] at f2 f4
    rw [f1] at HO1
    rw [f2] at HO3
    have HG1 := hide (fun W v h => growOf_any A1 v W h)
    have HG3 := hide (fun W v h => growOf_any A3 v W h)
    rw [f3] at HG1
    rw [f4] at HG3
    have HOK := hide (fun W => ok_pair 0 0 true W (by decide))
    clear h0 f1 f2 f3 f4 hA1 hA3
    go_enter Try.func7, Try.ntmps7
    go_wp2_with fail
    with_reducible refine ((HO1).out _ _ (HR.out)).mono ?_
    rintro e w1 ⟨v1, rfl, hr1, hb1⟩
    have kk1 := Kp.of hb1
    have HR1 := hide hr1
    clear hr1 hb1
    go_wp2_with fail
    with_reducible refine ((HO3).out _ _ ((HR.out.kp kk1))).mono ?_
    rintro e w2 ⟨v2, rfl, hr2, hb2⟩
    have kk2 := Kp.of hb2
    have HR2 := hide hr2
    clear hr2 hb2
    go_wp2_with fail
    with_reducible refine (growLives_any _).mono ?_
    rintro e w3 ⟨rfl, hb3⟩
    have kk3 := Kp.of hb3
    clear hb3
    go_wp2_with fail
    with_reducible refine (HOK.out _).mono ?_
    rintro e w4 ⟨rfl, kk4⟩
    go_wp2_with fail
    with_reducible refine ((HG1).out _ _ ((HR1.out.kp (kk2.trans (kk3.trans kk4))))).mono ?_
    rintro e w5 ⟨v5, rfl, hr5, hb5⟩
    have kk5 := Kp.of hb5
    have HR5 := hide hr5
    clear hr5 hb5
    go_wp2_with fail
    with_reducible refine ((HG3).out _ _ ((HR2.out.kp (kk3.trans (kk4.trans kk5))))).mono ?_
    rintro e w6 ⟨v6, rfl, hr6, hb6⟩
    have kk6 := Kp.of hb6
    have HR6 := hide hr6
    clear hr6 hb6
    go_wp2_with fail
    with_reducible refine (HOK.out _).mono ?_
    rintro e w7 ⟨rfl, kk7⟩
    have KW := kk1.trans (kk2.trans (kk3.trans (kk4.trans (kk5.trans (kk6.trans kk7)))))
    go_wp2_with fail
    with_reducible refine (eqSpots_to l l true _ _ _ (HR5.out.kp (kk6.trans kk7)) (HR.out.kp KW) (by simp)).mono ?_
    rintro e w8 ⟨rfl, hb8⟩
    have kk8 := Kp.of hb8
    go_wp2_with fail
    with_reducible refine (eqSpots_to l l true _ _ _ (HR6.out.kp (kk7.trans kk8)) (HR.out.kp (KW.trans kk8)) (by simp)).mono ?_
    rintro e w9 ⟨rfl, hb9⟩
    have kk9 := Kp.of hb9
    clear hb8 hb9
    go_wp2
    go_ret
    exact ⟨rfl, (KW.trans (kk8.trans kk9)).bel⟩
  · have e1 : orderOf l 1 = ([], (parOf l).2) := by rw [orderOf, if_pos h0]
    have e3 : orderOf l 3 = ([], (parOf l).2) := by rw [orderOf, if_pos h0]
    obtain ⟨r, hr⟩ : ∃ r, r = (parOf l).2 := ⟨_, rfl⟩
    rw [← hr] at e1 e3 h0
    rw [e1] at HO1
    rw [e3] at HO3
    have HOK := hide (fun W => ok_pair r r false W (by simp [okL, h0]))
    have d1 : (r == r) = true := by simp
    clear h0 e1 e3 hr
    go_enter Try.func7, Try.ntmps7
    go_wp2_with fail
    with_reducible refine ((HO1).out _ _ (HR.out)).mono ?_
    rintro e w1 ⟨v1, rfl, hr1, hb1⟩
    have kk1 := Kp.of hb1
    have HR1 := hide hr1
    clear hr1 hb1
    go_wp2_with fail
    with_reducible refine ((HO3).out _ _ ((HR.out.kp kk1))).mono ?_
    rintro e w2 ⟨v2, rfl, hr2, hb2⟩
    have kk2 := Kp.of hb2
    have HR2 := hide hr2
    clear hr2 hb2
    go_wp2_with fail
    with_reducible refine (growLives_any _).mono ?_
    rintro e w3 ⟨rfl, hb3⟩
    have kk3 := Kp.of hb3
    clear hb3
    go_wp2_with fail
    with_reducible refine (HOK.out _).mono ?_
    rintro e w4 ⟨rfl, kk4⟩
    go_wp2_with fail
    with_reducible refine (growLives_any _).mono ?_
    rintro e w5 ⟨rfl, hb5⟩
    have kk5 := Kp.of hb5
    clear hb5
    go_wp2
    go_ret
    exact ⟨rfl, (kk1.trans (kk2.trans (kk3.trans (kk4.trans kk5)))).bel⟩
end Go.Proofs.Ytnallpdmdhbidaa
namespace Go.Proofs.Ytnallpdmdhbidaa
open Go.ChangeShapes Go.WideShapes Go.ChangeAt Go.RowKit Go.Deep
set_option linter.unusedVariables false
set_option linter.unusedSimpArgs false

set_option maxRecDepth 100000 in
theorem growFirst_lifted (os : Os) (started : os.Started) (H : Type) (enc : TypeId × Value → H) :
    ReturnsInHanded {} Try.checked os 7 .any (Rows.growFirstSpec.pre6 enc Try.prog Try.f7 Rows.growFirstRow.domain false) (Rows.growFirstSpec.post enc Try.prog Try.f7 false true false false) := by
  refine returnsInHanded_of_change (C := Try.checked) own started (by kernel_rfl) Try.func7
    (ChangeSpec.witness6 (enc := enc) (C := Try.checked) false ⟨#[], #[.slice none 0 0], []⟩ 8 (by kernel_rfl) (by kernel_rfl) (by kernel_rfl) (by kernel_rfl)) ?_
  intro W base args ds gs before hval0 hW hcnd _
  have hval : ∀ (j : Nat) t v, Try.f7.params[j]? = some t → args[j]? = some v → Value.okWide Try.prog W .any base t v := hval0
  have hW' := hW
  obtain ⟨p, q, hA0, hV, rfl, hfz, hnd⟩ := hW
  have hA : DataW.TrodAll enc Try.prog W 0 (fun _ => true) true Try.f7.params.toList args.toList ds p := hA0
  rw [Try.params7] at hA hval
  obtain ⟨v0, vs0, d0, ds0, p0, q0, hargs, rfl, rfl, h0, r0⟩ := trodAll_cons hA
  obtain ⟨rfl, rfl, rfl⟩ := trodAll_nil r0
  obtain rfl : args = #[v0] := by cases args; simp_all
  obtain ⟨rfl, rfl⟩ := trodVars_none hV
  obtain ⟨a0, n0, c0, rfl⟩ := okWide_slice Try.underlying24 (hval 0 24 v0 rfl rfl)
  have lt0 : ∀ x ∈ p0, x.block < W.heap.size := by obtain ⟨m, hm⟩ := h0; exact DataW.trod_lt m _ _ _ hm
  obtain ⟨l0, w0⟩ := arg_spots h0
  clear hA0 hval0
  refine (growFirst_walk l0 _ W w0).mono fun e W' ⟨he, bel⟩ => ?_
  subst he
  exact ⟨_, rfl, _, _, _, [], _, [], hW', trodAll_mk1 (shut_bool Try.underlying4 _), (trodAll_cons_mk (Below.trod laidOut (by kernel_rfl) (of_decide_eq_true (by kernel_rfl)) h0 bel lt0) trodAll_mk0), rfl, bel.frame _, fun h => by cases h⟩

set_option maxRecDepth 100000 in
set_option maxHeartbeats 8000000 in
theorem growFirst_closed : joinedFacts Try.checked.prog 7 Try.f7 Rows.growFirstSpec Rows.growFirstRow = true := by
  unfold joinedFacts
  repeat' (with_reducible refine and_true_of ?_ ?_)
  all_goals (as_aux_lemma => kernel_rfl)
theorem growFirst_over : Rows.growFirstRow.holds Try.pinned (OpenSpec.ofChange Rows.growFirstSpec) :=
  OpenClaim.holds_of_wide 7 Try.f7 rfl rfl rfl rfl rfl rfl rfl ⟨rfl, rfl, rfl, rfl, rfl⟩ rfl rfl rfl rfl rfl (by as_aux_lemma => kernel_rfl) Try.func7 growFirst_closed
    (of_decide_eq_true (by as_aux_lemma => kernel_rfl)) (by as_aux_lemma => unfold Func.isWrapper; first | (rw [if_pos (by decide +kernel)]; kernel_rfl) | (rw [if_neg (by decide +kernel)]; exact ⟨rfl, rfl⟩))
    (fun os started H enc _ => growFirst_lifted os started H enc)
theorem growFirst_proved : Rows.GrowFirstSaid := growFirst_over
#print axioms growFirst_proved
end Go.Proofs.Ytnallpdmdhbidaa
