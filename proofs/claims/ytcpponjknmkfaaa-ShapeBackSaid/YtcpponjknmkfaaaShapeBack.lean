/-
  hedgkeep.ShapeBack: the walk: it answers true. Conditions: the lists read as l and first (RD).
-/
import Derived.Test.YtcpponjknmkfaaaBackLaw
import Derived.Test.YtcpponjknmkfaaaShapeLives
namespace Go.Proofs.Ytcpponjknmkfaaa
open Go.ChangeShapes Go.WideShapes Go.ChangeAt Go.RowKit
set_option linter.unusedVariables false
set_option linter.unusedSimpArgs false

theorem order_bad (l : List IP) (h : (parOf l).2 ≠ 0) : orderOf l 1 = ([], (parOf l).2) := by rw [orderOf, if_pos h]
set_option maxRecDepth 100000 in
set_option maxHeartbeats 8000000 in
theorem shapeBack_walk (l : List IP) (first : List Int) (v u : Value) (w : World) (hr : RD w ePair v l) (hu : RD w eInt u first) : Calls Try.prog 4 #[v, u] w (Ret (.bool true) w) := by
  obtain ⟨A, c, rfl, hc, hm⟩ := hr.shape
  have HR := hide hr
  have HRF := hide hu
  clear hr hu
  have HOR := hide (fun W v h => order_any l 1 v W h (by decide))
  have HOF := hide (fun W v h => shapeOf_any first v W h)
  by_cases h0 : (parOf l).2 = 0
  · have ho : orderOf l 1 = (walkF l false 0 l.length, 0) := by rw [orderOf, if_neg (by simp [h0]), if_pos rfl]
    have hb := back_of l h0
    obtain ⟨o, hoe⟩ : ∃ o, o = walkF l false 0 l.length := ⟨_, rfl⟩
    rw [← hoe] at ho hb
    have HOF1 := hide (fun W v h => shapeOf_any o v W h)
    rw [ho] at HOR
    rw [hb] at HOF1
    clear ho hb hoe h0
    go_enter Try.func4, Try.ntmps4
    go_wp2_with fail
    with_reducible refine ((HOR).out _ _ (HR.out)).mono ?_
    rintro e w1 ⟨v1, rfl, hr1, hb1⟩
    have kk1 := Kp.of hb1
    have HR1 := hide hr1
    clear hr1 hb1
    go_wp2_with fail
    with_reducible refine ((HOF1).out _ _ (HR1.out)).mono ?_
    rintro e w2 ⟨v2, rfl, hr2, hb2⟩
    have kk2 := Kp.of hb2
    have HR2 := hide hr2
    clear hr2 hb2
    go_wp2_with fail
    with_reducible refine (eqSpots_to l l true _ _ _ HR2.out (HR.out.kp (kk1.trans kk2)) (by simp)).mono ?_
    rintro e w3 ⟨rfl, hb3⟩
    have KW : Hid (Kp w w3) := hide (kk1.trans (kk2.trans hb3))
    clear hb3
    by_cases hf : (shapeOf first).2 = 0
    · obtain ⟨q1, q2⟩ := back_to first hf
      obtain ⟨⟨s, r2⟩, hs⟩ : ∃ P, P = shapeOf first := ⟨_, rfl⟩
      rw [← hs] at HOF q1 q2 hf
      simp only at q1 q2 hf
      subst hf
      have HO2 := hide (fun W v h => order_any s 1 v W h (by decide))
      have HCK := hide (fun W v h => shapeCheck_any s v W h)
      rw [q1] at HO2
      rw [q2] at HCK
      clear hs q1 q2
      go_wp2_with fail
      with_reducible refine ((HOF).out _ _ ((HRF.out.kp (KW.out)))).mono ?_
      rintro e w5 ⟨v5, rfl, hr5, hb5⟩
      have kk5 := Kp.of hb5
      have HR5 := hide hr5
      clear hr5 hb5
      go_wp2_with fail
      with_reducible refine (shapeLives_any _).mono ?_
      rintro e w6 ⟨rfl, hb6⟩
      have kk6 := Kp.of hb6
      clear hb6
      go_wp2_with fail
      with_reducible refine ((HO2).out _ _ ((HR5.out.kp kk6))).mono ?_
      rintro e w7 ⟨v7, rfl, hr7, hb7⟩
      have kk7 := Kp.of hb7
      have HR7 := hide hr7
      clear hr7 hb7
      go_wp2_with fail
      with_reducible refine (eqInts_to first first true _ _ _ HR7.out (HRF.out.kp (KW.out.trans (kk5.trans (kk6.trans kk7)))) (by simp)).mono ?_
      rintro e w8 ⟨rfl, hb8⟩
      have kk8 := Kp.of hb8
      clear hb8
      go_wp2_with fail
      with_reducible refine (HCK.out _ _ (HR5.out.kp (kk6.trans (kk7.trans kk8)))).mono ?_
      rintro e w9 ⟨rfl, hb9⟩
      have kk9 := Kp.of hb9
      clear hb9
      go_wp2
      go_ret
      exact ⟨rfl, (KW.out.trans (kk5.trans (kk6.trans (kk7.trans (kk8.trans kk9))))).bel⟩
    · have q1 := shapeOf_bad first hf
      obtain ⟨⟨s, r2⟩, hs⟩ : ∃ P, P = shapeOf first := ⟨_, rfl⟩
      rw [← hs] at HOF q1 hf
      simp only at q1 hf
      subst q1
      have hne : (r2 != 0) = true := by simp [hf]
      clear hs hf
      go_wp2_with fail
      with_reducible refine ((HOF).out _ _ ((HRF.out.kp (KW.out)))).mono ?_
      rintro e w5 ⟨v5, rfl, hr5, hb5⟩
      have kk5 := Kp.of hb5
      have HR5 := hide hr5
      clear hr5 hb5
      obtain ⟨A5, c5, rfl, _, _⟩ := HR5.out.shape
      go_wp2_with fail
      with_reducible refine (shapeLives_any _).mono ?_
      rintro e w6 ⟨rfl, hb6⟩
      have kk6 := Kp.of hb6
      clear hb6
      go_wp2_with fail
      with_reducible refine (shapeLives_any _).mono ?_
      rintro e w7 ⟨rfl, hb7⟩
      have kk7 := Kp.of hb7
      clear hb7
      go_wp2
      go_ret
      exact ⟨rfl, (KW.out.trans (kk5.trans (kk6.trans kk7))).bel⟩
  · have ho := order_bad l h0
    obtain ⟨r, hr⟩ : ∃ r, r = (parOf l).2 := ⟨_, rfl⟩
    rw [← hr] at ho h0
    rw [ho] at HOR
    have hne0 : (r == 0) = false := by simp [h0]
    clear ho hr h0
    go_enter Try.func4, Try.ntmps4
    go_wp2_with fail
    with_reducible refine ((HOR).out _ _ (HR.out)).mono ?_
    rintro e w1 ⟨v1, rfl, hr1, hb1⟩
    have kk1 := Kp.of hb1
    have HR1 := hide hr1
    clear hr1 hb1
    have KW : Hid (Kp w w1) := hide kk1
    by_cases hf : (shapeOf first).2 = 0
    · obtain ⟨q1, q2⟩ := back_to first hf
      obtain ⟨⟨s, r2⟩, hs⟩ : ∃ P, P = shapeOf first := ⟨_, rfl⟩
      rw [← hs] at HOF q1 q2 hf
      simp only at q1 q2 hf
      subst hf
      have HO2 := hide (fun W v h => order_any s 1 v W h (by decide))
      have HCK := hide (fun W v h => shapeCheck_any s v W h)
      rw [q1] at HO2
      rw [q2] at HCK
      clear hs q1 q2
      go_wp2_with fail
      with_reducible refine ((HOF).out _ _ ((HRF.out.kp (KW.out)))).mono ?_
      rintro e w5 ⟨v5, rfl, hr5, hb5⟩
      have kk5 := Kp.of hb5
      have HR5 := hide hr5
      clear hr5 hb5
      go_wp2_with fail
      with_reducible refine (shapeLives_any _).mono ?_
      rintro e w6 ⟨rfl, hb6⟩
      have kk6 := Kp.of hb6
      clear hb6
      go_wp2_with fail
      with_reducible refine ((HO2).out _ _ ((HR5.out.kp kk6))).mono ?_
      rintro e w7 ⟨v7, rfl, hr7, hb7⟩
      have kk7 := Kp.of hb7
      have HR7 := hide hr7
      clear hr7 hb7
      go_wp2_with fail
      with_reducible refine (eqInts_to first first true _ _ _ HR7.out (HRF.out.kp (KW.out.trans (kk5.trans (kk6.trans kk7)))) (by simp)).mono ?_
      rintro e w8 ⟨rfl, hb8⟩
      have kk8 := Kp.of hb8
      clear hb8
      go_wp2_with fail
      with_reducible refine (HCK.out _ _ (HR5.out.kp (kk6.trans (kk7.trans kk8)))).mono ?_
      rintro e w9 ⟨rfl, hb9⟩
      have kk9 := Kp.of hb9
      clear hb9
      go_wp2
      go_ret
      exact ⟨rfl, (KW.out.trans (kk5.trans (kk6.trans (kk7.trans (kk8.trans kk9))))).bel⟩
    · have q1 := shapeOf_bad first hf
      obtain ⟨⟨s, r2⟩, hs⟩ : ∃ P, P = shapeOf first := ⟨_, rfl⟩
      rw [← hs] at HOF q1 hf
      simp only at q1 hf
      subst q1
      have hne : (r2 != 0) = true := by simp [hf]
      clear hs hf
      go_wp2_with fail
      with_reducible refine ((HOF).out _ _ ((HRF.out.kp (KW.out)))).mono ?_
      rintro e w5 ⟨v5, rfl, hr5, hb5⟩
      have kk5 := Kp.of hb5
      have HR5 := hide hr5
      clear hr5 hb5
      obtain ⟨A5, c5, rfl, _, _⟩ := HR5.out.shape
      go_wp2_with fail
      with_reducible refine (shapeLives_any _).mono ?_
      rintro e w6 ⟨rfl, hb6⟩
      have kk6 := Kp.of hb6
      clear hb6
      go_wp2_with fail
      with_reducible refine (shapeLives_any _).mono ?_
      rintro e w7 ⟨rfl, hb7⟩
      have kk7 := Kp.of hb7
      clear hb7
      go_wp2
      go_ret
      exact ⟨rfl, (KW.out.trans (kk5.trans (kk6.trans kk7))).bel⟩
end Go.Proofs.Ytcpponjknmkfaaa
