/-
  hedglaw.VineSays: the walk: it answers true. Conditions: the list reads as l (RD).
-/
import Derived.Test.YtnpogfodopodoaaVLaw
import Derived.Test.YtnpogfodopodoaaVEven
import Derived.Test.YtnpogfodopodoaaVEvened
import Derived.Test.YtnpogfodopodoaaSame
namespace Go.Proofs.Ytnpogfodopodoaa
open Go.ChangeShapes Go.WideShapes Go.ChangeAt Go.RowKit
set_option linter.unusedVariables false
set_option linter.unusedSimpArgs false

set_option maxRecDepth 100000 in
set_option maxHeartbeats 8000000 in
theorem vineSays_walk (l : List IP) (v : Value) (w : World) (hr : RD w ePair v l) : Calls Try.prog 3 #[v] w (Ret (.bool true) w) := by
  obtain ⟨A, c, rfl, hc, hm⟩ := hr.shape
  have HR := hide hr
  clear hr
  have HVV := hide (fun W v h => vineVine_any l v W h)
  have HVE := hide (fun W v h => vineEven_any l v W h)
  have HSR := hide (fun W v h => spotsRight_any l v W h)
  by_cases h0 : (parOf l).2 = 0
  · obtain ⟨t, ht, e1, e2, e3, e4⟩ := vine_facts h0
    have hlen := mapRight_len l ht.right
    have eu := up_facts h0
    have ev : evenOf l = ((evenT (l.map Prod.fst)).spotsBy id 0, (upE (vineT l) : Int), 0) := by rw [evenOf, if_neg (by simp [h0]), e3]
    have evo : vineOf l = (toldT (vineT l), 0) := by rw [vineOf, h0]
    have HTO := hide (fun W v h => treeOf_any l.length l v 0 W (Nat.le_refl _) (by omega) (by omega) (by omega) h)
    have HEV := hide (fun W v h => evened_any l v W h hlen)
    unfold EvPost at HEV
    have htok := treeOf_spots l h0
    obtain ⟨T0, hT0⟩ : ∃ T, T = vineT l := ⟨_, rfl⟩
    obtain ⟨U, hU⟩ : ∃ U, U = upE (vineT l) := ⟨_, rfl⟩
    obtain ⟨Te, hTe⟩ : ∃ T, T = evenT (l.map Prod.fst) := ⟨_, rfl⟩
    have hps : Hid (Te.spotsBy id 0 = (ofM Te).spots 0) := hide (by rw [← toM_spots, toM_ofM])
    have hsz : (ofM Te).size ≤ 1000 := by
      rw [← toM_size, toM_ofM, ← keysM_len id, hTe, keys_even]; simp; omega
    obtain ⟨⟨t0, ok0⟩, hP⟩ : ∃ P, P = treeOf l 0 := ⟨_, rfl⟩
    rw [← hP] at HTO e2 htok
    simp only at e2 htok
    obtain ⟨_, rfl⟩ := htok
    have hT1 : Hid (ofM T0 = t0) := hide (by rw [hT0, ← e2, ofM_toM])
    have hts : T0.size ≤ 200 := by rw [hT0, e4]; omega
    rw [evo] at HVV
    rw [ev] at HVE
    rw [eu, ← hU] at HEV
    rw [← hU] at HVE
    rw [← hT0] at HVV
    rw [← hTe] at HVE HEV
    rw [h0] at HSR
    have HVK := hide (fun p W h => vineKeys_any T0 p W h (by omega))
    have b0 : ((0 : Int) != 0) = false := by decide
    have b1 : ((0 : Int) == 0) = true := by decide
    clear h0 ht e1 e2 e3 e4 eu ev evo hT0 hU hTe hP
    go_enter Try.func3, Try.ntmps3
    go_wp2_with fail
    with_reducible refine ((HVV).out _ _ (HR.out)).mono ?_
    rintro e w1 ⟨v1, rfl, hr1, hb1⟩
    have kk1 := Kp.of hb1
    have HR1 := hide hr1
    clear hr1 hb1
    obtain ⟨A1, c1, rfl, _, _⟩ := HR1.out.shape
    go_wp2_with fail
    with_reducible refine (HVE.out _ _ (HR.out.kp kk1)).mono ?_
    rintro e w2 ⟨v2, rfl, hr2, kk2⟩
    obtain ⟨A2, c2, rfl, _, _⟩ := hr2.shape
    have HR2 := hide hr2
    clear hr2
    go_wp2_with fail
    with_reducible refine (HSR.out _ _ (HR.out.kp (kk1.trans kk2))).mono ?_
    rintro e w3 ⟨rfl, hb3⟩
    have kk3 := Kp.of hb3
    clear hb3
    go_wp2_with fail
    with_reducible refine (HTO.out _ _ (HR.out.kp (kk1.trans (kk2.trans kk3)))).mono ?_
    rintro e w4 ⟨p4, rfl, ht4, hb4⟩
    have kk4 := Kp.of hb4
    have HT4 : Hid (TM w4 T0 p4) := hide (by unfold TM; rw [hT1.out]; exact ht4)
    clear ht4 hb4
    go_wp2_with fail
    with_reducible refine (HEV.out _ _ (HR.out.kp (kk1.trans (kk2.trans (kk3.trans kk4))))).mono ?_
    rintro e w5 ⟨p5, rfl, ht5, hb5⟩
    have kk5 := Kp.of hb5
    have HT5 := hide ht5
    clear ht5 hb5
    go_wp2_with fail
    with_reducible refine (HVK.out _ _ (HT4.out.kp kk5)).mono ?_
    rintro e w6 ⟨v6, rfl, ho6, hb6⟩
    have kk6 := Kp.of hb6
    have HR6 := hide ho6.rd
    clear ho6 hb6
    go_wp2_with fail
    with_reducible refine (sameInts_to (toldT T0) (toldT T0) true _ _ _ (HR1.out.kp (kk2.trans (kk3.trans (kk4.trans (kk5.trans kk6))))) HR6.out (by simp)).mono ?_
    rintro e w7 ⟨rfl, hb7⟩
    have kk7 := Kp.of hb7
    clear hb7
    have KW := hide (kk1.trans (kk2.trans (kk3.trans (kk4.trans (kk5.trans (kk6.trans kk7))))))
    have HR27 := hide (HR2.out.kp (kk3.trans (kk4.trans (kk5.trans (kk6.trans kk7)))))
    have HT57 : Hid (TR w7 (ofM Te) p5) := hide (HT5.out.kp (kk6.trans kk7))
    clear kk1 kk2 kk3 kk4 kk5 kk6 kk7
    go_wp2_with fail
    with_reducible refine (spots_any (ofM Te) p5 0 _ HT57.out (by omega) (by omega)).mono ?_
    rintro e w8 ⟨v8, rfl, ho8, hb8⟩
    have kk8 := Kp.of hb8
    have HR8 := hide ho8.rd
    clear ho8 hb8
    go_wp2_with fail
    with_reducible refine (sameSpots_to (Te.spotsBy id 0) ((ofM Te).spots 0) true _ _ _ (HR27.out.kp kk8) HR8.out (by simp [hps.out])).mono ?_
    rintro e w9 ⟨rfl, hb9⟩
    have kk9 := Kp.of hb9
    clear hb9
    go_wp2
    go_ret
    exact ⟨by simp, (KW.out.trans (kk8.trans kk9)).bel⟩
  · obtain ⟨y, hy⟩ : ∃ y, y = (parOf l).2 := ⟨_, rfl⟩
    have ev : evenOf l = ([], 0, y) := by rw [evenOf, if_pos h0, hy]
    have evo : vineOf l = ([], y) := by rw [vineOf, vineT, if_pos h0, hy]; rfl
    rw [evo] at HVV
    rw [ev] at HVE
    rw [← hy] at HSR h0
    have b0 : (y != 0) = true := by simpa using h0
    have b1 : (y == y) = true := by simp
    clear ev evo hy h0
    go_enter Try.func3, Try.ntmps3
    go_wp2_with fail
    with_reducible refine ((HVV).out _ _ (HR.out)).mono ?_
    rintro e w1 ⟨v1, rfl, hr1, hb1⟩
    have kk1 := Kp.of hb1
    have HR1 := hide hr1
    clear hr1 hb1
    obtain ⟨A1, c1, rfl, _, _⟩ := HR1.out.shape
    go_wp2_with fail
    with_reducible refine (HVE.out _ _ (HR.out.kp kk1)).mono ?_
    rintro e w2 ⟨v2, rfl, hr2, kk2⟩
    obtain ⟨A2, c2, rfl, _, _⟩ := hr2.shape
    clear hr2
    go_wp2_with fail
    with_reducible refine (HSR.out _ _ (HR.out.kp (kk1.trans kk2))).mono ?_
    rintro e w3 ⟨rfl, hb3⟩
    have kk3 := Kp.of hb3
    clear hb3
    go_wp2
    go_ret
    exact ⟨by simp, (kk1.trans (kk2.trans kk3)).bel⟩
end Go.Proofs.Ytnpogfodopodoaa
