/-
  hedgkeep.VineOne: the walk: it answers true. Conditions: the list reads as l (RD); the key is an int.
-/
import Derived.Test.YtnpogfodopodoaaVLives
namespace Go.Proofs.Ytnpogfodopodoaa
open Go.ChangeShapes Go.WideShapes Go.ChangeAt Go.RowKit
set_option linter.unusedVariables false
set_option linter.unusedSimpArgs false

theorem evenOf_keys {a b : List IP} (ha : (parOf a).2 = 0) (hb : (parOf b).2 = 0) (h : a.map Prod.fst = b.map Prod.fst) : (evenOf a).1 = (evenOf b).1 := by
  obtain ⟨_, _, _, _, e1, _⟩ := vine_facts ha
  obtain ⟨_, _, _, _, e2, _⟩ := vine_facts hb
  rw [evenOf, evenOf, if_neg (by simp [ha]), if_neg (by simp [hb]), e1, e2, h]

set_option maxRecDepth 100000 in
set_option maxHeartbeats 8000000 in
theorem vineOne_walk (l : List IP) (key : Int) (v : Value) (w : World) (hr : RD w ePair v l) (hkey : -9223372036854775808 ≤ key ∧ key ≤ 9223372036854775807) : Calls Try.prog 7 #[v, .int .i64 key] w (Ret (.bool true) w) := by
  obtain ⟨A, c, rfl, hc, hm⟩ := hr.shape
  have HR := hide hr
  clear hr hkey
  have HTU := hide (fun W v h => turn_any l key v W h)
  have HEL := hide (fun W v h => vineEven_any l v W h)
  by_cases h0 : (turnOf l key).2 = 0
  · obtain ⟨t, a, p, ht, hpe, ha, hi, hk, hp, hup, htu⟩ := turnOf_ok l key h0
    obtain ⟨hts, _, _, _⟩ := ht.turn ha hp
    obtain ⟨s, hse⟩ : ∃ s, s = turnL l (t.pars (-1)) a p := ⟨_, rfl⟩
    have hp0 : (parOf l).2 = 0 := by rw [hpe]
    have hs0 : (parOf s).2 = 0 := by rw [hse]; rw [hts.par.2]
    have hkk : s.map Prod.fst = l.map Prod.fst := by rw [hse, turnL_keys]
    have hev := evenOf_keys hp0 hs0 hkk.symm
    have e1 : (evenOf l).2.2 = 0 := by rw [evenOf, if_neg (by simp [hp0])]
    have e2 : (evenOf s).2.2 = 0 := by rw [evenOf, if_neg (by simp [hs0])]
    have HES := hide (fun W v h => vineEven_any s v W h)
    rw [htu, ← hse] at HTU
    obtain ⟨⟨E, u1, f1⟩, hE⟩ : ∃ P, P = evenOf l := ⟨_, rfl⟩
    obtain ⟨⟨E2, u2, f2⟩, hE2⟩ : ∃ P, P = evenOf s := ⟨_, rfl⟩
    rw [← hE] at HEL hev e1
    rw [← hE2] at HES hev e2
    simp only at hev e1 e2
    subst hev e1 e2
    clear h0 ht hpe hi hk hp hup htu hts hse hp0 hs0 hkk hE hE2
    go_enter Try.func7, Try.ntmps7
    go_wp2_with fail
    with_reducible refine ((HTU).out _ _ (HR.out)).mono ?_
    rintro e w1 ⟨v1, rfl, hr1, hb1⟩
    have kk1 := Kp.of hb1
    have HR1 := hide hr1
    clear hr1 hb1
    obtain ⟨A1, c1, rfl, _, _⟩ := HR1.out.shape
    go_wp2_with fail
    with_reducible refine (HEL.out _ _ (HR.out.kp kk1)).mono ?_
    rintro e w2 ⟨v2, rfl, hr2, kk2⟩
    obtain ⟨A2, c2, rfl, _, _⟩ := hr2.shape
    have HR2 := hide hr2
    clear hr2
    go_wp2_with fail
    with_reducible refine (HES.out _ _ (HR1.out.kp kk2)).mono ?_
    rintro e w3 ⟨v3, rfl, hr3, kk3⟩
    obtain ⟨A3, c3, rfl, _, _⟩ := hr3.shape
    have HR3 := hide hr3
    clear hr3
    go_wp2_with fail
    with_reducible refine (vineLives_any _).mono ?_
    rintro e w4 ⟨rfl, hb4⟩
    have kk4 := Kp.of hb4
    clear hb4
    go_wp2_with fail
    refine (ok_any [0, 0] _ _ (RD.block (l := [0, 0]) (heap_alloc_new w4 _) rfl (by simp [maxLen]))).mono ?_
    rintro e w5 ⟨rfl, hw5⟩
    have kk5 : Kp w4 w5 := by rw [← hw5]; exact (Kp.refl w4).alloc
    clear hw5
    have hok := okL_ok2
    go_wp2_with fail
    with_reducible refine (eqSpots_to E E true _ _ _ (HR2.out.kp (kk3.trans (kk4.trans kk5))) (HR3.out.kp (kk4.trans kk5)) (by simp)).mono ?_
    rintro e w6 ⟨rfl, hb6⟩
    have kk6 := Kp.of hb6
    go_wp2
    go_ret
    exact ⟨by simp, (kk1.trans (kk2.trans (kk3.trans (kk4.trans (kk5.trans kk6))))).bel⟩
  · have hb := turnOf_bad l key h0
    obtain ⟨⟨s, r⟩, hs⟩ : ∃ P, P = turnOf l key := ⟨_, rfl⟩
    rw [← hs] at HTU hb h0
    simp only at hb h0
    subst hb
    have HES := hide (fun W v h => vineEven_any [] v W h)
    obtain ⟨⟨E, u1, f1⟩, hE⟩ : ∃ P, P = evenOf l := ⟨_, rfl⟩
    obtain ⟨⟨E2, u2, f2⟩, hE2⟩ : ∃ P, P = evenOf [] := ⟨_, rfl⟩
    rw [← hE] at HEL
    rw [← hE2] at HES
    have hne : (r != 0) = true := by simp [h0]
    clear hs h0 hE hE2
    go_enter Try.func7, Try.ntmps7
    go_wp2_with fail
    with_reducible refine ((HTU).out _ _ (HR.out)).mono ?_
    rintro e w1 ⟨v1, rfl, hr1, hb1⟩
    have kk1 := Kp.of hb1
    have HR1 := hide hr1
    clear hr1 hb1
    obtain ⟨A1, c1, rfl, _, _⟩ := HR1.out.shape
    have HR9 : Hid (RD w1 ePair (.slice A1 0 c1) []) := HR1
    go_wp2_with fail
    with_reducible refine (HEL.out _ _ (HR.out.kp kk1)).mono ?_
    rintro e w2 ⟨v2, rfl, hr2, kk2⟩
    obtain ⟨A2, c2, rfl, _, _⟩ := hr2.shape
    clear hr2
    go_wp2_with fail
    with_reducible refine (HES.out _ (.slice A1 0 c1) (HR9.out.kp kk2)).mono ?_
    rintro e w3 ⟨v3, rfl, hr3, kk3⟩
    obtain ⟨A3, c3, rfl, _, _⟩ := hr3.shape
    clear hr3
    go_wp2_with fail
    with_reducible refine (vineLives_any _).mono ?_
    rintro e w4 ⟨rfl, hb4⟩
    have kk4 := Kp.of hb4
    clear hb4
    go_wp2
    go_ret
    exact ⟨by simp, (kk1.trans (kk2.trans (kk3.trans kk4))).bel⟩
end Go.Proofs.Ytnpogfodopodoaa
