/-
  hedgkeep.ShapeTurned: the walk: it answers true. Conditions: the list reads as l (RD).
-/
import Derived.Test.YtcpponjknmkfaaaTurnLaw
import Derived.Test.YtcpponjknmkfaaaShapeSums
namespace Go.Proofs.Ytcpponjknmkfaaa
open Go.ChangeShapes Go.WideShapes Go.ChangeAt Go.RowKit
set_option linter.unusedVariables false
set_option linter.unusedSimpArgs false

def CtR (n : Nat) (w : World) (i : Value) (wr : World) : Prop := ∃ k : Nat, k ≤ n ∧ i = .int .i64 k ∧ Kp w wr
set_option maxRecDepth 100000 in
set_option maxHeartbeats 8000000 in
theorem shapeTurned_walk (l : List IP) (key : Int) (v : Value) (w : World) (hr : RD w ePair v l) (hkey : -9223372036854775808 ≤ key ∧ key ≤ 9223372036854775807) : Calls Try.prog 5 #[v, .int .i64 key] w (Ret (.bool true) w) := by
  obtain ⟨A, c, rfl, hc, hm⟩ := hr.shape
  have HR := hide hr
  clear hr hkey
  have HTU := hide (fun W v h => turn_any l key v W h)
  have HPA := hide (fun W v h => shapeParents_any l v W h)
  have HIX := hide (fun a W h hc => idxTurned_any l (.slice A l.length c) key a W h hc)
  by_cases h0 : (turnOf l key).2 = 0
  · obtain ⟨t, a, p, ht, hpe, ha, hi, hk, hp, hup, htu⟩ := turnOf_ok l key h0
    obtain ⟨hts, hpl, _, _⟩ := ht.turn ha hp
    have hback := turn_back ht ha hp hpl
    have hsl := turnL_len l (t.pars (-1)) a p
    have hlen := mapRight_len l ht.right
    have hsk : ∀ k (h1 : k < l.length), (turnL l (t.pars (-1)) a p)[k]'(by rw [hsl]; exact h1) = (l[k].1, l[k].2 + adj t a p k) := fun k h1 => by
      rw [turnL_at l _ a p k h1, turnD_adj t ht.at0 a p k (by rw [ht.size]; exact h1)]
    have hgb := gv_bound l (by rw [hpe])
    have hUl := PT.pars_len t (-1)
    have hUl2 : (t.pars (-1)).length = l.length := by rw [hUl, ht.size]
    have hUa : ∀ h : a < (t.pars (-1)).length, (t.pars (-1))[a]'h = p := fun h => by simpa [List.getD_eq_getElem?_getD, List.getElem?_eq_getElem h] using hup
    obtain ⟨s, hse⟩ : ∃ s, s = turnL l (t.pars (-1)) a p := ⟨_, rfl⟩
    obtain ⟨U, hU⟩ : ∃ U, U = t.pars (-1) := ⟨_, rfl⟩
    have hchk : (parOf s).2 = 0 := by rw [hse]; rw [hts.par.2]
    rw [htu] at HTU
    rw [hpe] at HPA
    rw [hi] at HIX
    rw [← hse] at HTU hback hsl
    rw [← hU] at HPA hUl2
    have HTB := hide (fun W v h => turn_any s l[p].1 v W h)
    rw [hback] at HTB
    have HCK := hide (fun W v h => shapeCheck_any s v W h)
    rw [hchk] at HCK
    have HSK : Hid (∀ k (h1 : k < l.length) (h2 : k < s.length), s[k]'h2 = (l[k].1, l[k].2 + adj t a p k)) := hide (fun k h1 h2 => by simp only [hse]; exact hsk k h1)
    have HUA : Hid (∀ h : a < U.length, U[a]'h = p) := hide (by rw [hU]; exact hUa)
    have HSL := hide hsl
    have HUL := hide hUl2
    have HGB := hide hgb
    have HADJ := hide (adj_in t a p)
    have b0 : decide ((a : Int) < 0) = false := by simp <;> omega
    have b1 : decide ((p : Int) < 0) = false := by simp <;> omega
    have b2 : ((s.length : Int) != (l.length : Int)) = false := by rw [hsl]; simp
    have haU : a < U.length := by rw [hUl2]; exact ha
    have haU' : (a : Int) < (U.length : Int) := by omega
    have hpl' : (p : Int) < (l.length : Int) := by omega
    clear h0 ht hpe hi hk hp hup htu hts hback hsl hsk hgb hUl hUl2 hUa hse hU hchk
    go_enter Try.func5, Try.ntmps5
    go_wp2_with fail
    with_reducible refine ((HTU).out _ _ ((HR.out.alloc _))).mono ?_
    rintro e w1 ⟨v1, rfl, hr1, hb1⟩
    have kk1 := Kp.of hb1
    have HR1 := hide hr1
    clear hr1 hb1
    have kc := kk1.cell (p := ⟨w.heap.size, 0, none⟩) (u := .int .i64 key) (by simp [go_sem])
    have K1 : Kp w w1 := (Kp.refl w).alloc.trans kk1
    obtain ⟨As, cs, rfl, _, hms⟩ := HR1.out.shape
    go_wp2_with fail
    with_reducible refine ((HPA).out _ _ ((HR.out.kp K1))).mono ?_
    rintro e w2 ⟨v2, rfl, hr2, hb2⟩
    have kk2 := Kp.of hb2
    have HR2 := hide hr2
    clear hr2 hb2
    obtain ⟨Au, cu, rfl, _, hmu⟩ := HR2.out.shape
    go_wp2_with fail
    with_reducible refine (shapeLives_any _).mono ?_
    rintro e w3 ⟨rfl, hb3⟩
    have kk3 := Kp.of hb3
    clear hb3
    have kc3 := (kk2.trans kk3).cell kc
    clear kc
    go_wp2_with fail
    with_reducible refine (HIX.out _ _ (HR.out.kp (K1.trans (kk2.trans kk3))) kc3).mono ?_
    rintro e w4 ⟨rfl, hb4⟩
    have kk4 := Kp.of hb4
    clear hb4 kc3
    have K14 := kk2.trans (kk3.trans kk4)
    have HU4 := hide (HR2.out.kp (kk3.trans kk4))
    obtain ⟨bu, ou, rfl, _, u0⟩ := HU4.out.int haU
    rw [HUA.out haU] at u0
    go_wp2_with fail
    with_reducible refine (HCK.out _ _ (HR1.out.kp K14)).mono ?_
    rintro e w5 ⟨rfl, hb5⟩
    have kk5 := Kp.of hb5
    have KW := hide (K1.trans (K14.trans kk5))
    have HS5 := hide (HR1.out.kp (K14.trans kk5))
    have u5 := kk5.cell u0
    clear hb5 kk1 kk2 kk3 kk4 K1 K14 u0
    go_wp2
    go_loopw [66] (CtR l.length w5) (fun i _ => l.length - (intOf i).toNat)
    case atStart => exact ⟨0, by omega, rfl, Kp.refl _⟩
    case round =>
      obtain ⟨k, hk, rfl, hkp⟩ := hrel
      by_cases hlt : k < l.length
      · have hks : k < s.length := by rw [HSL.out]; exact hlt
        obtain ⟨b, o, rfl, _, c0, c1⟩ := (HR.out.kp (KW.out.trans hkp)).pair hlt
        obtain ⟨b', o', rfl, _, x0, x1⟩ := (HS5.out.kp hkp).pair hks
        have he := HSK.out k hlt hks
        rw [he] at x0 x1
        simp only at x0 x1
        obtain ⟨g1, g2⟩ := HGB.out k hlt
        obtain ⟨a1, a2⟩ := HADJ.out k
        obtain ⟨d, hd⟩ : ∃ d, d = l[k].2 := ⟨_, rfl⟩
        obtain ⟨q, hq⟩ : ∃ q, q = d + adj t a p k := ⟨_, rfl⟩
        rw [← hd] at c1 x1 g1 g2
        rw [← hq] at x1
        have hkU2 : (k : Int) < (l.length : Int) := by omega
        have hkU3 : (k : Int) < (s.length : Int) := by omega
        have hkU4 : (0 : Int) ≤ (k : Int) := by omega
        have e1 : (l[k].1 != l[k].1) = false := by simp
        have e2 : decide (d + 1 < q) = false := by simp; omega
        have e3 : decide (q < d - 1) = false := by simp; omega
        have hw1 : IntKind.i64.wrap (d + 1) = d + 1 := IntWalk.i64_in _ (by omega)
        have hw2 : IntKind.i64.wrap (d - 1) = d - 1 := IntWalk.i64_in _ (by omega)
        clear he hd hq a1 a2 u5
        go_wp2_with fail
        go_quiet (fail)
        go_wp2
        go_roundw
        case rel => exact ⟨k + 1, by omega, by go_num, (by (focus ((repeat (first | (with_reducible assumption) | (with_reducible exact Kp.refl _) | (with_reducible apply Kp.drew) | (with_reducible apply Kp.drewN) | ((with_reducible apply Kp.setR); (focus (first | (with_reducible assumption) | (simp; done) | (simp; omega)))) | (with_reducible apply Kp.alloc) | ((with_reducible apply Kp.call); (with_reducible assumption)) | ((with_reducible apply Kp.app); (with_reducible assumption)))); done)))⟩
        case measure => simp [intOf]; omega
      · have u6 := hkp.cell u5
        obtain ⟨b, o, rfl, _, c0, c1⟩ := (HR.out.kp (KW.out.trans hkp)).pair (k := p) hpl
        clear u5
        go_wp2_with fail
        with_reducible refine (HTB.out _ _ (HS5.out.kp hkp)).mono ?_
        rintro e w6 ⟨v6, rfl, hr6, hb6⟩
        have kk6 := Kp.of hb6
        have HR6 := hide hr6
        clear hr6 hb6
        go_wp2_with fail
        with_reducible refine (eqSpots_to l l true _ _ _ HR6.out (HR.out.kp (KW.out.trans (hkp.trans kk6))) (by simp)).mono ?_
        rintro e w7 ⟨rfl, hb7⟩
        go_wp2
        go_ret
        exact ⟨rfl, (KW.out.trans (hkp.trans (kk6.trans hb7))).bel⟩
  · have hb := turnOf_bad l key h0
    obtain ⟨⟨s, r⟩, hs⟩ : ∃ P, P = turnOf l key := ⟨_, rfl⟩
    rw [← hs] at HTU hb h0
    simp only at hb h0
    subst hb
    obtain ⟨⟨U, f⟩, hU⟩ : ∃ P, P = parOf l := ⟨_, rfl⟩
    rw [← hU] at HPA
    have hne : (r != 0) = true := by simp [h0]
    clear hs h0 hU
    go_enter Try.func5, Try.ntmps5
    go_wp2_with fail
    with_reducible refine ((HTU).out _ _ ((HR.out.alloc _))).mono ?_
    rintro e w1 ⟨v1, rfl, hr1, hb1⟩
    have kk1 := Kp.of hb1
    have HR1 := hide hr1
    clear hr1 hb1
    have K1 : Kp w w1 := (Kp.refl w).alloc.trans kk1
    obtain ⟨As, cs, rfl, _, hms⟩ := HR1.out.shape
    go_wp2_with fail
    with_reducible refine ((HPA).out _ _ ((HR.out.kp K1))).mono ?_
    rintro e w2 ⟨v2, rfl, hr2, hb2⟩
    have kk2 := Kp.of hb2
    have HR2 := hide hr2
    clear hr2 hb2
    go_wp2_with fail
    with_reducible refine (shapeLives_any _).mono ?_
    rintro e w3 ⟨rfl, hb3⟩
    have kk3 := Kp.of hb3
    clear hb3
    go_wp2_with fail
    with_reducible refine (shapeLives_any _).mono ?_
    rintro e w4 ⟨rfl, hb4⟩
    have kk4 := Kp.of hb4
    clear hb4
    go_wp2
    go_ret
    exact ⟨rfl, (K1.trans (kk2.trans (kk3.trans kk4))).bel⟩
end Go.Proofs.Ytcpponjknmkfaaa
