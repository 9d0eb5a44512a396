/-
  hedgkeep.HeapRanks: the walk: it answers true. Conditions: the list reads as l (RD).
-/
import Derived.Test.YthbapflabjogkaaHeapPar
import Derived.Test.YthbapflabjogkaaHeapLives
namespace Go.Proofs.Ythbapflabjogkaa
open Go.ChangeShapes Go.WideShapes Go.ChangeAt Go.RowKit
set_option linter.unusedVariables false
set_option linter.unusedSimpArgs false

def RkRel (l : List IP) (w : World) (i : Value) (wr : World) : Prop := ∃ k : Nat, k ≤ l.length ∧ i = .int .i64 k ∧ Kp w wr

set_option maxRecDepth 100000 in
set_option maxHeartbeats 4000000 in
theorem heapRanks_walk (l : List IP) (v : Value) (w : World) (hr : RD w ePair v l) : Calls Try.prog 4 #[v] w (Ret (.bool true) w) := by
  obtain ⟨A, c, rfl, hc, hm⟩ := hr.shape
  have HR := hide hr
  clear hr
  by_cases h0 : mapRight l = 0
  · have hof : heapOf l = ((heapTree l).spots 0, 0) := by rw [heapOf, if_pos h0]
    have hpo := parOf_heap l h0
    have hpl := hPar_len l
    have HPA := hide (hPar_at l h0)
    have hlen := mapRight_len l h0
    have H1 := hide (fun W v h => heapOf_any l v W h)
    have H2 := hide (fun W v h => parents_of ((heapTree l).spots 0) v W h)
    rw [hof] at H1
    rw [hpo] at H2
    have HPL := hide hpl
    clear h0 hof hpo hpl
    go_enter Try.func4, Try.ntmps4
    go_wp2_with fail
    refine (H1.out _ _ HR.out).mono ?_
    rintro e w1 ⟨v1, rfl, hr1, hb1⟩
    have k1 : Kp w w1 := hb1
    have HR1 := hide hr1
    clear hr1 hb1
    go_wp2_with fail
    refine (H2.out _ _ HR1.out).mono ?_
    rintro e w2 ⟨v2, rfl, hr2, hb2⟩
    have k2 : Kp w w2 := k1.trans hb2
    obtain ⟨A2, c2, rfl, hc2, hm2⟩ := hr2.shape
    have HR2 := hide hr2
    clear hr2 hb2
    go_wp2_with fail
    refine (heapLives_any _).mono ?_
    rintro e w3 ⟨rfl, hb3⟩
    have k3 : Kp w2 w3 := hb3
    have k30 : Kp w w3 := k2.trans k3
    clear hb3
    have hne : (((hPar l).length : Int) != (l.length : Int)) = false := by simp [HPL.out]
    go_wp2_with fail
    go_loopw [42] (RkRel l w3) (fun i _ => l.length - (intOf i).toNat)
    case atStart => exact ⟨0, by omega, rfl, Kp.refl _⟩
    case round =>
      obtain ⟨k, hk, rfl, hkp⟩ := hrel
      by_cases hlt : k < l.length
      · have hlp : k < (hPar l).length := by rw [HPL.out]; exact hlt
        obtain ⟨b2, o2, rfl, _, cp⟩ := (HR2.out.kp (k3.trans hkp)).int hlp
        obtain ⟨b, o, rfl, _, d0, d1⟩ := (HR.out.kp (k30.trans hkp)).pair hlt
        have hdp : decide (k < (hPar l).length) = true := by simp [hlp]
        have bk : (k : Int) < (l.length : Int) := by omega
        have bk0 : (0 : Int) ≤ (k : Int) := by omega
        rcases HPA.out k hlt with hu | ⟨j, hj, hu, hjk, hv⟩
        · rw [hu] at cp
          clear hu
          go_wp2_with fail
          go_quiet (fail)
          go_wp2
          go_roundw
          case rel => exact ⟨k + 1, by omega, by go_num, hkp.drewN⟩
          case measure => simp [intOf]; omega
        · rw [hu] at cp
          clear hu
          obtain ⟨b', o', e1, _, f0, f1⟩ := (HR.out.kp (k30.trans hkp)).pair hj
          injection e1 with e1
          injection e1 with e2 e3
          subst e2 e3
          have bj : (j : Int) < (l.length : Int) := by omega
          have bj0 : (0 : Int) ≤ (j : Int) := by omega
          have t0 : decide ((0 : Int) ≤ (j : Int)) = true := by simp
          have t1 : decide (l[j].2 < l[k].2) = false := by simp; omega
          rcases hv with hv | ⟨hv, hkey⟩
          · have t2 : (l[j].2 == l[k].2) = false := by simp; omega
            clear hv
            go_wp2_with fail
            go_quiet (fail)
            go_wp2
            go_roundw
            case rel => exact ⟨k + 1, by omega, by go_num, hkp.drewN⟩
            case measure => simp [intOf]; omega
          · have t2 : (l[j].2 == l[k].2) = true := by simp; omega
            have t3 : decide (l[k].1 < l[j].1) = false := by simp; omega
            clear hv hkey
            go_wp2_with fail
            go_quiet (fail)
            go_wp2
            go_roundw
            case rel => exact ⟨k + 1, by omega, by go_num, hkp.drewN⟩
            case measure => simp [intOf]; omega
      · have hdp : decide (k < (hPar l).length) = false := by simp [HPL.out]; omega
        go_wp2
        go_ret
        exact ⟨rfl, (k30.trans hkp).bel⟩
  · have hof : heapOf l = ([], mapRight l) := by rw [heapOf, if_neg h0]
    have H1 := hide (fun W v h => heapOf_any l v W h)
    have H2 := hide (fun W v h => parents_of [] v W h)
    rw [hof] at H1
    have hne : (mapRight l != 0) = true := by simp [h0]
    clear h0 hof
    go_enter Try.func4, Try.ntmps4
    go_wp2_with fail
    refine (H1.out _ _ HR.out).mono ?_
    rintro e w1 ⟨v1, rfl, hr1, hb1⟩
    have k1 : Kp w w1 := hb1
    obtain ⟨A1, c1, rfl, hc1, hm1⟩ := hr1.shape
    have HR1 := hide hr1
    clear hr1 hb1
    go_wp2_with fail
    refine (H2.out _ _ HR1.out).mono ?_
    rintro e w2 ⟨v2, rfl, hr2, hb2⟩
    have k2 : Kp w w2 := k1.trans hb2
    clear hr2 hb2
    go_wp2_with fail
    refine (heapLives_any _).mono ?_
    rintro e w3 ⟨rfl, hb3⟩
    have k3 : Kp w w3 := k2.trans hb3
    clear hb3
    go_wp2_with fail
    refine (heapLives_any _).mono ?_
    rintro e w4 ⟨rfl, hb4⟩
    go_wp2
    go_ret
    exact ⟨rfl, (k3.trans hb4).bel⟩
end Go.Proofs.Ythbapflabjogkaa
