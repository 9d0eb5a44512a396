/-
  hedgkeep.GrowTree: the walk: it answers true. Conditions: the list of ops reads as ops (RD).
-/
import Derived.Test.YtnallpdmdhbidaaGTree
import Derived.Test.YtnallpdmdhbidaaGrowHoare
namespace Go.Proofs.Ytnallpdmdhbidaa
open Go.ChangeShapes Go.WideShapes Go.ChangeAt Go.RowKit
set_option linter.unusedVariables false
set_option linter.unusedSimpArgs false

set_option maxRecDepth 100000 in
set_option maxHeartbeats 8000000 in
theorem growTree_walk (ops : List O3) (v : Value) (w : World) (hr : RD w eOp v ops) : Calls Try.prog 5 #[v] w (Ret (.bool true) w) := by
  obtain ⟨A, c, rfl, hc, hm⟩ := hr.shape
  have HR := hide hr
  clear hr
  have HRU := hide (fun W v h => growRun_any ops v W h)
  by_cases hlen : ops.length > 300
  · have hru : growRun ops = ([], [], 2) := by rw [growRun, if_pos hlen]
    rw [hru] at HRU
    clear hru
    go_enter Try.func5, Try.ntmps5
    go_wp2_with fail
    with_reducible refine (HRU.out _ _ HR.out).mono ?_
    rintro e w1 ⟨v1, u1, rfl, hr1, hu1, hb1⟩
    have kk1 := Kp.of hb1
    obtain ⟨A1, c1, rfl, _, _⟩ := hr1.shape
    clear hr1 hu1 hb1
    go_wp2_with fail
    with_reducible refine (growLives_any _).mono ?_
    rintro e w2 ⟨rfl, hb2⟩
    have kk2 := Kp.of hb2
    clear hb2
    go_wp2_with fail
    with_reducible refine (growLives_any _).mono ?_
    rintro e w3 ⟨rfl, hb3⟩
    have kk3 := Kp.of hb3
    clear hb3
    go_wp2
    go_ret
    exact ⟨rfl, (kk1.trans (kk2.trans kk3)).bel⟩
  · have hru : growRun ops = ((growT (opsZ ops)).spotsBy Prod.fst 0, (runL ops).2, 0) := by rw [growRun, if_neg hlen]
    obtain ⟨g1, g2⟩ := grow_right ops
    have HAW := hide (fun W v h => answered_any ops v W h (by omega))
    obtain ⟨s, hs⟩ : ∃ s, s = (growT (opsZ ops)).spotsBy Prod.fst 0 := ⟨_, rfl⟩
    rw [← hs] at hru g1 g2
    have HCK := hide (fun W v h => shapeCheck_any s v W h)
    rw [g1] at HCK
    obtain ⟨⟨m, an⟩, hP⟩ : ∃ P, P = runL ops := ⟨_, rfl⟩
    rw [← hP] at hru g2 HAW
    simp only at g2 hru
    have hsm : s.length = m.length := by have := congrArg List.length g2; simpa using this
    have HSM := hide hsm
    have HEQ : Hid (∀ k (h1 : k < s.length) (h2 : k < m.length), (s[k]'h1).1 = (m[k]'h2).1) := hide (fun k h1 h2 => by
      have := List.getElem_of_eq g2 (show k < (s.map Prod.fst).length by simpa using h1)
      simpa using this)
    rw [hru] at HRU
    have b1 : ((s.length : Int) != (m.length : Int)) = false := by rw [hsm]; simp
    clear hru g1 g2 hs hP hsm
    go_enter Try.func5, Try.ntmps5
    go_wp2_with fail
    with_reducible refine (HRU.out _ _ HR.out).mono ?_
    rintro e w1 ⟨v1, u1, rfl, hr1, hu1, hb1⟩
    have kk1 := Kp.of hb1
    obtain ⟨As, cs, rfl, hcs, hms⟩ := hr1.shape
    simp only at hcs ⊢
    have HS := hide hr1
    clear hr1 hu1 hb1
    go_wp2_with fail
    with_reducible refine (growLives_any _).mono ?_
    rintro e w2 ⟨rfl, hb2⟩
    have kk2 := Kp.of hb2
    clear hb2
    go_wp2_with fail
    with_reducible refine (HAW.out _ _ (HR.out.kp (kk1.trans kk2))).mono ?_
    rintro e w3 ⟨v3, u3, rfl, hr3, _, hb3⟩
    have kk3 := Kp.of hb3
    obtain ⟨Am, cm, rfl, hcm, hmm⟩ := hr3.shape
    simp only at hcm ⊢
    have HM := hide hr3
    clear hr3 hb3
    go_wp2_with fail
    with_reducible refine (HCK.out _ _ (HS.out.kp (kk2.trans kk3))).mono ?_
    rintro e w4 ⟨rfl, hb4⟩
    have kk4 := Kp.of hb4
    have HS4 := hide (HS.out.kp (kk2.trans (kk3.trans kk4)))
    have HM4 := hide (HM.out.kp kk4)
    have KW := hide (kk1.trans (kk2.trans (kk3.trans kk4)))
    have hmc : m.length ≤ 9223372036854775807 := by omega
    have hsc : s.length ≤ 9223372036854775807 := by omega
    clear hb4 kk1 kk2 kk3 kk4
    go_wp2
    go_loopw [45] (CtR m.length w4) (fun i _ => m.length - (intOf i).toNat)
    case atStart => exact ⟨0, by omega, rfl, Kp.refl _⟩
    case round =>
      obtain ⟨k, hk, rfl, hkp⟩ := hrel
      by_cases hlt : k < m.length
      · have hkS : k < s.length := by rw [HSM.out]; exact hlt
        obtain ⟨b, o, rfl, _, c0, c1⟩ := (HM4.out.kp hkp).pair hlt
        obtain ⟨b', o', rfl, _, x0, x1⟩ := (HS4.out.kp hkp).pair hkS
        rw [HEQ.out k hkS hlt] at x0
        obtain ⟨y, hy⟩ : ∃ y, y = m[k].1 := ⟨_, rfl⟩
        rw [← hy] at c0 x0
        have e1 : (y != y) = false := by simp
        have bk : (k : Int) < (s.length : Int) := by omega
        have bk0 : (0 : Int) ≤ (k : Int) := by omega
        have x9 := ((Kp.refl wr).alloc (o := .cells #[.int .i64 y, .int .i64 m[k].2] 58)).cell x0
        clear hy
        go_wp2_with fail
        go_quiet (fail)
        go_wp2
        go_roundw
        case rel => exact ⟨k + 1, by omega, by go_num, (by (focus ((repeat (first | (with_reducible assumption) | (with_reducible exact Kp.refl _) | (with_reducible apply Kp.drew) | (with_reducible apply Kp.drewN) | ((with_reducible apply Kp.setR); (focus (first | (with_reducible assumption) | (simp; done) | (simp; omega)))) | (with_reducible apply Kp.alloc) | ((with_reducible apply Kp.call); (with_reducible assumption)) | ((with_reducible apply Kp.app); (with_reducible assumption)))); done)))⟩
        case measure => simp [intOf]; omega
      · go_wp2
        go_ret
        exact ⟨rfl, (KW.out.trans hkp).bel⟩
end Go.Proofs.Ytnallpdmdhbidaa
