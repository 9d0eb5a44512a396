/-
  hedglaw.PlainRuns: the walk: it answers true. Conditions: the list of ops reads as ops (RD).
-/
import Derived.Test.YtkfgpoeodpndlaaAnswered
import Derived.Test.YtkfgpoeodpndlaaEqAns
namespace Go.Proofs.Ytkfgpoeodpndlaa
open Go.ChangeShapes Go.WideShapes Go.ChangeAt Go.RowKit
set_option linter.unusedVariables false
set_option linter.unusedSimpArgs false

set_option maxRecDepth 100000 in
set_option maxHeartbeats 8000000 in
theorem plainRuns_walk (ops : List O3) (v : Value) (w : World) (hr : RD w eOp v ops) : Calls Try.prog 8 #[v] w (Ret (.bool true) w) := by
  obtain ⟨A, c, rfl, hc, hm⟩ := hr.shape
  have HR := hide hr
  clear hr
  have HRU := hide (fun W v h => run_any ops v W h)
  by_cases hlen : ops.length > 300
  · have h1 : runOf ops = ([], [], 2) := by rw [runOf, if_pos hlen]
    rw [h1] at HRU
    clear h1
    go_enter Try.func8, Try.ntmps8
    go_wp2_with fail
    refine (HRU.out _ _ HR.out).mono ?_
    rintro e w1 ⟨v1, u1, rfl, hr1, hu1, hb1⟩
    obtain ⟨A1, c1, rfl, _, _⟩ := hr1.shape
    obtain ⟨A2, c2, rfl, _, _⟩ := hu1.shape
    have kk1 := Kp.of hb1
    clear hr1 hu1 hb1
    go_wp2
    go_ret
    exact ⟨rfl, kk1.bel⟩
  · have h1 : runOf ops = ((runL ops).1, (runL ops).2, 0) := by rw [runOf, if_neg hlen]
    have HAW := hide (fun W v h => answered_any ops v W h (by omega))
    rw [h1] at HRU
    obtain ⟨R, hR⟩ : ∃ R, R = runL ops := ⟨_, rfl⟩
    rw [← hR] at HRU HAW
    obtain ⟨m, b⟩ := R
    clear h1 hR
    go_enter Try.func8, Try.ntmps8
    go_wp2_with fail
    refine (HRU.out _ _ HR.out).mono ?_
    rintro e w1 ⟨v1, u1, rfl, hr1, hu1, hb1⟩
    have kk1 := Kp.of hb1
    have HR1 := hide hr1
    have HU1 := hide hu1
    clear hr1 hu1 hb1
    go_wp2_with fail
    refine (HAW.out _ _ (HR.out.kp kk1)).mono ?_
    rintro e w2 ⟨v2, u2, rfl, hr2, hu2, hb2⟩
    have kk2 := Kp.of hb2
    have HR2 := hide hr2
    have HU2 := hide hu2
    clear hr2 hu2 hb2
    go_wp2_with fail
    refine (eqPairs_to m m true _ _ _ (HR1.out.kp kk2) HR2.out (by simp)).mono ?_
    rintro e w3 ⟨rfl, hb3⟩
    have kk3 := Kp.of hb3
    clear hb3
    go_wp2_with fail
    refine (eqAns_same b _ _ _ (HU1.out.kp (by (focus ((repeat (first | (with_reducible assumption) | (with_reducible exact Kp.refl _) | (with_reducible apply Kp.drew) | (with_reducible apply Kp.drewN) | (with_reducible apply Kp.alloc) | ((with_reducible apply Kp.callK); (with_reducible assumption)))); done)))) (HU2.out.kp (by (focus ((repeat (first | (with_reducible assumption) | (with_reducible exact Kp.refl _) | (with_reducible apply Kp.drew) | (with_reducible apply Kp.drewN) | (with_reducible apply Kp.alloc) | ((with_reducible apply Kp.callK); (with_reducible assumption)))); done))))).mono ?_
    rintro e w4 ⟨rfl, hb4⟩
    have kk4 := Kp.of hb4
    clear hb4
    go_wp2
    go_ret
    exact ⟨rfl, Kp.bel (by (focus ((repeat (first | (with_reducible assumption) | (with_reducible exact Kp.refl _) | (with_reducible apply Kp.drew) | (with_reducible apply Kp.drewN) | (with_reducible apply Kp.alloc) | ((with_reducible apply Kp.callK); (with_reducible assumption)))); done)))⟩
end Go.Proofs.Ytkfgpoeodpndlaa
