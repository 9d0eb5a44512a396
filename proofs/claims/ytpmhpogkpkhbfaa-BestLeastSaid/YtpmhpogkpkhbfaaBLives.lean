/-
  hedgkeep.bestLives: what it answers. Conditions: none.
-/
import Derived.Test.YtpmhpogkpkhbfaaBTree
import Derived.Test.YtpmhpogkpkhbfaaBCost
import Derived.Test.YtpmhpogkpkhbfaaOkf
namespace Go.Proofs.Ytpmhpogkpkhbfaa
open Go.ChangeShapes Go.WideShapes Go.ChangeAt Go.RowKit
set_option linter.unusedVariables false
set_option linter.unusedSimpArgs false

theorem RD.newL {α : Type} {w : World} {E : Enc α} {cs : Array Value} {t : TypeId} {g n : Nat} (l : List α) (hg : w.heap.size = g) (hn : l.length = n) (hl : cs.toList = l.flatMap E.cells) (hm : l.length ≤ maxLen) : RD (w.alloc (.cells cs t)) E (.slice (some ⟨g, 0, none⟩) n n) l := by
  subst hg hn
  exact RD.block l (heap_alloc_new w _) hl hm
theorem bestLives_tree : trB [1, 5, 1] [0, 0, 0, 0] = ([(0, 1), (1, 0), (2, 1)], 9, 0) := by decide +kernel
theorem bestLives_cost : coB [(0, 1), (1, 0), (2, 1)] [1, 5, 1] [0, 0, 0, 0] = (9, 0) := by decide +kernel
theorem bestLives_ok : okL [0, 0] = true := rfl
set_option maxRecDepth 100000 in
set_option maxHeartbeats 4000000 in
theorem bestLives_any (w : World) : Calls Try.prog 10 #[] w (Ret (.bool true) w) := by
  have H0 := hide (fun W v u h1 h2 => bTree_any [1, 5, 1] [0, 0, 0, 0] v u W h1 h2)
  have H1 := hide (fun W t v u h0 h1 h2 => cost_any [(0, 1), (1, 0), (2, 1)] [1, 5, 1] [0, 0, 0, 0] t v u W h0 h1 h2)
  rw [bestLives_tree] at H0
  rw [bestLives_cost] at H1
  go_enter Try.func10, Try.ntmps10
  go_wp2_with fail
  refine (H0.out _ _ _ ((RD.newL [1, 5, 1] rfl rfl rfl (by simp [maxLen])).alloc _) (RD.newL [0, 0, 0, 0] (by simp) rfl rfl (by simp [maxLen]))).mono ?_
  rintro e w1 ⟨v1, rfl, hr1, kk1⟩
  have K1 : Kp w w1 := (Kp.refl w).alloc.alloc.trans kk1
  have HR1 := hide hr1
  clear hr1 kk1
  go_wp2_with fail
  refine (H1.out _ _ _ _ (((RD.newL [(0, 1), (1, 0), (2, 1)] rfl rfl rfl (by simp [maxLen])).alloc _).alloc _) ((RD.newL [1, 5, 1] (by simp) rfl rfl (by simp [maxLen])).alloc _) (RD.newL [0, 0, 0, 0] (by simp) rfl rfl (by simp [maxLen]))).mono ?_
  rintro e w2 ⟨rfl, kk2⟩
  have k12 : Kp w1 w2 := (Kp.refl w1).alloc.alloc.alloc.trans kk2
  have K2 := K1.trans k12
  have HR2 := hide (HR1.out.kp k12)
  clear kk2 k12 K1
  go_wp2_with fail
  refine (ok_any [0, 0] _ _ (RD.newL [0, 0] rfl rfl rfl (by simp [maxLen]))).mono ?_
  rintro e w3 ⟨rfl, hw3⟩
  have kk3 : Kp w2 w3 := by rw [← hw3]; exact (Kp.refl w2).alloc
  have HR3 := hide (HR2.out.kp kk3)
  clear hw3
  have hok := bestLives_ok
  obtain ⟨A, c, rfl, _, _⟩ := HR3.out.shape
  obtain ⟨b, o, rfl, _, x0, x1⟩ := HR3.out.pair (k := 1) (by decide)
  simp only [List.getElem_cons_succ, List.getElem_cons_zero] at x0 x1
  go_wp2
  go_ret
  exact ⟨by simp, (K2.trans kk3).bel⟩
end Go.Proofs.Ytpmhpogkpkhbfaa
