/-
  hedgkeep.plainLives: what it answers; plain laws on what Do answers. Conditions: none.
-/
import Derived.Test.YtkfgpoeodpndlaaRun
import Derived.Test.YtkfgpoeodpndlaaSame
namespace Go.Proofs.Ytkfgpoeodpndlaa
open Go.ChangeShapes Go.WideShapes Go.ChangeAt Go.RowKit
set_option linter.unusedVariables false
set_option linter.unusedSimpArgs false

theorem plainLives_run : runOf [(1, 7, 1), (1, 3, 2), (4, 3, 0), (3, 7, 0)] = ([(3, 2)], [⟨0, 0, 0, false⟩, ⟨0, 0, 0, false⟩, ⟨0, 7, 1, true⟩, ⟨0, 0, 1, true⟩], 0) := by decide +kernel
set_option maxRecDepth 100000 in
set_option maxHeartbeats 2000000 in
theorem plainLives_any (w : World) : Calls Try.prog 15 #[] w (Ret (.bool true) w) := by
  have H1 := hide (fun W v h => run_any [(1, 7, 1), (1, 3, 2), (4, 3, 0), (3, 7, 0)] v W h)
  rw [plainLives_run] at H1
  go_enter Try.func15, Try.ntmps15
  go_wp2_with fail
  refine (H1.out _ _ (RD.block (l := [(1, 7, 1), (1, 3, 2), (4, 3, 0), (3, 7, 0)]) (heap_alloc_new w _) rfl (by simp [maxLen]))).mono ?_
  rintro e w1 ⟨v1, u1, rfl, hr1, hs1, hb1⟩
  have k1 : Kp w w1 := (Kp.refl w).alloc.trans hb1
  obtain ⟨A, c, rfl, hc, hm⟩ := hs1.shape
  have HR1 := hide hr1
  have HS1 := hide hs1
  simp only [List.length_cons, List.length_nil] at hc ⊢
  clear hr1 hb1 hs1
  go_wp2_with fail
  refine (eqPairs_to _ _ true _ _ _ (HR1.out.alloc _) (RD.block (l := [(3, 2)]) (heap_alloc_new w1 _) rfl (by simp [maxLen])) (by decide)).mono ?_
  rintro e w2 ⟨rfl, hb2⟩
  have k2 : Kp w1 w2 := (Kp.refl w1).alloc.trans hb2
  have HS2 := HS1.out.kp k2
  obtain ⟨b, o, rfl, _, x0, x1, x2, x3⟩ := HS2.ans (k := 2) (by simp)
  obtain ⟨b', o', e1, _, y0, y1, y2, y3⟩ := HS2.ans (k := 3) (by simp)
  injection e1 with e1
  injection e1 with e2 e3
  subst e2 e3
  simp only [List.getElem_cons_succ, List.getElem_cons_zero] at x0 x1 x2 x3 y0 y1 y2 y3
  have KK := hide (k1.trans k2)
  clear HS2 hb2
  go_wp2
  go_ret
  exact ⟨rfl, KK.out.bel⟩
end Go.Proofs.Ytkfgpoeodpndlaa
