/-
  hedglaw.HeapSays: THE STATEMENT: for every input it answers true. Conditions: none.
-/
import Derived.Test.YthbapflabjogkaaHeapSaysProof
namespace Go.Proofs.Ythbapflabjogkaa
open Go.ChangeShapes Go.WideShapes Go.ChangeAt Go.RowKit Go.Deep
set_option linter.unusedVariables false
set_option linter.unusedSimpArgs false

theorem and_true_of {a b : Bool} (ha : a = true) (hb : b = true) : (a && b) = true := by rw [ha, hb]; rfl
set_option maxRecDepth 100000 in
set_option maxHeartbeats 8000000 in
theorem heapSays_closed : joinedFacts Try.checked.prog 3 Try.f3 Rows.heapSaysSpec Rows.heapSaysRow = true := by
  unfold joinedFacts
  repeat' (with_reducible refine and_true_of ?_ ?_)
  all_goals (as_aux_lemma => kernel_rfl)
theorem heapSays_over : Rows.heapSaysRow.holds Try.pinned (OpenSpec.ofChange Rows.heapSaysSpec) :=
  OpenClaim.holds_of_wide 3 Try.f3 rfl rfl rfl rfl rfl rfl rfl ⟨rfl, rfl, rfl, rfl, rfl⟩ rfl rfl rfl rfl rfl (by as_aux_lemma => kernel_rfl) Try.func3 heapSays_closed
    (of_decide_eq_true (by as_aux_lemma => kernel_rfl)) (by as_aux_lemma => unfold Func.isWrapper; first | (rw [if_pos (by decide +kernel)]; kernel_rfl) | (rw [if_neg (by decide +kernel)]; exact ⟨rfl, rfl⟩))
    (fun os started H enc _ => heapSays_lifted os started H enc)
theorem heapSays_proved : Rows.HeapSaysSaid := heapSays_over
#print axioms heapSays_proved
end Go.Proofs.Ythbapflabjogkaa
