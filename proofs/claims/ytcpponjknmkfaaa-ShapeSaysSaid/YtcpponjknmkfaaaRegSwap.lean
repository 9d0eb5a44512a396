/-
  A region that reads and stores twice at its end, whatever the order (JS): what its world is. No program. Conditions: none.
-/
import Derived.Test.YtcpponjknmkfaaaRegMore
namespace Go.Proofs.Ytcpponjknmkfaaa
open Go
set_option linter.unusedVariables false
set_option linter.unusedSimpArgs false

/-- W0: nothing stored yet; W1: behind the first store (operation s1), both loads (d1, d2) are done then; W2: behind the second one (s2). -/
def JS (W0 W1 W2 : World) (s1 s2 d1 d2 : Nat) (L : Array Bool) (w : World) : Prop :=
  (L.getD s1 true = false ∧ L.getD s2 true = false ∧ w = W0) ∨ (L.getD s1 true = true ∧ L.getD s2 true = false ∧ L.getD d1 true = true ∧ L.getD d2 true = true ∧ w = W1) ∨
    (L.getD s1 true = true ∧ L.getD s2 true = true ∧ L.getD d1 true = true ∧ L.getD d2 true = true ∧ w = W2)
section
variable {W0 W1 W2 w : World} {s1 s2 d1 d2 i : Nat} {L : Array Bool}
theorem getD_set_ne (h : i ≠ s1) : (L.setIfInBounds i true).getD s1 true = L.getD s1 true := by
  simp only [Array.getD_eq_getD_getElem?, Array.getElem?_setIfInBounds_ne h]
theorem getD_set_true (h : L.getD s1 true = true) : (L.setIfInBounds i true).getD s1 true = true := by
  by_cases e : i = s1
  · subst e
    simp only [Array.getD_eq_getD_getElem?]
    by_cases hlt : i < L.size
    · simp [Array.getElem?_setIfInBounds_self_of_lt hlt]
    · simp [hlt]
  · rw [getD_set_ne e, h]
theorem getD_set_self : (L.setIfInBounds i true).getD i true = true := by
  simp only [Array.getD_eq_getD_getElem?]
  by_cases hlt : i < L.size
  · simp [Array.getElem?_setIfInBounds_self_of_lt hlt]
  · simp [hlt]
theorem JS.go (h : JS W0 W1 W2 s1 s2 d1 d2 L w) (h1 : i ≠ s1) (h2 : i ≠ s2) : JS W0 W1 W2 s1 s2 d1 d2 (L.setIfInBounds i true) w := by
  unfold JS at h ⊢
  rw [getD_set_ne h1, getD_set_ne h2]
  rcases h with h | ⟨a, b, c, d, e⟩ | ⟨a, b, c, d, e⟩
  · exact .inl h
  · exact .inr (.inl ⟨a, b, getD_set_true c, getD_set_true d, e⟩)
  · exact .inr (.inr ⟨a, b, getD_set_true c, getD_set_true d, e⟩)
theorem JS.ld1 (h : JS W0 W1 W2 s1 s2 d1 d2 L w) (hl : L.getD d1 true = false) : w = W0 := by
  rcases h with h | ⟨a, b, c, d, e⟩ | ⟨a, b, c, d, e⟩
  · exact h.2.2
  · rw [hl] at c; cases c
  · rw [hl] at c; cases c
theorem JS.ld2 (h : JS W0 W1 W2 s1 s2 d1 d2 L w) (hl : L.getD d2 true = false) : w = W0 := by
  rcases h with h | ⟨a, b, c, d, e⟩ | ⟨a, b, c, d, e⟩
  · exact h.2.2
  · rw [hl] at d; cases d
  · rw [hl] at d; cases d
theorem JS.st1 (h : JS W0 W1 W2 s1 s2 d1 d2 L w) (hl : L.getD s1 true = false) (a1 : L.getD d1 true = true) (a2 : L.getD d2 true = true) (hn : s1 ≠ s2) : w = W0 ∧ JS W0 W1 W2 s1 s2 d1 d2 (L.setIfInBounds s1 true) W1 := by
  rcases h with ⟨a, b, e⟩ | ⟨a, b, c, d, e⟩ | ⟨a, b, c, d, e⟩
  · exact ⟨e, .inr (.inl ⟨getD_set_self, (getD_set_ne hn).trans b, getD_set_true a1, getD_set_true a2, rfl⟩)⟩
  · rw [hl] at a; cases a
  · rw [hl] at a; cases a
theorem JS.st2 (h : JS W0 W1 W2 s1 s2 d1 d2 L w) (hl : L.getD s2 true = false) (a1 : L.getD s1 true = true) : w = W1 ∧ JS W0 W1 W2 s1 s2 d1 d2 (L.setIfInBounds s2 true) W2 := by
  rcases h with ⟨a, b, e⟩ | ⟨a, b, c, d, e⟩ | ⟨a, b, c, d, e⟩
  · rw [a1] at a; cases a
  · exact ⟨e, .inr (.inr ⟨getD_set_true a, getD_set_self, getD_set_true c, getD_set_true d, rfl⟩)⟩
  · rw [hl] at b; cases b
theorem JS.start {n : Nat} (h1 : s1 < n) (h2 : s2 < n) : JS W0 W1 W2 s1 s2 d1 d2 (Array.replicate n false) W0 :=
  .inl ⟨by simp [Array.getD, h1], by simp [Array.getD, h2], rfl⟩
theorem JS.done {n : Nat} (h : JS W0 W1 W2 s1 s2 d1 d2 (Array.replicate n true) w) (h1 : s1 < n) (h2 : s2 < n) : w = W2 := by
  rcases h with ⟨a, b, e⟩ | ⟨a, b, c, d, e⟩ | ⟨a, b, c, d, e⟩
  · simp [Array.getD, h1] at a
  · simp [Array.getD, h2] at b
  · exact e
end
end Go.Proofs.Ytcpponjknmkfaaa
