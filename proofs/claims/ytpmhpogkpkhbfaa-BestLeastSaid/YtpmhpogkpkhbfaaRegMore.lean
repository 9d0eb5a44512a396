/-
  A region told slot by slot, more: a step that stores, what an operation waits for, the frame behind a region. No program. Conditions: none.
-/
import Derived.Test.YtpmhpogkpkhbfaaRegTab
namespace Go.Proofs.Ytpmhpogkpkhbfaa
open Go
set_option linter.unusedVariables false
set_option linter.unusedSimpArgs false

theorem wpOp_skip {w w' : World} {P : Program} {ops : Array Oper} {Q : Exit → Act → World → Prop} {K : Act → World → Prop} {k : Nat} {o : Oper} {a : Act} (ho : ops[k]? = some o) (hw : Region.wanted o (yielded ops a.tmps) = true) (hr : (execOp a.eval o).run P w = .ok .skip w') (h : K (a.put o.dst undef) w') : wpOp P ops Q k K a w := by
  unfold wpOp
  simp only [ho, hw, if_true, Oper.wp, hr, Oper.upon]
  exact .inl h
theorem run_u {w w' : World} {P : Program} {s : Sem Unit} (h : s.run P w = .ok () w') : (do s; pure Next.skip : Sem Next).run P w = .ok .skip w' := by
  simp [h]
theorem after_done {o : Oper} {L : Array Bool} (ha : ∀ e ∈ o.after.toList, Region.binds .any e = true → L.getD e.on false = true) {k : Nat} (h : (o.after.toList.any fun e => Region.binds .any e && (e.on == k)) = true) : L.getD k true = true := by
  rw [List.any_eq_true] at h
  obtain ⟨e, he, h⟩ := h
  rw [Bool.and_eq_true] at h
  have h2 : e.on = k := by simpa using h.2
  have := ha e he h.1
  rw [h2] at this
  simp only [Array.getD_eq_getD_getElem?] at this ⊢
  cases hq : L[k]? with
  | none => rw [hq] at this; simp at this
  | some x => rw [hq] at this; simpa using this
/-- A frame behind a region: what it was, with the region's slots put. -/
theorem frame_puts {D : List Nat} {A A' : Array Value} (hs : A'.size = A.size) (h : ∀ d x, D.contains d = false → A.getD d undef = x → A'.getD d undef = x) : ∃ f : Nat → Value, A' = D.foldl (fun B d => B.setIfInBounds d (f d)) A := by
  refine ⟨fun d => A'.getD d undef, ?_⟩
  have key : ∀ (D : List Nat) (A : Array Value), A'.size = A.size → (∀ d, D.contains d = false → A'.getD d undef = A.getD d undef) → A' = D.foldl (fun B d => B.setIfInBounds d (A'.getD d undef)) A := by
    intro D
    induction D with
    | nil =>
      intro A hs h
      apply Array.ext hs
      intro k h1 h2
      have := h k rfl
      simpa [Array.getD, h1, h2] using this
    | cons d D ih =>
      intro A hs h
      rw [List.foldl_cons]
      refine ih _ (by simp [hs]) fun k hk => ?_
      by_cases e : k = d
      · subst e
        by_cases hlt : k < A.size
        · simp [Array.getD_eq_getD_getElem?, Array.getElem?_setIfInBounds_self_of_lt hlt]
        · simp [Array.getD, hs, hlt]
      · rw [h k (by simp at hk ⊢; exact ⟨e, hk⟩)]
        simp only [Array.getD_eq_getD_getElem?, Array.getElem?_setIfInBounds_ne (Ne.symm e)]
  exact key D A hs fun d hd => h d _ hd rfl
end Go.Proofs.Ytpmhpogkpkhbfaa
