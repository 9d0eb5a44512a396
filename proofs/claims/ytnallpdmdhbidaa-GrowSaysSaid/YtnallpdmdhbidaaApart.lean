/-
  Rows that lie apart: what an append to one leaves of another. Conditions: none.
-/
import Derived.Test.YtnallpdmdhbidaaKg
namespace Go.Proofs.Ytnallpdmdhbidaa
open Go.ChangeShapes Go.WideShapes Go.ChangeAt Go.RowKit
set_option linter.unusedVariables false
set_option linter.unusedSimpArgs false

def Ap (n : Nat) (u v : Value) : Prop := 0 < n → u.ownBlock = none ∨ u.ownBlock ≠ v.ownBlock
theorem RD.app {α : Type} {E : Enc α} {w w' : World} {v u : Value} {l : List α} (h : RD w E v l) (hg : w.grownBy w' u.ownBlock) (ha : Ap l.length v u) : RD w' E v l := by
  cases l with
  | nil =>
    obtain ⟨A, c, rfl, h1, h2, hn, h3⟩ := h
    exact ⟨A, c, rfl, h1, h2, hn, fun h => by simp at h⟩
  | cons a t =>
    have h4 := ha (by simp)
    obtain ⟨A, c, rfl, h1, h2, hn, h3⟩ := h
    obtain ⟨b, o, rfl, hb, hc⟩ := h3 (by simp)
    refine RD.grownR hg ?_ ⟨_, c, rfl, h1, h2, hn, h3⟩
    rcases h4 with h4 | h4
    · simp [Value.ownBlock] at h4
    · exact h4
theorem Ap.next {n : Nat} {w : World} {v u u' : Value} (h : Ap n v u) (hu : u'.ownBlock = u.ownBlock ∨ u'.ownBlock = some w.heap.size) (hv : 0 < n → Lo w.heap.size v) : Ap n v u' := fun h0 => by
  rcases hu with hu | hu
  · rw [hu]; exact h h0
  · rw [hu]
    cases hb : v.ownBlock with
    | none => exact .inl rfl
    | some k =>
      refine .inr fun e => ?_
      injection e with e
      have := hv h0 k hb
      omega

/-- Rows that lie apart. -/
def Dis (u v : Value) : Prop := ∀ k, u.ownBlock = some k → v.ownBlock ≠ some k
theorem Dis.symm {u v : Value} (h : Dis u v) : Dis v u := fun k h1 h2 => h k h2 h1
theorem Dis.or {u v : Value} (h : Dis u v) : u.ownBlock = none ∨ u.ownBlock ≠ v.ownBlock := by
  cases hu : u.ownBlock with
  | none => exact .inl rfl
  | some k => exact .inr fun e => h k hu e.symm
theorem Dis.next {u u' v : Value} {n : Nat} (h : Dis u v) (hu : u'.ownBlock = u.ownBlock ∨ u'.ownBlock = some n) (hv : Lo n v) : Dis u' v := fun k h1 h2 => by
  rcases hu with e | e
  · exact h k (by rw [← e]; exact h1) h2
  · rw [e] at h1
    injection h1 with h1
    have := hv k h2
    omega
end Go.Proofs.Ytnallpdmdhbidaa
