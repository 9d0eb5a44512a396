/-
  Slices of slices that are read (RDS). Conditions: none.
-/
import Derived.Test.YtcpponjknmkfaaaArr
namespace Go.Proofs.Ytcpponjknmkfaaa
open Go.ChangeShapes Go.WideShapes Go.ChangeAt Go.RowKit
set_option linter.unusedVariables false
set_option linter.unusedSimpArgs false

/-- A slice of slices. -/
def RDS {α : Type} (w : World) (E : Enc α) (v : Value) (ls : List (List α)) : Prop :=
  ∃ A c, v = .slice A ls.length c ∧ ls.length ≤ c ∧ c ≤ maxLen ∧ (0 < ls.length → ∃ b o, A = some ⟨b, o, none⟩ ∧ b < w.heap.size ∧
    ∀ k (h : k < ls.length), ∃ u, w.cell? ⟨b, o + k, none⟩ = some u ∧ RD w E u ls[k])
section
variable {α : Type} {w w' : World} {E : Enc α} {v : Value} {ls : List (List α)}
theorem RDS.shape (h : RDS w E v ls) : ∃ A c, v = .slice A ls.length c ∧ ls.length ≤ c ∧ c ≤ 9223372036854775807 := by
  obtain ⟨A, c, rfl, h1, h2, h3⟩ := h
  exact ⟨A, c, rfl, h1, by unfold maxLen at h2; omega⟩
theorem RDS.at_ {A : Option Addr} {n c : Nat} (h : RDS w E (.slice A n c) ls) {k : Nat} (hk : k < ls.length) :
    ∃ b o u, A = some ⟨b, o, none⟩ ∧ b < w.heap.size ∧ w.cell? ⟨b, o + k, none⟩ = some u ∧ RD w E u ls[k] := by
  obtain ⟨A', c', e, h1, h2, h3⟩ := h
  injection e with e1 e2 e3
  subst e1
  obtain ⟨b, o, rfl, hb, hc⟩ := h3 (by omega)
  obtain ⟨u, h4, h5⟩ := hc k hk
  exact ⟨b, o, u, rfl, hb, h4, h5⟩
theorem RDS.kp (h : RDS w E v ls) (hb : Kp w w') : RDS w' E v ls := by
  obtain ⟨A, c, rfl, h1, h2, h3⟩ := h
  refine ⟨A, c, rfl, h1, h2, fun h0 => ?_⟩
  obtain ⟨b, o, rfl, hb', hc⟩ := h3 h0
  refine ⟨b, o, rfl, Nat.lt_of_lt_of_le hb' hb.size, fun k hk => ?_⟩
  obtain ⟨u, h4, h5⟩ := hc k hk
  exact ⟨u, hb.cell h4, h5.kp hb⟩
end
theorem RDS.new2 {α : Type} {w : World} {E : Enc α} {a b : List α} {va vb : Value} {t : TypeId} {g : Nat} (hg : w.heap.size = g) (ha : RD w E va a) (hb : RD w E vb b) : RDS (w.alloc (.cells #[va, vb] t)) E (.slice (some ⟨g, 0, none⟩) 2 2) [a, b] := by
  subst hg
  have hk : Kp w (w.alloc (.cells #[va, vb] t)) := (Kp.refl w).alloc
  refine ⟨_, _, rfl, Nat.le_refl _, by simp [maxLen], fun _ => ⟨w.heap.size, 0, rfl, by simp, fun k h => ?_⟩⟩
  have hc := fun i => cell_of_row _ _ i _ t (0, 0) (heap_alloc_new w (.cells #[va, vb] t))
  match k, h with
  | 0, _ => exact ⟨va, hc 0, ha.kp hk⟩
  | 1, _ => exact ⟨vb, hc 1, hb.kp hk⟩
theorem RDS.new1 {α : Type} {w : World} {E : Enc α} {a : List α} {va : Value} {t : TypeId} {g : Nat} (hg : w.heap.size = g) (ha : RD w E va a) : RDS (w.alloc (.cells #[va] t)) E (.slice (some ⟨g, 0, none⟩) 1 1) [a] := by
  subst hg
  have hk : Kp w (w.alloc (.cells #[va] t)) := (Kp.refl w).alloc
  refine ⟨_, _, rfl, Nat.le_refl _, by simp [maxLen], fun _ => ⟨w.heap.size, 0, rfl, by simp, fun k h => ?_⟩⟩
  have hc := fun i => cell_of_row _ _ i _ t (0, 0) (heap_alloc_new w (.cells #[va] t))
  match k, h with
  | 0, _ => exact ⟨va, hc 0, ha.kp hk⟩
end Go.Proofs.Ytcpponjknmkfaaa
