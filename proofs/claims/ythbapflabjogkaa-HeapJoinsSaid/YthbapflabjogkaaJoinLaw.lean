/-
  Plain laws on lists of pairs that rise: put one behind the other; who meets whom. No program. Conditions: none.
-/
import Derived.Test.YthbapflabjogkaaJoin
import Derived.Test.YthbapflabjogkaaLeast
import Derived.Test.YthbapflabjogkaaMR
namespace Go.Proofs.Ythbapflabjogkaa
open Go.ChangeShapes Go.WideShapes Go.ChangeAt Go.RowKit
set_option linter.unusedVariables false
set_option linter.unusedSimpArgs false

theorem mapRight_append (a b : List IP) (ha : mapRight a = 0) (hb : mapRight b = 0) (h : ∀ x ∈ a, ∀ y ∈ b, x.1 < y.1) : mapRight (a ++ b) = if a.length + b.length > 200 then 2 else 0 := by
  unfold mapRight
  rw [List.length_append]
  split
  · rfl
  · refine mrFrom_append a b (-1) (mapRight_from a ha) fun l2 g1 g2 g3 g4 => mrFrom_more (mapRight_from b hb) fun y hy => ?_
    cases hx : a.getLast? with
    | none =>
      have : a = [] := by simpa using hx
      have hl := g3 this
      have := mrFrom_gt b (-1) (mapRight_from b hb) y hy
      omega
    | some x =>
      rw [g4 x hx]
      exact h x (List.mem_of_getLast? hx) y hy
theorem mrFrom_le_last : ∀ (l : List IP) (last : Int), mrFrom last l = 0 → ∀ x ∈ l, ∀ z, l.getLast? = some z → x.1 ≤ z.1
  | [], _, _, x, hx, _, _ => by cases hx
  | [p], last, h, x, hx, z, hz => by simp at hx hz; subst hx; subst hz; omega
  | p :: q :: t, last, h, x, hx, z, hz => by
    obtain ⟨h1, h2, h3⟩ := mrFrom_cons h
    have hz' : (q :: t).getLast? = some z := by simpa [List.getLast?_cons_cons] using hz
    rcases List.mem_cons.1 hx with rfl | hx
    · have g1 := mrFrom_gt _ _ h3 z (List.mem_of_getLast? hz'); omega
    · exact mrFrom_le_last (q :: t) p.1 h3 x hx z hz'
theorem meets_true (a b : List IP) (ha : mapRight a = 0) (hb : mapRight b = 0) (x y : IP) (hx : x ∈ a) (hy : y ∈ b) (h : y.1 ≤ x.1) : meets a b = true := by
  cases hz : a.getLast? with
  | none =>
    have : a = [] := by simpa using hz
    subst this; cases hx
  | some z =>
    cases b with
    | nil => cases hy
    | cons p t =>
      have h1 := mrFrom_le_last a (-1) (mapRight_from a ha) x hx z hz
      have h2 : p.1 ≤ y.1 := by
        obtain ⟨g1, g2, g3⟩ := mrFrom_cons (mapRight_from _ hb)
        rcases List.mem_cons.1 hy with rfl | hy
        · omega
        · have := mrFrom_gt _ _ g3 y hy; omega
      simp only [meets, hz, List.head?_cons, decide_eq_true_eq]
      omega
theorem meets_false (a b : List IP) (h : ∀ x ∈ a, ∀ y ∈ b, x.1 < y.1) : meets a b = false := by
  unfold meets
  cases hz : a.getLast? with
  | none => rfl
  | some z =>
    cases b with
    | nil => rfl
    | cons p t =>
      simp only [List.head?_cons, decide_eq_false_iff_not]
      have := h z (List.mem_of_getLast? hz) p (by simp)
      omega
end Go.Proofs.Ythbapflabjogkaa
