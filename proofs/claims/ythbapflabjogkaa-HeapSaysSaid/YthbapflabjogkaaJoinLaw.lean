/-
  Plain laws on lists of pairs that rise: put one behind the other; who meets whom. No program. Conditions: none.
-/
import Derived.Test.YthbapflabjogkaaJoin
import Derived.Test.YthbapflabjogkaaLeast
namespace Go.Proofs.Ythbapflabjogkaa
open Go.ChangeShapes Go.WideShapes Go.ChangeAt Go.RowKit
set_option linter.unusedVariables false
set_option linter.unusedSimpArgs false

theorem mrFrom_01 : ∀ (l : List IP) (last : Int), mrFrom last l = 0 ∨ mrFrom last l = 3
  | [], _ => .inl rfl
  | p :: t, last => by
    unfold mrFrom
    split
    · exact mrFrom_01 t p.1
    · exact .inr rfl
theorem mrFrom_cons {p : IP} {t : List IP} {last : Int} (h : mrFrom last (p :: t) = 0) : last < p.1 ∧ p.1 ≤ 1000000 ∧ mrFrom p.1 t = 0 := by
  unfold mrFrom at h
  split at h
  · rename_i hb
    have := (btw_iff _ _ _).1 hb
    exact ⟨by omega, this.2, h⟩
  · omega
theorem mrFrom_gt : ∀ (l : List IP) (last : Int), mrFrom last l = 0 → ∀ x ∈ l, last < x.1
  | [], _, _, x, hx => by cases hx
  | p :: t, last, h, x, hx => by
    obtain ⟨h1, h2, h3⟩ := mrFrom_cons h
    rcases List.mem_cons.1 hx with rfl | hx
    · exact h1
    · have := mrFrom_gt t p.1 h3 x hx; omega
theorem mrFrom_append : ∀ (a b : List IP) (last : Int), mrFrom last a = 0 → (∀ l2, (∀ x ∈ a, x.1 ≤ l2) → last ≤ l2 → (a = [] → l2 = last) → (∀ x, a.getLast? = some x → l2 = x.1) → mrFrom l2 b = 0) → mrFrom last (a ++ b) = 0
  | [], b, last, _, h => by simpa using h last (by simp) (by omega) (fun _ => rfl) (by simp)
  | p :: t, b, last, ha, h => by
    obtain ⟨h1, h2, h3⟩ := mrFrom_cons ha
    rw [List.cons_append, mrFrom, if_pos ((btw_iff _ _ _).2 ⟨by omega, h2⟩)]
    refine mrFrom_append t b p.1 h3 fun l2 g1 g2 g3 g4 => ?_
    refine h l2 (fun x hx => ?_) (by omega) (by simp) (fun x hx => ?_)
    · rcases List.mem_cons.1 hx with rfl | hx
      · exact g2
      · exact g1 x hx
    · cases t with
      | nil => simp at hx; subst hx; exact g3 rfl
      | cons q t => exact g4 x (by simpa [List.getLast?_cons_cons] using hx)
theorem mrFrom_more {b : List IP} {l1 l2 : Int} (h : mrFrom l1 b = 0) (h2 : ∀ x ∈ b, l2 < x.1) : mrFrom l2 b = 0 := by
  cases b with
  | nil => rfl
  | cons p t =>
    obtain ⟨g1, g2, g3⟩ := mrFrom_cons h
    have := h2 p (by simp)
    rw [mrFrom, if_pos ((btw_iff _ _ _).2 ⟨by omega, g2⟩), g3]
theorem mapRight_from (l : List IP) (h : mapRight l = 0) : mrFrom (-1) l = 0 := by
  unfold mapRight at h
  split at h
  · omega
  · exact h
theorem mapRight_append (a b : List IP) (ha : mapRight a = 0) (hb : mapRight b = 0) (h : ∀ x ∈ a, ∀ y ∈ b, x.1 < y.1) : mapRight (a ++ b) = if a.length + b.length > 200 then 2 else 0 := by
  unfold mapRight
  rw [List.length_append]
  split
  · rfl
  · refine mrFrom_append a b (-1) (mapRight_from a ha) fun l2 g1 g2 g3 g4 => mrFrom_more (mapRight_from b hb) fun y hy => ?_
    cases hx : a.getLast? with
    | none =>
      have : a = [] := by simpa using hx
      have hl := g3 this
      have := mrFrom_gt b (-1) (mapRight_from b hb) y hy
      omega
    | some x =>
      rw [g4 x hx]
      exact h x (List.mem_of_getLast? hx) y hy
theorem mrFrom_le_last : ∀ (l : List IP) (last : Int), mrFrom last l = 0 → ∀ x ∈ l, ∀ z, l.getLast? = some z → x.1 ≤ z.1
  | [], _, _, x, hx, _, _ => by cases hx
  | [p], last, h, x, hx, z, hz => by simp at hx hz; subst hx; subst hz; omega
  | p :: q :: t, last, h, x, hx, z, hz => by
    obtain ⟨h1, h2, h3⟩ := mrFrom_cons h
    have hz' : (q :: t).getLast? = some z := by simpa [List.getLast?_cons_cons] using hz
    rcases List.mem_cons.1 hx with rfl | hx
    · have g1 := mrFrom_gt _ _ h3 z (List.mem_of_getLast? hz'); omega
    · exact mrFrom_le_last (q :: t) p.1 h3 x hx z hz'
theorem meets_true (a b : List IP) (ha : mapRight a = 0) (hb : mapRight b = 0) (x y : IP) (hx : x ∈ a) (hy : y ∈ b) (h : y.1 ≤ x.1) : meets a b = true := by
  cases hz : a.getLast? with
  | none =>
    have : a = [] := by simpa using hz
    subst this; cases hx
  | some z =>
    cases b with
    | nil => cases hy
    | cons p t =>
      have h1 := mrFrom_le_last a (-1) (mapRight_from a ha) x hx z hz
      have h2 : p.1 ≤ y.1 := by
        obtain ⟨g1, g2, g3⟩ := mrFrom_cons (mapRight_from _ hb)
        rcases List.mem_cons.1 hy with rfl | hy
        · omega
        · have := mrFrom_gt _ _ g3 y hy; omega
      simp only [meets, hz, List.head?_cons, decide_eq_true_eq]
      omega
theorem meets_false (a b : List IP) (h : ∀ x ∈ a, ∀ y ∈ b, x.1 < y.1) : meets a b = false := by
  unfold meets
  cases hz : a.getLast? with
  | none => rfl
  | some z =>
    cases b with
    | nil => rfl
    | cons p t =>
      simp only [List.head?_cons, decide_eq_false_iff_not]
      have := h z (List.mem_of_getLast? hz) p (by simp)
      omega
end Go.Proofs.Ythbapflabjogkaa
