/-
  A stable sort: what its steps leave of the order of those of one key. No program. Conditions: none.
-/
import Derived.Test.YtcpponjknmkfaaaBase
namespace Go.Proofs.Ytcpponjknmkfaaa
open Go.ChangeShapes Go.WideShapes Go.ChangeAt Go.RowKit
set_option linter.unusedVariables false
set_option linter.unusedSimpArgs false

section
variable {α : Type} (key : α → Int)
/-- Those of one key stand in one order. -/
def StabEq (s t : List α) : Prop := ∀ k, t.filter (fun x => key x == k) = s.filter (fun x => key x == k)
def SortedK (s : List α) : Prop := s.Pairwise fun a b => key a ≤ key b
end
section
variable {α : Type} {key : α → Int} {s t u v p q : List α}
theorem StabEq.refl (s : List α) : StabEq key s s := fun _ => rfl
theorem StabEq.trans (h : StabEq key s t) (k : StabEq key t u) : StabEq key s u := fun x => (k x).trans (h x)
theorem StabEq.append (h : StabEq key s t) (k : StabEq key u v) : StabEq key (s ++ u) (t ++ v) := fun x => by
  rw [List.filter_append, List.filter_append, h x, k x]
theorem StabEq.mid (h : StabEq key s t) (p q : List α) : StabEq key (p ++ s ++ q) (p ++ t ++ q) := ((StabEq.refl p).append h).append (StabEq.refl q)
/-- Two blocks change places, the second one all lower. -/
theorem StabEq.swap (h : ∀ a ∈ u, ∀ b ∈ v, key b < key a) : StabEq key (u ++ v) (v ++ u) := fun k => by
  rw [List.filter_append, List.filter_append]
  by_cases e : u.filter (fun x => key x == k) = []
  · rw [e]; simp
  · have e2 : v.filter (fun x => key x == k) = [] := by
      rw [List.filter_eq_nil_iff]
      intro b hb hc
      obtain ⟨a, ha⟩ := List.exists_mem_of_ne_nil _ e
      rw [List.mem_filter] at ha
      have h1 : key b = k := by simpa using hc
      have h2 : key a = k := by simpa using ha.2
      have := h a ha.1 b hb
      omega
    rw [e2]; simp
theorem StabEq.mem (h : StabEq key s t) (x : α) : x ∈ t ↔ x ∈ s := by
  have h1 : ∀ l : List α, x ∈ l ↔ x ∈ l.filter (fun y => key y == key x) := fun l => by
    rw [List.mem_filter]; simp
  rw [h1 t, h1 s, h (key x)]
theorem StabEq.cons_inv {a b : α} (h : StabEq key (a :: s) (b :: t)) (e : key a = key b) : a = b ∧ StabEq key s t := by
  have h0 := h (key a)
  rw [List.filter_cons_of_pos (by rw [beq_iff_eq]; exact e.symm), List.filter_cons_of_pos (by simp)] at h0
  injection h0 with h1 h2
  refine ⟨h1.symm, fun k => ?_⟩
  have hk := h k
  subst h1
  by_cases e2 : key b = k
  · rw [List.filter_cons_of_pos (by simp [e2]), List.filter_cons_of_pos (by simp [e2])] at hk
    injection hk
  · rw [List.filter_cons_of_neg (by simp [e2]), List.filter_cons_of_neg (by simp [e2])] at hk
    exact hk
/-- Just one list is sorted and keeps those of one key in order. -/
theorem stab_unique : ∀ {s t : List α}, SortedK key s → SortedK key t → StabEq key s t → s = t
  | [], [], _, _, _ => rfl
  | [], b :: t, _, _, h => by
    have := (h.mem b).1 (by simp)
    cases this
  | a :: s, [], _, _, h => by
    have := (h.mem a).2 (by simp)
    cases this
  | a :: s, b :: t, hs, ht, h => by
    obtain ⟨h1, h2⟩ := List.pairwise_cons.1 hs
    obtain ⟨g1, g2⟩ := List.pairwise_cons.1 ht
    have e : key a = key b := by
      have m1 := (h.mem b).1 (by simp)
      have m2 := (h.mem a).2 (by simp)
      have l1 : key a ≤ key b := by
        rcases List.mem_cons.1 m1 with rfl | m
        · exact Int.le_refl _
        · exact h1 b m
      have l2 : key b ≤ key a := by
        rcases List.mem_cons.1 m2 with rfl | m
        · exact Int.le_refl _
        · exact g1 a m
      omega
    obtain ⟨rfl, h3⟩ := h.cons_inv e
    rw [stab_unique h2 g2 h3]
theorem SortedK.append (hu : SortedK key u) (hv : SortedK key v) (h : ∀ a ∈ u, ∀ b ∈ v, key a ≤ key b) : SortedK key (u ++ v) := List.pairwise_append.2 ⟨hu, hv, h⟩
/-- What SymMerge makes of two sorted parts, each cut in two. -/
theorem merge_law {X1 X2 Y1 Y2 A B : List α} (hX : SortedK key (X1 ++ X2)) (hY : SortedK key (Y1 ++ Y2)) (h1 : ∀ a ∈ X2, ∀ b ∈ Y1, key b < key a) (h2 : ∀ a ∈ X1, ∀ b ∈ Y2, key a ≤ key b)
    (hA : SortedK key A) (hAs : StabEq key (X1 ++ Y1) A) (hB : SortedK key B) (hBs : StabEq key (X2 ++ Y2) B) : SortedK key (A ++ B) ∧ StabEq key (X1 ++ X2 ++ (Y1 ++ Y2)) (A ++ B) := by
  obtain ⟨x1, x2, x3⟩ := List.pairwise_append.1 hX
  obtain ⟨y1, y2, y3⟩ := List.pairwise_append.1 hY
  refine ⟨hA.append hB fun a ha b hb => ?_, ?_⟩
  · rcases List.mem_append.1 ((hAs.mem a).1 ha) with ha | ha
    · rcases List.mem_append.1 ((hBs.mem b).1 hb) with hb | hb
      · exact x3 a ha b hb
      · exact h2 a ha b hb
    · rcases List.mem_append.1 ((hBs.mem b).1 hb) with hb | hb
      · have := h1 b hb a ha; omega
      · exact y3 a ha b hb
  · have e1 : X1 ++ X2 ++ (Y1 ++ Y2) = X1 ++ (X2 ++ Y1) ++ Y2 := by simp
    have e2 : X1 ++ Y1 ++ (X2 ++ Y2) = X1 ++ (Y1 ++ X2) ++ Y2 := by simp
    rw [e1]
    refine ((StabEq.swap h1).mid X1 Y2).trans ?_
    rw [← e2]
    exact hAs.append hBs
end
end Go.Proofs.Ytcpponjknmkfaaa
