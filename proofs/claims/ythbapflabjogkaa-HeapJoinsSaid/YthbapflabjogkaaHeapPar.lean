/-
  Plain laws: who stands next above whom in the tree of heap.Of. No program. Conditions: none.
-/
import Derived.Test.YthbapflabjogkaaParLaw
import Derived.Test.YthbapflabjogkaaHeapOf
namespace Go.Proofs.Ythbapflabjogkaa
open Go.ChangeShapes Go.WideShapes Go.ChangeAt Go.RowKit
set_option linter.unusedVariables false
set_option linter.unusedSimpArgs false

theorem amax_first (l : List IP) : ∀ m k a, k + m ≤ l.length → a < k → (∀ j, j < a → (l.getD j (0, 0)).2 < (l.getD a (0, 0)).2) → (∀ j, j < k → (l.getD j (0, 0)).2 ≤ (l.getD a (0, 0)).2) → ∀ j, j < amax l m k a → (l.getD j (0, 0)).2 < (l.getD (amax l m k a) (0, 0)).2
  | 0, k, a, _, _, h, _, j, hj => h j hj
  | m + 1, k, a, hk, ha, h, h2, j, hj => by
    rw [amax] at hj ⊢
    by_cases hlt : (l.getD a (0, 0)).2 < (l.getD k (0, 0)).2
    · rw [if_pos hlt] at hj ⊢
      refine amax_first l m (k + 1) k (by omega) (by omega) (fun i hi => by have := h2 i hi; omega) (fun i hi => ?_) j hj
      rcases Nat.lt_or_ge i k with h1 | h1
      · have := h2 i h1; omega
      · obtain rfl : i = k := by omega
        omega
    · rw [if_neg hlt] at hj ⊢
      refine amax_first l m (k + 1) a (by omega) (by omega) h (fun i hi => ?_) j hj
      rcases Nat.lt_or_ge i k with h1 | h1
      · exact h2 i h1
      · obtain rfl : i = k := by omega
        omega
theorem top_first (l : List IP) (h : l ≠ []) (j : Nat) (hj : j < top l) : (l[j]'(Nat.lt_trans hj (top_lt l h))).2 < (l[top l]'(top_lt l h)).2 := by
  have h0 := List.length_pos_iff.2 h
  have ht := top_lt l h
  have h1 : amax l l.length 0 0 = amax l (l.length - 1) 1 0 := by
    obtain ⟨m, hm⟩ : ∃ m, l.length = m + 1 := ⟨l.length - 1, by omega⟩
    rw [hm, amax, if_neg (by omega)]; rfl
  have hz : ∀ j, j < 1 → (l.getD j (0, 0)).2 ≤ (l.getD 0 (0, 0)).2 := fun j hj => by
    have : j = 0 := by omega
    rw [this]; exact Int.le_refl _
  have := amax_first l (l.length - 1) 1 0 (by omega) (by omega) (fun j hj => by omega) hz j (by rw [← h1]; exact hj)
  rw [← h1] at this
  unfold top at ht hj ⊢
  simp only [List.getD_eq_getElem?_getD, List.getElem?_eq_getElem ht, List.getElem?_eq_getElem (Nat.lt_trans hj ht), Option.getD_some] at this
  exact this

theorem ptree_par (l : List IP) (off : Nat) (u0 : Int) (i : Nat) (hi : i < l.length) :
    ∃ u, ((ptree l off).pars u0)[i]? = some u ∧ (u = u0 ∨ ∃ (j : Nat) (hj : j < l.length), u = ((off + j : Nat) : Int) ∧ j ≠ i ∧ (i < j → l[i].2 < l[j].2) ∧ (j < i → l[i].2 ≤ l[j].2)) := by
  by_cases h : l = []
  · subst h; simp at hi
  · have hl := top_lt l h
    rw [ptree_cons l off h, PT.pars_node, ptree_size]
    have e1 : (l.take (top l)).length = top l := by simp; omega
    rw [e1]
    by_cases h1 : i < top l
    · rw [if_pos h1]
      obtain ⟨u, hu, hc⟩ := ptree_par (l.take (top l)) off ((off + top l : Nat) : Int) i (by omega)
      refine ⟨u, hu, .inr ?_⟩
      rcases hc with rfl | ⟨j, hj, rfl, h2, h3, h4⟩
      · exact ⟨top l, hl, rfl, by omega, fun _ => top_first l h i h1, fun h5 => by omega⟩
      · rw [e1] at hj
        refine ⟨j, by omega, rfl, h2, ?_, ?_⟩
        · simpa using h3
        · simpa using h4
    · rw [if_neg h1]
      by_cases h2 : i = top l
      · rw [if_pos h2]
        exact ⟨u0, rfl, .inl rfl⟩
      · rw [if_neg h2]
        have e2 : (l.drop (top l + 1)).length = l.length - (top l + 1) := by simp
        obtain ⟨u, hu, hc⟩ := ptree_par (l.drop (top l + 1)) (off + top l + 1) ((off + top l : Nat) : Int) (i - (top l + 1)) (by omega)
        refine ⟨u, hu, .inr ?_⟩
        rcases hc with rfl | ⟨j, hj, rfl, h3, h4, h5⟩
        · exact ⟨top l, hl, rfl, by omega, fun h5 => by omega, fun _ => top_ge l h i hi⟩
        · rw [e2] at hj
          refine ⟨top l + 1 + j, by omega, by omega, by omega, ?_, ?_⟩
          · intro h6
            have := h4 (by omega)
            simp only [List.getElem_drop] at this
            have e3 : top l + 1 + (i - (top l + 1)) = i := by omega
            simp only [e3] at this
            exact this
          · intro h6
            have := h5 (by omega)
            simp only [List.getElem_drop] at this
            have e3 : top l + 1 + (i - (top l + 1)) = i := by omega
            simp only [e3] at this
            exact this
termination_by l.length
decreasing_by
  · simp; omega
  · simp; omega

def hPar (l : List IP) : List Int := (ptree l 0).pars (-1)
theorem hPar_len (l : List IP) : (hPar l).length = l.length := by rw [hPar, PT.pars_len, ptree_size]
theorem parOf_heap (l : List IP) (h : mapRight l = 0) : parOf ((heapTree l).spots 0) = (hPar l, 0) := by
  rw [heap_zip l 0 0]
  exact parOf_zip l (ptree l 0) h (ptree_at l 0) (ptree_size l 0)
/-- The one above ranks higher, or as high and has the lesser key. -/
theorem hPar_at (l : List IP) (h : mapRight l = 0) (i : Nat) (hi : i < l.length) :
    (hPar l)[i]'(by rw [hPar_len]; exact hi) = -1 ∨ ∃ (j : Nat) (hj : j < l.length), (hPar l)[i]'(by rw [hPar_len]; exact hi) = (j : Int) ∧ j ≠ i ∧ (l[i].2 < l[j].2 ∨ l[i].2 = l[j].2 ∧ l[j].1 < l[i].1) := by
  obtain ⟨u, hu, hc⟩ := ptree_par l 0 (-1) i hi
  have e : (hPar l)[i]'(by rw [hPar_len]; exact hi) = u := by
    have : (hPar l)[i]? = some u := hu
    rw [List.getElem?_eq_getElem (by rw [hPar_len]; exact hi)] at this
    exact Option.some.inj this
  rw [e]
  rcases hc with rfl | ⟨j, hj, rfl, h2, h3, h4⟩
  · exact .inl rfl
  · refine .inr ⟨j, hj, by rw [Nat.zero_add], h2, ?_⟩
    rcases Nat.lt_or_ge i j with h5 | h5
    · exact .inl (h3 h5)
    · have h6 := h4 (by omega)
      rcases Int.lt_or_eq_of_le h6 with h7 | h7
      · exact .inl h7
      · exact .inr ⟨h7, mapRight_rise l h j i hj hi (by omega)⟩
end Go.Proofs.Ythbapflabjogkaa
