/-
  Plain laws: the tree that keys make one by one: its spots are a right tree; keys and comparisons of the sort by parts. No program. Conditions: none.
-/
import Derived.Test.YtnallpdmdhbidaaGSort
import Derived.Test.YtnallpdmdhbidaaGRun
import Derived.Test.YtnallpdmdhbidaaMPt
namespace Go.Proofs.Ytnallpdmdhbidaa
open Go.ChangeShapes Go.WideShapes Go.ChangeAt Go.RowKit
set_option linter.unusedVariables false
set_option linter.unusedSimpArgs false

theorem fold_node (a : IP) : ∀ (t : List Int) (l r : MT IP), (∀ y ∈ t, y ≠ a.1) → t.foldl insK (.node a l r) = .node a ((lessL a.1 t).foldl insK l) ((moreL a.1 t).foldl insK r)
  | [], _, _, _ => rfl
  | y :: t, l, r, h => by
    have hy := h y (by simp)
    have ht : ∀ z ∈ t, z ≠ a.1 := fun z hz => h z (by simp [hz])
    rw [List.foldl_cons, insK, ins]
    by_cases hlt : y < a.1
    · rw [if_pos hlt, fold_node a t _ _ ht]
      simp [lessL, moreL, List.filter_cons, hlt, insK]
    · rw [if_neg hlt, if_pos (show a.1 < y by omega), fold_node a t _ _ ht]
      simp [lessL, moreL, List.filter_cons, hlt, insK]
theorem ofT_cons (x : Int) (t : List Int) (h : ∀ y ∈ t, y ≠ x) : ofT (x :: t) = .node (x, 0) (ofT (lessL x t)) (ofT (moreL x t)) := by
  rw [ofT, List.foldl_cons]
  exact fold_node (x, 0) t .nil .nil h
theorem allL_append (a b : List IP) : allL (a ++ b) = allL a + allL b := by simp [allL]
theorem allL_shift {α : Type} (kf : α → Int) : ∀ (t : MT α) (d : Int), allL (t.spotsBy kf (d + 1)) = allL (t.spotsBy kf d) + t.size
  | .nil, _ => by simp [MT.spotsBy, allL, MT.size]
  | .node a l r, d => by
    simp only [MT.spotsBy, allL_append, MT.size]
    rw [allL_shift kf l (d + 1), allL_shift kf r (d + 1)]
    simp [allL]; omega
theorem nodup_less {x : Int} {t : List Int} (h : t.Nodup) : (lessL x t).Nodup := h.filter _
theorem nodup_more {x : Int} {t : List Int} (h : t.Nodup) : (moreL x t).Nodup := h.filter _
/-- What the tree of unlike keys is, in words of the sort by parts. -/
theorem ofT_facts : ∀ (n : Nat) (l : List Int), l.length ≤ n → l.Nodup → (ofT l).size = l.length ∧ (sortF n l).1 = keysM Prod.fst (ofT l) ∧ (sortF n l).2 = allL ((ofT l).spotsBy Prod.fst 0) ∧ (keysM Prod.fst (ofT l)).Pairwise (fun a b => a < b) ∧ ∀ y, y ∈ keysM Prod.fst (ofT l) ↔ y ∈ l
  | _, [], _, _ => by simp [sortF_one, ofT, MT.size, keysM, MT.spotsBy, allL]
  | 0, x :: t, h, _ => by simp at h
  | n + 1, x :: t, h, hn => by
    rw [List.nodup_cons] at hn
    obtain ⟨hx, ht⟩ := hn
    have hne : ∀ y ∈ t, y ≠ x := fun y hy e => hx (by rw [← e]; exact hy)
    simp only [List.length_cons] at h
    have hpl := parts_len x t
    obtain ⟨a1, a2, a3, a4, a5⟩ := ofT_facts n (lessL x t) (by omega) (nodup_less ht)
    obtain ⟨b1, b2, b3, b4, b5⟩ := ofT_facts n (moreL x t) (by omega) (nodup_more ht)
    have hlt : ∀ y ∈ keysM Prod.fst (ofT (lessL x t)), y < x := fun y hy => by
      have := (a5 y).1 hy
      simp [lessL] at this
      exact this.2
    have hgt : ∀ y ∈ keysM Prod.fst (ofT (moreL x t)), x < y := fun y hy => by
      have := (b5 y).1 hy
      simp [moreL] at this
      have := hne y this.1
      omega
    rw [ofT_cons x t hne]
    refine ⟨?_, ?_, ?_, ?_, fun y => ?_⟩
    · simp only [MT.size, List.length_cons, a1, b1]; omega
    · cases t with
      | nil => simp [sortF_one, keysM, lessL, moreL, ofT]
      | cons z u => rw [sortF_more n x (z :: u) (by simp), a2, b2]; rfl
    · cases t with
      | nil => simp [sortF_one, MT.spotsBy, lessL, moreL, ofT, allL]
      | cons z u =>
        rw [sortF_more n x (z :: u) (by simp)]
        simp only [MT.spotsBy, allL_append]
        have e1 := allL_shift Prod.fst (ofT (lessL x (z :: u))) 0
        have e2 := allL_shift Prod.fst (ofT (moreL x (z :: u))) 0
        rw [e1, e2, ← a3, ← b3, a1, b1]
        simp only [List.length_cons] at hpl ⊢
        simp [allL]
        omega
    · simp only [keysM]
      rw [List.pairwise_append, List.pairwise_append]
      refine ⟨⟨a4, by simp, fun p hp q hq => ?_⟩, b4, fun p hp q hq => ?_⟩
      · simp at hq; subst hq; exact hlt p hp
      · have h2 := hgt q hq
        rcases List.mem_append.1 hp with hp | hp
        · have := hlt p hp; omega
        · simp at hp; subst hp; exact h2
    · simp only [keysM, List.mem_append, List.mem_cons, List.not_mem_nil, or_false, a5 y, b5 y]
      simp only [lessL, moreL, List.mem_filter]
      constructor
      · rintro ((⟨h1, _⟩ | h1) | ⟨h1, _⟩)
        · exact .inr h1
        · exact .inl h1
        · exact .inr h1
      · rintro (h1 | h1)
        · exact .inl (.inr h1)
        · by_cases hyx : y < x
          · exact .inl (.inl ⟨h1, by simpa using hyx⟩)
          · exact .inr ⟨h1, by simpa using hyx⟩
theorem rightG_ok (l : List Int) (h : rightG l = 0) : l.length ≤ 200 ∧ keysIn l ∧ l.Nodup := by
  unfold rightG at h
  split at h
  · omega
  · split at h
    · omega
    · split at h
      · omega
      · rename_i a b c
        exact ⟨by omega, by simpa using b, by simpa using c⟩
end Go.Proofs.Ytnallpdmdhbidaa
