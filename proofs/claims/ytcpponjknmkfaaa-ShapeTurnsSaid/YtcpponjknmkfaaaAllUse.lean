/-
  Plain laws: each of all trees is right, with the keys from 0 on. No program. Conditions: none.
-/
import Derived.Test.YtcpponjknmkfaaaAllSort
namespace Go.Proofs.Ytcpponjknmkfaaa
set_option linter.unusedVariables false
set_option linter.unusedSimpArgs false

theorem up_range (n : Nat) : ((List.range n).map (fun j => ((0 + j : Nat) : Int))).Pairwise (fun a b => a < b) := by
  rw [List.pairwise_map, List.pairwise_iff_getElem]
  intro i j hi hj hij
  simp only [List.getElem_range]
  omega
theorem in_range (n : Nat) (hn : n ≤ 1000000) : ∀ x ∈ (List.range n).map (fun j => ((0 + j : Nat) : Int)), 0 ≤ x ∧ x ≤ 1000000 := fun x hx => by
  obtain ⟨j, hj, rfl⟩ := List.mem_map.1 hx
  have := List.mem_range.1 hj
  omega
theorem allOf_mem {n : Nat} (hn : n ≤ 7) {ls : List (List IP)} (h : AllOf n ls) {t : List IP} (ht : t ∈ ls) : (parOf t).2 = 0 ∧ t.length = n ∧ ∀ k, k < t.length → gk t k = (k : Int) := by
  have h1 := h.1.mem_iff.1 ht
  have h2 := treesS_inner n 0 n 0 (Nat.le_refl _) t h1
  rw [treesS_eq] at h1
  obtain ⟨M, hM, rfl⟩ := List.mem_map.1 h1
  have hk := allT_keys n 0 n (Nat.le_refl _) M hM
  have hsz : M.size = n := by rw [← keysM_len id M, hk]; simp
  refine ⟨?_, h2, fun k hk2 => ?_⟩
  · rw [spotsBy_right id M (by omega) (by rw [hk]; exact up_range n) (by rw [hk]; exact in_range n (by omega))]
  · have e1 := spotsBy_keys id M 0
    rw [hk] at e1
    have e2 := List.getElem_of_eq e1 (i := k) (by simpa using hk2)
    simp only [List.getElem_map, List.getElem_range] at e2
    rw [gk_eq _ k hk2, e2]
    simp
theorem allOf_len {n : Nat} {ls : List (List IP)} (h : AllOf n ls) : ls.length = catF n n := by rw [h.1.length_eq, treesS_len]
end Go.Proofs.Ytcpponjknmkfaaa
