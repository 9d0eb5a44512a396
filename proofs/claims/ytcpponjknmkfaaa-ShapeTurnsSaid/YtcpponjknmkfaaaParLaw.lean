/-
  Plain laws: what shape.parents makes of the spots of a tree of places. No program. Conditions: none.
-/
import Derived.Test.YtcpponjknmkfaaaRead
import Derived.Test.YtcpponjknmkfaaaMR
namespace Go.Proofs.Ytcpponjknmkfaaa
open Go.ChangeShapes Go.WideShapes Go.ChangeAt Go.RowKit
set_option linter.unusedVariables false
set_option linter.unusedSimpArgs false

theorem PT.deps_ge : ∀ (t : PT) (d : Int), ∀ e ∈ t.deps d, d ≤ e
  | .nil, d, e, h => by simp [deps] at h
  | .node p l r, d, e, h => by
    simp only [deps, List.mem_append, List.mem_singleton] at h
    rcases h with (h | rfl) | h
    · have := deps_ge l (d + 1) e h; omega
    · omega
    · have := deps_ge r (d + 1) e h; omega
theorem PT.deps_node (p : Nat) (l r : PT) (d : Int) (j : Nat) : ((PT.node p l r).deps d)[j]? = if j < l.size then (l.deps (d + 1))[j]? else if j = l.size then some d else (r.deps (d + 1))[j - (l.size + 1)]? := by
  have h := PT.deps_len l (d + 1)
  simp only [deps, List.append_assoc]
  rcases Nat.lt_trichotomy j l.size with hj | hj | hj
  · rw [if_pos hj, List.getElem?_append_left (by omega)]
  · rw [if_neg (by omega), if_pos hj, List.getElem?_append_right (by omega), h, hj, Nat.sub_self]; rfl
  · rw [if_neg (by omega), if_neg (by omega), List.getElem?_append_right (by omega), h, show j - l.size = (j - (l.size + 1)) + 1 from by omega]; rfl
theorem PT.pars_node (p : Nat) (l r : PT) (u : Int) (j : Nat) : ((PT.node p l r).pars u)[j]? = if j < l.size then (l.pars p)[j]? else if j = l.size then some u else (r.pars p)[j - (l.size + 1)]? := by
  have h := PT.pars_len l (p : Int)
  simp only [pars, List.append_assoc]
  rcases Nat.lt_trichotomy j l.size with hj | hj | hj
  · rw [if_pos hj, List.getElem?_append_left (by omega)]
  · rw [if_neg (by omega), if_pos hj, List.getElem?_append_right (by omega), h, hj, Nat.sub_self]; rfl
  · rw [if_neg (by omega), if_neg (by omega), List.getElem?_append_right (by omega), h, show j - l.size = (j - (l.size + 1)) + 1 from by omega]; rfl

theorem topF_stay (l : List IP) (p : Nat) : ∀ n k, (∀ j, k ≤ j → j < k + n → gv l p < gv l j) → topF l n k p true = (p, true)
  | 0, _, _ => rfl
  | n + 1, k, h => by
    have := h k (by omega) (by omega)
    rw [topF, if_neg (by omega), if_neg (by omega)]
    exact topF_stay l p n (k + 1) fun j a b => h j (by omega) (by omega)
theorem topF_find (l : List IP) (p : Nat) : ∀ n k a al, k ≤ p → p < k + n → gv l p < gv l a → (∀ j, k ≤ j → j < k + n → j ≠ p → gv l p < gv l j) → topF l n k a al = (p, true)
  | 0, k, a, al, h1, h2, _, _ => by omega
  | n + 1, k, a, al, h1, h2, h3, h4 => by
    by_cases hkp : k = p
    · subst hkp
      rw [topF, if_pos h3]
      exact topF_stay l k n (k + 1) fun j a b => h4 j (by omega) (by omega) (by omega)
    · have hk := h4 k (by omega) (by omega) hkp
      rw [topF]
      split
      · exact topF_find l p n (k + 1) k true (by omega) (by omega) hk fun j a b c => h4 j (by omega) (by omega) c
      · split
        · exact topF_find l p n (k + 1) a false (by omega) (by omega) h3 fun j a b c => h4 j (by omega) (by omega) c
        · exact topF_find l p n (k + 1) a al (by omega) (by omega) h3 fun j a b c => h4 j (by omega) (by omega) c
theorem topS_find (l : List IP) (lo hi p : Nat) (h1 : lo ≤ p) (h2 : p < hi) (h : ∀ j, lo ≤ j → j < hi → j ≠ p → gv l p < gv l j) : topS l lo hi = (p, true) := by
  unfold topS
  by_cases hp : lo = p
  · subst hp
    exact topF_stay l lo _ _ fun j a b => h j (by omega) (by omega) (by omega)
  · exact topF_find l p _ _ _ _ (by omega) (by omega) (h lo (by omega) (by omega) hp) fun j a b c => h j (by omega) (by omega) c
/-- The spots of a tree of places make that tree again. -/
theorem ptR_of (l : List IP) : ∀ (t : PT) (lo hi : Nat) (d : Int), t.At lo → hi = lo + t.size → (∀ j, j < t.size → some (gv l (lo + j)) = (t.deps d)[j]?) → ptR l lo hi d = some t
  | .nil, lo, hi, d, _, h, _ => ptR_nil l lo hi d (by simp [PT.size] at h; omega)
  | .node p a b, lo, hi, d, ⟨hp, ha, hb⟩, h, hg => by
    simp only [PT.size] at h hg
    have hgp : gv l p = d := by
      have := hg a.size (by omega)
      rw [PT.deps_node, if_neg (by omega), if_pos rfl, ← hp] at this
      exact Option.some.inj this
    have hga : ∀ j, j < a.size → some (gv l (lo + j)) = (a.deps (d + 1))[j]? := fun j hj => by
      have := hg j (by omega)
      rwa [PT.deps_node, if_pos hj] at this
    have hgb : ∀ j, j < b.size → some (gv l (p + 1 + j)) = (b.deps (d + 1))[j]? := fun j hj => by
      have := hg (a.size + 1 + j) (by omega)
      rw [PT.deps_node, if_neg (by omega), if_neg (by omega), show a.size + 1 + j - (a.size + 1) = j from by omega, show lo + (a.size + 1 + j) = p + 1 + j from by omega] at this
      exact this
    have ht : topS l lo hi = (p, true) := topS_find l lo hi p (by omega) (by omega) fun j h1 h2 h3 => by
      rw [hgp]
      rcases Nat.lt_or_ge j p with hj | hj
      · have := hga (j - lo) (by omega)
        rw [show lo + (j - lo) = j from by omega] at this
        have := PT.deps_ge a (d + 1) _ (List.mem_of_getElem? this.symm)
        omega
      · have := hgb (j - (p + 1)) (by omega)
        rw [show p + 1 + (j - (p + 1)) = j from by omega] at this
        have := PT.deps_ge b (d + 1) _ (List.mem_of_getElem? this.symm)
        omega
    rw [ptR_node l lo hi d (by omega) p ht hgp, ptR_of l a lo p (d + 1) ha hp hga, ptR_of l b (p + 1) hi (d + 1) hb (by omega) hgb]
/-- And what is made is a tree of places with these depths. -/
theorem ptR_to (l : List IP) (lo hi : Nat) (d : Int) (t : PT) (hlh : lo ≤ hi) (h : ptR l lo hi d = some t) : t.At lo ∧ t.size = hi - lo ∧ ∀ j, j < t.size → some (gv l (lo + j)) = (t.deps d)[j]? := by
  by_cases h0 : lo < hi
  · have ht := topS_in l lo hi h0
    by_cases h1 : (topS l lo hi).2 = true ∧ gv l (topS l lo hi).1 = d
    · rw [ptR_node l lo hi d h0 (topS l lo hi).1 (by rw [← h1.1]) h1.2] at h
      cases ha : ptR l lo (topS l lo hi).1 (d + 1) with
      | none => rw [ha] at h; simp at h
      | some a =>
        cases hb : ptR l ((topS l lo hi).1 + 1) hi (d + 1) with
        | none => rw [ha, hb] at h; simp at h
        | some b =>
          rw [ha, hb] at h
          simp only [Option.some.injEq] at h
          subst h
          obtain ⟨h2, h3, h4⟩ := ptR_to l lo (topS l lo hi).1 (d + 1) a ht.1 ha
          obtain ⟨h5, h6, h7⟩ := ptR_to l ((topS l lo hi).1 + 1) hi (d + 1) b (by omega) hb
          refine ⟨⟨by omega, h2, h5⟩, by simp only [PT.size]; omega, fun j hj => ?_⟩
          simp only [PT.size] at hj
          rw [PT.deps_node]
          split
          · exact h4 j (by omega)
          · split
            · rw [show lo + j = (topS l lo hi).1 from by omega, h1.2]
            · have := h7 (j - (a.size + 1)) (by omega)
              rwa [show (topS l lo hi).1 + 1 + (j - (a.size + 1)) = lo + j from by omega] at this
    · rw [ptR_none l lo hi d h0 h1] at h
      cases h
  · rw [ptR_nil l lo hi d h0] at h
    injection h with h
    subst h
    exact ⟨trivial, by simp [PT.size]; omega, fun j hj => by simp [PT.size] at hj⟩
termination_by hi - lo

/-- A map's keys with the depths of a tree of places. -/
theorem parOf_tree (l : List IP) (t : PT) (hm : mapRight l = 0) (ha : t.At 0) (hs : t.size = l.length) (hd : ∀ j, j < l.length → some (gv l j) = (t.deps 0)[j]?) : parOf l = (t.pars (-1), 0) := by
  rw [parOf, if_neg (by simp [hm]), ptR_of l t 0 l.length 0 ha (by omega) (fun j hj => by rw [Nat.zero_add]; exact hd j (by omega))]
theorem zip_keys (l : List IP) (ds : List Int) (h : ds.length = l.length) : (List.zipWith (fun (p : IP) (e : Int) => ((p.1, e) : IP)) l ds).map Prod.fst = l.map Prod.fst := by
  apply List.ext_getElem
  · simp [h]
  · intro i h1 h2; simp
theorem zip_gv (l : List IP) (ds : List Int) (h : ds.length = l.length) (j : Nat) (hj : j < l.length) : some (gv (List.zipWith (fun (p : IP) (e : Int) => ((p.1, e) : IP)) l ds) j) = ds[j]? := by
  rw [gv_eq _ j (by simp; omega), List.getElem?_eq_getElem (by omega)]
  simp
theorem parOf_zip (l : List IP) (t : PT) (hm : mapRight l = 0) (ha : t.At 0) (hs : t.size = l.length) : parOf (List.zipWith (fun (p : IP) (e : Int) => ((p.1, e) : IP)) l (t.deps 0)) = (t.pars (-1), 0) := by
  have hdl := PT.deps_len t 0
  have hl : (List.zipWith (fun (p : IP) (e : Int) => ((p.1, e) : IP)) l (t.deps 0)).length = l.length := by simp; omega
  refine parOf_tree _ t (by rw [mapRight_keys _ l (zip_keys l _ (by omega)), hm]) ha (by omega) fun j hj => zip_gv l _ (by omega) j (by omega)
theorem parOf_len (l : List IP) (h : (parOf l).2 = 0) : l.length ≤ 200 ∧ mapRight l = 0 ∧ ∃ t, ptR l 0 l.length 0 = some t ∧ parOf l = (t.pars (-1), 0) := by
  unfold parOf at h
  by_cases h0 : mapRight l = 0
  · rw [if_neg (by simp [h0])] at h
    cases ht : ptR l 0 l.length 0 with
    | none => rw [ht] at h; simp at h
    | some t => exact ⟨mapRight_len l h0, h0, t, rfl, by rw [parOf, if_neg (by simp [h0]), ht]⟩
  · rw [if_pos h0] at h
    exact absurd h h0
end Go.Proofs.Ytcpponjknmkfaaa
