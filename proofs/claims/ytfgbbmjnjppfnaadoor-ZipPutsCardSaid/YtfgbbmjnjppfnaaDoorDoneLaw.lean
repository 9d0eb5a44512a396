/-
  Plain laws: what the document says of an op (doneL) and what the program answers (doA) are one, for a right map; a right map stays right. No program. Conditions: none.
-/
import Derived.Test.YtfgbbmjnjppfnaaDoorDone
import Derived.Test.YtfgbbmjnjppfnaaDoorPlainLaw
namespace Go.Proofs.YtfgbbmjnjppfnaaDoor
open Go.ChangeShapes Go.WideShapes Go.ChangeAt Go.RowKit
set_option linter.unusedVariables false
set_option linter.unusedSimpArgs false

section
variable {T D M : List IP} {key : Int}
theorem TD.without (h : TD T D key) (hM : ∀ x ∈ M, x.1 = key) : without (T ++ M ++ D) key = T ++ D := by
  have h1 : T.filter (fun p => !(p.1 == key)) = T := List.filter_eq_self.2 fun x hx => by have := h.lt x hx; simp; omega
  have h2 : M.filter (fun p => !(p.1 == key)) = [] := List.filter_eq_nil_iff.2 fun x hx => by have := hM x hx; simp [this]
  have h3 : D.filter (fun p => !(p.1 == key)) = D := List.filter_eq_self.2 fun x hx => by have := h.gt x hx; simp; omega
  simp [Go.Proofs.YtfgbbmjnjppfnaaDoor.without, List.filter_append, h1, h2, h3]
theorem TD.below1 (h : TD T D key) (hM : ∀ x ∈ M, x.1 = key) : Go.Proofs.YtfgbbmjnjppfnaaDoor.below (T ++ M ++ D) (key + 1) = T.length + M.length := by
  have h1 : T.filter (fun p => decide (p.1 < key + 1)) = T := List.filter_eq_self.2 fun x hx => by have := h.lt x hx; simp; omega
  have h2 : M.filter (fun p => decide (p.1 < key + 1)) = M := List.filter_eq_self.2 fun x hx => by have := hM x hx; simp; omega
  have h3 : D.filter (fun p => decide (p.1 < key + 1)) = [] := List.filter_eq_nil_iff.2 fun x hx => by have := h.gt x hx; simp; omega
  simp [Go.Proofs.YtfgbbmjnjppfnaaDoor.below, List.filter_append, h1, h2, h3]
theorem TD.withL (h : TD T D key) (hM : ∀ x ∈ M, x.1 = key) (v : Int) : withL (T ++ M ++ D) (key, v) = T ++ [(key, v)] ++ D := by
  have h1 := h.without hM
  have h2 := h.below (M := []) (TD.no key)
  rw [List.append_nil] at h2
  rw [Go.Proofs.YtfgbbmjnjppfnaaDoor.withL]
  simp only [h1, h2]
  simp
end
theorem hasR_get (l : List IP) (h : Rise l) (key : Int) : (⟨0, 0, (hasR l key).1, (hasR l key).2⟩ : An) = getL l key := by
  rw [getL_find l h, hasR]
  cases l.find? (fun p => p.1 == key) <;> rfl
theorem hasR_has (l : List IP) (h : Rise l) (key : Int) : (hasR l key).2 = hasKey l key := by
  have h1 := congrArg An.is (hasR_get l h key)
  simp only at h1
  rw [h1, getL]
  cases hasKey l key <;> rfl
theorem done_do (l : List IP) (kind key val : Int) (h : mapRight l = 0) : doneL l kind key val = doA l kind key val := by
  have hr := rise_of h
  rw [doA, if_pos h, doneL, doL]
  by_cases hb : ¬ (1 ≤ kind ∧ kind ≤ 7) ∨ (kind < 6 ∧ ¬ (0 ≤ key ∧ key ≤ 1000000))
  · have hb' : ¬ (1 ≤ kind ∧ kind ≤ 7) ∨ (kind ≤ 5 ∧ ¬ (0 ≤ key ∧ key ≤ 1000000)) := by omega
    rw [if_pos hb, if_pos hb']
  · have hb' : ¬ (¬ (1 ≤ kind ∧ kind ≤ 7) ∨ (kind ≤ 5 ∧ ¬ (0 ≤ key ∧ key ≤ 1000000))) := by omega
    rw [if_neg hb, if_neg hb']
    obtain ⟨T, M, D, hl, htd, hT, hD, hM⟩ := td_of l hr key
    have hMk : ∀ x ∈ M, x.1 = key := by
      rcases hM with rfl | ⟨u, rfl⟩
      · exact TD.no key
      · exact TD.one key u
    have h1 : (if (hasR l key).2 = false ∧ l.length = 200 then (l, (⟨2, 0, 0, false⟩ : An)) else (withL l (key, val), ⟨0, 0, 0, (hasR l key).2⟩)) = putL l key val := by
      rw [hasR_has l hr, hl, htd.withL hMk]
      rcases hM with rfl | ⟨u, rfl⟩
      · have hh := htd.has (M := []) (TD.no key)
        rw [hh, List.append_nil, htd.put_no]
        by_cases h2 : (T ++ D).length = 200
        · rw [if_pos ⟨rfl, h2⟩, if_pos h2]
        · rw [if_neg (fun h => h2 h.2), if_neg h2]; simp
      · have hh := htd.has (M := [(key, u)]) (TD.one key u)
        rw [hh, htd.put_one]
        simp
    have h3 : ((without l key, ⟨0, 0, (hasR l key).1, (hasR l key).2⟩) : List IP × An) = cutL l key := by
      rw [hasR_get l hr, hl, htd.without hMk]
      rcases hM with rfl | ⟨u, rfl⟩
      · rw [List.append_nil, htd.get_no, htd.cut_no]
      · rw [htd.get_one, htd.cut_one]
    have h4 : ((below l (key + 1) : Nat) : Int) = if hasKey l key then (below l key : Int) + 1 else below l key := by
      rw [hl, htd.below1 hMk, htd.has hMk, htd.below hMk]
      rcases hM with rfl | ⟨u, rfl⟩ <;> simp
    have h2 := hasR_get l hr key
    by_cases k1 : kind = 1
    · rw [if_pos k1, if_pos k1, h1]
    · rw [if_neg k1, if_neg k1]
      by_cases k2 : kind = 2
      · rw [if_pos k2, if_pos k2, h2]; rfl
      · rw [if_neg k2, if_neg k2]
        by_cases k3 : kind = 3
        · rw [if_pos k3, if_pos k3, h3]; rfl
        · rw [if_neg k3, if_neg k3]
          by_cases k4 : kind = 4
          · rw [if_pos k4, if_pos k4, h4]
          · rw [if_neg k4, if_neg k4]
theorem doA_right (l : List IP) (kind key val : Int) (h : mapRight l = 0) : mapRight (doA l kind key val).1 = 0 := by
  have hr := rise_of h
  rw [doA, if_pos h, doL]
  by_cases hb : ¬ (1 ≤ kind ∧ kind ≤ 7) ∨ (kind ≤ 5 ∧ ¬ (0 ≤ key ∧ key ≤ 1000000))
  · rw [if_pos hb]; exact h
  · rw [if_neg hb]
    obtain ⟨T, M, D, hl, htd, hT, hD, hM⟩ := td_of l hr key
    obtain ⟨hlen, _, hin⟩ := (mapRight_iff l).1 h
    have hin2 : ∀ x, x ∈ T ∨ x ∈ D → 0 ≤ x.1 ∧ x.1 ≤ 1000000 := fun x hx => hin x (by rw [hl]; simp; rcases hx with h | h <;> simp [h])
    have hlen2 : (T ++ D).length ≤ 200 := by rw [hl] at hlen; simp at hlen ⊢; omega
    by_cases k1 : kind = 1
    · rw [if_pos k1]
      have hmid : ∀ u, (T ++ [(key, u)] ++ D).length ≤ 200 → mapRight (T ++ [(key, u)] ++ D) = 0 := fun u hu => (mapRight_iff _).2 ⟨hu, rise_mid (M := []) htd hT hD u, fun x hx => by
        simp only [List.mem_append, List.mem_singleton] at hx
        rcases hx with (hx | rfl) | hx
        · exact hin2 x (.inl hx)
        · subst k1; simp only; omega
        · exact hin2 x (.inr hx)⟩
      rcases hM with rfl | ⟨u, rfl⟩
      · rw [List.append_nil] at hl
        rw [hl, htd.put_no]
        by_cases h2 : (T ++ D).length = 200
        · rw [if_pos h2, ← hl]; exact h
        · rw [if_neg h2]
          exact hmid val (by simp at hlen2 h2 ⊢; omega)
      · rw [hl, htd.put_one]
        exact hmid val (by rw [hl] at hlen; simp at hlen ⊢; omega)
    · rw [if_neg k1]
      by_cases k2 : kind = 2
      · rw [if_pos k2]; exact h
      · rw [if_neg k2]
        by_cases k3 : kind = 3
        · rw [if_pos k3]
          have : mapRight (cutL l key).1 = 0 := by
            rcases hM with rfl | ⟨u, rfl⟩
            · rw [List.append_nil] at hl
              rw [hl, htd.cut_no, ← hl]; exact h
            · rw [hl, htd.cut_one]
              exact (mapRight_iff _).2 ⟨hlen2, rise_no htd hT hD, fun x hx => hin2 x (List.mem_append.1 hx)⟩
          exact this
        · rw [if_neg k3]
          by_cases k4 : kind = 4
          · rw [if_pos k4]; exact h
          · rw [if_neg k4]
            by_cases k5 : kind = 5
            · rw [if_pos k5]; exact h
            · rw [if_neg k5]
              by_cases k6 : kind = 6
              · rw [if_pos k6]; exact h
              · rw [if_neg k6]; exact h
theorem runL_right (ops : List O3) (k : Nat) (hk : k ≤ ops.length) : mapRight (runL (ops.take k)).1 = 0 := by
  induction k with
  | zero => rfl
  | succ k ih =>
    rw [runL_take ops k (by omega), runS]
    exact doA_right _ _ _ _ (ih (by omega))
end Go.Proofs.YtfgbbmjnjppfnaaDoor
