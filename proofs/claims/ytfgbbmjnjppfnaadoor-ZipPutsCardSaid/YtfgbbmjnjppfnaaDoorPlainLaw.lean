/-
  Plain laws: put, cut, get in words of what lies ahead of a key and behind it. No program. Conditions: none.
-/
import Derived.Test.YtfgbbmjnjppfnaaDoorDoLaw
namespace Go.Proofs.YtfgbbmjnjppfnaaDoor
open Go.ChangeShapes Go.WideShapes Go.ChangeAt Go.RowKit
set_option linter.unusedVariables false
set_option linter.unusedSimpArgs false

theorem mapRight_iff (l : List IP) : mapRight l = 0 ↔ l.length ≤ 200 ∧ Rise l ∧ ∀ x ∈ l, 0 ≤ x.1 ∧ x.1 ≤ 1000000 := by
  constructor
  · intro h
    exact ⟨mapRight_len l h, rise_of h, fun x hx => mapRight_in l h x hx⟩
  · rintro ⟨h1, h2, h3⟩
    rw [mapRight, if_neg (by omega)]
    have : ∀ (l : List IP) (last : Int), Rise l → (∀ x ∈ l, last < x.1 ∧ x.1 ≤ 1000000) → mrFrom last l = 0 := by
      intro l
      induction l with
      | nil => intro _ _ _; rfl
      | cons p t ih =>
        intro last hr hb
        have hp := hb p (by simp)
        rw [mrFrom, if_pos ((btw_iff _ _ _).2 ⟨by omega, hp.2⟩)]
        refine ih p.1 hr.tail fun x hx => ⟨?_, (hb x (by simp [hx])).2⟩
        obtain ⟨j, hj, rfl⟩ := List.getElem_of_mem hx
        exact hr 0 (j + 1) (by simp) (by simpa using hj) (by omega)
    exact this l (-1) h2 fun x hx => ⟨by have := (h3 x hx).1; omega, (h3 x hx).2⟩

/-- All of T ahead of the key, all of D behind it. -/
structure TD (T D : List IP) (key : Int) : Prop where
  lt : ∀ x ∈ T, x.1 < key
  gt : ∀ x ∈ D, key < x.1
section
variable {T D M : List IP} {key : Int}
theorem TD.below (h : TD T D key) (hM : ∀ x ∈ M, x.1 = key) : below (T ++ M ++ D) key = T.length := by
  have h1 : T.filter (fun p => decide (p.1 < key)) = T := List.filter_eq_self.2 fun x hx => by simpa using h.lt x hx
  have h2 : M.filter (fun p => decide (p.1 < key)) = [] := List.filter_eq_nil_iff.2 fun x hx => by have := hM x hx; simp; omega
  have h3 : D.filter (fun p => decide (p.1 < key)) = [] := List.filter_eq_nil_iff.2 fun x hx => by have := h.gt x hx; simp; omega
  simp [Go.Proofs.YtfgbbmjnjppfnaaDoor.below, List.filter_append, h1, h2, h3]
theorem TD.has (h : TD T D key) (hM : ∀ x ∈ M, x.1 = key) : hasKey (T ++ M ++ D) key = !M.isEmpty := by
  have h1 : T.any (fun p => p.1 == key) = false := by
    rw [List.any_eq_false]; intro x hx; have := h.lt x hx; simp; omega
  have h3 : D.any (fun p => p.1 == key) = false := by
    rw [List.any_eq_false]; intro x hx; have := h.gt x hx; simp; omega
  have h2 : M.any (fun p => p.1 == key) = !M.isEmpty := by
    cases M with
    | nil => rfl
    | cons a t => simp [hM a (by simp)]
  simp [hasKey, List.any_append, h1, h2, h3]
theorem gv_mid (T D : List IP) (p : IP) : gv (T ++ [p] ++ D) T.length = p.2 := by simp [gv, List.getD_eq_getElem?_getD]
theorem TD.one (key v : Int) : ∀ x ∈ [((key, v) : IP)], x.1 = key := fun x hx => by simp at hx; rw [hx]
theorem TD.no (key : Int) : ∀ x ∈ ([] : List IP), x.1 = key := fun x hx => by simp at hx
theorem TD.get_one (h : TD T D key) (v : Int) : getL (T ++ [(key, v)] ++ D) key = ⟨0, 0, v, true⟩ := by
  rw [getL, h.has (TD.one key v), h.below (TD.one key v), gv_mid]; rfl
theorem TD.get_no (h : TD T D key) : getL (T ++ D) key = ⟨0, 0, 0, false⟩ := by
  have := h.has (M := []) (TD.no key)
  rw [List.append_nil] at this
  rw [getL, this]; rfl
theorem TD.put_one (h : TD T D key) (v u : Int) : putL (T ++ [(key, v)] ++ D) key u = (T ++ [(key, u)] ++ D, ⟨0, 0, 0, true⟩) := by
  rw [putL, h.has (TD.one key v), h.below (TD.one key v), if_pos (show (!([((key, v) : IP)].isEmpty)) = true from rfl)]
  congr 1
  rw [List.append_assoc, List.set_append_right _ _ (Nat.le_refl _), Nat.sub_self]; simp
theorem TD.put_no (h : TD T D key) (u : Int) : putL (T ++ D) key u = if (T ++ D).length = 200 then (T ++ D, ⟨2, 0, 0, false⟩) else (T ++ [(key, u)] ++ D, ⟨0, 0, 0, false⟩) := by
  have h1 := h.has (M := []) (TD.no key)
  have h2 := h.below (M := []) (TD.no key)
  rw [List.append_nil] at h1 h2
  rw [putL, h1, h2]
  simp
theorem TD.cut_one (h : TD T D key) (v : Int) : cutL (T ++ [(key, v)] ++ D) key = (T ++ D, ⟨0, 0, v, true⟩) := by
  rw [cutL, h.has (TD.one key v), h.below (TD.one key v), gv_mid]
  simp
theorem TD.cut_no (h : TD T D key) : cutL (T ++ D) key = (T ++ D, ⟨0, 0, 0, false⟩) := by
  have := h.has (M := []) (TD.no key)
  rw [List.append_nil] at this
  rw [cutL, this]; rfl
end
theorem getL_find (l : List IP) (h : Rise l) (o : Int) : getL l o = match l.find? (fun p => p.1 == o) with | some p => ⟨0, 0, p.2, true⟩ | none => ⟨0, 0, 0, false⟩ := by
  cases hk : hasKey l o with
  | true =>
    obtain ⟨hb, he⟩ := (hasKey_iff l h o).1 hk
    have hf : l.find? (fun p => p.1 == o) = some l[below l o] := by
      rw [List.find?_eq_some_iff_getElem]
      refine ⟨by simp [he], below l o, hb, rfl, fun j hj => ?_⟩
      have := (below_cut l h o j (by omega)).1 hj
      simp; omega
    rw [hf, getL, hk, if_pos rfl, gv_eq l _ hb]
  | false =>
    have hf : l.find? (fun p => p.1 == o) = none := by
      rw [List.find?_eq_none]
      intro x hx
      have : ¬ hasKey l o = true := by simp [hk]
      simp only [hasKey, List.any_eq_true, not_exists, not_and] at this
      exact this x hx
    rw [hf, getL, hk]; rfl
/-- Of another key the middle says nothing. -/
theorem get_other (T D M M' : List IP) (key o : Int) (h1 : Rise (T ++ M ++ D)) (h2 : Rise (T ++ M' ++ D)) (hM : ∀ x ∈ M, x.1 = key) (hM' : ∀ x ∈ M', x.1 = key) (ho : o ≠ key) : getL (T ++ M ++ D) o = getL (T ++ M' ++ D) o := by
  rw [getL_find _ h1, getL_find _ h2]
  have e : ∀ N : List IP, (∀ x ∈ N, x.1 = key) → N.find? (fun p => p.1 == o) = none := fun N hN => by
    rw [List.find?_eq_none]; intro x hx; have := hN x hx; simp; omega
  simp only [List.find?_append, e M hM, e M' hM', Option.or_none]
theorem rise_iff (l : List IP) : Rise l ↔ l.Pairwise (fun a b => a.1 < b.1) := by
  rw [List.pairwise_iff_getElem]
  exact ⟨fun h i j hi hj hij => h i j hi hj hij, fun h i j hi hj hij => h i j hi hj hij⟩
theorem rise_mid {T D M : List IP} {key : Int} (h : TD T D key) (hT : Rise T) (hD : Rise D) (v : Int) : Rise (T ++ [(key, v)] ++ D) := by
  rw [rise_iff] at hT hD ⊢
  rw [List.pairwise_append, List.pairwise_append]
  refine ⟨⟨hT, by simp, fun a ha b hb => ?_⟩, hD, fun a ha b hb => ?_⟩
  · simp at hb; subst hb; exact h.lt a ha
  · have := h.gt b hb
    rcases List.mem_append.1 ha with ha | ha
    · have := h.lt a ha; omega
    · simp at ha; subst ha; exact this
theorem rise_no {T D : List IP} {key : Int} (h : TD T D key) (hT : Rise T) (hD : Rise D) : Rise (T ++ D) := by
  rw [rise_iff] at hT hD ⊢
  rw [List.pairwise_append]
  exact ⟨hT, hD, fun a ha b hb => by have := h.lt a ha; have := h.gt b hb; omega⟩
theorem rise_parts {T D : List IP} (h : Rise (T ++ D)) : Rise T ∧ Rise D := by
  rw [rise_iff, List.pairwise_append] at h
  exact ⟨(rise_iff _).2 h.1, (rise_iff _).2 h.2.1⟩
/-- Each list that rises is parted so. -/
theorem td_of (l : List IP) (h : Rise l) (key : Int) : ∃ T M D, l = T ++ M ++ D ∧ TD T D key ∧ Rise T ∧ Rise D ∧ (M = [] ∨ ∃ v, M = [(key, v)]) := by
  have hcut := below_cut l h key
  have hbl := below_le l key
  have hT : ∀ x ∈ l.take (below l key), x.1 < key := fun x hx => by
    obtain ⟨j, hj, rfl⟩ := List.getElem_of_mem hx
    simp at hj
    rw [List.getElem_take]
    exact (hcut j (by omega)).1 (by omega)
  have hRT : Rise (l.take (below l key)) := (rise_parts (D := l.drop (below l key)) (by rw [List.take_append_drop]; exact h)).1
  have hge : ∀ j (hj : j < l.length), below l key ≤ j → key ≤ l[j].1 := fun j hj hb => by
    have := hcut j hj; omega
  by_cases hh : ∃ hb : below l key < l.length, l[below l key].1 = key
  · obtain ⟨hb, he⟩ := hh
    refine ⟨l.take (below l key), [(key, l[below l key].2)], l.drop (below l key + 1), ?_, ⟨hT, fun x hx => ?_⟩, hRT, ?_, .inr ⟨_, rfl⟩⟩
    · have : ((key, l[below l key].2) : IP) = l[below l key] := Prod.ext he.symm rfl
      rw [this]; simp
    · obtain ⟨j, hj, rfl⟩ := List.getElem_of_mem hx
      simp at hj
      rw [List.getElem_drop]
      have := h (below l key) (below l key + 1 + j) hb (by omega) (by omega)
      omega
    · exact (rise_parts (T := l.take (below l key + 1)) (by rw [List.take_append_drop]; exact h)).2
  · refine ⟨l.take (below l key), [], l.drop (below l key), by simp, ⟨hT, fun x hx => ?_⟩, hRT, ?_, .inl rfl⟩
    · obtain ⟨j, hj, rfl⟩ := List.getElem_of_mem hx
      simp at hj
      rw [List.getElem_drop]
      have h1 := hge (below l key + j) (by omega) (by omega)
      rcases Nat.eq_zero_or_pos j with rfl | hj0
      · have : (l[below l key + 0]).1 ≠ key := fun e => hh ⟨by omega, by simpa using e⟩
        omega
      · have := h (below l key) (below l key + j) (by omega) (by omega) (by omega)
        have := hge (below l key) (by omega) (Nat.le_refl _)
        omega
    · exact (rise_parts (T := l.take (below l key)) (by rw [List.take_append_drop]; exact h)).2

end Go.Proofs.YtfgbbmjnjppfnaaDoor
