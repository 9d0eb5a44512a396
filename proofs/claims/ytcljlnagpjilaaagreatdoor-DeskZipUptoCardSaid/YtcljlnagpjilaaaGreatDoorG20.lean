/-
  Plain laws: put, cut, get in words of what lies ahead of a key and behind it
  What plain.Do and plain.Run leave is a right map
  Plain laws: what the document says of an op (doneL) and what the program answers (doA) are
-/
import Derived.Test.YtcljlnagpjilaaaGreatDoorG9
import Derived.Test.YtcljlnagpjilaaaGreatDoorG19

set_option linter.unusedVariables false
set_option linter.unusedSimpArgs false
set_option maxRecDepth 100000
set_option maxHeartbeats 8000000
namespace Go.Proofs.YtcljlnagpjilaaaGreatDoor
open Go.ChangeShapes Go.WideShapes Go.ChangeAt Go.RowKit
theorem mapRight_iff (l : List IP) : mapRight l = 0 ↔ l.length <= 200 /\ Rise l /\ ∀ x ∈ l, 0 <= x.1 /\ x.1 <= 1000000 := by
 constructor
 ·intro h
  exact ⟨mapRight_len l h, rise_of h, fun x hx => mapRight_in l h x hx⟩
 ·rintro ⟨h1, h2, h3⟩
  rw [mapRight, if_neg (by omega)]
  have : ∀ (l : List IP) (last : Int), Rise l -> (∀ x ∈ l, last < x.1 /\ x.1 <= 1000000) -> mrFrom last l = 0 := by
   intro l
   induction l with
   | nil => intro _ _ _; rfl
   | cons p t ih =>
    intro last hr hb
    have hp := hb p (by simp)
    rw [mrFrom, if_pos ((btw_iff _ _ _).2 ⟨by omega, hp.2⟩)]
    refine ih p.1 hr.tail fun x hx => ⟨?_, (hb x (by simp [hx])).2⟩
    obtain ⟨j, hj, rfl⟩ := List.getElem_of_mem hx
    exact hr 0 (j + 1) (by simp) (by simpa using hj) (by omega)
  exact this l (-1) h2 fun x hx => ⟨by have := (h3 x hx).1; omega, (h3 x hx).2⟩
structure TD (T D : List IP) (key : Int) : Prop where
 lt : ∀ x ∈ T, x.1 < key
 gt : ∀ x ∈ D, key < x.1
section
variable {T D M : List IP} {key : Int}
theorem TD.below (h : TD T D key) (hM : ∀ x ∈ M, x.1 = key) : below (T ++ M ++ D) key = T.length := by
 have h1 : T.filter (fun p => decide (p.1 < key)) = T := List.filter_eq_self.2 fun x hx => by simpa using h.lt x hx
 have h2 : M.filter (fun p => decide (p.1 < key)) = [] := List.filter_eq_nil_iff.2 fun x hx => by have := hM x hx; simp; omega
 have h3 : D.filter (fun p => decide (p.1 < key)) = [] := List.filter_eq_nil_iff.2 fun x hx => by have := h.gt x hx; simp; omega
 simp [Go.Proofs.YtcljlnagpjilaaaGreatDoor.below, List.filter_append, h1, h2, h3]
theorem TD.has (h : TD T D key) (hM : ∀ x ∈ M, x.1 = key) : hasKey (T ++ M ++ D) key = !M.isEmpty := by
 have h1 : T.any (fun p => p.1 == key) = false := by
  rw [List.any_eq_false]; intro x hx; have := h.lt x hx; simp; omega
 have h3 : D.any (fun p => p.1 == key) = false := by
  rw [List.any_eq_false]; intro x hx; have := h.gt x hx; simp; omega
 have h2 : M.any (fun p => p.1 == key) = !M.isEmpty := by
  cases M with
  | nil => rfl
  | cons a t => simp [hM a (by simp)]
 simp [hasKey, List.any_append, h1, h2, h3]
theorem gv_mid (T D : List IP) (p : IP) : gv (T ++ [p] ++ D) T.length = p.2 := by simp [gv, List.getD_eq_getElem?_getD]
theorem TD.one (key v : Int) : ∀ x ∈ [((key, v) : IP)], x.1 = key := fun x hx => by simp at hx; rw [hx]
theorem TD.no (key : Int) : ∀ x ∈ ([] : List IP), x.1 = key := fun x hx => by simp at hx
theorem TD.put_one (h : TD T D key) (v u : Int) : putL (T ++ [(key, v)] ++ D) key u = (T ++ [(key, u)] ++ D, ⟨0, 0, 0, true⟩) := by
 rw [putL, h.has (TD.one key v), h.below (TD.one key v), if_pos (show (!([((key, v) : IP)].isEmpty)) = true from rfl)]
 congr 1
 rw [List.append_assoc, List.set_append_right _ _ (Nat.le_refl _), Nat.sub_self]; simp
theorem TD.put_no (h : TD T D key) (u : Int) : putL (T ++ D) key u = if (T ++ D).length = 200 then (T ++ D, ⟨2, 0, 0, false⟩) else (T ++ [(key, u)] ++ D, ⟨0, 0, 0, false⟩) := by
 have h1 := h.has (M := []) (TD.no key)
 have h2 := h.below (M := []) (TD.no key)
 rw [List.append_nil] at h1 h2
 rw [putL, h1, h2]
 simp
theorem TD.cut_one (h : TD T D key) (v : Int) : cutL (T ++ [(key, v)] ++ D) key = (T ++ D, ⟨0, 0, v, true⟩) := by
 rw [cutL, h.has (TD.one key v), h.below (TD.one key v), gv_mid]
 simp
theorem TD.cut_no (h : TD T D key) : cutL (T ++ D) key = (T ++ D, ⟨0, 0, 0, false⟩) := by
 have := h.has (M := []) (TD.no key)
 rw [List.append_nil] at this
 rw [cutL, this]; rfl
end
theorem rise_iff (l : List IP) : Rise l ↔ l.Pairwise (fun a b => a.1 < b.1) := by
 rw [List.pairwise_iff_getElem]
 exact ⟨fun h i j hi hj hij => h i j hi hj hij, fun h i j hi hj hij => h i j hi hj hij⟩
theorem rise_mid {T D M : List IP} {key : Int} (h : TD T D key) (hT : Rise T) (hD : Rise D) (v : Int) : Rise (T ++ [(key, v)] ++ D) := by
 rw [rise_iff] at hT hD ⊢
 rw [List.pairwise_append, List.pairwise_append]
 refine ⟨⟨hT, by simp, fun a ha b hb => ?_⟩, hD, fun a ha b hb => ?_⟩
 ·simp at hb; subst hb; exact h.lt a ha
 ·have := h.gt b hb
  rcases List.mem_append.1 ha with ha | ha
  ·have := h.lt a ha; omega
  ·simp at ha; subst ha; exact this
theorem rise_no {T D : List IP} {key : Int} (h : TD T D key) (hT : Rise T) (hD : Rise D) : Rise (T ++ D) := by
 rw [rise_iff] at hT hD ⊢
 rw [List.pairwise_append]
 exact ⟨hT, hD, fun a ha b hb => by have := h.lt a ha; have := h.gt b hb; omega⟩
theorem rise_parts {T D : List IP} (h : Rise (T ++ D)) : Rise T /\ Rise D := by
 rw [rise_iff, List.pairwise_append] at h
 exact ⟨(rise_iff _).2 h.1, (rise_iff _).2 h.2.1⟩
theorem td_of (l : List IP) (h : Rise l) (key : Int) : ∃ T M D, l = T ++ M ++ D /\ TD T D key /\ Rise T /\ Rise D /\ (M = [] ∨ ∃ v, M = [(key, v)]) := by
 have hcut := below_cut l h key
 have hbl := below_le l key
 have hT : ∀ x ∈ l.take (below l key), x.1 < key := fun x hx => by
  obtain ⟨j, hj, rfl⟩ := List.getElem_of_mem hx
  simp at hj
  rw [List.getElem_take]
  exact (hcut j (by omega)).1 (by omega)
 have hRT : Rise (l.take (below l key)) := (rise_parts (D := l.drop (below l key)) (by rw [List.take_append_drop]; exact h)).1
 have hge : ∀ j (hj : j < l.length), below l key <= j -> key <= l[j].1 := fun j hj hb => by
  have := hcut j hj; omega
 by_cases hh : ∃ hb : below l key < l.length, l[below l key].1 = key
 ·obtain ⟨hb, he⟩ := hh
  refine ⟨l.take (below l key), [(key, l[below l key].2)], l.drop (below l key + 1), ?_, ⟨hT, fun x hx => ?_⟩, hRT, ?_, .inr ⟨_, rfl⟩⟩
  ·have : ((key, l[below l key].2) : IP) = l[below l key] := Prod.ext he.symm rfl
   rw [this]; simp
  ·obtain ⟨j, hj, rfl⟩ := List.getElem_of_mem hx
   simp at hj
   rw [List.getElem_drop]
   have := h (below l key) (below l key + 1 + j) hb (by omega) (by omega)
   omega
  ·exact (rise_parts (T := l.take (below l key + 1)) (by rw [List.take_append_drop]; exact h)).2
 ·refine ⟨l.take (below l key), [], l.drop (below l key), by simp, ⟨hT, fun x hx => ?_⟩, hRT, ?_, .inl rfl⟩
  ·obtain ⟨j, hj, rfl⟩ := List.getElem_of_mem hx
   simp at hj
   rw [List.getElem_drop]
   have h1 := hge (below l key + j) (by omega) (by omega)
   rcases Nat.eq_zero_or_pos j with rfl | hj0
   ·have : (l[below l key + 0]).1 ≠ key := fun e => hh ⟨by omega, by simpa using e⟩
    omega
   ·have := h (below l key) (below l key + j) (by omega) (by omega) (by omega)
    have := hge (below l key) (by omega) (Nat.le_refl _)
    omega
  ·exact (rise_parts (T := l.take (below l key)) (by rw [List.take_append_drop]; exact h)).2
theorem doA_right (l : List IP) (kind key val : Int) (h : mapRight l = 0) : mapRight (doA l kind key val).1 = 0 := by
 have hr := rise_of h
 rw [doA, if_pos h, doL]
 by_cases hb : ¬ (1 <= kind /\ kind <= 7) ∨ (kind <= 5 /\ ¬ (0 <= key /\ key <= 1000000))
 ·rw [if_pos hb]; exact h
 ·rw [if_neg hb]
  obtain ⟨T, M, D, hl, htd, hT, hD, hM⟩ := td_of l hr key
  obtain ⟨hlen, _, hin⟩ := (mapRight_iff l).1 h
  have hin2 : ∀ x, x ∈ T ∨ x ∈ D -> 0 <= x.1 /\ x.1 <= 1000000 := fun x hx => hin x (by rw [hl]; simp; rcases hx with h | h <;> simp [h])
  have hlen2 : (T ++ D).length <= 200 := by rw [hl] at hlen; simp at hlen ⊢; omega
  by_cases k1 : kind = 1
  ·rw [if_pos k1]
   have hmid : ∀ u, (T ++ [(key, u)] ++ D).length <= 200 -> mapRight (T ++ [(key, u)] ++ D) = 0 := fun u hu => (mapRight_iff _).2 ⟨hu, rise_mid (M := []) htd hT hD u, fun x hx => by
    simp only [List.mem_append, List.mem_singleton] at hx
    rcases hx with (hx | rfl) | hx
    ·exact hin2 x (.inl hx)
    ·subst k1; simp only; omega
    ·exact hin2 x (.inr hx)⟩
   rcases hM with rfl | ⟨u, rfl⟩
   ·rw [List.append_nil] at hl
    rw [hl, htd.put_no]
    by_cases h2 : (T ++ D).length = 200
    ·rw [if_pos h2, <- hl]; exact h
    ·rw [if_neg h2]
     exact hmid val (by simp at hlen2 h2 ⊢; omega)
   ·rw [hl, htd.put_one]
    exact hmid val (by rw [hl] at hlen; simp at hlen ⊢; omega)
  ·rw [if_neg k1]
   by_cases k2 : kind = 2
   ·rw [if_pos k2]; exact h
   ·rw [if_neg k2]
    by_cases k3 : kind = 3
    ·rw [if_pos k3]
     have : mapRight (cutL l key).1 = 0 := by
      rcases hM with rfl | ⟨u, rfl⟩
      ·rw [List.append_nil] at hl
       rw [hl, htd.cut_no, <- hl]; exact h
      ·rw [hl, htd.cut_one]
       exact (mapRight_iff _).2 ⟨hlen2, rise_no htd hT hD, fun x hx => hin2 x (List.mem_append.1 hx)⟩
     exact this
    ·rw [if_neg k3]
     by_cases k4 : kind = 4
     ·rw [if_pos k4]; exact h
     ·rw [if_neg k4]
      by_cases k5 : kind = 5
      ·rw [if_pos k5]; exact h
      ·rw [if_neg k5]
       by_cases k6 : kind = 6
       ·rw [if_pos k6]; exact h
       ·rw [if_neg k6]; exact h
theorem runL_right (ops : List O3) (k : Nat) (hk : k <= ops.length) : mapRight (runL (ops.take k)).1 = 0 := by
 induction k with
 | zero => rfl
 | succ k ih =>
  rw [runL_take ops k (by omega), runS]
  exact doA_right _ _ _ _ (ih (by omega))
end Go.Proofs.YtcljlnagpjilaaaGreatDoor
