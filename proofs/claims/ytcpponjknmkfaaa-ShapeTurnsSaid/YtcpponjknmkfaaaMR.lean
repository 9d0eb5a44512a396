/-
  Plain laws on lists of pairs whose keys rise. No program. Conditions: none.
-/
import Derived.Test.YtcpponjknmkfaaaChk
namespace Go.Proofs.Ytcpponjknmkfaaa
open Go.ChangeShapes Go.WideShapes Go.ChangeAt Go.RowKit
set_option linter.unusedVariables false
set_option linter.unusedSimpArgs false

theorem mrFrom_01 : ∀ (l : List IP) (last : Int), mrFrom last l = 0 ∨ mrFrom last l = 3
  | [], _ => .inl rfl
  | p :: t, last => by
    unfold mrFrom
    split
    · exact mrFrom_01 t p.1
    · exact .inr rfl
theorem mrFrom_cons {p : IP} {t : List IP} {last : Int} (h : mrFrom last (p :: t) = 0) : last < p.1 ∧ p.1 ≤ 1000000 ∧ mrFrom p.1 t = 0 := by
  unfold mrFrom at h
  split at h
  · rename_i hb
    have := (btw_iff _ _ _).1 hb
    exact ⟨by omega, this.2, h⟩
  · omega
theorem mrFrom_gt : ∀ (l : List IP) (last : Int), mrFrom last l = 0 → ∀ x ∈ l, last < x.1
  | [], _, _, x, hx => by cases hx
  | p :: t, last, h, x, hx => by
    obtain ⟨h1, h2, h3⟩ := mrFrom_cons h
    rcases List.mem_cons.1 hx with rfl | hx
    · exact h1
    · have := mrFrom_gt t p.1 h3 x hx; omega
theorem mrFrom_append : ∀ (a b : List IP) (last : Int), mrFrom last a = 0 → (∀ l2, (∀ x ∈ a, x.1 ≤ l2) → last ≤ l2 → (a = [] → l2 = last) → (∀ x, a.getLast? = some x → l2 = x.1) → mrFrom l2 b = 0) → mrFrom last (a ++ b) = 0
  | [], b, last, _, h => by simpa using h last (by simp) (by omega) (fun _ => rfl) (by simp)
  | p :: t, b, last, ha, h => by
    obtain ⟨h1, h2, h3⟩ := mrFrom_cons ha
    rw [List.cons_append, mrFrom, if_pos ((btw_iff _ _ _).2 ⟨by omega, h2⟩)]
    refine mrFrom_append t b p.1 h3 fun l2 g1 g2 g3 g4 => ?_
    refine h l2 (fun x hx => ?_) (by omega) (by simp) (fun x hx => ?_)
    · rcases List.mem_cons.1 hx with rfl | hx
      · exact g2
      · exact g1 x hx
    · cases t with
      | nil => simp at hx; subst hx; exact g3 rfl
      | cons q t => exact g4 x (by simpa [List.getLast?_cons_cons] using hx)
theorem mrFrom_more {b : List IP} {l1 l2 : Int} (h : mrFrom l1 b = 0) (h2 : ∀ x ∈ b, l2 < x.1) : mrFrom l2 b = 0 := by
  cases b with
  | nil => rfl
  | cons p t =>
    obtain ⟨g1, g2, g3⟩ := mrFrom_cons h
    have := h2 p (by simp)
    rw [mrFrom, if_pos ((btw_iff _ _ _).2 ⟨by omega, g2⟩), g3]
theorem mapRight_from (l : List IP) (h : mapRight l = 0) : mrFrom (-1) l = 0 := by
  unfold mapRight at h
  split at h
  · omega
  · exact h

theorem mrFrom_keys : ∀ (l m : List IP) (last : Int), l.map Prod.fst = m.map Prod.fst → mrFrom last l = mrFrom last m
  | [], [], _, _ => rfl
  | [], _ :: _, _, h => by simp at h
  | _ :: _, [], _, h => by simp at h
  | p :: t, q :: u, last, h => by
    simp only [List.map_cons, List.cons.injEq] at h
    rw [mrFrom, mrFrom, h.1, mrFrom_keys t u q.1 h.2]
theorem mapRight_keys (l m : List IP) (h : l.map Prod.fst = m.map Prod.fst) : mapRight l = mapRight m := by
  have hl : l.length = m.length := by simpa using congrArg List.length h
  rw [mapRight, mapRight, hl, mrFrom_keys l m _ h]
theorem mrFrom_rise : ∀ (l : List IP) (last : Int), mrFrom last l = 0 → ∀ i j (hi : i < l.length) (hj : j < l.length), i < j → l[i].1 < l[j].1
  | p :: t, last, h, 0, j + 1, hi, hj, _ => by
    obtain ⟨_, _, h3⟩ := mrFrom_cons h
    simp only [List.getElem_cons_zero, List.getElem_cons_succ]
    exact mrFrom_gt t p.1 h3 _ (List.getElem_mem _)
  | p :: t, last, h, i + 1, j + 1, hi, hj, hij => by
    obtain ⟨_, _, h3⟩ := mrFrom_cons h
    simp only [List.getElem_cons_succ]
    exact mrFrom_rise t p.1 h3 i j (by simpa using hi) (by simpa using hj) (by omega)
  | _, _, _, 0, 0, _, _, h => by omega
  | _, _, _, i + 1, 0, _, _, h => by omega
theorem mrFrom_le6 : ∀ (l : List IP) (last : Int), mrFrom last l = 0 → ∀ x ∈ l, x.1 ≤ 1000000
  | [], _, _, x, hx => by cases hx
  | p :: t, last, h, x, hx => by
    obtain ⟨h1, h2, h3⟩ := mrFrom_cons h
    rcases List.mem_cons.1 hx with rfl | hx
    · exact h2
    · exact mrFrom_le6 t p.1 h3 x hx
theorem mapRight_rise (l : List IP) (h : mapRight l = 0) (i j : Nat) (hi : i < l.length) (hj : j < l.length) (hij : i < j) : l[i].1 < l[j].1 := mrFrom_rise l (-1) (mapRight_from l h) i j hi hj hij
theorem mapRight_in (l : List IP) (h : mapRight l = 0) (x : IP) (hx : x ∈ l) : 0 ≤ x.1 ∧ x.1 ≤ 1000000 :=
  ⟨by have := mrFrom_gt l (-1) (mapRight_from l h) x hx; omega, mrFrom_le6 l (-1) (mapRight_from l h) x hx⟩
end Go.Proofs.Ytcpponjknmkfaaa
