/-
  Plain laws: a tree of places turned; what shape.Turn answers is the turned tree; turned back it is as it was. No program. Conditions: none.
-/
import Derived.Test.YtcpponjknmkfaaaTurnW
import Derived.Test.YtcpponjknmkfaaaSumsLaw
namespace Go.Proofs.Ytcpponjknmkfaaa
open Go.ChangeShapes Go.WideShapes Go.ChangeAt Go.RowKit
set_option linter.unusedVariables false
set_option linter.unusedSimpArgs false

/-- The node of a place comes up by one. -/
def PT.rot : PT → Nat → PT
  | .nil, _ => .nil
  | .node p l r, a =>
    if a < p then (match l with | .node c x y => if c = a then .node c x (.node p y r) else .node p (l.rot a) r | .nil => .node p .nil r)
    else (match r with | .node c x y => if c = a then .node c (.node p l x) y else .node p l (r.rot a) | .nil => .node p l .nil)
theorem PT.rot_l1 (p a : Nat) (x y r : PT) (h : a < p) : (PT.node p (.node a x y) r).rot a = .node a x (.node p y r) := by rw [PT.rot.eq_def]; simp [h]
theorem PT.rot_r1 (p a : Nat) (l x y : PT) (h : ¬ a < p) : (PT.node p l (.node a x y)).rot a = .node a (.node p l x) y := by rw [PT.rot.eq_def]; simp [h]
theorem PT.rot_l (p a : Nat) (l r : PT) (h : a < p) (hl : l.anc a ≠ []) : (PT.node p l r).rot a = .node p (l.rot a) r := by
  rw [PT.rot.eq_def]
  simp only [h, if_true]
  cases l with
  | nil => simp [PT.anc] at hl
  | node c x y =>
    simp only
    rw [if_neg]
    rintro rfl
    simp [PT.anc] at hl
theorem PT.rot_r (p a : Nat) (l r : PT) (h : ¬ a < p) (hr : r.anc a ≠ []) : (PT.node p l r).rot a = .node p l (r.rot a) := by
  rw [PT.rot.eq_def]
  simp only [h, if_false]
  cases r with
  | nil => simp [PT.anc] at hr
  | node c x y =>
    simp only
    rw [if_neg]
    rintro rfl
    simp [PT.anc] at hr
/-- In a tree the places are in their bounds; who has none above is the top. -/
theorem PT.anc_nil : ∀ (t : PT) (off a : Nat), t.At off → off ≤ a → a < off + t.size → t.anc a = [] → ∃ x y, t = .node a x y
  | .nil, off, a, _, h1, h2, _ => by simp [PT.size] at h2; omega
  | .node p l r, off, a, _, h1, h2, h => by
    simp only [PT.anc] at h
    split at h
    · simp at h
    · split at h
      · rename_i h3; subst h3; exact ⟨l, r, rfl⟩
      · simp at h
theorem head_append {α : Type} (s : List α) (q p : α) (h : (s ++ [q]).head? = some p) : (s = [] ∧ p = q) ∨ (s ≠ [] ∧ s.head? = some p) := by
  cases s with
  | nil => simp at h; exact .inl ⟨rfl, h.symm⟩
  | cons b u => simp at h; exact .inr ⟨by simp, by simp [h]⟩
theorem head_append' {α : Type} (s : List α) (q p : α) (h : s.head? = some p) : (s ++ [q]).head? = some p := by
  cases s with
  | nil => simp at h
  | cons b u => simpa using h
def inB (t : PT) (k x : Nat) : Bool := decide (x ∈ k :: t.anc k)
def adj (t : PT) (a p k : Nat) : Int :=
  if k = a then -1 else if k = p then 1 else if inB t k a = true ∧ decide (k < a) = decide (a < p) then -1 else if inB t k a = false ∧ inB t k p = true then 1 else 0
theorem PT.rot_at : ∀ (t : PT) (off a p : Nat), t.At off → off ≤ a → a < off + t.size → (t.anc a).head? = some p →
    (t.rot a).At off ∧ (t.rot a).size = t.size ∧ (off ≤ p ∧ p < off + t.size) ∧ ((t.rot a).anc p).head? = some a ∧ (t.rot a).rot p = t ∧
      ∀ k, off ≤ k → k < off + t.size → (((t.rot a).anc k).length : Int) = ((t.anc k).length : Int) + adj t a p k
  | .nil, off, a, p, _, h1, h2, _ => by simp [PT.size] at h2; omega
  | .node q l r, off, a, p, hAt, h1, h2, hh => by
    obtain ⟨hq, hl, hr⟩ := hAt
    simp only [PT.size] at h2
    have hanc : ∀ k, (PT.node q l r).anc k = if k < q then l.anc k ++ [q] else if k = q then [] else r.anc k ++ [q] := fun k => rfl
    have inl : ∀ k b, b ∈ l.anc k → off ≤ b ∧ b < q := fun k b hb => by have := PT.anc_in l off hl k b hb; omega
    have inr : ∀ k b, b ∈ r.anc k → q < b ∧ b < q + 1 + r.size := fun k b hb => by have := PT.anc_in r (q + 1) hr k b hb; omega
    by_cases haq : a < q
    · rw [hanc, if_pos haq] at hh
      rcases head_append _ _ _ hh with ⟨hn, rfl⟩ | ⟨hn, hp⟩
      · obtain ⟨x, y, rfl⟩ := PT.anc_nil l off a hl h1 (by omega) hn
        obtain ⟨ha, hx, hy⟩ := hl
        simp only [PT.size] at hq h2
        have hrot := PT.rot_l1 p a x y r haq
        have inx : ∀ k b, b ∈ x.anc k → off ≤ b ∧ b < a := fun k b hb => by have := PT.anc_in x off hx k b hb; omega
        have iny : ∀ k b, b ∈ y.anc k → a < b ∧ b < p := fun k b hb => by have := PT.anc_in y (a + 1) hy k b hb; omega
        have hra : ∀ k, (PT.node a x (.node p y r)).anc k = if k < a then x.anc k ++ [a] else if k = a then [] else (if k < p then y.anc k ++ [p] else if k = p then [] else r.anc k ++ [p]) ++ [a] := fun k => rfl
        have hta : ∀ k, (PT.node p (.node a x y) r).anc k = if k < p then (if k < a then x.anc k ++ [a] else if k = a then [] else y.anc k ++ [a]) ++ [p] else if k = p then [] else r.anc k ++ [p] := fun k => rfl
        rw [hrot]
        refine ⟨⟨ha, hx, by omega, hy, hr⟩, by simp only [PT.size]; omega, ⟨by omega, by simp only [PT.size]; omega⟩, ?_, ?_, fun k k1 k2 => ?_⟩
        · rw [hra, if_neg (by omega), if_neg (by omega), if_neg (by omega), if_pos rfl]; rfl
        · exact PT.rot_r1 a p x y r (by omega)
        · simp only [PT.size] at k2
          rw [hra, hta]
          unfold adj inB
          rw [hta]
          rcases Nat.lt_trichotomy k a with h | h | h
          · simp only [eq_true h, eq_true (show k < p by omega), eq_false (show ¬ k = a by omega), eq_false (show ¬ k = p by omega), if_true, if_false]
            rw [if_pos ⟨by simp, by simp [haq]⟩]
            simp <;> omega
          · simp only [eq_false (show ¬ k < a by omega), eq_true h, eq_true (show k < p by omega), if_true, if_false]; simp <;> omega
          · rcases Nat.lt_trichotomy k p with h' | h' | h'
            · simp only [eq_false (show ¬ k < a by omega), eq_false (show ¬ k = a by omega), eq_true h', eq_false (show ¬ k = p by omega), if_true, if_false]
              rw [if_neg (by rintro ⟨_, h9⟩; simp [haq] at h9), if_neg (by rintro ⟨h9, _⟩; simp at h9)]
              simp <;> omega
            · simp only [eq_false (show ¬ k < a by omega), eq_false (show ¬ k = a by omega), eq_false (show ¬ k < p by omega), eq_true h', if_true, if_false]; simp <;> omega
            · have hna : a ∉ k :: (r.anc k ++ [p]) := by
                simp only [List.mem_cons, List.mem_append, List.not_mem_nil, or_false, not_or]
                refine ⟨by omega, fun hb => ?_, by omega⟩
                have := inr k a hb; omega
              simp only [eq_false (show ¬ k < a by omega), eq_false (show ¬ k = a by omega), eq_false (show ¬ k < p by omega), eq_false (show ¬ k = p by omega), if_true, if_false]
              rw [if_neg (by rintro ⟨h9, _⟩; simp only [decide_eq_true_eq] at h9; exact hna h9), if_pos ⟨by simp only [decide_eq_false_iff_not]; exact hna, by simp⟩]
              simp <;> omega
      · obtain ⟨i1, i2, i3, i4, i5, i6⟩ := PT.rot_at l off a p hl h1 (by omega) hp
        have hrot := PT.rot_l q a l r haq hn
        have hpq : p < q := by omega
        have hra : ∀ k, (PT.node q (l.rot a) r).anc k = if k < q then (l.rot a).anc k ++ [q] else if k = q then [] else r.anc k ++ [q] := fun k => rfl
        rw [hrot]
        refine ⟨⟨by omega, i1, hr⟩, by simp only [PT.size]; omega, ⟨by omega, by simp only [PT.size]; omega⟩, ?_, ?_, fun k k1 k2 => ?_⟩
        · rw [hra, if_pos hpq]; exact head_append' _ _ _ i4
        · rw [PT.rot_l q p (l.rot a) r hpq (by intro e; rw [e] at i4; simp at i4), i5]
        · simp only [PT.size] at k2
          rw [hra, hanc]
          unfold adj inB
          rw [hanc]
          by_cases hk : k < q
          · rw [if_pos hk, if_pos hk]
            have h6 := i6 k k1 (by omega)
            have e1 : decide (a ∈ k :: (l.anc k ++ [q])) = decide (a ∈ k :: l.anc k) := by rw [decide_eq_decide]; simp [show ¬ a = q by omega]
            have e2 : decide (p ∈ k :: (l.anc k ++ [q])) = decide (p ∈ k :: l.anc k) := by rw [decide_eq_decide]; simp [show ¬ p = q by omega]
            rw [e1, e2]
            unfold adj inB at h6
            rw [List.length_append, List.length_append]
            simp only [List.length_singleton]
            omega
          · rw [if_neg hk, if_neg hk]
            by_cases hkq : k = q
            · simp only [eq_true hkq, eq_false (show ¬ k = a by omega), eq_false (show ¬ k = p by omega), if_true, if_false]
              rw [if_neg (by rintro ⟨h9, _⟩; simp at h9; omega), if_neg (by rintro ⟨_, h9⟩; simp at h9; omega)]
              simp <;> omega
            · have hno : ∀ b, b < q → b ∉ k :: (r.anc k ++ [q]) := fun b hb => by
                simp only [List.mem_cons, List.mem_append, List.not_mem_nil, or_false, not_or]
                refine ⟨by omega, fun h => ?_, by omega⟩
                have := inr k b h; omega
              simp only [eq_false hkq, eq_false (show ¬ k = a by omega), eq_false (show ¬ k = p by omega), if_true, if_false]
              rw [if_neg (by rintro ⟨h9, _⟩; simp only [decide_eq_true_eq] at h9; exact hno a haq h9), if_neg (by rintro ⟨_, h9⟩; simp only [decide_eq_true_eq] at h9; exact hno p hpq h9)]
              simp <;> omega
    · have haq2 : a ≠ q := by
        rintro rfl
        rw [hanc, if_neg (by omega), if_pos rfl] at hh
        simp at hh
      rw [hanc, if_neg haq, if_neg haq2] at hh
      rcases head_append _ _ _ hh with ⟨hn, rfl⟩ | ⟨hn, hp⟩
      · obtain ⟨x, y, rfl⟩ := PT.anc_nil r (p + 1) a hr (by omega) (by omega) hn
        obtain ⟨ha, hx, hy⟩ := hr
        simp only [PT.size] at h2
        have hrot := PT.rot_r1 p a l x y haq
        have inx : ∀ k b, b ∈ x.anc k → p < b ∧ b < a := fun k b hb => by have := PT.anc_in x (p + 1) hx k b hb; omega
        have hra : ∀ k, (PT.node a (.node p l x) y).anc k = if k < a then (if k < p then l.anc k ++ [p] else if k = p then [] else x.anc k ++ [p]) ++ [a] else if k = a then [] else y.anc k ++ [a] := fun k => rfl
        have hta : ∀ k, (PT.node p l (.node a x y)).anc k = if k < p then l.anc k ++ [p] else if k = p then [] else (if k < a then x.anc k ++ [a] else if k = a then [] else y.anc k ++ [a]) ++ [p] := fun k => rfl
        rw [hrot]
        refine ⟨⟨by simp only [PT.size]; omega, ⟨hq, hl, hx⟩, hy⟩, by simp only [PT.size]; omega, ⟨by omega, by simp only [PT.size]; omega⟩, ?_, ?_, fun k k1 k2 => ?_⟩
        · rw [hra, if_pos (by omega), if_neg (by omega), if_pos rfl]; rfl
        · exact PT.rot_l1 a p l x y (by omega)
        · simp only [PT.size] at k2
          rw [hra, hta]
          unfold adj inB
          rw [hta]
          rcases Nat.lt_trichotomy k p with h | h | h
          · have hna : a ∉ k :: (l.anc k ++ [p]) := by
              simp only [List.mem_cons, List.mem_append, List.not_mem_nil, or_false, not_or]
              refine ⟨by omega, fun hb => ?_, by omega⟩
              have := inl k a hb; omega
            simp only [eq_true (show k < a by omega), eq_true h, eq_false (show ¬ k = a by omega), eq_false (show ¬ k = p by omega), if_true, if_false]
            rw [if_neg (by rintro ⟨h9, _⟩; simp only [decide_eq_true_eq] at h9; exact hna h9), if_pos ⟨by simp only [decide_eq_false_iff_not]; exact hna, by simp⟩]
            simp <;> omega
          · simp only [eq_true (show k < a by omega), eq_false (show ¬ k < p by omega), eq_true h, eq_false (show ¬ k = a by omega), if_true, if_false]; simp <;> omega
          · rcases Nat.lt_trichotomy k a with h' | h' | h'
            · simp only [eq_true h', eq_false (show ¬ k < p by omega), eq_false (show ¬ k = a by omega), eq_false (show ¬ k = p by omega), if_true, if_false]
              rw [if_neg (by rintro ⟨_, h9⟩; simp at h9; omega), if_neg (by rintro ⟨h9, _⟩; simp at h9)]
              simp <;> omega
            · simp only [eq_false (show ¬ k < a by omega), eq_false (show ¬ k < p by omega), eq_true h', eq_false (show ¬ k = p by omega), if_true, if_false]; simp <;> omega
            · simp only [eq_false (show ¬ k < a by omega), eq_false (show ¬ k < p by omega), eq_false (show ¬ k = a by omega), eq_false (show ¬ k = p by omega), if_true, if_false]
              rw [if_pos ⟨by simp, by simp; omega⟩]
              simp <;> omega
      · obtain ⟨i1, i2, i3, i4, i5, i6⟩ := PT.rot_at r (q + 1) a p hr (by omega) (by omega) hp
        have hrot := PT.rot_r q a l r haq hn
        have hpq : q < p := by omega
        have hra : ∀ k, (PT.node q l (r.rot a)).anc k = if k < q then l.anc k ++ [q] else if k = q then [] else (r.rot a).anc k ++ [q] := fun k => rfl
        rw [hrot]
        refine ⟨⟨hq, hl, i1⟩, by simp only [PT.size]; omega, ⟨by omega, by simp only [PT.size]; omega⟩, ?_, ?_, fun k k1 k2 => ?_⟩
        · rw [hra, if_neg (by omega), if_neg (by omega)]; exact head_append' _ _ _ i4
        · rw [PT.rot_r q p l (r.rot a) (by omega) (by intro e; rw [e] at i4; simp at i4), i5]
        · simp only [PT.size] at k2
          rw [hra, hanc]
          unfold adj inB
          rw [hanc]
          by_cases hk : q < k
          · simp only [eq_false (show ¬ k < q by omega), eq_false (show ¬ k = q by omega), if_false]
            have h6 := i6 k (by omega) (by omega)
            have e1 : decide (a ∈ k :: (r.anc k ++ [q])) = decide (a ∈ k :: r.anc k) := by rw [decide_eq_decide]; simp [show ¬ a = q by omega]
            have e2 : decide (p ∈ k :: (r.anc k ++ [q])) = decide (p ∈ k :: r.anc k) := by rw [decide_eq_decide]; simp [show ¬ p = q by omega]
            rw [e1, e2]
            unfold adj inB at h6
            rw [List.length_append, List.length_append]
            simp only [List.length_singleton]
            omega
          · by_cases hkq : k = q
            · simp only [eq_false (show ¬ k < q by omega), eq_true hkq, eq_false (show ¬ k = a by omega), eq_false (show ¬ k = p by omega), if_true, if_false]
              rw [if_neg (by rintro ⟨h9, _⟩; simp at h9; omega), if_neg (by rintro ⟨_, h9⟩; simp at h9; omega)]
              simp <;> omega
            · have hno : ∀ b, q < b → b ∉ k :: (l.anc k ++ [q]) := fun b hb => by
                simp only [List.mem_cons, List.mem_append, List.not_mem_nil, or_false, not_or]
                refine ⟨by omega, fun h => ?_, by omega⟩
                have := inl k b h; omega
              simp only [eq_true (show k < q by omega), eq_false (show ¬ k = a by omega), eq_false (show ¬ k = p by omega), if_true, if_false]
              rw [if_neg (by rintro ⟨h9, _⟩; simp only [decide_eq_true_eq] at h9; exact hno a (by omega) h9), if_neg (by rintro ⟨_, h9⟩; simp only [decide_eq_true_eq] at h9; exact hno p hpq h9)]
              simp <;> omega
end Go.Proofs.Ytcpponjknmkfaaa
