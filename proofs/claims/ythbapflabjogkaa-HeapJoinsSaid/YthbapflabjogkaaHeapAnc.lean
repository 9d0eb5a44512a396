/-
  Plain laws: in the tree of heap.Of: the nearest lesser one ahead is the nearest above and to the left (HeapLeast); who stands above whom, by what lies between (HeapJoins). No program. Conditions: none.
-/
import Derived.Test.YthbapflabjogkaaAnc
import Derived.Test.YthbapflabjogkaaHeapPar
import Derived.Test.YthbapflabjogkaaLeast
namespace Go.Proofs.Ythbapflabjogkaa
open Go.ChangeShapes Go.WideShapes Go.ChangeAt Go.RowKit
set_option linter.unusedVariables false
set_option linter.unusedSimpArgs false

/-- The nearest place ahead of k, from lo on, with less than x. -/
def near (f : Nat → Int) (x : Int) (lo : Nat) : Nat → Option Nat
  | 0 => none
  | k + 1 => if k < lo then none else if f k < x then some k else near f x lo k
theorem near_out (f : Nat → Int) (x : Int) (lo : Nat) : ∀ k, k ≤ lo → near f x lo k = none
  | 0, _ => rfl
  | k + 1, h => by rw [near, if_pos (by omega)]
theorem near_none (f : Nat → Int) (x : Int) (lo : Nat) : ∀ k, (∀ j, lo ≤ j → j < k → ¬ f j < x) → near f x lo k = none
  | 0, _ => rfl
  | k + 1, h => by
    rw [near]
    split
    · rfl
    · rw [if_neg (h k (by omega) (by omega)), near_none f x lo k fun j a b => h j a (by omega)]
theorem near_none_iff (f : Nat → Int) (x : Int) (lo : Nat) : ∀ k, near f x lo k = none → (∀ j, lo ≤ j → j < k → ¬ f j < x)
  | 0, _, j, _, h => by omega
  | k + 1, h, j, h1, h2 => by
    rw [near] at h
    split at h
    · omega
    · split at h
      · cases h
      · rcases Nat.lt_or_ge j k with h3 | h3
        · exact near_none_iff f x lo k h j h1 h3
        · obtain rfl : j = k := by omega
          assumption
theorem near_some (f : Nat → Int) (x : Int) (lo lo' : Nat) : ∀ k a, near f x lo k = some a → lo' ≤ lo → near f x lo' k = some a
  | 0, a, h, _ => by cases h
  | k + 1, a, h, hl => by
    rw [near] at h ⊢
    split at h
    · cases h
    · rw [if_neg (by omega)]
      split at h
      · rw [if_pos (by assumption)]; exact h
      · rw [if_neg (by assumption)]
        exact near_some f x lo lo' k a h hl
theorem near_jump (f : Nat → Int) (x : Int) (lo p : Nat) : ∀ k, p < k → lo ≤ p → (∀ j, p < j → j < k → ¬ f j < x) → f p < x → near f x lo k = some p
  | 0, h, _, _, _ => by omega
  | k + 1, h, hl, hj, hp => by
    rw [near, if_neg (by omega)]
    by_cases hk : p = k
    · subst hk
      rw [if_pos hp]
    · rw [if_neg (hj k (by omega) (by omega))]
      exact near_jump f x lo p k (by omega) hl (fun j a b => hj j a (by omega)) hp
theorem nl_near (l : List Int) (x : Int) : ∀ k, nl l x k = match near (iv l) x 0 k with | some a => (a : Int) | none => -1
  | 0 => rfl
  | k + 1 => by
    rw [nl, near, if_neg (show ¬ k < 0 by omega)]
    by_cases h : iv l k < x
    · rw [if_pos h, if_pos h]
    · rw [if_neg h, if_neg h]; exact nl_near l x k

/-- Above and to the left with less: the nearest one of these is the nearest one ahead with less. (Ranks are numbers turned: V j = - f j.) -/
theorem anc_near (f : Nat → Int) (l : List IP) (off : Nat) (hf : ∀ i (h : i < l.length), l[i].2 = - f (off + i)) (k : Nat) (h1 : off ≤ k) (h2 : k < off + l.length) :
    ((ptree l off).anc k).find? (fun a => decide (a < k ∧ f a < f k)) = near f (f k) off k := by
  by_cases h : l = []
  · subst h; simp at h2; omega
  · have hl := top_lt l h
    have hfp := hf (top l) hl
    rw [ptree_cons l off h, PT.anc]
    have e1 : (l.take (top l)).length = top l := by simp; omega
    have e2 : (l.drop (top l + 1)).length = l.length - (top l + 1) := by simp
    have hlow : ∀ j, off ≤ j → j < off + top l → f (off + top l) < f j := fun j a b => by
      have := top_first l h (j - off) (by omega)
      rw [hf _ (by omega), hfp, show off + (j - off) = j from by omega] at this
      omega
    by_cases h3 : k < off + top l
    · rw [if_pos h3, List.find?_append]
      rw [anc_near f (l.take (top l)) off (fun i hi => by rw [List.getElem_take]; exact hf i (by omega)) k h1 (by omega)]
      have : List.find? (fun a => decide (a < k ∧ f a < f k)) [off + top l] = none := by simp; omega
      rw [this, Option.or_none]
    · rw [if_neg h3]
      by_cases h4 : k = off + top l
      · rw [if_pos h4]
        rw [near_none]
        · rfl
        · intro j a b
          have := hlow j a (by omega)
          rw [h4]; omega
      · rw [if_neg h4, List.find?_append]
        rw [anc_near f (l.drop (top l + 1)) (off + top l + 1) (fun i hi => by rw [List.getElem_drop, hf _ (by omega)]; congr 2; omega) k (by omega) (by omega)]
        have htk := top_ge l h (k - off) (by omega)
        rw [hfp, hf _ (by omega), show off + (k - off) = k from by omega] at htk
        cases hn : near f (f k) (off + top l + 1) k with
        | some a => rw [near_some f (f k) _ off k a hn (by omega)]; rfl
        | none =>
          have hno := near_none_iff f (f k) _ k hn
          simp only [Option.none_or]
          by_cases h5 : f (off + top l) < f k
          · rw [near_jump f (f k) off (off + top l) k (by omega) (by omega) (fun j a b => hno j (by omega) b) h5]
            simp [h5]; omega
          · rw [near_none f (f k) off k]
            · simp; omega
            · intro j a b
              rcases Nat.lt_trichotomy j (off + top l) with h6 | h6 | h6
              · have := hlow j a h6; omega
              · rw [h6]; exact h5
              · exact hno j (by omega) b
termination_by l.length
decreasing_by
  · simp; omega
  · simp; omega

/-- Between both, both in, none ranks higher than x, nor as high and further to the left. -/
def Tops (l : List IP) (x k : Nat) : Prop := ∀ j, (x ≤ j ∧ j ≤ k ∨ k ≤ j ∧ j ≤ x) → j ≠ x → (j < x → gv l j < gv l x) ∧ (x < j → gv l j ≤ gv l x)
theorem gv_take (l : List IP) (n j : Nat) (h : j < n) : gv (l.take n) j = gv l j := by simp [gv, List.getD_eq_getElem?_getD, List.getElem?_take, h]
theorem gv_drop (l : List IP) (n j : Nat) : gv (l.drop n) j = gv l (n + j) := by simp [gv, List.getD_eq_getElem?_getD]
theorem anc_tops (l : List IP) (off x k : Nat) (hx : x < l.length) (hk : k < l.length) (hxk : x ≠ k) : off + x ∈ (ptree l off).anc (off + k) ↔ Tops l x k := by
  have h : l ≠ [] := by rintro rfl; simp at hx
  have hl := top_lt l h
  have hfirst : ∀ j, j < top l → gv l j < gv l (top l) := fun j hj => by rw [gv_eq l j (by omega), gv_eq l _ hl]; exact top_first l h j hj
  have hge : ∀ j, j < l.length → gv l j ≤ gv l (top l) := fun j hj => by rw [gv_eq l j hj, gv_eq l _ hl]; exact top_ge l h j hj
  rw [ptree_cons l off h, PT.anc]
  have e1 : (l.take (top l)).length = top l := by simp; omega
  have e2 : (l.drop (top l + 1)).length = l.length - (top l + 1) := by simp
  by_cases h3 : k < top l
  · rw [if_pos (by omega), List.mem_append, List.mem_singleton]
    by_cases h4 : x < top l
    · rw [anc_tops (l.take (top l)) off x k (by omega) (by omega) hxk]
      constructor
      · rintro (h5 | h5)
        · intro j hj hjx
          have := h5 j hj hjx
          rwa [gv_take l _ j (by omega), gv_take l _ x h4] at this
        · omega
      · intro h5
        refine .inl fun j hj hjx => ?_
        rw [gv_take l _ j (by omega), gv_take l _ x h4]
        exact h5 j hj hjx
    · by_cases h5 : x = top l
      · subst h5
        refine ⟨fun _ j hj hjx => ⟨fun h6 => hfirst j h6, fun h6 => by omega⟩, fun _ => .inr rfl⟩
      · constructor
        · rintro (h6 | h6)
          · have := PT.anc_in _ _ (ptree_at (l.take (top l)) off) (off + k) (off + x) h6
            rw [ptree_size] at this; omega
          · omega
        · intro h6
          have := (h6 (top l) (by omega) (by omega)).1 (by omega)
          have := hge x hx
          omega
  · rw [if_neg (by omega)]
    by_cases h4 : k = top l
    · rw [if_pos (by omega)]
      subst h4
      constructor
      · intro h5; simp at h5
      · intro h5
        have h6 := h5 (top l) (by omega) (by omega)
        rcases Nat.lt_or_ge x (top l) with h7 | h7
        · have := h6.2 h7
          have := hfirst x h7
          omega
        · have := h6.1 (by omega)
          have := hge x hx
          omega
    · rw [if_neg (by omega), List.mem_append, List.mem_singleton]
      by_cases h5 : top l < x
      · have h6 := anc_tops (l.drop (top l + 1)) (off + top l + 1) (x - (top l + 1)) (k - (top l + 1)) (by omega) (by omega) (by omega)
        rw [show off + top l + 1 + (x - (top l + 1)) = off + x from by omega, show off + top l + 1 + (k - (top l + 1)) = off + k from by omega] at h6
        rw [h6]
        constructor
        · rintro (h7 | h7)
          · intro j hj hjx
            have := h7 (j - (top l + 1)) (by omega) (by omega)
            rw [gv_drop, gv_drop, show top l + 1 + (j - (top l + 1)) = j from by omega, show top l + 1 + (x - (top l + 1)) = x from by omega] at this
            exact ⟨fun a => this.1 (by omega), fun a => this.2 (by omega)⟩
          · omega
        · intro h7
          refine .inl fun j hj hjx => ?_
          rw [gv_drop, gv_drop, show top l + 1 + (x - (top l + 1)) = x from by omega]
          have := h7 (top l + 1 + j) (by omega) (by omega)
          exact ⟨fun a => this.1 (by omega), fun a => this.2 (by omega)⟩
      · by_cases h6 : x = top l
        · subst h6
          refine ⟨fun _ j hj hjx => ⟨fun h6 => hfirst j h6, fun h6 => hge j (by omega)⟩, fun _ => .inr rfl⟩
        · constructor
          · rintro (h7 | h7)
            · have := PT.anc_in _ _ (ptree_at (l.drop (top l + 1)) (off + top l + 1)) (off + k) (off + x) h7
              omega
            · omega
          · intro h7
            have := (h7 (top l) (by omega) (by omega)).2 (by omega)
            have := hfirst x (by omega)
            omega
termination_by l.length
decreasing_by
  · simp; omega
  · simp; omega
end Go.Proofs.Ythbapflabjogkaa
