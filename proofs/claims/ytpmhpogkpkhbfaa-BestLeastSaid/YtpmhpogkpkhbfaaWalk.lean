/-
  shape.walk: what it appends. Conditions: the list reads as l (RD), the variable holds a slice of the call's own (OB).
-/
import Derived.Test.YtpmhpogkpkhbfaaOutVar
import Derived.Test.YtpmhpogkpkhbfaaParents
namespace Go.Proofs.Ytpmhpogkpkhbfaa
open Go.ChangeShapes Go.WideShapes Go.ChangeAt Go.RowKit
set_option linter.unusedVariables false
set_option linter.unusedSimpArgs false

def gk (l : List IP) (k : Nat) : Int := (l.getD k (0, 0)).1
theorem gk_eq (l : List IP) (k : Nat) (h : k < l.length) : gk l k = l[k].1 := by simp [gk, List.getD_eq_getElem?_getD, List.getElem?_eq_getElem h]
def walkF (l : List IP) (last : Bool) (lo hi : Nat) : List Int :=
  if h : lo < hi then
    have := topS_in l lo hi h
    if last then walkF l last lo (topS l lo hi).1 ++ walkF l last ((topS l lo hi).1 + 1) hi ++ [gk l (topS l lo hi).1]
    else [gk l (topS l lo hi).1] ++ walkF l last lo (topS l lo hi).1 ++ walkF l last ((topS l lo hi).1 + 1) hi
  else []
termination_by hi - lo
theorem walkF_nil (l : List IP) (last : Bool) (lo hi : Nat) (h : ¬ lo < hi) : walkF l last lo hi = [] := by rw [walkF, dif_neg h]
theorem walkF_last (l : List IP) (lo hi : Nat) (h : lo < hi) : walkF l true lo hi = walkF l true lo (topS l lo hi).1 ++ walkF l true ((topS l lo hi).1 + 1) hi ++ [gk l (topS l lo hi).1] := by rw [walkF, dif_pos h, if_pos rfl]
theorem walkF_first (l : List IP) (lo hi : Nat) (h : lo < hi) : walkF l false lo hi = [gk l (topS l lo hi).1] ++ walkF l false lo (topS l lo hi).1 ++ walkF l false ((topS l lo hi).1 + 1) hi := by rw [walkF, dif_pos h, if_neg (by simp)]
theorem walkF_len (l : List IP) (last : Bool) (lo hi : Nat) : (walkF l last lo hi).length = hi - lo := by
  by_cases h : lo < hi
  · have ht := topS_in l lo hi h
    have h1 := walkF_len l last lo (topS l lo hi).1
    have h2 := walkF_len l last ((topS l lo hi).1 + 1) hi
    cases last
    · rw [walkF_first l lo hi h]; simp [h1, h2]; omega
    · rw [walkF_last l lo hi h]; simp [h1, h2]; omega
  · rw [walkF_nil l last lo hi h]; simp; omega
termination_by hi - lo

theorem seg_split (l : List IP) (lo at_ hi : Nat) (h1 : lo ≤ at_) (h2 : at_ < hi) (h3 : hi ≤ l.length) : (l.take hi).drop lo = (l.take at_).drop lo ++ [l[at_]'(by omega)] ++ (l.take hi).drop (at_ + 1) := by
  apply List.ext_getElem?
  intro j
  by_cases hj : j < hi - lo
  · rw [List.getElem?_drop, List.getElem?_take, if_pos (by omega)]
    rcases Nat.lt_trichotomy (lo + j) at_ with h | h | h
    · rw [List.append_assoc, List.getElem?_append_left (by simp; omega), List.getElem?_drop, List.getElem?_take, if_pos h]
    · rw [List.append_assoc, List.getElem?_append_right (by simp; omega)]
      rw [show j - (List.drop lo (List.take at_ l)).length = 0 from by simp; omega]
      rw [h]; simp
    · rw [List.getElem?_append_right (by simp; omega)]
      simp only [List.length_append, List.length_drop, List.length_take, List.length_singleton]
      rw [List.getElem?_drop, List.getElem?_take, if_pos (by omega)]
      congr 1; omega
  · rw [List.getElem?_eq_none (by simp; omega), List.getElem?_eq_none (by simp; omega)]
end Go.Proofs.Ytpmhpogkpkhbfaa
