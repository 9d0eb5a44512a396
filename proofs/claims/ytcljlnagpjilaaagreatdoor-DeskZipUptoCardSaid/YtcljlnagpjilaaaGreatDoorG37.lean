/-
  hedgref.ToldKeys, node first and node last: what it answers
  A stable sort: what its steps leave of the order of those of one key
  A stable sort, plain laws by segments: swapped elements, blocks that change places, rotati
  A region that reads and stores twice at its end, whatever the order (JS): what its world i
  A row of pairs that is sorted in place, in memory: an element loaded, two that change plac
  slices.insertionSortCmpFunc at spots: what it leaves of a part of a row
  slices.swapRangeCmpFunc, rotateCmpFunc at spots: what they leave
  slices.rotateCmpFunc at spots: what it leaves
  slices.symMergeCmpFunc at spots: what it leaves of two sorted parts
  slices.symMergeCmpFunc at spots, where the second part is of one element
-/
import Derived.Test.YtcljlnagpjilaaaGreatDoorG33
import Derived.Test.YtcljlnagpjilaaaGreatDoorG7
import Derived.Test.YtcljlnagpjilaaaGreatDoorG1
import Derived.Test.YtcljlnagpjilaaaGreatDoorG27
import Derived.Test.YtcljlnagpjilaaaGreatDoorG3

set_option linter.unusedVariables false
set_option linter.unusedSimpArgs false
set_option maxRecDepth 100000
set_option maxHeartbeats 8000000
namespace Go.Proofs.YtcljlnagpjilaaaGreatDoor
open Go.ChangeShapes Go.WideShapes Go.ChangeAt Go.RowKit
def told1 : T -> List Int
 | .nil => []
 | .node k l r => [k] ++ told1 l ++ told1 r
def told2 : T -> List Int
 | .nil => []
 | .node k l r => told2 l ++ told2 r ++ [k]
section
variable {α : Type} (key : α -> Int)
def StabEq (s t : List α) : Prop := ∀ k, t.filter (fun x => key x == k) = s.filter (fun x => key x == k)
def SortedK (s : List α) : Prop := s.Pairwise fun a b => key a <= key b
end
section
variable {α : Type} {key : α -> Int} {s t u v p q : List α}
theorem StabEq.refl (s : List α) : StabEq key s s := fun _ => rfl
theorem StabEq.trans (h : StabEq key s t) (k : StabEq key t u) : StabEq key s u := fun x => (k x).trans (h x)
theorem StabEq.append (h : StabEq key s t) (k : StabEq key u v) : StabEq key (s ++ u) (t ++ v) := fun x => by
 rw [List.filter_append, List.filter_append, h x, k x]
theorem StabEq.mid (h : StabEq key s t) (p q : List α) : StabEq key (p ++ s ++ q) (p ++ t ++ q) := ((StabEq.refl p).append h).append (StabEq.refl q)
theorem StabEq.swap (h : ∀ a ∈ u, ∀ b ∈ v, key b < key a) : StabEq key (u ++ v) (v ++ u) := fun k => by
 rw [List.filter_append, List.filter_append]
 by_cases e : u.filter (fun x => key x == k) = []
 ·rw [e]; simp
 ·have e2 : v.filter (fun x => key x == k) = [] := by
   rw [List.filter_eq_nil_iff]
   intro b hb hc
   obtain ⟨a, ha⟩ := List.exists_mem_of_ne_nil _ e
   rw [List.mem_filter] at ha
   have h1 : key b = k := by simpa using hc
   have h2 : key a = k := by simpa using ha.2
   have := h a ha.1 b hb
   omega
  rw [e2]; simp
theorem StabEq.mem (h : StabEq key s t) (x : α) : x ∈ t ↔ x ∈ s := by
 have h1 : ∀ l : List α, x ∈ l ↔ x ∈ l.filter (fun y => key y == key x) := fun l => by
  rw [List.mem_filter]; simp
 rw [h1 t, h1 s, h (key x)]
theorem StabEq.cons_inv {a b : α} (h : StabEq key (a :: s) (b :: t)) (e : key a = key b) : a = b /\ StabEq key s t := by
 have h0 := h (key a)
 rw [List.filter_cons_of_pos (by rw [beq_iff_eq]; exact e.symm), List.filter_cons_of_pos (by simp)] at h0
 injection h0 with h1 h2
 refine ⟨h1.symm, fun k => ?_⟩
 have hk := h k
 subst h1
 by_cases e2 : key b = k
 ·rw [List.filter_cons_of_pos (by simp [e2]), List.filter_cons_of_pos (by simp [e2])] at hk
  injection hk
 ·rw [List.filter_cons_of_neg (by simp [e2]), List.filter_cons_of_neg (by simp [e2])] at hk
  exact hk
theorem stab_unique : ∀ {s t : List α}, SortedK key s -> SortedK key t -> StabEq key s t -> s = t
 | [], [], _, _, _ => rfl
 | [], b :: t, _, _, h => by
  have := (h.mem b).1 (by simp)
  cases this
 | a :: s, [], _, _, h => by
  have := (h.mem a).2 (by simp)
  cases this
 | a :: s, b :: t, hs, ht, h => by
  obtain ⟨h1, h2⟩ := List.pairwise_cons.1 hs
  obtain ⟨g1, g2⟩ := List.pairwise_cons.1 ht
  have e : key a = key b := by
   have m1 := (h.mem b).1 (by simp)
   have m2 := (h.mem a).2 (by simp)
   have l1 : key a <= key b := by
    rcases List.mem_cons.1 m1 with rfl | m
    ·exact Int.le_refl _
    ·exact h1 b m
   have l2 : key b <= key a := by
    rcases List.mem_cons.1 m2 with rfl | m
    ·exact Int.le_refl _
    ·exact g1 a m
   omega
  obtain ⟨rfl, h3⟩ := h.cons_inv e
  rw [stab_unique h2 g2 h3]
theorem SortedK.append (hu : SortedK key u) (hv : SortedK key v) (h : ∀ a ∈ u, ∀ b ∈ v, key a <= key b) : SortedK key (u ++ v) := List.pairwise_append.2 ⟨hu, hv, h⟩
end
abbrev pv (p : IP) : Value := .agg #[.int .i64 p.1, .int .i64 p.2]
end Go.Proofs.YtcljlnagpjilaaaGreatDoor
