/-
  A stable sort, plain laws by segments: swapped elements, blocks that change places, rotation, insertion, merging. No program. Conditions: none.
-/
import Derived.Test.YthbapflabjogkaaHeapOneM22

namespace Go.Proofs.Ythbapflabjogkaa
open Go.ChangeShapes Go.WideShapes Go.ChangeAt Go.RowKit
set_option linter.unusedVariables false
set_option linter.unusedSimpArgs false
set_option linter.unnecessarySimpa false

section
variable {α : Type}
/-- Two elements change places. -/
def swapL (l : List α) (i j : Nat) (hi : i < l.length) (hj : j < l.length) : List α := (l.set i l[j]).set j l[i]
theorem swapL_len (l : List α) (i j : Nat) (hi : i < l.length) (hj : j < l.length) : (swapL l i j hi hj).length = l.length := by simp [swapL]
theorem get_mid (P : List α) (x : α) (Q : List α) (i : Nat) (hi : i = P.length) (h : i < (P ++ x :: Q).length) : (P ++ x :: Q)[i] = x := by
  subst hi; simp
theorem set_mid (P : List α) (x y : α) (Q : List α) (i : Nat) (hi : i = P.length) : (P ++ x :: Q).set i y = P ++ y :: Q := by
  subst hi; simp
/-- Two that stand side by side. -/
theorem swap_next (P : List α) (x y : α) (Q : List α) (i j : Nat) (hi : i = P.length + 1) (hj : j = P.length) (h1 : i < (P ++ x :: y :: Q).length) (h2 : j < (P ++ x :: y :: Q).length) :
    swapL (P ++ x :: y :: Q) i j h1 h2 = P ++ y :: x :: Q := by
  subst hi hj
  unfold swapL
  have e1 : (P ++ x :: y :: Q)[P.length] = x := get_mid P x _ _ rfl _
  have e2 : (P ++ x :: y :: Q)[P.length + 1] = y := by
    have := get_mid (P ++ [x]) y Q (P.length + 1) (by simp) (by simp)
    simpa using this
  rw [e1, e2]
  have e3 : (P ++ x :: y :: Q).set (P.length + 1) x = P ++ x :: x :: Q := by
    have := set_mid (P ++ [x]) y x Q (P.length + 1) (by simp)
    simpa using this
  rw [e3]
  exact set_mid P x y _ _ rfl
theorem swap_next2 (P : List α) (x y : α) (Q : List α) (i j : Nat) (hi : i = P.length) (hj : j = P.length + 1) (h1 : i < (P ++ x :: y :: Q).length) (h2 : j < (P ++ x :: y :: Q).length) :
    swapL (P ++ x :: y :: Q) i j h1 h2 = P ++ y :: x :: Q := by
  subst hi hj
  unfold swapL
  have e1 : (P ++ x :: y :: Q)[P.length] = x := get_mid P x _ _ rfl _
  have e2 : (P ++ x :: y :: Q)[P.length + 1] = y := by
    have := get_mid (P ++ [x]) y Q (P.length + 1) (by simp) (by simp)
    simpa using this
  rw [e1, e2]
  rw [set_mid P x y _ _ rfl]
  have := set_mid (P ++ [y]) y x Q (P.length + 1) (by simp)
  simpa using this
/-- Two that stand apart. -/
theorem swap_far (P M Q : List α) (x y : α) (i j : Nat) (hi : i = P.length) (hj : j = P.length + 1 + M.length) (h1 : i < (P ++ x :: (M ++ y :: Q)).length) (h2 : j < (P ++ x :: (M ++ y :: Q)).length) :
    swapL (P ++ x :: (M ++ y :: Q)) i j h1 h2 = P ++ y :: (M ++ x :: Q) := by
  subst hi hj
  unfold swapL
  have e1 : (P ++ x :: (M ++ y :: Q))[P.length] = x := get_mid P x _ _ rfl _
  have e2 : (P ++ x :: (M ++ y :: Q))[P.length + 1 + M.length] = y := by
    have := get_mid (P ++ [x] ++ M) y Q (P.length + 1 + M.length) (by simp; omega) (by simp; omega)
    simpa using this
  rw [e1, e2, set_mid P x y _ _ rfl]
  have := set_mid (P ++ [y] ++ M) y x Q (P.length + 1 + M.length) (by simp; omega)
  simpa using this
/-- The same, by what stands in the places. -/
theorem sw_next (P : List α) (z x : α) (Q : List α) (i j : Nat) (hi : i = P.length + 1) (hj : j = P.length) : ((P ++ z :: x :: Q).set i z).set j x = P ++ x :: z :: Q := by
  have := swap_next P z x Q i j hi hj (by simp; omega) (by simp; omega)
  unfold swapL at this
  rw [← this]
  congr 1
  · congr 1
    exact (get_mid P z _ _ hj _).symm
  · have := get_mid (P ++ [z]) x Q i (by simp; omega) (by simp; omega)
    simpa using this.symm
theorem sw_next2 (P : List α) (z x : α) (Q : List α) (i j : Nat) (hi : i = P.length) (hj : j = P.length + 1) : ((P ++ z :: x :: Q).set i x).set j z = P ++ x :: z :: Q := by
  have := swap_next2 P z x Q i j hi hj (by simp; omega) (by simp; omega)
  unfold swapL at this
  rw [← this]
  congr 1
  · congr 1
    have := get_mid (P ++ [z]) x Q j (by simp; omega) (by simp; omega)
    simpa using this.symm
  · exact (get_mid P z _ _ hi _).symm
theorem at_next (P : List α) (z x : α) (Q : List α) : (P ++ z :: x :: Q)[P.length]? = some z ∧ (P ++ z :: x :: Q)[P.length + 1]? = some x := by
  constructor
  · rw [List.getElem?_append_right (Nat.le_refl _)]; simp
  · rw [List.getElem?_append_right (by omega)]
    have : P.length + 1 - P.length = 1 := by omega
    rw [this]; rfl
/-- The state of swapRange: A and B, of one length, change places one by one. -/
theorem swapRange_step (P A M B Q : List α) (i : Nat) (hA : i < A.length) (hB : A.length = B.length) (a b : Nat) (ha : a = P.length + i) (hb : b = P.length + A.length + M.length + i)
    (h1 : a < (P ++ (B.take i ++ A.drop i) ++ M ++ (A.take i ++ B.drop i) ++ Q).length) (h2 : b < (P ++ (B.take i ++ A.drop i) ++ M ++ (A.take i ++ B.drop i) ++ Q).length) :
    swapL (P ++ (B.take i ++ A.drop i) ++ M ++ (A.take i ++ B.drop i) ++ Q) a b h1 h2 = P ++ (B.take (i + 1) ++ A.drop (i + 1)) ++ M ++ (A.take (i + 1) ++ B.drop (i + 1)) ++ Q := by
  have eA := List.drop_eq_getElem_cons hA
  have eB := List.drop_eq_getElem_cons (show i < B.length by omega)
  have key : P ++ (B.take i ++ A.drop i) ++ M ++ (A.take i ++ B.drop i) ++ Q = (P ++ B.take i) ++ A[i] :: ((A.drop (i + 1) ++ M ++ A.take i) ++ B[i] :: (B.drop (i + 1) ++ Q)) := by
    rw [eA, eB]; simp only [List.append_assoc, List.cons_append]
  have hl1 : (P ++ B.take i).length = a := by simp; omega
  have hl2 : (P ++ B.take i).length + 1 + (A.drop (i + 1) ++ M ++ A.take i).length = b := by simp; omega
  have h1' := h1
  have h2' := h2
  rw [key] at h1' h2'
  have e0 : swapL (P ++ (B.take i ++ A.drop i) ++ M ++ (A.take i ++ B.drop i) ++ Q) a b h1 h2 = swapL ((P ++ B.take i) ++ A[i] :: ((A.drop (i + 1) ++ M ++ A.take i) ++ B[i] :: (B.drop (i + 1) ++ Q))) a b h1' h2' := by
    congr 1
  rw [e0, swap_far _ _ _ _ _ a b hl1.symm hl2.symm]
  rw [List.take_succ_eq_append_getElem hA, List.take_succ_eq_append_getElem (show i < B.length by omega)]
  simp only [List.append_assoc, List.cons_append, List.nil_append]
theorem swr_at (P A M B Q : List α) (i : Nat) (hA : i < A.length) (hB : i < B.length) (hl : A.length = B.length) (a b : Nat) (ha : a = P.length + i) (hb : b = P.length + A.length + M.length + i) :
    (P ++ (B.take i ++ A.drop i) ++ M ++ (A.take i ++ B.drop i) ++ Q)[a]? = some A[i] ∧ (P ++ (B.take i ++ A.drop i) ++ M ++ (A.take i ++ B.drop i) ++ Q)[b]? = some B[i] := by
  have eA := List.drop_eq_getElem_cons hA
  have eB := List.drop_eq_getElem_cons hB
  have key : P ++ (B.take i ++ A.drop i) ++ M ++ (A.take i ++ B.drop i) ++ Q = (P ++ B.take i) ++ A[i] :: ((A.drop (i + 1) ++ M ++ A.take i) ++ B[i] :: (B.drop (i + 1) ++ Q)) := by
    rw [eA, eB]; simp only [List.append_assoc, List.cons_append]
  have key2 : P ++ (B.take i ++ A.drop i) ++ M ++ (A.take i ++ B.drop i) ++ Q = (P ++ B.take i ++ A[i] :: (A.drop (i + 1) ++ M ++ A.take i)) ++ B[i] :: (B.drop (i + 1) ++ Q) := by
    rw [key]; simp only [List.append_assoc, List.cons_append]
  constructor
  · have hl1 : a = (P ++ B.take i).length := by simp; omega
    rw [key, hl1, List.getElem?_append_right (Nat.le_refl _)]; simp
  · have hl2 : b = (P ++ B.take i ++ A[i] :: (A.drop (i + 1) ++ M ++ A.take i)).length := by simp; omega
    rw [key2, hl2, List.getElem?_append_right (Nat.le_refl _)]; simp
theorem swr_set (P A M B Q : List α) (i : Nat) (hA : i < A.length) (hB : i < B.length) (hl : A.length = B.length) (a b : Nat) (ha : a = P.length + i) (hb : b = P.length + A.length + M.length + i) :
    ((P ++ (B.take i ++ A.drop i) ++ M ++ (A.take i ++ B.drop i) ++ Q).set a B[i]).set b A[i] = P ++ (B.take (i + 1) ++ A.drop (i + 1)) ++ M ++ (A.take (i + 1) ++ B.drop (i + 1)) ++ Q := by
  obtain ⟨h1, h2⟩ := swr_at P A M B Q i hA hB hl a b ha hb
  obtain ⟨g1, e1⟩ := List.getElem?_eq_some_iff.1 h1
  obtain ⟨g2, e2⟩ := List.getElem?_eq_some_iff.1 h2
  have := swapRange_step P A M B Q i hA hl a b ha hb g1 g2
  unfold swapL at this
  rw [e1, e2] at this
  exact this
end
section
variable {α : Type} {key : α → Int}
/-- Insertion: x comes behind all that are not greater. -/
theorem insert_law {X Y : List α} {x : α} (hS : SortedK key (X ++ Y)) (hY : ∀ y ∈ Y, key x < key y) (hX : ∀ y, X.getLast? = some y → key y ≤ key x) : SortedK key (X ++ x :: Y) ∧ StabEq key (X ++ Y ++ [x]) (X ++ x :: Y) := by
  obtain ⟨x1, x2, x3⟩ := List.pairwise_append.1 hS
  constructor
  · refine List.pairwise_append.2 ⟨x1, List.pairwise_cons.2 ⟨fun y hy => by have := hY y hy; omega, x2⟩, fun a ha b hb => ?_⟩
    rcases List.mem_cons.1 hb with rfl | hb
    · rcases List.eq_nil_or_concat X with rfl | ⟨X', z, rfl⟩
      · cases ha
      · rw [List.concat_eq_append] at *
        have hz := hX z (by simp)
        rcases List.mem_append.1 ha with ha | ha
        · have := (List.pairwise_append.1 x1).2.2 a ha z (by simp); omega
        · rw [List.mem_singleton] at ha; subst ha; exact hz
    · exact x3 a ha b hb
  · rw [List.append_assoc]
    refine (StabEq.refl X).append ?_
    exact StabEq.swap (u := Y) (v := [x]) (fun a ha b hb => by rw [List.mem_singleton] at hb; subst hb; exact hY a ha)
/-- A sorted list cut where all ahead are less. -/
theorem sorted_cut {S : List α} (hS : SortedK key S) {i : Nat} (hi : i ≤ S.length) : SortedK key (S.take i) ∧ SortedK key (S.drop i) := ⟨List.Pairwise.sublist (List.take_sublist _ _) hS, List.Pairwise.sublist (List.drop_sublist _ _) hS⟩
theorem sorted_le {S : List α} (hS : SortedK key S) {i j : Nat} (hi : i < S.length) (hj : j < S.length) (h : i ≤ j) : key S[i] ≤ key S[j] := by
  rcases Nat.lt_or_ge i j with h1 | h1
  · exact (List.pairwise_iff_getElem.1 hS) i j hi hj h1
  · obtain rfl : i = j := by omega
    exact Int.le_refl _
/-- One ahead of a sorted list comes behind those that are less. -/
theorem front_law {x : α} {V : List α} (hV : SortedK key V) {k : Nat} (hk : k ≤ V.length) (h1 : ∀ h : 0 < k, key (V[k - 1]'(by omega)) < key x) (h2 : ∀ h : k < V.length, key x ≤ key V[k]) :
    SortedK key (V.take k ++ x :: V.drop k) ∧ StabEq key (x :: V) (V.take k ++ x :: V.drop k) := by
  have hlt : ∀ y ∈ V.take k, key y < key x := fun y hy => by
    obtain ⟨j, hj, rfl⟩ := List.getElem_of_mem hy
    simp at hj
    rw [List.getElem_take]
    have := sorted_le hV (i := j) (j := k - 1) (by omega) (by omega) (by omega)
    have := h1 (by omega)
    omega
  have hge : ∀ y ∈ V.drop k, key x ≤ key y := fun y hy => by
    obtain ⟨j, hj, rfl⟩ := List.getElem_of_mem hy
    simp at hj
    rw [List.getElem_drop]
    have := sorted_le hV (i := k) (j := k + j) (by omega) (by omega) (by omega)
    have := h2 (by omega)
    omega
  obtain ⟨s1, s2⟩ := sorted_cut hV hk
  constructor
  · refine List.pairwise_append.2 ⟨s1, List.pairwise_cons.2 ⟨hge, s2⟩, fun a ha b hb => ?_⟩
    have := hlt a ha
    rcases List.mem_cons.1 hb with rfl | hb
    · omega
    · have := hge b hb; omega
  · have e : x :: V = [] ++ ([x] ++ V.take k) ++ V.drop k := by simp
    have e2 : V.take k ++ x :: V.drop k = [] ++ (V.take k ++ [x]) ++ V.drop k := by simp
    rw [e, e2]
    exact (StabEq.swap (u := [x]) (v := V.take k) (fun a ha b hb => by rw [List.mem_singleton] at ha; subst ha; exact hlt b hb)).mid [] (V.drop k)
/-- One behind a sorted list comes ahead of those that are greater. -/
theorem back_law {y : α} {U : List α} (hU : SortedK key U) {k : Nat} (hk : k ≤ U.length) (h1 : ∀ h : 0 < k, key (U[k - 1]'(by omega)) ≤ key y) (h2 : ∀ h : k < U.length, key y < key U[k]) :
    SortedK key (U.take k ++ y :: U.drop k) ∧ StabEq key (U ++ [y]) (U.take k ++ y :: U.drop k) := by
  have hd : ∀ z ∈ U.drop k, key y < key z := fun z hz => by
    obtain ⟨j, hj, rfl⟩ := List.getElem_of_mem hz
    simp at hj
    rw [List.getElem_drop]
    have := sorted_le hU (i := k) (j := k + j) (by omega) (by omega) (by omega)
    have := h2 (by omega)
    omega
  have := insert_law (X := U.take k) (Y := U.drop k) (x := y) (by rw [List.take_append_drop]; exact hU) hd (fun z hz => by
    rw [List.getLast?_eq_getElem?] at hz
    obtain ⟨hlt, rfl⟩ := List.getElem?_eq_some_iff.1 hz
    simp at hlt
    rw [List.getElem_take]
    have e : (U.take k).length - 1 = k - 1 := by simp; omega
    simp only [e]
    exact h1 (by omega))
  rwa [List.take_append_drop] at this
end
end Go.Proofs.Ythbapflabjogkaa
