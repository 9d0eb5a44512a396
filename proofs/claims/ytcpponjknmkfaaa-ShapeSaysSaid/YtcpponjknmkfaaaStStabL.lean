/-
  A stable sort by blocks: rows whose blocks are sorted. No program. Conditions: none.
-/
import Derived.Test.YtcpponjknmkfaaaStSeg
namespace Go.Proofs.Ytcpponjknmkfaaa
open Go.ChangeShapes Go.WideShapes Go.ChangeAt Go.RowKit
set_option linter.unusedVariables false
set_option linter.unusedSimpArgs false

section
variable {α : Type} {key : α → Int}
/-- The part from lo to hi is sorted. -/
def SrtAt (key : α → Int) (l : List α) (lo hi : Nat) : Prop := ∀ i j (h1 : i < l.length) (h2 : j < l.length), lo ≤ i → i < j → j < hi → key l[i] ≤ key l[j]
theorem SrtAt.mono {l : List α} {lo hi lo' hi' : Nat} (h : SrtAt key l lo hi) (h1 : lo ≤ lo') (h2 : hi' ≤ hi) : SrtAt key l lo' hi' := fun i j a b c d e => h i j a b (by omega) d (by omega)
theorem SrtAt.all {l : List α} {lo hi : Nat} (h : SrtAt key l lo hi) (h0 : lo = 0) (h1 : l.length ≤ hi) : SortedK key l :=
  List.pairwise_iff_getElem.2 fun i j hi hj hij => h i j hi hj (by omega) hij (by omega)
theorem get_of? {l : List α} {i : Nat} {x : α} (h : i < l.length) (e : l[i]? = some x) : l[i] = x := by
  rw [List.getElem?_eq_getElem h] at e; injection e
theorem mid_at (P S Q : List α) (k : Nat) (hk : k < S.length) : (P ++ S ++ Q)[P.length + k]? = some S[k] := by
  rw [List.append_assoc, List.getElem?_append_right (by omega), Nat.add_sub_cancel_left, List.getElem?_append_left hk, List.getElem?_eq_getElem hk]
theorem out_at (P S S' Q : List α) (hl : S'.length = S.length) (k : Nat) (hk : k < P.length ∨ P.length + S.length ≤ k) : (P ++ S' ++ Q)[k]? = (P ++ S ++ Q)[k]? := by
  rcases hk with hk | hk
  · rw [List.append_assoc, List.append_assoc, List.getElem?_append_left hk, List.getElem?_append_left hk]
  · rw [List.getElem?_append_right (by simp only [List.length_append]; omega), List.getElem?_append_right (by simp only [List.length_append]; omega)]
    congr 1
    simp only [List.length_append]; omega
/-- A part in the midst. -/
theorem SrtAt.mid {P S Q : List α} (h : SrtAt key (P ++ S ++ Q) P.length (P.length + S.length)) : SortedK key S :=
  List.pairwise_iff_getElem.2 fun i j hi hj hij => by
    have l : (P ++ S ++ Q).length = P.length + S.length + Q.length := by simp only [List.length_append]
    have := h (P.length + i) (P.length + j) (by omega) (by omega) (by omega) (by omega) (by omega)
    rwa [get_of? _ (mid_at P S Q i hi), get_of? _ (mid_at P S Q j hj)] at this
theorem SrtAt.of_mid {P S Q : List α} (h : SortedK key S) : SrtAt key (P ++ S ++ Q) P.length (P.length + S.length) := fun i j hi hj a b c => by
  obtain ⟨i', rfl⟩ : ∃ i', i = P.length + i' := ⟨i - P.length, by omega⟩
  obtain ⟨j', rfl⟩ : ∃ i', j = P.length + i' := ⟨j - P.length, by omega⟩
  rw [get_of? _ (mid_at P S Q i' (by omega)), get_of? _ (mid_at P S Q j' (by omega))]
  exact (List.pairwise_iff_getElem.1 h) _ _ (by omega) (by omega) (by omega)
/-- A part beside the one that is turned stays as it was. -/
theorem SrtAt.beside {P S S' Q : List α} {lo hi : Nat} (h : SrtAt key (P ++ S ++ Q) lo hi) (hl : S'.length = S.length) (hd : hi ≤ P.length ∨ P.length + S.length ≤ lo) : SrtAt key (P ++ S' ++ Q) lo hi := fun i j hi hj a b c => by
  have hlen : (P ++ S' ++ Q).length = (P ++ S ++ Q).length := by simp only [List.length_append]; omega
  have := h i j (by omega) (by omega) a b c
  have e1 := out_at P S S' Q hl i (by omega)
  have e2 := out_at P S S' Q hl j (by omega)
  rw [List.getElem?_eq_getElem hi, List.getElem?_eq_getElem (by omega)] at e1
  rw [List.getElem?_eq_getElem hj, List.getElem?_eq_getElem (by omega)] at e2
  injection e1 with e1
  injection e2 with e2
  rw [e1, e2]
  exact this
theorem SrtAt.end_ {l : List α} {lo hi hi' : Nat} (h : SrtAt key l lo hi) (h1 : l.length ≤ hi) : SrtAt key l lo hi' := fun i j a b c d e => h i j a b c d (by omega)
theorem SrtAt.none {l : List α} {lo hi : Nat} (h : l.length ≤ lo) : SrtAt key l lo hi := fun i j a b c d e => by omega
/-- All blocks of so many are sorted. -/
def BlS (key : α → Int) (bs : Nat) (l : List α) : Prop := ∀ r, SrtAt key l (r * bs) (r * bs + bs)
/-- While blocks are turned: those ahead of a. -/
def BlTo (key : α → Int) (c q : Nat) (l : List α) : Prop := ∀ r, r < q → SrtAt key l (r * c) (r * c + c)
def BlFrom (key : α → Int) (bs a : Nat) (l : List α) : Prop := ∀ r, SrtAt key l (a + r * bs) (a + r * bs + bs)
theorem BlTo.next {P S S' Q : List α} {c q : Nat} (h : BlTo key c q (P ++ S ++ Q)) (hl : S'.length = S.length) (hP : P.length = q * c) (hS : SortedK key S') (hn : S.length = c) : BlTo key c (q + 1) (P ++ S' ++ Q) := fun r hr => by
  rcases Nat.lt_or_ge r q with h1 | h1
  · refine (h r h1).beside hl (.inl ?_)
    have : (r + 1) * c ≤ q * c := Nat.mul_le_mul_right c h1
    rw [Nat.succ_mul] at this
    omega
  · obtain rfl : r = q := by omega
    have := SrtAt.of_mid (P := P) (Q := Q) hS
    rw [hP] at this
    exact this.mono (Nat.le_refl _) (by omega)
/-- Behind the last part, which reaches to the end. -/
theorem BlTo.last {P S S' : List α} {c q : Nat} (h : BlTo key c q (P ++ S ++ [])) (hl : S'.length = S.length) (hP : P.length = q * c) (hS : SortedK key S') (hn : S.length ≤ c) : BlS key c (P ++ S' ++ []) := fun r => by
  rcases Nat.lt_trichotomy r q with h1 | h1 | h1
  · refine (h r h1).beside hl (.inl ?_)
    have : (r + 1) * c ≤ q * c := Nat.mul_le_mul_right c h1
    rw [Nat.succ_mul] at this
    omega
  · subst h1
    have := SrtAt.of_mid (P := P) (Q := []) hS
    rw [hP] at this
    exact this.end_ (by simp only [List.length_append, List.length_nil]; omega)
  · refine SrtAt.none ?_
    have : (q + 1) * c ≤ r * c := Nat.mul_le_mul_right c h1
    rw [Nat.succ_mul] at this
    simp only [List.length_append, List.length_nil]; omega
theorem BlFrom.next {P S S' Q : List α} {bs a : Nat} (h : BlFrom key bs a (P ++ S ++ Q)) (hl : S'.length = S.length) (hP : P.length = a) (hn : S.length = 2 * bs) : BlFrom key bs (a + 2 * bs) (P ++ S' ++ Q) := fun r => by
  have := h (r + 2)
  rw [show a + (r + 2) * bs = a + 2 * bs + r * bs by rw [Nat.add_mul]; omega] at this
  exact this.beside hl (.inr (by omega))
/-- No part is left to merge: the blocks are twice as long. -/
theorem BlTo.whole {l : List α} {bs c q a : Nat} (h : BlTo key c q l) (h2 : BlFrom key bs a l) (hc : c = 2 * bs) (ha : a = q * c) (hm : l.length ≤ a + bs) : BlS key c l := fun r => by
  rcases Nat.lt_trichotomy r q with h1 | h1 | h1
  · exact h r h1
  · subst h1
    have := h2 0
    rw [Nat.zero_mul, Nat.add_zero, ha] at this
    exact this.end_ (by omega)
  · refine SrtAt.none ?_
    have : (q + 1) * c ≤ r * c := Nat.mul_le_mul_right c h1
    rw [Nat.succ_mul] at this
    omega
theorem BlFrom.parts {P U V Q : List α} {bs a : Nat} (h : BlFrom key bs a (P ++ (U ++ V) ++ Q)) (hP : P.length = a) (hU : U.length = bs) (hV : V.length ≤ bs) : SortedK key U ∧ SortedK key V := by
  constructor
  · have h0 := h 0
    rw [Nat.zero_mul, Nat.add_zero] at h0
    refine SrtAt.mid (P := P) (Q := V ++ Q) ?_
    rw [hP, hU]
    simpa only [List.append_assoc] using h0
  · have h0 := h 1
    rw [Nat.one_mul] at h0
    refine SrtAt.mid (P := P ++ U) (Q := Q) ?_
    have : (P ++ U).length = a + bs := by simp only [List.length_append]; omega
    rw [this]
    have h1 := h0.mono (Nat.le_refl _) (show a + bs + V.length ≤ a + bs + bs by omega)
    simpa only [List.append_assoc] using h1
/-- A list cut in three. -/
theorem cut3 (l : List α) {lo hi : Nat} (h1 : lo ≤ hi) (h2 : hi ≤ l.length) : ∃ P S Q, l = P ++ S ++ Q ∧ P.length = lo ∧ S.length = hi - lo := by
  refine ⟨l.take lo, (l.drop lo).take (hi - lo), l.drop hi, ?_, by simp; omega, by simp; omega⟩
  have e1 : (l.drop lo).drop (hi - lo) = l.drop hi := by rw [List.drop_drop]; congr 1; omega
  rw [List.append_assoc, ← e1, List.take_append_drop, List.take_append_drop]
end
end Go.Proofs.Ytcpponjknmkfaaa
