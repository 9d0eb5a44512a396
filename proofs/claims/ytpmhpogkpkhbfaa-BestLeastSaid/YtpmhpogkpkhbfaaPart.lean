/-
  shape.part, shape.Of: what they answer. Conditions: the list reads as l (RD); of part: the variable holds a slice of the call's own (OB).
-/
import Derived.Test.YtpmhpogkpkhbfaaOutVar
import Derived.Test.YtpmhpogkpkhbfaaChk
namespace Go.Proofs.Ytpmhpogkpkhbfaa
open Go.ChangeShapes Go.WideShapes Go.ChangeAt Go.RowKit
set_option linter.unusedVariables false
set_option linter.unusedSimpArgs false

/-- How many at the head of the list are less. -/
def lessN (x : Int) : List Int → Nat
  | [] => 0
  | y :: t => if y < x then lessN x t + 1 else 0
theorem lessN_le (x : Int) : ∀ l : List Int, lessN x l ≤ l.length
  | [] => Nat.le_refl _
  | y :: t => by
    unfold lessN
    have := lessN_le x t
    split <;> simp <;> omega
theorem lessN_lt (x : Int) : ∀ (l : List Int) (j : Nat) (h : j < l.length), j < lessN x l → l[j] < x
  | y :: t, 0, _, h => by
    unfold lessN at h
    split at h
    · assumption
    · omega
  | y :: t, j + 1, hj, h => by
    unfold lessN at h
    split at h
    · exact lessN_lt x t j (by simpa using hj) (by omega)
    · omega
theorem lessN_at (x : Int) : ∀ (l : List Int) (h : lessN x l < l.length), ¬ l[lessN x l] < x
  | y :: t, h => by
    by_cases hy : y < x
    · have e : lessN x (y :: t) = lessN x t + 1 := by rw [lessN, if_pos hy]
      simp only [e] at h ⊢
      simpa using lessN_at x t (by simpa using h)
    · have e : lessN x (y :: t) = 0 := by rw [lessN, if_neg hy]
      simp only [e]
      simpa using hy
theorem lessN_is (x : Int) (l : List Int) (k : Nat) (hk : k ≤ l.length) (h1 : ∀ j (h : j < l.length), j < k → l[j] < x) (h2 : ∀ h : k < l.length, ¬ l[k] < x) : lessN x l = k := by
  rcases Nat.lt_trichotomy (lessN x l) k with h | h | h
  · exact absurd (h1 _ (by omega) h) (lessN_at x l (by omega))
  · exact h
  · exact absurd (lessN_lt x l k (by have := lessN_le x l; omega) h) (h2 (by have := lessN_le x l; omega))
def partF : Nat → List Int → Int → Bool × List IP
  | 0, _, _ => (true, [])
  | _ + 1, [], _ => (true, [])
  | n + 1, x :: t, d =>
    if (t.drop (lessN x t)).any (fun k => decide (k ≤ x)) then (false, [])
    else if (partF n (t.take (lessN x t)) (d + 1)).1 = false then (false, (partF n (t.take (lessN x t)) (d + 1)).2)
    else ((partF n (t.drop (lessN x t)) (d + 1)).1, (partF n (t.take (lessN x t)) (d + 1)).2 ++ [(x, d)] ++ (partF n (t.drop (lessN x t)) (d + 1)).2)
theorem partF_len : ∀ (n : Nat) (l : List Int) (d : Int), (partF n l d).2.length ≤ l.length
  | 0, _, _ => by simp [partF]
  | n + 1, [], _ => by simp [partF]
  | n + 1, x :: t, d => by
    have h0 := lessN_le x t
    have h1 := partF_len n (t.take (lessN x t)) (d + 1)
    have h2 := partF_len n (t.drop (lessN x t)) (d + 1)
    simp only [List.length_take, List.length_drop] at h1 h2
    unfold partF
    split
    · simp
    · split
      · simp; omega
      · simp; omega
theorem take_at_eq (l : List Int) (k : Nat) (h : k ≤ l.length) (hk : 1 ≤ k) : (l.take k).drop 1 = (l.drop 1).take (k - 1) := by
  rw [List.drop_take]
theorem any_drop_false (x : Int) (t : List Int) (n : Nat) (h : ∀ j (hj : j < t.length), n ≤ j → ¬ t[j] ≤ x) : (t.drop n).any (fun k => decide (k ≤ x)) = false := by
  rw [List.any_eq_false]
  intro y hy
  obtain ⟨j, hj, rfl⟩ := List.getElem_of_mem hy
  rw [List.getElem_drop]
  simp at hj
  have := h (n + j) (by omega) (by omega)
  simpa using this
theorem any_drop_true (x : Int) (t : List Int) (n j : Nat) (hj : j < t.length) (hn : n ≤ j) (h : t[j] ≤ x) : (t.drop n).any (fun k => decide (k ≤ x)) = true := by
  rw [List.any_eq_true]
  refine ⟨t[j], ?_, by simpa using h⟩
  rw [List.mem_drop_iff_getElem]
  exact ⟨j - n, by omega, by simp [show n + (j - n) = j from by omega]⟩

theorem partF_l (n : Nat) (l : List Int) (x : Int) (t : List Int) (d : Int) (hl : l = x :: t) (k : Nat) (hk : 1 ≤ k) (hln : lessN x t = k - 1) :
    partF (n + 1) l d = if (l.drop k).any (fun k => decide (k ≤ x)) then (false, []) else if (partF n ((l.take k).drop 1) (d + 1)).1 = false then (false, (partF n ((l.take k).drop 1) (d + 1)).2)
      else ((partF n (l.drop k) (d + 1)).1, (partF n ((l.take k).drop 1) (d + 1)).2 ++ [(x, d)] ++ (partF n (l.drop k) (d + 1)).2) := by
  subst hl
  obtain ⟨k, rfl⟩ : ∃ k', k = k' + 1 := ⟨k - 1, by omega⟩
  rw [partF, hln]
  simp

theorem lo_cut {B b o o2 n c : Nat} {A : Option Addr} {n' c' : Nat} (h : Lo B (.slice (some ⟨b, o, none⟩) n c)) (hA : ∀ ad, A = some ad → ad.block = b) : Lo B (.slice A n' c') := fun k hk => by
  cases A with
  | none => simp [Value.ownBlock] at hk
  | some ad =>
    have := hA ad rfl
    simp [Value.ownBlock] at hk
    subst hk
    exact h _ (by simp [Value.ownBlock, this])
theorem if_blk {p : Prop} [Decidable p] {b o o2 : Nat} {A : Option Addr} (h : (if p then some (⟨b, o, none⟩ : Addr) else some ⟨b, o2, none⟩) = A) : ∀ ad, A = some ad → ad.block = b := by
  intro ad e
  subst e
  split at h <;> (injection h with h; rw [← h])
def PaPost (B g : Nat) (st e : TypeId) (r : Bool × List IP) (acc : List IP) (w : World) (en : Ending) (w' : World) : Prop := en = .returned (.bool r.1) ∧ OB w' B g st e ePair (acc ++ r.2) ∧ KO g B w w'
def Pa1 (l : List Int) (x : Int) (w : World) (nv : Value) (wr : World) : Prop := ∃ k : Nat, 1 ≤ k ∧ k ≤ l.length ∧ nv = .int .i64 k ∧ (∀ j (h : j < l.length), 1 ≤ j → j < k → l[j] < x) ∧ Kp w wr
def Pa2 (l : List Int) (x : Int) (n : Nat) (w : World) (iv : Value) (wr : World) : Prop := ∃ k : Nat, k ≤ l.length - n ∧ iv = .int .i64 k ∧ (∀ j (h : j < l.length), n ≤ j → j < n + k → ¬ l[j] ≤ x) ∧ Kp w wr

end Go.Proofs.Ytpmhpogkpkhbfaa
