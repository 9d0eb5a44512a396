/-
  A list of keys put one behind the other: the only tree that may tell it. Conditions: none (plain words, no program).
-/
import Derived.Test.YtcpponjknmkfaaaToldL
import Derived.Test.YtcpponjknmkfaaaBackLaw
import Derived.Test.YtcpponjknmkfaaaLeafR
namespace Go.Proofs.Ytcpponjknmkfaaa
open Go.ChangeShapes Go.WideShapes Go.ChangeAt Go.RowKit
set_option linter.unusedVariables false
set_option linter.unusedSimpArgs false

def buildT (F : List Int) : T := F.foldl leafT .nil
theorem leafT_size : ∀ (t : T) (k : Int), (leafT t k).size ≤ t.size + 1
  | .nil, k => by simp [leafT, T.size]
  | .node a l r, k => by
    have h1 := leafT_size l k
    have h2 := leafT_size r k
    unfold leafT
    split
    · simp only [T.size]; omega
    · split
      · simp only [T.size]; omega
      · simp only [T.size]; omega
theorem fold_size : ∀ (F : List Int) (t : T), (F.foldl leafT t).size ≤ t.size + F.length
  | [], t => by simp
  | k :: F, t => by
    have h1 := fold_size F (leafT t k)
    have h2 := leafT_size t k
    simp only [List.foldl_cons, List.length_cons]
    omega
theorem buildT_size (F : List Int) : (buildT F).size ≤ F.length := by
  have := fold_size F .nil
  simp only [T.size] at this
  unfold buildT; omega
theorem leafT_mem : ∀ (t : T) (k : Int), ∀ y ∈ told1 (leafT t k), y = k ∨ y ∈ told1 t
  | .nil, k, y, h => by simp [leafT, told1] at h; exact .inl h
  | .node a l r, k, y, h => by
    unfold leafT at h
    simp only [told1, List.mem_append, List.mem_singleton]
    split at h
    · simp only [told1, List.mem_append, List.mem_singleton] at h
      rcases h with (h | h) | h
      · exact .inr (.inl (.inl h))
      · rcases leafT_mem l k y h with h | h
        · exact .inl h
        · exact .inr (.inl (.inr h))
      · exact .inr (.inr h)
    · split at h
      · simp only [told1, List.mem_append, List.mem_singleton] at h
        rcases h with (h | h) | h
        · exact .inr (.inl (.inl h))
        · exact .inr (.inl (.inr h))
        · rcases leafT_mem r k y h with h | h
          · exact .inl h
          · exact .inr (.inr h)
      · simp only [told1, List.mem_append, List.mem_singleton] at h
        exact .inr h
theorem fold_mem : ∀ (F : List Int) (t : T), ∀ y ∈ told1 (F.foldl leafT t), y ∈ F ∨ y ∈ told1 t
  | [], t, y, h => .inr h
  | k :: F, t, y, h => by
    rw [List.foldl_cons] at h
    rcases fold_mem F (leafT t k) y h with h | h
    · exact .inl (List.mem_cons_of_mem _ h)
    · rcases leafT_mem t k y h with rfl | h
      · exact .inl (List.mem_cons_self ..)
      · exact .inr h
theorem buildT_mem (F : List Int) (y : Int) (h : y ∈ told1 (buildT F)) : y ∈ F := by
  rcases fold_mem F .nil y h with h | h
  · exact h
  · simp [told1] at h
theorem fold_node : ∀ (F : List Int) (k : Int) (l r : T), F.foldl leafT (.node k l r) = .node k ((F.filter (fun y => decide (y < k))).foldl leafT l) ((F.filter (fun y => decide (k < y))).foldl leafT r)
  | [], k, l, r => rfl
  | y :: F, k, l, r => by
    rw [List.foldl_cons]
    unfold leafT
    by_cases h1 : y < k
    · have h2 : ¬ k < y := by omega
      rw [if_pos h1, fold_node F]
      simp [h1, h2]
    · by_cases h2 : k < y
      · rw [if_neg h1, if_pos h2, fold_node F]
        simp [h1, h2]
      · rw [if_neg h1, if_neg h2, fold_node F]
        simp [h1, h2]
theorem buildT_cons (x : Int) (t : List Int) : buildT (x :: t) = .node x (buildT (t.filter (fun y => decide (y < x)))) (buildT (t.filter (fun y => decide (x < y)))) := by
  unfold buildT
  rw [List.foldl_cons]
  show t.foldl leafT (.node x .nil .nil) = _
  rw [fold_node]
theorem filt_parts (x : Int) (A B : List Int) (ha : ∀ y ∈ A, y < x) (hb : ∀ y ∈ B, x < y) : (A ++ B).filter (fun y => decide (y < x)) = A ∧ (A ++ B).filter (fun y => decide (x < y)) = B := by
  have h1 : A.filter (fun y => decide (y < x)) = A := List.filter_eq_self.2 fun y hy => by simpa using ha y hy
  have h2 : B.filter (fun y => decide (y < x)) = [] := List.filter_eq_nil_iff.2 fun y hy => by have := hb y hy; simp; omega
  have h3 : A.filter (fun y => decide (x < y)) = [] := List.filter_eq_nil_iff.2 fun y hy => by have := ha y hy; simp; omega
  have h4 : B.filter (fun y => decide (x < y)) = B := List.filter_eq_self.2 fun y hy => by simpa using hb y hy
  rw [List.filter_append, List.filter_append, h1, h2, h3, h4]
  simp
theorem part_build : ∀ (n : Nat) (F : List Int) (d : Int), F.length ≤ n → (partF n F d).1 = true → (buildT F).spots d = (partF n F d).2 ∧ told1 (buildT F) = F
  | 0, F, d, hl, _ => by
    have : F = [] := List.eq_nil_of_length_eq_zero (by omega)
    subst this
    exact ⟨rfl, rfl⟩
  | n + 1, [], d, _, _ => ⟨rfl, rfl⟩
  | n + 1, x :: t, d, hl, h => by
    have hln := lessN_le x t
    simp only [List.length_cons] at hl
    unfold partF at h ⊢
    split at h
    · simp at h
    · rename_i hany
      split at h
      · simp at h
      · rename_i hp
        rw [if_neg hany, if_neg hp]
        have i1 := part_build n (t.take (lessN x t)) (d + 1) (by simp; omega) (by simpa using hp)
        have i2 := part_build n (t.drop (lessN x t)) (d + 1) (by simp; omega) h
        have ha : ∀ y ∈ t.take (lessN x t), y < x := by
          intro y hy
          obtain ⟨j, hj, rfl⟩ := List.getElem_of_mem hy
          rw [List.getElem_take]
          simp at hj
          exact lessN_lt x t j (by omega) (by omega)
        have hb : ∀ y ∈ t.drop (lessN x t), x < y := by
          intro y hy
          simp only [Bool.not_eq_true, List.any_eq_false, decide_eq_true_eq] at hany
          have := hany y hy
          omega
        have hf := filt_parts x _ _ ha hb
        rw [List.take_append_drop] at hf
        rw [buildT_cons, hf.1, hf.2]
        constructor
        · simp only [T.spots, i1.1, i2.1]
        · simp only [told1, i1.2, i2.2]
          simp
theorem build_part : ∀ (n : Nat) (F : List Int) (d : Int), F.length ≤ n → told1 (buildT F) = F → (partF n F d).1 = true
  | 0, F, d, hl, _ => rfl
  | n + 1, [], d, _, _ => rfl
  | n + 1, x :: t, d, hl, h => by
    simp only [List.length_cons] at hl
    rw [buildT_cons] at h
    obtain ⟨A, hA⟩ : ∃ A, A = t.filter (fun y => decide (y < x)) := ⟨_, rfl⟩
    obtain ⟨B, hB⟩ : ∃ B, B = t.filter (fun y => decide (x < y)) := ⟨_, rfl⟩
    rw [← hA, ← hB] at h
    simp only [told1, List.cons_append, List.nil_append, List.cons.injEq, true_and] at h
    have ha : ∀ y ∈ told1 (buildT A), y < x := fun y hy => by
      have := buildT_mem A y hy
      rw [hA] at this
      simpa using (List.mem_filter.1 this).2
    have hb : ∀ y ∈ told1 (buildT B), x < y := fun y hy => by
      have := buildT_mem B y hy
      rw [hB] at this
      simpa using (List.mem_filter.1 this).2
    have hf := filt_parts x _ _ ha hb
    rw [h, ← hA, ← hB] at hf
    have hn : lessN x t = (told1 (buildT A)).length := by
      rw [← h]; exact lessN_append x _ _ ha hb
    have hlA : A.length + B.length = t.length := by
      rw [← h, hf.1, hf.2]; simp [← hf.1, ← hf.2]
    have ht : t.take (lessN x t) = A := by rw [hn, ← h, List.take_left]; exact hf.1.symm
    have hd : t.drop (lessN x t) = B := by rw [hn, ← h, List.drop_left]; exact hf.2.symm
    unfold partF
    rw [ht, hd]
    have hany : ¬ (B.any (fun k => decide (k ≤ x)) = true) := by
      simp only [Bool.not_eq_true, List.any_eq_false, decide_eq_true_eq]
      intro y hy
      have := hb y (by rw [← hf.2]; exact hy)
      omega
    have i1 := build_part n A (d + 1) (by omega) hf.1.symm
    have i2 := build_part n B (d + 1) (by omega) hf.2.symm
    rw [if_neg hany, if_neg (by rw [i1]; simp)]
    exact i2
/-- What Of answers, by the document's words. -/
theorem first_law (F : List Int) (h : F.length ≤ 200) (hk : keysIn F) : (told1 (buildT F) = F → shapeOf F = ((buildT F).spots 0, 0)) ∧ (told1 (buildT F) ≠ F → shapeOf F = ([], 3)) := by
  unfold shapeOf
  rw [if_neg (by omega), if_neg (by simpa using hk)]
  constructor
  · intro e
    have h1 := build_part F.length F 0 (Nat.le_refl _) e
    have h2 := part_build F.length F 0 (Nat.le_refl _) h1
    rw [if_neg (by rw [h1]; simp), h2.1]
  · intro e
    rw [if_pos ?_]
    cases h1 : (partF F.length F 0).1 with
    | false => rfl
    | true => exact absurd (part_build F.length F 0 (Nat.le_refl _) h1).2 e

/-! The parents: the nearest one, of both sides, that stands one row above. -/
def UpQ (D : Nat → Int) (k i : Nat) : Prop := D i = D k - 1 ∧ ∀ j, min i k < j → j < max i k → D k ≤ D j
def UpOK (D : Nat → Int) (lo hi k : Nat) (d above v : Int) : Prop :=
  d ≤ D k ∧ ((D k = d ∧ v = above ∧ ∀ j, lo ≤ j → j < hi → j ≠ k → d < D j) ∨ (d < D k ∧ ∃ m : Nat, lo ≤ m ∧ m < hi ∧ v = (m : Int) ∧ UpQ D k m ∧ ∀ m', lo ≤ m' → m' < hi → UpQ D k m' → m' = m))
theorem pars_up (D : Nat → Int) : ∀ (t : PT) (lo : Nat) (d above : Int), t.At lo → (∀ j, j < t.size → (t.deps d)[j]? = some (D (lo + j))) → ∀ k, k < t.size → ∃ v, (t.pars above)[k]? = some v ∧ UpOK D lo (lo + t.size) (lo + k) d above v
  | .nil, lo, d, above, _, _, k, hk => by simp [PT.size] at hk
  | .node p a b, lo, d, above, hat, hd, k, hk => by
    obtain ⟨hp, ha, hb⟩ := hat
    simp only [PT.size] at hd hk ⊢
    have hda : ∀ j, j < a.size → (a.deps (d + 1))[j]? = some (D (lo + j)) := fun j hj => by
      rw [← hd j (by omega), PT.deps, List.append_assoc, List.getElem?_append_left (by rw [PT.deps_len]; exact hj)]
    have hdp : D p = d := by
      have := hd a.size (by omega)
      rw [PT.deps, List.append_assoc, List.getElem?_append_right (by rw [PT.deps_len]; exact Nat.le_refl _), PT.deps_len, Nat.sub_self] at this
      simp at this
      rw [hp]; exact this.symm
    have hdb : ∀ j, j < b.size → (b.deps (d + 1))[j]? = some (D (p + 1 + j)) := fun j hj => by
      have h1 := hd (a.size + (1 + j)) (by omega)
      rw [PT.deps, List.getElem?_append_right (by simp [PT.deps_len]), ] at h1
      simp only [List.length_append, PT.deps_len, List.length_singleton] at h1
      rw [show a.size + (1 + j) - (a.size + 1) = j from by omega, show lo + (a.size + (1 + j)) = p + 1 + j from by omega] at h1
      exact h1
    have ia := pars_up D a lo (d + 1) p ha hda
    have ib := pars_up D b (p + 1) (d + 1) p hb hdb
    have ga : ∀ j, lo ≤ j → j < p → d < D j := fun j h1 h2 => by
      obtain ⟨v, _, h3, _⟩ := ia (j - lo) (by omega)
      rw [show lo + (j - lo) = j from by omega] at h3
      omega
    have gb : ∀ j, p < j → j < p + 1 + b.size → d < D j := fun j h1 h2 => by
      obtain ⟨v, _, h3, _⟩ := ib (j - (p + 1)) (by omega)
      rw [show p + 1 + (j - (p + 1)) = j from by omega] at h3
      omega
    have hq : ∀ j, lo ≤ j → j < lo + (a.size + 1 + b.size) → j ≠ p → d < D j := fun j h1 h2 h3 => by
      by_cases h4 : j < p
      · exact ga j h1 h4
      · exact gb j (by omega) (by omega)
    rcases Nat.lt_trichotomy k a.size with hlt | heq | hgt
    · obtain ⟨v, hv, h1, h2⟩ := ia k hlt
      refine ⟨v, ?_, by omega, .inr ⟨by omega, ?_⟩⟩
      · rw [PT.pars, List.append_assoc, List.getElem?_append_left (by rw [PT.pars_len]; exact hlt)]
        exact hv
      rcases h2 with ⟨h3, rfl, h4⟩ | ⟨h3, m, hm1, hm2, rfl, hm3, hm4⟩
      · refine ⟨p, by omega, by omega, rfl, ⟨by omega, fun j j1 j2 => ?_⟩, fun m' q1 q2 q3 => ?_⟩
        · have := h4 j (by omega) (by omega) (by omega)
          omega
        · obtain ⟨q4, _⟩ := q3
          apply Classical.byContradiction
          intro q5
          have := hq m' q1 q2 q5
          omega
      · refine ⟨m, hm1, by omega, rfl, hm3, fun m' q1 q2 q3 => ?_⟩
        by_cases q4 : m' < p
        · exact hm4 m' q1 (by omega) q3
        · obtain ⟨q5, q6⟩ := q3
          by_cases q7 : m' = p
          · subst q7; omega
          · have := q6 p (by omega) (by omega)
            omega
    · subst heq
      have hdp2 : D (lo + a.size) = d := by rw [← hp]; exact hdp
      refine ⟨above, ?_, by omega, .inl ⟨by omega, rfl, fun j h1 h2 h3 => ?_⟩⟩
      · rw [PT.pars, List.append_assoc, List.getElem?_append_right (by rw [PT.pars_len]; exact Nat.le_refl _), PT.pars_len, Nat.sub_self]
        simp
      · exact hq j h1 h2 (by omega)
    · obtain ⟨v, hv, h1, h2⟩ := ib (k - (a.size + 1)) (by omega)
      rw [show p + 1 + (k - (a.size + 1)) = lo + k from by omega] at h1 h2
      refine ⟨v, ?_, by omega, .inr ⟨by omega, ?_⟩⟩
      · rw [PT.pars, List.getElem?_append_right (by simp [PT.pars_len]; omega)]
        simp only [List.length_append, PT.pars_len, List.length_singleton]
        exact hv
      rcases h2 with ⟨h3, rfl, h4⟩ | ⟨h3, m, hm1, hm2, rfl, hm3, hm4⟩
      · refine ⟨p, by omega, by omega, rfl, ⟨by omega, fun j j1 j2 => ?_⟩, fun m' q1 q2 q3 => ?_⟩
        · have := h4 j (by omega) (by omega) (by omega)
          omega
        · obtain ⟨q4, _⟩ := q3
          apply Classical.byContradiction
          intro q5
          have := hq m' q1 q2 q5
          omega
      · refine ⟨m, by omega, by omega, rfl, hm3, fun m' q1 q2 q3 => ?_⟩
        by_cases q4 : p < m'
        · exact hm4 m' (by omega) (by omega) q3
        · obtain ⟨q5, q6⟩ := q3
          by_cases q7 : m' = p
          · subst q7; omega
          · have := q6 p (by omega) (by omega)
            omega
open Classical in
/-- The one above that the loop has found behind so many. -/
noncomputable def upAcc (D : Nat → Int) (k : Nat) : Nat → Int
  | 0 => -1
  | i + 1 => if UpQ D k i then (i : Int) else upAcc D k i
theorem upAcc_none (D : Nat → Int) (k : Nat) : ∀ n, (∀ i, i < n → ¬ UpQ D k i) → upAcc D k n = -1
  | 0, _ => rfl
  | n + 1, h => by
    rw [upAcc, if_neg (h n (by omega))]
    exact upAcc_none D k n fun i hi => h i (by omega)
theorem upAcc_one (D : Nat → Int) (k m : Nat) (hm : UpQ D k m) : ∀ n, m < n → (∀ i, i < n → UpQ D k i → i = m) → upAcc D k n = (m : Int)
  | 0, h, _ => by omega
  | n + 1, h, hu => by
    by_cases hq : UpQ D k n
    · rw [upAcc, if_pos hq, hu n (by omega) hq]
    · rw [upAcc, if_neg hq]
      refine upAcc_one D k m hm n ?_ fun i hi => hu i (by omega)
      rcases Nat.lt_or_ge m n with h1 | h1
      · exact h1
      · have : n = m := by omega
        subst this
        exact absurd hm hq
theorem par_up (l : List IP) (h : (parOf l).2 = 0) (k : Nat) (hk : k < l.length) : (parOf l).1[k]? = some (upAcc (gv l) k l.length) := by
  obtain ⟨h1, h2, t, ht, hp⟩ := parOf_len l h
  obtain ⟨h3, h4, h5⟩ := ptR_to l 0 l.length 0 t (by omega) ht
  have hs : t.size = l.length := by have := ptR_size l 0 l.length 0 t (by omega) ht; omega
  obtain ⟨v, hv, h6, h7⟩ := pars_up (gv l) t 0 0 (-1) h3 (fun j hj => (h5 j (by omega)).symm) k (by omega)
  rw [hp]
  show (t.pars (-1))[k]? = _
  rw [hv]
  rw [Nat.zero_add] at h6 h7
  have hge : ∀ j, j < l.length → 0 ≤ gv l j := fun j hj => by
    have := gv_bound l h j hj
    rw [gv_eq l j hj]; exact this.1
  congr 1
  rcases h7 with ⟨h8, rfl, _⟩ | ⟨h8, m, hm1, hm2, rfl, hm3, hm4⟩
  · rw [upAcc_none]
    rintro i hi ⟨q1, _⟩
    have := hge i hi
    omega
  · rw [upAcc_one (gv l) k m hm3 l.length (by omega) fun i hi hq => hm4 i (by omega) (by omega) hq]
end Go.Proofs.Ytcpponjknmkfaaa
