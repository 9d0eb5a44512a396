/-
  Plain laws: what is told node first makes the tree again, and each list that makes a tree is told so. No program. Conditions: none.
-/
import Derived.Test.YtcpponjknmkfaaaOrder
namespace Go.Proofs.Ytcpponjknmkfaaa
open Go.ChangeShapes Go.WideShapes Go.ChangeAt Go.RowKit
set_option linter.unusedVariables false
set_option linter.unusedSimpArgs false

theorem mapRight_of (l : List IP) (h1 : l.length ≤ 200) (h2 : l.Pairwise (fun a b => a.1 < b.1)) (h3 : ∀ x ∈ l, 0 ≤ x.1 ∧ x.1 ≤ 1000000) : mapRight l = 0 := by
  rw [mapRight, if_neg (by omega)]
  have : ∀ (l : List IP) (last : Int), l.Pairwise (fun a b => a.1 < b.1) → (∀ x ∈ l, last < x.1 ∧ x.1 ≤ 1000000) → mrFrom last l = 0 := by
    intro l
    induction l with
    | nil => intro _ _ _; rfl
    | cons p t ih =>
      intro last hr hb
      have hp := hb p (by simp)
      rw [List.pairwise_cons] at hr
      rw [mrFrom, if_pos ((btw_iff _ _ _).2 ⟨by omega, hp.2⟩)]
      exact ih p.1 hr.2 fun x hx => ⟨hr.1 x hx, (hb x (by simp [hx])).2⟩
  exact this l (-1) h2 fun x hx => ⟨by have := (h3 x hx).1; omega, (h3 x hx).2⟩
theorem walkF_mem (l : List IP) (last : Bool) (lo hi : Nat) : ∀ x ∈ walkF l last lo hi, ∃ k, lo ≤ k ∧ k < hi ∧ x = gk l k := by
  by_cases h : lo < hi
  · have ht := topS_in l lo hi h
    have h1 := walkF_mem l last lo (topS l lo hi).1
    have h2 := walkF_mem l last ((topS l lo hi).1 + 1) hi
    intro x hx
    have : x = gk l (topS l lo hi).1 ∨ x ∈ walkF l last lo (topS l lo hi).1 ∨ x ∈ walkF l last ((topS l lo hi).1 + 1) hi := by
      cases last
      · rw [walkF_first l lo hi h] at hx; simpa [or_assoc] using hx
      · rw [walkF_last l lo hi h] at hx
        simp only [List.mem_append, List.mem_singleton] at hx
        rcases hx with (hx | hx) | hx
        · exact .inr (.inl hx)
        · exact .inr (.inr hx)
        · exact .inl hx
    rcases this with rfl | hx | hx
    · exact ⟨_, ht.1, ht.2, rfl⟩
    · obtain ⟨k, a, b, c⟩ := h1 x hx; exact ⟨k, a, by omega, c⟩
    · obtain ⟨k, a, b, c⟩ := h2 x hx; exact ⟨k, by omega, b, c⟩
  · rw [walkF_nil l last lo hi h]; simp
termination_by hi - lo
theorem lessN_append (x : Int) (a b : List Int) (ha : ∀ y ∈ a, y < x) (hb : ∀ y ∈ b, x < y) : lessN x (a ++ b) = a.length := by
  refine lessN_is x (a ++ b) a.length (by simp) (fun j h hj => ?_) (fun h => ?_)
  · rw [List.getElem_append_left hj]; exact ha _ (List.getElem_mem _)
  · rw [List.getElem_append_right (Nat.le_refl _)]
    have := hb _ (List.getElem_mem (by simp at h ⊢; omega : a.length - a.length < b.length))
    omega
/-- Of a tree: what is told node first is parted again. -/
theorem part_walk (l : List IP) (hr : ∀ i j (hi : i < l.length) (hj : j < l.length), i < j → l[i].1 < l[j].1) (n : Nat) : ∀ (lo hi : Nat) (d : Int) (t : PT), hi - lo ≤ n → lo ≤ hi → hi ≤ l.length → ptR l lo hi d = some t → partF n (walkF l false lo hi) d = (true, (l.take hi).drop lo) := by
  induction n with
  | zero =>
    intro lo hi d t h1 h2 h3 ht
    obtain rfl : lo = hi := by omega
    rw [walkF_nil l false lo lo (by omega)]
    simp [partF]
  | succ n ih =>
    intro lo hi d t h1 h2 h3 ht
    by_cases hlt : lo < hi
    · have htin := topS_in l lo hi hlt
      by_cases hok : (topS l lo hi).2 = true ∧ gv l (topS l lo hi).1 = d
      · obtain ⟨at_, hat⟩ : ∃ a, a = (topS l lo hi).1 := ⟨_, rfl⟩
        have htop : topS l lo hi = (at_, true) := by rw [hat, ← hok.1]
        have hgd : gv l at_ = d := by rw [hat]; exact hok.2
        rw [ptR_node l lo hi d hlt at_ htop hgd] at ht
        have hw := walkF_first l lo hi hlt
        rw [← hat] at hw htin
        cases ha : ptR l lo at_ (d + 1) with
        | none => rw [ha] at ht; simp at ht
        | some ta =>
          cases hb : ptR l (at_ + 1) hi (d + 1) with
          | none => rw [ha, hb] at ht; simp at ht
          | some tb =>
            have ia := ih lo at_ (d + 1) ta (by omega) htin.1 (by omega) ha
            have ib := ih (at_ + 1) hi (d + 1) tb (by omega) (by omega) h3 hb
            have hatl : at_ < l.length := by omega
            have hgk : gk l at_ = l[at_].1 := gk_eq l at_ hatl
            have hA : ∀ y ∈ walkF l false lo at_, y < gk l at_ := fun y hy => by
              obtain ⟨k, a, b, rfl⟩ := walkF_mem l false lo at_ y hy
              rw [gk_eq l k (by omega), hgk]
              exact hr k at_ (by omega) hatl b
            have hB : ∀ y ∈ walkF l false (at_ + 1) hi, gk l at_ < y := fun y hy => by
              obtain ⟨k, a, b, rfl⟩ := walkF_mem l false (at_ + 1) hi y hy
              rw [gk_eq l k (by omega), hgk]
              exact hr at_ k hatl (by omega) (by omega)
            have hless := lessN_append (gk l at_) _ _ hA hB
            rw [hw, List.append_assoc, List.singleton_append, partF, hless, List.take_left' rfl, List.drop_left' rfl, ia, ib, if_neg, if_neg (by simp)]
            · rw [seg_split l lo at_ hi htin.1 htin.2 h3]
              have : ((gk l at_, d) : IP) = l[at_] := Prod.ext hgk (by rw [← hgd]; exact gv_eq l at_ hatl)
              rw [this]
            · simp only [Bool.not_eq_true, List.any_eq_false, decide_eq_true_eq]
              intro y hy
              have := hB y hy; omega
      · rw [ptR_none l lo hi d hlt hok] at ht; cases ht
    · rw [walkF_nil l false lo hi hlt]
      obtain rfl : lo = hi := by omega
      simp [partF]
theorem partF_mem : ∀ (n : Nat) (l : List Int) (d : Int), ∀ p ∈ (partF n l d).2, p.1 ∈ l ∧ d ≤ p.2
  | 0, _, _, p, h => by simp [partF] at h
  | n + 1, [], _, p, h => by simp [partF] at h
  | n + 1, x :: t, d, p, h => by
    have ha := partF_mem n (t.take (lessN x t)) (d + 1)
    have hb := partF_mem n (t.drop (lessN x t)) (d + 1)
    unfold partF at h
    split at h
    · simp at h
    · split at h
      · obtain ⟨h1, h2⟩ := ha p h
        exact ⟨List.mem_cons_of_mem _ (List.mem_of_mem_take h1), by omega⟩
      · simp only [List.mem_append, List.mem_singleton] at h
        rcases h with (h | rfl) | h
        · obtain ⟨h1, h2⟩ := ha p h
          exact ⟨List.mem_cons_of_mem _ (List.mem_of_mem_take h1), by omega⟩
        · exact ⟨by simp, by simp⟩
        · obtain ⟨h1, h2⟩ := hb p h
          exact ⟨List.mem_cons_of_mem _ (List.mem_of_mem_drop h1), by omega⟩
/-- A list that is parted makes a tree that is told so. -/
theorem walk_part (l : List IP) (n : Nat) : ∀ (first : List Int) (d : Int) (lo : Nat), first.length ≤ n → (partF n first d).1 = true → (∀ j, j < (partF n first d).2.length → l[lo + j]? = (partF n first d).2[j]?) →
    (partF n first d).2.Pairwise (fun a b => a.1 < b.1) ∧ walkF l false lo (lo + (partF n first d).2.length) = first ∧ ∃ t, ptR l lo (lo + (partF n first d).2.length) d = some t := by
  induction n with
  | zero =>
    intro first d lo h1 _ _
    obtain rfl : first = [] := List.eq_nil_of_length_eq_zero (by omega)
    simp only [partF, List.length_nil, Nat.add_zero]
    exact ⟨.nil, walkF_nil l false lo lo (by omega), _, ptR_nil l lo lo d (by omega)⟩
  | succ n ih =>
    intro first d lo h1 hok hl
    cases first with
    | nil =>
      simp only [partF, List.length_nil, Nat.add_zero]
      exact ⟨.nil, walkF_nil l false lo lo (by omega), _, ptR_nil l lo lo d (by omega)⟩
    | cons x t =>
      have hln := lessN_le x t
      obtain ⟨A, hA⟩ : ∃ A, A = partF n (t.take (lessN x t)) (d + 1) := ⟨_, rfl⟩
      obtain ⟨Bq, hB⟩ : ∃ B, B = partF n (t.drop (lessN x t)) (d + 1) := ⟨_, rfl⟩
      have hpf : partF (n + 1) (x :: t) d = if (t.drop (lessN x t)).any (fun k => decide (k ≤ x)) then (false, []) else if A.1 = false then (false, A.2) else (Bq.1, A.2 ++ [(x, d)] ++ Bq.2) := by rw [partF, hA, hB]
      by_cases hany : (t.drop (lessN x t)).any (fun k => decide (k ≤ x)) = true
      · rw [hpf, if_pos hany] at hok; simp at hok
      · rw [if_neg hany] at hpf
        by_cases hA1 : A.1 = false
        · rw [hpf, if_pos hA1] at hok; simp at hok
        · rw [if_neg hA1] at hpf
          rw [hpf] at hok hl ⊢
          simp only at hok hl ⊢
          have hA1' : A.1 = true := by cases h : A.1 with | true => rfl | false => exact absurd h hA1
          have hlen : (A.2 ++ [(x, d)] ++ Bq.2).length = A.2.length + 1 + Bq.2.length := by simp; omega
          rw [hlen] at hl ⊢
          have ia := ih (t.take (lessN x t)) (d + 1) lo (by simp at h1 ⊢; omega) (by rw [← hA]; exact hA1') (fun j hj => by
            rw [← hA] at hj ⊢
            rw [hl j (by omega), List.append_assoc, List.getElem?_append_left hj])
          have ib := ih (t.drop (lessN x t)) (d + 1) (lo + A.2.length + 1) (by simp at h1 ⊢; omega) (by rw [← hB]; exact hok) (fun j hj => by
            rw [← hB] at hj ⊢
            have := hl (A.2.length + 1 + j) (by omega)
            rw [show lo + (A.2.length + 1 + j) = lo + A.2.length + 1 + j from by omega] at this
            rw [this, List.getElem?_append_right (by simp)]
            congr 1; simp)
          have ma := partF_mem n (t.take (lessN x t)) (d + 1)
          have mb := partF_mem n (t.drop (lessN x t)) (d + 1)
          rw [← hA] at ia ma
          rw [← hB] at ib mb
          obtain ⟨a1, a2, ta, a3⟩ := ia
          obtain ⟨b1, b2, tb, b3⟩ := ib
          have hltA : ∀ y ∈ t.take (lessN x t), y < x := fun y hy => by
            obtain ⟨j, hj, rfl⟩ := List.getElem_of_mem hy
            simp at hj
            rw [List.getElem_take]
            exact lessN_lt x t j (by omega) (by omega)
          have hgtB : ∀ y ∈ t.drop (lessN x t), x < y := fun y hy => by
            simp only [Bool.not_eq_true, List.any_eq_false, decide_eq_true_eq] at hany
            have := hany y hy; omega
          have hp : l[lo + A.2.length]? = some (x, d) := by
            rw [hl A.2.length (by omega), List.append_assoc, List.getElem?_append_right (Nat.le_refl _)]; simp
          have hpl : lo + A.2.length < l.length := by
            rcases Nat.lt_or_ge (lo + A.2.length) l.length with h | h
            · exact h
            · rw [List.getElem?_eq_none h] at hp; cases hp
          have hpe : l[lo + A.2.length] = (x, d) := by rw [List.getElem?_eq_getElem hpl] at hp; exact Option.some.inj hp
          have hgv : gv l (lo + A.2.length) = d := by rw [gv_eq l _ hpl, hpe]
          have hgk : gk l (lo + A.2.length) = x := by rw [gk_eq l _ hpl, hpe]
          have hge : ∀ j (q : IP), l[j]? = some q → gv l j = q.2 := fun j q h => by
            have hj : j < l.length := by
              rcases Nat.lt_or_ge j l.length with h' | h'
              · exact h'
              · rw [List.getElem?_eq_none h'] at h; cases h
            rw [gv_eq l j hj]
            rw [List.getElem?_eq_getElem hj] at h
            rw [Option.some.inj h]
          have htop : topS l lo (lo + (A.2.length + 1 + Bq.2.length)) = (lo + A.2.length, true) := topS_find l lo _ (lo + A.2.length) (by omega) (by omega) (fun j j1 j2 j3 => by
            rw [hgv]
            have hlj := hl (j - lo) (by omega)
            rw [show lo + (j - lo) = j from by omega] at hlj
            rcases Nat.lt_or_ge j (lo + A.2.length) with hj | hj
            · rw [List.append_assoc, List.getElem?_append_left (by omega), List.getElem?_eq_getElem (show j - lo < A.2.length by omega)] at hlj
              rw [hge j _ hlj]
              have := (ma _ (List.getElem_mem (show j - lo < A.2.length by omega))).2; omega
            · rw [List.getElem?_append_right (by simp; omega)] at hlj
              have hx : j - lo - (A.2 ++ [(x, d)]).length < Bq.2.length := by simp; omega
              rw [List.getElem?_eq_getElem hx] at hlj
              rw [hge j _ hlj]
              have := (mb _ (List.getElem_mem hx)).2; omega)
          have hend : lo + (A.2.length + 1 + Bq.2.length) = lo + A.2.length + 1 + Bq.2.length := by omega
          refine ⟨?_, ?_, ?_⟩
          · rw [List.pairwise_append, List.pairwise_append]
            refine ⟨⟨a1, by simp, fun p hp q hq => ?_⟩, b1, fun p hp q hq => ?_⟩
            · simp at hq; subst hq
              exact hltA _ (ma p hp).1
            · have h2 := hgtB _ (mb q hq).1
              rcases List.mem_append.1 hp with hp | hp
              · have := hltA _ (ma p hp).1; omega
              · simp at hp; subst hp; exact h2
          · rw [walkF_first l lo _ (by omega), htop]
            simp only
            rw [hgk, a2, hend, b2]
            simp
          · rw [ptR_node l lo _ d (by omega) (lo + A.2.length) htop hgv, a3, hend, b3]
            exact ⟨_, rfl⟩
theorem back_of (l : List IP) (h : (parOf l).2 = 0) : shapeOf (walkF l false 0 l.length) = (l, 0) := by
  obtain ⟨h1, h2, t, ht, _⟩ := parOf_len l h
  have hp := part_walk l (fun i j hi hj hij => mapRight_rise l h2 i j hi hj hij) l.length 0 l.length 0 t (by omega) (by omega) (Nat.le_refl _) ht
  have hl := walkF_len l false 0 l.length
  rw [shapeOf, if_neg (by omega), if_neg, show (walkF l false 0 l.length).length = l.length from by omega, hp, if_neg (by simp)]
  · simp
  · simp only [Classical.not_not]
    intro k hk
    obtain ⟨j, _, hj, rfl⟩ := walkF_mem l false 0 l.length k hk
    rw [gk_eq l j hj]
    exact mapRight_in l h2 _ (List.getElem_mem hj)
theorem back_to (first : List Int) (h : (shapeOf first).2 = 0) : orderOf (shapeOf first).1 1 = (first, 0) ∧ (parOf (shapeOf first).1).2 = 0 := by
  unfold shapeOf at h
  by_cases h1 : first.length > 200
  · rw [if_pos h1] at h; simp at h
  · rw [if_neg h1] at h
    by_cases h2 : keysIn first
    · rw [if_neg (by simpa using h2)] at h
      by_cases h3 : (partF first.length first 0).1 = false
      · rw [if_pos h3] at h; simp at h
      · have hs : (shapeOf first).1 = (partF first.length first 0).2 := by rw [shapeOf, if_neg h1, if_neg (by simpa using h2), if_neg h3]
        have h3' : (partF first.length first 0).1 = true := by cases hh : (partF first.length first 0).1 with | true => rfl | false => exact absurd hh h3
        obtain ⟨s, hse⟩ : ∃ s, s = (partF first.length first 0).2 := ⟨_, rfl⟩
        have hm := partF_mem first.length first 0
        have hlen := partF_len first.length first 0
        have hw := walk_part s first.length first 0 0 (Nat.le_refl _) h3' (fun j hj => by rw [hse, Nat.zero_add])
        rw [← hse] at hs hm hlen hw
        obtain ⟨w1, w2, t, w3⟩ := hw
        rw [Nat.zero_add] at w2 w3
        have hmr : mapRight s = 0 := mapRight_of s (by omega) w1 fun x hx => h2 _ (hm x hx).1
        have hpo : parOf s = (t.pars (-1), 0) := by rw [parOf, if_neg (by simp [hmr]), w3]
        rw [hs]
        refine ⟨?_, by rw [hpo]⟩
        rw [orderOf, if_neg (by rw [hpo]; simp), if_pos rfl, w2]
    · rw [if_pos (by simpa using h2)] at h; simp at h
theorem shapeOf_bad (first : List Int) (h : (shapeOf first).2 ≠ 0) : (shapeOf first).1 = [] := by
  unfold shapeOf at h ⊢
  split
  · rfl
  · split
    · rfl
    · split
      · rfl
      · rename_i a b c
        rw [if_neg a, if_neg b, if_neg c] at h
        simp at h
end Go.Proofs.Ytcpponjknmkfaaa
