/-
  heap.Check, heap.Of: what they answer. Conditions: the list reads as l (RD).
  Plain laws: who stands next above whom in the tree of heap.Of. No program. Conditions: none.
  A stable sort: what its steps leave of the order of those of one key. No program. Conditions: none.
-/
import Derived.Test.YthbapflabjogkaaHeapOneM21
import Derived.Test.YthbapflabjogkaaHeapOneM16
import Derived.Test.YthbapflabjogkaaHeapOneM1

namespace Go.Proofs.Ythbapflabjogkaa
open Go.ChangeShapes Go.WideShapes Go.ChangeAt Go.RowKit
set_option linter.unusedVariables false
set_option linter.unusedSimpArgs false

theorem heap_zip (l : List IP) (off : Nat) (d : Int) : (heapTree l).spots d = List.zipWith (fun (p : IP) (e : Int) => ((p.1, e) : IP)) l ((ptree l off).deps d) := by
  by_cases h : l = []
  · subst h; rw [heapTree_nil, ptree_nil]; rfl
  · have hl := top_lt l h
    rw [heapTree_cons l h, ptree_cons l off h, T.spots, PT.deps, heap_zip (l.take (top l)) off (d + 1), heap_zip (l.drop (top l + 1)) (off + top l + 1) (d + 1)]
    have e : l = l.take (top l) ++ ([l[top l]] ++ l.drop (top l + 1)) := by simp
    conv => rhs; arg 2; rw [e]
    rw [List.append_assoc, List.append_assoc, List.zipWith_append (by rw [PT.deps_len, ptree_size]), List.zipWith_append (by rfl)]
    rfl
termination_by l.length
decreasing_by
  · simp; omega
  · simp; omega
theorem PT.deps_le : ∀ (t : PT) (d : Int), ∀ e ∈ t.deps d, e < d + t.size
  | .nil, _, e, h => by simp [deps] at h
  | .node p l r, d, e, h => by
    simp only [deps, List.mem_append, List.mem_singleton] at h
    simp only [size]
    rcases h with (h | rfl) | h
    · have := deps_le l (d + 1) e h; omega
    · omega
    · have := deps_le r (d + 1) e h; omega
def hD (l : List IP) (k : Nat) : Int := ((ptree l 0).deps 0).getD k 0
theorem hD_ok (l : List IP) (hn : l.length ≤ 1000) (k : Nat) (hk : k < l.length) : Dp (builtL l) (k : Int) (hD l k) ∧ hD l k ≤ 1000000 := by
  have hs : k < (ptree l 0).size := by rw [ptree_size]; exact hk
  have hdl : k < ((ptree l 0).deps 0).length := by rw [PT.deps_len]; exact hs
  have e : hD l k = ((ptree l 0).deps 0)[k] := by simp [hD, List.getD_eq_getElem?_getD, List.getElem?_eq_getElem hdl]
  constructor
  · have h := dp_of (builtL l) (ptree l 0) 0 (-1) 0 (ptree_at l 0) (Dp.base _ (by omega)) (by rw [builtL_eq, PT.pars_len]; omega) (fun i hi => by rw [builtL_eq, Nat.zero_add]) k hs
    rw [Nat.zero_add] at h
    rw [e]; exact h
  · have := PT.deps_le (ptree l 0) 0 _ (List.getElem_mem hdl)
    rw [ptree_size] at this
    rw [e]; omega
theorem dl_eq (l : List IP) : dl l (hD l) = (heapTree l).spots 0 := by
  rw [heap_zip l 0 0]
  have hdl : ((ptree l 0).deps 0).length = l.length := by rw [PT.deps_len, ptree_size]
  apply List.ext_getElem
  · simp [dl_len, hdl]
  · intro k h1 h2
    rw [dl_len] at h1
    rw [dl_at l _ k h1, List.getElem_zipWith]
    simp [hD, List.getD_eq_getElem?_getD, List.getElem?_eq_getElem (show k < ((ptree l 0).deps 0).length by omega)]

def heapOf (l : List IP) : List IP × Int := if mapRight l = 0 then ((heapTree l).spots 0, 0) else ([], mapRight l)

theorem hcheck_any (l : List IP) (v : Value) (w : World) (hr : RD w ePair v l) : Calls Try.prog 11 #[v] w (Ret (.int .i64 (mapRight l)) w) := by
  have HR := hide hr
  clear hr
  go_enter Try.func11, Try.ntmps11
  go_wp2_with (go_at_call 28; refine (check_any l _ _ HR.out).mono ?_; rintro e w' ⟨rfl, hb⟩)
  go_ret
  exact ⟨rfl, hb⟩
set_option maxHeartbeats 1000000 in
theorem heapOf_any (l : List IP) (v : Value) (w : World) (hr : RD w ePair v l) : Calls Try.prog 8 #[v] w (Ret2 ePair (heapOf l) w) := by
  have HR := hide hr
  clear hr
  by_cases h0 : mapRight l = 0
  · have hlen := mapRight_len l h0
    have hres : Hid (heapOf l = ((heapTree l).spots 0, 0)) := hide (by rw [heapOf, if_pos h0])
    have hb0 : (mapRight l != 0) = false := by simp [h0]
    have H0 := hide h0
    clear h0
    go_enter Try.func8, Try.ntmps8
    go_wp2_with (go_at_call 11; refine (hcheck_any l _ _ HR.out).mono ?_; rintro e w1 ⟨rfl, hb1⟩)
    refine (built_any l _ _ (HR.out.below hb1) (by omega)).mono ?_
    rintro e w2 ⟨g, rfl, hg, ha, hb2⟩
    have hbl : (builtL l).length = l.length := bRun_len l _
    have HA := hide ha
    have HBL := hide hbl
    clear ha hbl
    go_wp2_with fail
    refine (hspots_any l (builtL l) (hD l) _ _ _ ((HR.out.below hb1).below hb2) (HA.out.rd (by rw [HBL.out]; unfold maxLen; omega)) (by omega) HBL.out (fun k hk => hD_ok l (by omega) k hk)).mono ?_
    rintro e w3 ⟨g3, rfl, hg3, ha3, hb3⟩
    have HA3 := hide ha3
    clear ha3
    go_wp2
    go_ret2
    refine ⟨_, by rw [hres.out]; rfl, ?_, (Kp.trans hb1 (Kp.trans hb2 hb3)).bel⟩
    rw [hres.out, ← dl_eq]
    exact HA3.out.rd (by rw [dl_len]; unfold maxLen; omega)
  · have hb0 : (mapRight l != 0) = true := by simp [h0]
    have hres : Hid (heapOf l = ([], mapRight l)) := hide (by rw [heapOf, if_neg h0])
    clear h0
    go_enter Try.func8, Try.ntmps8
    go_wp2_with (go_at_call 11; refine (hcheck_any l _ _ HR.out).mono ?_; rintro e w1 ⟨rfl, hb1⟩)
    go_ret2
    exact ⟨_, by rw [hres.out]; rfl, by rw [hres.out]; exact RD.nil, hb1⟩
end Go.Proofs.Ythbapflabjogkaa
namespace Go.Proofs.Ythbapflabjogkaa
open Go.ChangeShapes Go.WideShapes Go.ChangeAt Go.RowKit
set_option linter.unusedVariables false
set_option linter.unusedSimpArgs false

theorem amax_first (l : List IP) : ∀ m k a, k + m ≤ l.length → a < k → (∀ j, j < a → (l.getD j (0, 0)).2 < (l.getD a (0, 0)).2) → (∀ j, j < k → (l.getD j (0, 0)).2 ≤ (l.getD a (0, 0)).2) → ∀ j, j < amax l m k a → (l.getD j (0, 0)).2 < (l.getD (amax l m k a) (0, 0)).2
  | 0, k, a, _, _, h, _, j, hj => h j hj
  | m + 1, k, a, hk, ha, h, h2, j, hj => by
    rw [amax] at hj ⊢
    by_cases hlt : (l.getD a (0, 0)).2 < (l.getD k (0, 0)).2
    · rw [if_pos hlt] at hj ⊢
      refine amax_first l m (k + 1) k (by omega) (by omega) (fun i hi => by have := h2 i hi; omega) (fun i hi => ?_) j hj
      rcases Nat.lt_or_ge i k with h1 | h1
      · have := h2 i h1; omega
      · obtain rfl : i = k := by omega
        omega
    · rw [if_neg hlt] at hj ⊢
      refine amax_first l m (k + 1) a (by omega) (by omega) h (fun i hi => ?_) j hj
      rcases Nat.lt_or_ge i k with h1 | h1
      · exact h2 i h1
      · obtain rfl : i = k := by omega
        omega
theorem top_first (l : List IP) (h : l ≠ []) (j : Nat) (hj : j < top l) : (l[j]'(Nat.lt_trans hj (top_lt l h))).2 < (l[top l]'(top_lt l h)).2 := by
  have h0 := List.length_pos_iff.2 h
  have ht := top_lt l h
  have h1 : amax l l.length 0 0 = amax l (l.length - 1) 1 0 := by
    obtain ⟨m, hm⟩ : ∃ m, l.length = m + 1 := ⟨l.length - 1, by omega⟩
    rw [hm, amax, if_neg (by omega)]; rfl
  have hz : ∀ j, j < 1 → (l.getD j (0, 0)).2 ≤ (l.getD 0 (0, 0)).2 := fun j hj => by
    have : j = 0 := by omega
    rw [this]; exact Int.le_refl _
  have := amax_first l (l.length - 1) 1 0 (by omega) (by omega) (fun j hj => by omega) hz j (by rw [← h1]; exact hj)
  rw [← h1] at this
  unfold top at ht hj ⊢
  simp only [List.getD_eq_getElem?_getD, List.getElem?_eq_getElem ht, List.getElem?_eq_getElem (Nat.lt_trans hj ht), Option.getD_some] at this
  exact this

theorem ptree_par (l : List IP) (off : Nat) (u0 : Int) (i : Nat) (hi : i < l.length) :
    ∃ u, ((ptree l off).pars u0)[i]? = some u ∧ (u = u0 ∨ ∃ (j : Nat) (hj : j < l.length), u = ((off + j : Nat) : Int) ∧ j ≠ i ∧ (i < j → l[i].2 < l[j].2) ∧ (j < i → l[i].2 ≤ l[j].2)) := by
  by_cases h : l = []
  · subst h; simp at hi
  · have hl := top_lt l h
    rw [ptree_cons l off h, PT.pars_node, ptree_size]
    have e1 : (l.take (top l)).length = top l := by simp; omega
    rw [e1]
    by_cases h1 : i < top l
    · rw [if_pos h1]
      obtain ⟨u, hu, hc⟩ := ptree_par (l.take (top l)) off ((off + top l : Nat) : Int) i (by omega)
      refine ⟨u, hu, .inr ?_⟩
      rcases hc with rfl | ⟨j, hj, rfl, h2, h3, h4⟩
      · exact ⟨top l, hl, rfl, by omega, fun _ => top_first l h i h1, fun h5 => by omega⟩
      · rw [e1] at hj
        refine ⟨j, by omega, rfl, h2, ?_, ?_⟩
        · simpa using h3
        · simpa using h4
    · rw [if_neg h1]
      by_cases h2 : i = top l
      · rw [if_pos h2]
        exact ⟨u0, rfl, .inl rfl⟩
      · rw [if_neg h2]
        have e2 : (l.drop (top l + 1)).length = l.length - (top l + 1) := by simp
        obtain ⟨u, hu, hc⟩ := ptree_par (l.drop (top l + 1)) (off + top l + 1) ((off + top l : Nat) : Int) (i - (top l + 1)) (by omega)
        refine ⟨u, hu, .inr ?_⟩
        rcases hc with rfl | ⟨j, hj, rfl, h3, h4, h5⟩
        · exact ⟨top l, hl, rfl, by omega, fun h5 => by omega, fun _ => top_ge l h i hi⟩
        · rw [e2] at hj
          refine ⟨top l + 1 + j, by omega, by omega, by omega, ?_, ?_⟩
          · intro h6
            have := h4 (by omega)
            simp only [List.getElem_drop] at this
            have e3 : top l + 1 + (i - (top l + 1)) = i := by omega
            simp only [e3] at this
            exact this
          · intro h6
            have := h5 (by omega)
            simp only [List.getElem_drop] at this
            have e3 : top l + 1 + (i - (top l + 1)) = i := by omega
            simp only [e3] at this
            exact this
termination_by l.length
decreasing_by
  · simp; omega
  · simp; omega

def hPar (l : List IP) : List Int := (ptree l 0).pars (-1)
theorem hPar_len (l : List IP) : (hPar l).length = l.length := by rw [hPar, PT.pars_len, ptree_size]
theorem parOf_heap (l : List IP) (h : mapRight l = 0) : parOf ((heapTree l).spots 0) = (hPar l, 0) := by
  rw [heap_zip l 0 0]
  exact parOf_zip l (ptree l 0) h (ptree_at l 0) (ptree_size l 0)
/-- The one above ranks higher, or as high and has the lesser key. -/
theorem hPar_at (l : List IP) (h : mapRight l = 0) (i : Nat) (hi : i < l.length) :
    (hPar l)[i]'(by rw [hPar_len]; exact hi) = -1 ∨ ∃ (j : Nat) (hj : j < l.length), (hPar l)[i]'(by rw [hPar_len]; exact hi) = (j : Int) ∧ j ≠ i ∧ (l[i].2 < l[j].2 ∨ l[i].2 = l[j].2 ∧ l[j].1 < l[i].1) := by
  obtain ⟨u, hu, hc⟩ := ptree_par l 0 (-1) i hi
  have e : (hPar l)[i]'(by rw [hPar_len]; exact hi) = u := by
    have : (hPar l)[i]? = some u := hu
    rw [List.getElem?_eq_getElem (by rw [hPar_len]; exact hi)] at this
    exact Option.some.inj this
  rw [e]
  rcases hc with rfl | ⟨j, hj, rfl, h2, h3, h4⟩
  · exact .inl rfl
  · refine .inr ⟨j, hj, by rw [Nat.zero_add], h2, ?_⟩
    rcases Nat.lt_or_ge i j with h5 | h5
    · exact .inl (h3 h5)
    · have h6 := h4 (by omega)
      rcases Int.lt_or_eq_of_le h6 with h7 | h7
      · exact .inl h7
      · exact .inr ⟨h7, mapRight_rise l h j i hj hi (by omega)⟩
end Go.Proofs.Ythbapflabjogkaa
namespace Go.Proofs.Ythbapflabjogkaa
open Go.ChangeShapes Go.WideShapes Go.ChangeAt Go.RowKit
set_option linter.unusedVariables false
set_option linter.unusedSimpArgs false

section
variable {α : Type} (key : α → Int)
/-- Those of one key stand in one order. -/
def StabEq (s t : List α) : Prop := ∀ k, t.filter (fun x => key x == k) = s.filter (fun x => key x == k)
def SortedK (s : List α) : Prop := s.Pairwise fun a b => key a ≤ key b
end
section
variable {α : Type} {key : α → Int} {s t u v p q : List α}
theorem StabEq.refl (s : List α) : StabEq key s s := fun _ => rfl
theorem StabEq.trans (h : StabEq key s t) (k : StabEq key t u) : StabEq key s u := fun x => (k x).trans (h x)
theorem StabEq.append (h : StabEq key s t) (k : StabEq key u v) : StabEq key (s ++ u) (t ++ v) := fun x => by
  rw [List.filter_append, List.filter_append, h x, k x]
theorem StabEq.mid (h : StabEq key s t) (p q : List α) : StabEq key (p ++ s ++ q) (p ++ t ++ q) := ((StabEq.refl p).append h).append (StabEq.refl q)
/-- Two blocks change places, the second one all lower. -/
theorem StabEq.swap (h : ∀ a ∈ u, ∀ b ∈ v, key b < key a) : StabEq key (u ++ v) (v ++ u) := fun k => by
  rw [List.filter_append, List.filter_append]
  by_cases e : u.filter (fun x => key x == k) = []
  · rw [e]; simp
  · have e2 : v.filter (fun x => key x == k) = [] := by
      rw [List.filter_eq_nil_iff]
      intro b hb hc
      obtain ⟨a, ha⟩ := List.exists_mem_of_ne_nil _ e
      rw [List.mem_filter] at ha
      have h1 : key b = k := by simpa using hc
      have h2 : key a = k := by simpa using ha.2
      have := h a ha.1 b hb
      omega
    rw [e2]; simp
theorem StabEq.mem (h : StabEq key s t) (x : α) : x ∈ t ↔ x ∈ s := by
  have h1 : ∀ l : List α, x ∈ l ↔ x ∈ l.filter (fun y => key y == key x) := fun l => by
    rw [List.mem_filter]; simp
  rw [h1 t, h1 s, h (key x)]
theorem StabEq.cons_inv {a b : α} (h : StabEq key (a :: s) (b :: t)) (e : key a = key b) : a = b ∧ StabEq key s t := by
  have h0 := h (key a)
  rw [List.filter_cons_of_pos (by rw [beq_iff_eq]; exact e.symm), List.filter_cons_of_pos (by simp)] at h0
  injection h0 with h1 h2
  refine ⟨h1.symm, fun k => ?_⟩
  have hk := h k
  subst h1
  by_cases e2 : key b = k
  · rw [List.filter_cons_of_pos (by simp [e2]), List.filter_cons_of_pos (by simp [e2])] at hk
    injection hk
  · rw [List.filter_cons_of_neg (by simp [e2]), List.filter_cons_of_neg (by simp [e2])] at hk
    exact hk
/-- Just one list is sorted and keeps those of one key in order. -/
theorem stab_unique : ∀ {s t : List α}, SortedK key s → SortedK key t → StabEq key s t → s = t
  | [], [], _, _, _ => rfl
  | [], b :: t, _, _, h => by
    have := (h.mem b).1 (by simp)
    cases this
  | a :: s, [], _, _, h => by
    have := (h.mem a).2 (by simp)
    cases this
  | a :: s, b :: t, hs, ht, h => by
    obtain ⟨h1, h2⟩ := List.pairwise_cons.1 hs
    obtain ⟨g1, g2⟩ := List.pairwise_cons.1 ht
    have e : key a = key b := by
      have m1 := (h.mem b).1 (by simp)
      have m2 := (h.mem a).2 (by simp)
      have l1 : key a ≤ key b := by
        rcases List.mem_cons.1 m1 with rfl | m
        · exact Int.le_refl _
        · exact h1 b m
      have l2 : key b ≤ key a := by
        rcases List.mem_cons.1 m2 with rfl | m
        · exact Int.le_refl _
        · exact g1 a m
      omega
    obtain ⟨rfl, h3⟩ := h.cons_inv e
    rw [stab_unique h2 g2 h3]
theorem SortedK.append (hu : SortedK key u) (hv : SortedK key v) (h : ∀ a ∈ u, ∀ b ∈ v, key a ≤ key b) : SortedK key (u ++ v) := List.pairwise_append.2 ⟨hu, hv, h⟩
/-- What SymMerge makes of two sorted parts, each cut in two. -/
theorem merge_law {X1 X2 Y1 Y2 A B : List α} (hX : SortedK key (X1 ++ X2)) (hY : SortedK key (Y1 ++ Y2)) (h1 : ∀ a ∈ X2, ∀ b ∈ Y1, key b < key a) (h2 : ∀ a ∈ X1, ∀ b ∈ Y2, key a ≤ key b)
    (hA : SortedK key A) (hAs : StabEq key (X1 ++ Y1) A) (hB : SortedK key B) (hBs : StabEq key (X2 ++ Y2) B) : SortedK key (A ++ B) ∧ StabEq key (X1 ++ X2 ++ (Y1 ++ Y2)) (A ++ B) := by
  obtain ⟨x1, x2, x3⟩ := List.pairwise_append.1 hX
  obtain ⟨y1, y2, y3⟩ := List.pairwise_append.1 hY
  refine ⟨hA.append hB fun a ha b hb => ?_, ?_⟩
  · rcases List.mem_append.1 ((hAs.mem a).1 ha) with ha | ha
    · rcases List.mem_append.1 ((hBs.mem b).1 hb) with hb | hb
      · exact x3 a ha b hb
      · exact h2 a ha b hb
    · rcases List.mem_append.1 ((hBs.mem b).1 hb) with hb | hb
      · have := h1 b hb a ha; omega
      · exact y3 a ha b hb
  · have e1 : X1 ++ X2 ++ (Y1 ++ Y2) = X1 ++ (X2 ++ Y1) ++ Y2 := by simp
    have e2 : X1 ++ Y1 ++ (X2 ++ Y2) = X1 ++ (Y1 ++ X2) ++ Y2 := by simp
    rw [e1]
    refine ((StabEq.swap h1).mid X1 Y2).trans ?_
    rw [← e2]
    exact hAs.append hBs
end
end Go.Proofs.Ythbapflabjogkaa
