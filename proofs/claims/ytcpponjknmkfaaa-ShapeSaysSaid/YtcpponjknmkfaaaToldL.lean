/-
  A tree told node first, node last, row by row: what the shape's order tells. No program. Conditions: none.
-/
import Derived.Test.YtcpponjknmkfaaaToldK
import Derived.Test.YtcpponjknmkfaaaOrder3
import Derived.Test.YtcpponjknmkfaaaSpotsR
namespace Go.Proofs.Ytcpponjknmkfaaa
open Go.ChangeShapes Go.WideShapes Go.ChangeAt Go.RowKit
set_option linter.unusedVariables false
set_option linter.unusedSimpArgs false

/-- What stands below a tree's top, none left out. -/
def T.kids : T → List T
  | .nil => []
  | .node _ l r => (match l with | .nil => [] | .node a b c => [.node a b c]) ++ (match r with | .nil => [] | .node a b c => [.node a b c])
def T.top : T → Int
  | .nil => 0
  | .node k _ _ => k
def T.isNode : T → Prop
  | .nil => False
  | .node _ _ _ => True
theorem T.kids_node (t : T) : ∀ u ∈ t.kids, u.isNode := by
  cases t with
  | nil => intro u h; cases h
  | node k l r =>
    intro u h
    simp only [kids, List.mem_append] at h
    rcases h with h | h
    · cases l with
      | nil => cases h
      | node a b c => simp at h; subst h; trivial
    · cases r with
      | nil => cases h
      | node a b c => simp at h; subst h; trivial
def sizesT (ts : List T) : Nat := (ts.map T.size).sum
theorem T.kids_size (t : T) (h : t.isNode) : sizesT t.kids + 1 = t.size := by
  cases t with
  | nil => cases h
  | node k l r => cases l <;> cases r <;> simp [kids, sizesT, size] <;> omega
theorem kids_sizes : ∀ ts : List T, (∀ t ∈ ts, t.isNode) → sizesT (ts.flatMap T.kids) + ts.length = sizesT ts
  | [], _ => rfl
  | t :: ts, h => by
    have h1 := T.kids_size t (h t (by simp))
    have h2 := kids_sizes ts (fun u hu => h u (by simp [hu]))
    simp only [sizesT, List.flatMap_cons, List.map_append, List.sum_append, List.map_cons, List.sum_cons, List.length_cons] at *
    omega
/-- The rows, one below the other; n is enough. -/
def rowsT : Nat → List T → List Int
  | 0, _ => []
  | n + 1, ts => if ts = [] then [] else ts.map T.top ++ rowsT n (ts.flatMap T.kids)
def told3 (t : T) : List Int := match t with | .nil => [] | .node k l r => rowsT (t.size + 1) [.node k l r]
/-- The spots of trees side by side. -/
def spotsT (ts : List T) (d : Int) : List IP := ts.flatMap fun t => t.spots d
theorem T.spots_ge : ∀ (t : T) (d : Int), ∀ p ∈ t.spots d, d ≤ p.2
  | .nil, d, p, h => by cases h
  | .node k l r, d, p, h => by
    simp only [spots, List.mem_append, List.mem_singleton] at h
    rcases h with (h | rfl) | h
    · have := spots_ge l (d + 1) p h; omega
    · exact Int.le_refl _
    · have := spots_ge r (d + 1) p h; omega
theorem T.kids_spots (k : Int) (l r : T) (d : Int) : spotsT (T.kids (.node k l r)) d = l.spots d ++ r.spots d := by
  cases l <;> cases r <;> simp [T.kids, spotsT, T.spots]
/-- The tops come first, then all that is below them. -/
theorem row_stab : ∀ (ts : List T) (d : Int), (∀ t ∈ ts, t.isNode) → StabEq Prod.snd (spotsT ts d) (ts.map (fun t => (t.top, d)) ++ spotsT (ts.flatMap T.kids) (d + 1))
  | [], d, _ => StabEq.refl _
  | t :: ts, d, h => by
    cases t with
    | nil => exact absurd (h .nil (by simp)) id
    | node k l r =>
      have ih := row_stab ts d (fun u hu => h u (by simp [hu]))
      have e1 : spotsT (.node k l r :: ts) d = l.spots (d + 1) ++ [(k, d)] ++ r.spots (d + 1) ++ spotsT ts d := by simp [spotsT, T.spots]
      have e2 : spotsT ((T.node k l r :: ts).flatMap T.kids) (d + 1) = (l.spots (d + 1) ++ r.spots (d + 1)) ++ spotsT (ts.flatMap T.kids) (d + 1) := by
        rw [← T.kids_spots k l r (d + 1)]
        simp [spotsT, List.flatMap_append]
      rw [e1, e2, List.map_cons, show (T.node k l r).top = k from rfl]
      have s1 : StabEq Prod.snd (l.spots (d + 1) ++ [(k, d)] ++ r.spots (d + 1)) ([(k, d)] ++ (l.spots (d + 1) ++ r.spots (d + 1))) := by
        have := (StabEq.swap (key := Prod.snd) (u := l.spots (d + 1)) (v := [((k, d) : IP)]) (fun a ha b hb => by
          rw [List.mem_singleton] at hb; subst hb
          have := T.spots_ge l (d + 1) a ha
          simp only; omega)).append (StabEq.refl (r.spots (d + 1)))
        simpa only [List.append_assoc] using this
      have s2 := s1.append ih
      refine s2.trans ?_
      have s3 := (StabEq.swap (key := Prod.snd) (u := l.spots (d + 1) ++ r.spots (d + 1)) (v := ts.map (fun t => ((t.top, d) : IP))) (fun a ha b hb => by
        obtain ⟨t, _, rfl⟩ := List.mem_map.1 hb
        rcases List.mem_append.1 ha with ha | ha
        · have := T.spots_ge l (d + 1) a ha; simp only; omega
        · have := T.spots_ge r (d + 1) a ha; simp only; omega)).mid [(k, d)] (spotsT (ts.flatMap T.kids) (d + 1))
      simpa only [List.append_assoc, List.singleton_append, List.cons_append, List.nil_append] using s3
theorem rows_ord : ∀ (n : Nat) (ts : List T) (d : Int), (∀ t ∈ ts, t.isNode) → sizesT ts < n → ∃ L : List IP, SortedK Prod.snd L ∧ StabEq Prod.snd (spotsT ts d) L ∧ L.map Prod.fst = rowsT n ts ∧ ∀ p ∈ L, d ≤ p.2
  | 0, _, _, _, h => by omega
  | n + 1, ts, d, ht, hn => by
    by_cases h0 : ts = []
    · subst h0
      exact ⟨[], List.Pairwise.nil, StabEq.refl _, by simp [rowsT], fun p hp => by cases hp⟩
    · have hs := kids_sizes ts ht
      have hl := List.length_pos_iff.2 h0
      obtain ⟨L, h1, h2, h3, h4⟩ := rows_ord n (ts.flatMap T.kids) (d + 1) (fun u hu => by
        obtain ⟨t, _, hu⟩ := List.mem_flatMap.1 hu
        exact T.kids_node t u hu) (by omega)
      refine ⟨ts.map (fun t => (t.top, d)) ++ L, ?_, ?_, ?_, ?_⟩
      · refine SortedK.append ?_ h1 (fun a ha b hb => ?_)
        · rw [SortedK, List.pairwise_map]
          exact List.pairwise_of_forall (fun _ _ => Int.le_refl _)
        · obtain ⟨t, _, rfl⟩ := List.mem_map.1 ha
          have := h4 b hb
          simp only; omega
      · exact (row_stab ts d ht).trans ((StabEq.refl _).append h2)
      · rw [rowsT, if_neg h0, List.map_append, h3, List.map_map]; rfl
      · intro p hp
        rcases List.mem_append.1 hp with hp | hp
        · obtain ⟨t, _, rfl⟩ := List.mem_map.1 hp; exact Int.le_refl _
        · have := h4 p hp; omega
/-- Row by row: by depths. -/
theorem told3_ord (t : T) : told3 t = ord3 (t.spots 0) := by
  cases t with
  | nil => simp [told3, ord3, T.spots]
  | node k l r =>
    obtain ⟨L, h1, h2, h3, _⟩ := rows_ord ((T.node k l r).size + 1) [.node k l r] 0 (fun t h => by simp at h; subst h; trivial) (by simp [sizesT])
    have e : spotsT [.node k l r] 0 = (T.node k l r).spots 0 := by simp [spotsT]
    rw [e] at h2
    rw [← ord3_of h1 h2, h3]; rfl
theorem walk_told (l : List IP) (lo hi : Nat) (d : Int) (t : PT) (h : ptR l lo hi d = some t) : walkF l false lo hi = told1 (toT l t) ∧ walkF l true lo hi = told2 (toT l t) := by
  by_cases hlt : lo < hi
  · have hin := topS_in l lo hi hlt
    by_cases hc : (topS l lo hi).2 = true ∧ gv l (topS l lo hi).1 = d
    · obtain ⟨at_, hat⟩ : ∃ at_, at_ = (topS l lo hi).1 := ⟨_, rfl⟩
      have ht : topS l lo hi = (at_, true) := by rw [hat]; exact Prod.ext rfl hc.1
      rw [ptR_node l lo hi d hlt at_ ht (by rw [hat]; exact hc.2)] at h
      rw [← hat] at hin
      cases ha : ptR l lo at_ (d + 1) with
      | none => rw [ha] at h; simp at h
      | some a =>
        cases hb : ptR l (at_ + 1) hi (d + 1) with
        | none => rw [ha, hb] at h; simp at h
        | some b =>
          rw [ha, hb] at h
          injection h with h
          subst h
          have i1 := walk_told l lo at_ (d + 1) a ha
          have i2 := walk_told l (at_ + 1) hi (d + 1) b hb
          rw [walkF_first l lo hi hlt, walkF_last l lo hi hlt, ht]
          simp only
          rw [i1.1, i1.2, i2.1, i2.2]
          exact ⟨rfl, rfl⟩
    · rw [ptR_none l lo hi d hlt hc] at h; cases h
  · rw [ptR_nil l lo hi d hlt] at h
    injection h with h
    subst h
    rw [walkF_nil l false lo hi hlt, walkF_nil l true lo hi hlt]
    exact ⟨rfl, rfl⟩
termination_by hi - lo
/-- What Order tells of a right list, by the document's words. -/
theorem order_told (l : List IP) (h : (parOf l).2 = 0) (way : Int) : orderOf l way = if way = 1 then (told1 (treeOf l 0).1, 0) else if way = 2 then (told2 (treeOf l 0).1, 0) else if way = 3 then (told3 (treeOf l 0).1, 0) else ([], 1) := by
  obtain ⟨_, _, t, ht, _⟩ := parOf_len l h
  have h1 := walk_told l 0 l.length 0 t ht
  have h2 := (treeOf_whole l).2 t ht
  have h3 := treeOf_spots l h
  rw [orderOf, if_neg (by simp [h]), told3_ord, h3.1, h2, h1.1, h1.2]
end Go.Proofs.Ytcpponjknmkfaaa
