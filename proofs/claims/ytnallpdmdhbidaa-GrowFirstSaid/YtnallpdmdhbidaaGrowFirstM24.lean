/-
  Plain laws: hedgref.TreeOf makes of right spots the tree that shape.Parents reads, and these spots again; hedgref.SpotsRight: what it answers. Conditions: the list reads as l (RD).
  A tree told node first, node last, row by row: what the shape's order tells. No program. Conditions: none.
  Rows that lie apart: what an append to one leaves of another. Conditions: none.
  The lesser and the other keys of a list, and a loop that parts them. No program. Conditions: none.
-/
import Derived.Test.YtnallpdmdhbidaaGrowFirstM23
import Derived.Test.YtnallpdmdhbidaaGrowFirstM6
import Derived.Test.YtnallpdmdhbidaaGrowFirstM5
import Derived.Test.YtnallpdmdhbidaaGrowFirstM3

namespace Go.Proofs.Ytnallpdmdhbidaa
open Go.ChangeShapes Go.WideShapes Go.ChangeAt Go.RowKit
set_option linter.unusedVariables false
set_option linter.unusedSimpArgs false

def toT (l : List IP) : PT → T
  | .nil => .nil
  | .node p a b => .node (gk l p) (toT l a) (toT l b)
theorem seg_len (l : List IP) (lo hi : Nat) (h1 : lo ≤ hi) (h2 : hi ≤ l.length) : ((l.take hi).drop lo).length = hi - lo := by simp; omega
theorem seg_gv (l : List IP) (lo hi j : Nat) (h2 : hi ≤ l.length) (hj : j < hi - lo) : gv ((l.take hi).drop lo) j = gv l (lo + j) := by
  rw [gv_eq _ j (by rw [seg_len l lo hi (by omega) h2]; exact hj), gv_eq l (lo + j) (by omega)]; simp
theorem seg_gk (l : List IP) (lo hi j : Nat) (h2 : hi ≤ l.length) (hj : j < hi - lo) : gk ((l.take hi).drop lo) j = gk l (lo + j) := by
  rw [gk_eq _ j (by rw [seg_len l lo hi (by omega) h2]; exact hj), gk_eq l (lo + j) (by omega)]; simp
theorem seg_take (l : List IP) (lo hi m : Nat) (h : lo ≤ m) (hm : m ≤ hi) : ((l.take hi).drop lo).take (m - lo) = (l.take m).drop lo := by
  rw [List.take_drop, show lo + (m - lo) = m from by omega, List.take_take, Nat.min_eq_left hm]
theorem seg_drop (l : List IP) (lo hi m : Nat) (h : lo ≤ m) : ((l.take hi).drop lo).drop (m - lo + 1) = (l.take hi).drop (m + 1) := by
  rw [List.drop_drop]; congr 1; omega
theorem treeOf_seg (l : List IP) (lo hi : Nat) (d : Int) (h1 : lo ≤ hi) (h2 : hi ≤ l.length) :
    (treeOf ((l.take hi).drop lo) d).2 = (ptR l lo hi d).isSome ∧ ∀ t, ptR l lo hi d = some t → (treeOf ((l.take hi).drop lo) d).1 = toT l t := by
  by_cases hlt : lo < hi
  · have hsl := seg_len l lo hi h1 h2
    have htin := topS_in l lo hi hlt
    have hmin := topS_min l lo hi hlt
    by_cases hok : (topS l lo hi).2 = true ∧ gv l (topS l lo hi).1 = d
    · obtain ⟨m, hm⟩ : ∃ m, m = (topS l lo hi).1 := ⟨_, rfl⟩
      have htop : topS l lo hi = (m, true) := by rw [hm, ← hok.1]
      have hgd : gv l m = d := by rw [hm]; exact hok.2
      have hst := hmin.2 hok.1
      rw [← hm] at htin hst
      have hnode := treeOf_node ((l.take hi).drop lo) d (m - lo) (by omega) (by rw [seg_gv l lo hi _ h2 (by omega), show lo + (m - lo) = m from by omega, hgd]) (fun j j1 j2 => by
        rw [seg_gv l lo hi j h2 (by omega)]
        have := hst (lo + j) (by omega) (by omega) (by omega)
        omega)
      rw [seg_take l lo hi m (by omega) (by omega), seg_drop l lo hi m (by omega), seg_gk l lo hi _ h2 (by omega), show lo + (m - lo) = m from by omega] at hnode
      obtain ⟨a1, a2⟩ := treeOf_seg l lo m (d + 1) htin.1 (by omega)
      obtain ⟨b1, b2⟩ := treeOf_seg l (m + 1) hi (d + 1) (by omega) h2
      rw [hnode, ptR_node l lo hi d hlt m htop hgd]
      simp only
      rw [a1, b1]
      cases ha : ptR l lo m (d + 1) with
      | none => simp
      | some ta =>
        cases hb : ptR l (m + 1) hi (d + 1) with
        | none => simp
        | some tb =>
          refine ⟨rfl, fun t ht => ?_⟩
          simp only [Option.some.injEq] at ht
          subst ht
          rw [a2 ta ha, b2 tb hb]; rfl
    · rw [treeOf_none ((l.take hi).drop lo) d (by intro e; rw [e] at hsl; simp at hsl; omega) (by
        rintro ⟨x, x1, x2, x3⟩
        rw [hsl] at x1
        rw [seg_gv l lo hi x h2 x1] at x2
        have ht := topS_find l lo hi (lo + x) (by omega) (by omega) (fun j j1 j2 j3 => by
          have := x3 (j - lo) (by omega) (by omega)
          rw [seg_gv l lo hi _ h2 (by omega), show lo + (j - lo) = j from by omega] at this
          omega)
        exact hok ⟨by rw [ht], by rw [ht]; exact x2⟩), ptR_none l lo hi d hlt hok]
      exact ⟨rfl, fun t ht => by cases ht⟩
  · obtain rfl : lo = hi := by omega
    have : (l.take lo).drop lo = [] := by simp
    rw [this, treeOf_nil, ptR_nil l lo lo d hlt]
    exact ⟨rfl, fun t ht => by injection ht with ht; subst ht; rfl⟩
termination_by hi - lo
theorem treeOf_whole (l : List IP) : (treeOf l 0).2 = (ptR l 0 l.length 0).isSome ∧ ∀ t, ptR l 0 l.length 0 = some t → (treeOf l 0).1 = toT l t := by
  have := treeOf_seg l 0 l.length 0 (by omega) (Nat.le_refl _)
  simpa using this
theorem toT_spots (l : List IP) : ∀ (t : PT) (lo hi : Nat) (d : Int), t.At lo → hi = lo + t.size → hi ≤ l.length → (∀ j, j < t.size → some (gv l (lo + j)) = (t.deps d)[j]?) → (toT l t).spots d = (l.take hi).drop lo
  | .nil, lo, hi, d, _, h, _, _ => by simp [PT.size] at h; subst h; simp [toT, T.spots]
  | .node p a b, lo, hi, d, ⟨hp, ha, hb⟩, h, h3, hg => by
    simp only [PT.size] at h hg
    have hgp : gv l p = d := by
      have := hg a.size (by omega)
      rw [PT.deps_node, if_neg (by omega), if_pos rfl, ← hp] at this
      exact Option.some.inj this
    have ia := toT_spots l a lo p (d + 1) ha hp (by omega) (fun j hj => by
      have := hg j (by omega)
      rwa [PT.deps_node, if_pos hj] at this)
    have ib := toT_spots l b (p + 1) hi (d + 1) hb (by omega) h3 (fun j hj => by
      have := hg (a.size + 1 + j) (by omega)
      rw [PT.deps_node, if_neg (by omega), if_neg (by omega), show a.size + 1 + j - (a.size + 1) = j from by omega, show lo + (a.size + 1 + j) = p + 1 + j from by omega] at this
      exact this)
    rw [toT, T.spots, ia, ib, seg_split l lo p hi (by omega) (by omega) h3]
    have : ((gk l p, d) : IP) = l[p]'(by omega) := Prod.ext (gk_eq l p (by omega)) (by rw [← hgp]; exact gv_eq l p (by omega))
    rw [this]
theorem treeOf_spots (l : List IP) (h : (parOf l).2 = 0) : (treeOf l 0).1.spots 0 = l ∧ (treeOf l 0).2 = true := by
  obtain ⟨h1, h2, t, ht, _⟩ := parOf_len l h
  obtain ⟨h3, h4, h5⟩ := ptR_to l 0 l.length 0 t (by omega) ht
  obtain ⟨w1, w2⟩ := treeOf_whole l
  refine ⟨?_, by rw [w1, ht]; rfl⟩
  rw [w2 t ht, toT_spots l t 0 l.length 0 h3 (by omega) (Nat.le_refl _) h5]
  simp

end Go.Proofs.Ytnallpdmdhbidaa
namespace Go.Proofs.Ytnallpdmdhbidaa
open Go.ChangeShapes Go.WideShapes Go.ChangeAt Go.RowKit
set_option linter.unusedVariables false
set_option linter.unusedSimpArgs false

/-- What stands below a tree's top, none left out. -/
def T.kids : T → List T
  | .nil => []
  | .node _ l r => (match l with | .nil => [] | .node a b c => [.node a b c]) ++ (match r with | .nil => [] | .node a b c => [.node a b c])
def T.top : T → Int
  | .nil => 0
  | .node k _ _ => k
def T.isNode : T → Prop
  | .nil => False
  | .node _ _ _ => True
theorem T.kids_node (t : T) : ∀ u ∈ t.kids, u.isNode := by
  cases t with
  | nil => intro u h; cases h
  | node k l r =>
    intro u h
    simp only [kids, List.mem_append] at h
    rcases h with h | h
    · cases l with
      | nil => cases h
      | node a b c => simp at h; subst h; trivial
    · cases r with
      | nil => cases h
      | node a b c => simp at h; subst h; trivial
def sizesT (ts : List T) : Nat := (ts.map T.size).sum
theorem T.kids_size (t : T) (h : t.isNode) : sizesT t.kids + 1 = t.size := by
  cases t with
  | nil => cases h
  | node k l r => cases l <;> cases r <;> simp [kids, sizesT, size] <;> omega
theorem kids_sizes : ∀ ts : List T, (∀ t ∈ ts, t.isNode) → sizesT (ts.flatMap T.kids) + ts.length = sizesT ts
  | [], _ => rfl
  | t :: ts, h => by
    have h1 := T.kids_size t (h t (by simp))
    have h2 := kids_sizes ts (fun u hu => h u (by simp [hu]))
    simp only [sizesT, List.flatMap_cons, List.map_append, List.sum_append, List.map_cons, List.sum_cons, List.length_cons] at *
    omega
/-- The rows, one below the other; n is enough. -/
def rowsT : Nat → List T → List Int
  | 0, _ => []
  | n + 1, ts => if ts = [] then [] else ts.map T.top ++ rowsT n (ts.flatMap T.kids)
def told3 (t : T) : List Int := match t with | .nil => [] | .node k l r => rowsT (t.size + 1) [.node k l r]
/-- The spots of trees side by side. -/
def spotsT (ts : List T) (d : Int) : List IP := ts.flatMap fun t => t.spots d
theorem T.spots_ge : ∀ (t : T) (d : Int), ∀ p ∈ t.spots d, d ≤ p.2
  | .nil, d, p, h => by cases h
  | .node k l r, d, p, h => by
    simp only [spots, List.mem_append, List.mem_singleton] at h
    rcases h with (h | rfl) | h
    · have := spots_ge l (d + 1) p h; omega
    · exact Int.le_refl _
    · have := spots_ge r (d + 1) p h; omega
theorem T.kids_spots (k : Int) (l r : T) (d : Int) : spotsT (T.kids (.node k l r)) d = l.spots d ++ r.spots d := by
  cases l <;> cases r <;> simp [T.kids, spotsT, T.spots]
/-- The tops come first, then all that is below them. -/
theorem row_stab : ∀ (ts : List T) (d : Int), (∀ t ∈ ts, t.isNode) → StabEq Prod.snd (spotsT ts d) (ts.map (fun t => (t.top, d)) ++ spotsT (ts.flatMap T.kids) (d + 1))
  | [], d, _ => StabEq.refl _
  | t :: ts, d, h => by
    cases t with
    | nil => exact absurd (h .nil (by simp)) id
    | node k l r =>
      have ih := row_stab ts d (fun u hu => h u (by simp [hu]))
      have e1 : spotsT (.node k l r :: ts) d = l.spots (d + 1) ++ [(k, d)] ++ r.spots (d + 1) ++ spotsT ts d := by simp [spotsT, T.spots]
      have e2 : spotsT ((T.node k l r :: ts).flatMap T.kids) (d + 1) = (l.spots (d + 1) ++ r.spots (d + 1)) ++ spotsT (ts.flatMap T.kids) (d + 1) := by
        rw [← T.kids_spots k l r (d + 1)]
        simp [spotsT, List.flatMap_append]
      rw [e1, e2, List.map_cons, show (T.node k l r).top = k from rfl]
      have s1 : StabEq Prod.snd (l.spots (d + 1) ++ [(k, d)] ++ r.spots (d + 1)) ([(k, d)] ++ (l.spots (d + 1) ++ r.spots (d + 1))) := by
        have := (StabEq.swap (key := Prod.snd) (u := l.spots (d + 1)) (v := [((k, d) : IP)]) (fun a ha b hb => by
          rw [List.mem_singleton] at hb; subst hb
          have := T.spots_ge l (d + 1) a ha
          simp only; omega)).append (StabEq.refl (r.spots (d + 1)))
        simpa only [List.append_assoc] using this
      have s2 := s1.append ih
      refine s2.trans ?_
      have s3 := (StabEq.swap (key := Prod.snd) (u := l.spots (d + 1) ++ r.spots (d + 1)) (v := ts.map (fun t => ((t.top, d) : IP))) (fun a ha b hb => by
        obtain ⟨t, _, rfl⟩ := List.mem_map.1 hb
        rcases List.mem_append.1 ha with ha | ha
        · have := T.spots_ge l (d + 1) a ha; simp only; omega
        · have := T.spots_ge r (d + 1) a ha; simp only; omega)).mid [(k, d)] (spotsT (ts.flatMap T.kids) (d + 1))
      simpa only [List.append_assoc, List.singleton_append, List.cons_append, List.nil_append] using s3
theorem rows_ord : ∀ (n : Nat) (ts : List T) (d : Int), (∀ t ∈ ts, t.isNode) → sizesT ts < n → ∃ L : List IP, SortedK Prod.snd L ∧ StabEq Prod.snd (spotsT ts d) L ∧ L.map Prod.fst = rowsT n ts ∧ ∀ p ∈ L, d ≤ p.2
  | 0, _, _, _, h => by omega
  | n + 1, ts, d, ht, hn => by
    by_cases h0 : ts = []
    · subst h0
      exact ⟨[], List.Pairwise.nil, StabEq.refl _, by simp [rowsT], fun p hp => by cases hp⟩
    · have hs := kids_sizes ts ht
      have hl := List.length_pos_iff.2 h0
      obtain ⟨L, h1, h2, h3, h4⟩ := rows_ord n (ts.flatMap T.kids) (d + 1) (fun u hu => by
        obtain ⟨t, _, hu⟩ := List.mem_flatMap.1 hu
        exact T.kids_node t u hu) (by omega)
      refine ⟨ts.map (fun t => (t.top, d)) ++ L, ?_, ?_, ?_, ?_⟩
      · refine SortedK.append ?_ h1 (fun a ha b hb => ?_)
        · rw [SortedK, List.pairwise_map]
          exact List.pairwise_of_forall (fun _ _ => Int.le_refl _)
        · obtain ⟨t, _, rfl⟩ := List.mem_map.1 ha
          have := h4 b hb
          simp only; omega
      · exact (row_stab ts d ht).trans ((StabEq.refl _).append h2)
      · rw [rowsT, if_neg h0, List.map_append, h3, List.map_map]; rfl
      · intro p hp
        rcases List.mem_append.1 hp with hp | hp
        · obtain ⟨t, _, rfl⟩ := List.mem_map.1 hp; exact Int.le_refl _
        · have := h4 p hp; omega
/-- Row by row: by depths. -/
theorem told3_ord (t : T) : told3 t = ord3 (t.spots 0) := by
  cases t with
  | nil => simp [told3, ord3, T.spots]
  | node k l r =>
    obtain ⟨L, h1, h2, h3, _⟩ := rows_ord ((T.node k l r).size + 1) [.node k l r] 0 (fun t h => by simp at h; subst h; trivial) (by simp [sizesT])
    have e : spotsT [.node k l r] 0 = (T.node k l r).spots 0 := by simp [spotsT]
    rw [e] at h2
    rw [← ord3_of h1 h2, h3]; rfl
theorem walk_told (l : List IP) (lo hi : Nat) (d : Int) (t : PT) (h : ptR l lo hi d = some t) : walkF l false lo hi = told1 (toT l t) ∧ walkF l true lo hi = told2 (toT l t) := by
  by_cases hlt : lo < hi
  · have hin := topS_in l lo hi hlt
    by_cases hc : (topS l lo hi).2 = true ∧ gv l (topS l lo hi).1 = d
    · obtain ⟨at_, hat⟩ : ∃ at_, at_ = (topS l lo hi).1 := ⟨_, rfl⟩
      have ht : topS l lo hi = (at_, true) := by rw [hat]; exact Prod.ext rfl hc.1
      rw [ptR_node l lo hi d hlt at_ ht (by rw [hat]; exact hc.2)] at h
      rw [← hat] at hin
      cases ha : ptR l lo at_ (d + 1) with
      | none => rw [ha] at h; simp at h
      | some a =>
        cases hb : ptR l (at_ + 1) hi (d + 1) with
        | none => rw [ha, hb] at h; simp at h
        | some b =>
          rw [ha, hb] at h
          injection h with h
          subst h
          have i1 := walk_told l lo at_ (d + 1) a ha
          have i2 := walk_told l (at_ + 1) hi (d + 1) b hb
          rw [walkF_first l lo hi hlt, walkF_last l lo hi hlt, ht]
          simp only
          rw [i1.1, i1.2, i2.1, i2.2]
          exact ⟨rfl, rfl⟩
    · rw [ptR_none l lo hi d hlt hc] at h; cases h
  · rw [ptR_nil l lo hi d hlt] at h
    injection h with h
    subst h
    rw [walkF_nil l false lo hi hlt, walkF_nil l true lo hi hlt]
    exact ⟨rfl, rfl⟩
termination_by hi - lo
/-- What Order tells of a right list, by the document's words. -/
theorem order_told (l : List IP) (h : (parOf l).2 = 0) (way : Int) : orderOf l way = if way = 1 then (told1 (treeOf l 0).1, 0) else if way = 2 then (told2 (treeOf l 0).1, 0) else if way = 3 then (told3 (treeOf l 0).1, 0) else ([], 1) := by
  obtain ⟨_, _, t, ht, _⟩ := parOf_len l h
  have h1 := walk_told l 0 l.length 0 t ht
  have h2 := (treeOf_whole l).2 t ht
  have h3 := treeOf_spots l h
  rw [orderOf, if_neg (by simp [h]), told3_ord, h3.1, h2, h1.1, h1.2]
end Go.Proofs.Ytnallpdmdhbidaa
namespace Go.Proofs.Ytnallpdmdhbidaa
open Go.ChangeShapes Go.WideShapes Go.ChangeAt Go.RowKit
set_option linter.unusedVariables false
set_option linter.unusedSimpArgs false

def Ap (n : Nat) (u v : Value) : Prop := 0 < n → u.ownBlock = none ∨ u.ownBlock ≠ v.ownBlock
theorem RD.app {α : Type} {E : Enc α} {w w' : World} {v u : Value} {l : List α} (h : RD w E v l) (hg : w.grownBy w' u.ownBlock) (ha : Ap l.length v u) : RD w' E v l := by
  cases l with
  | nil =>
    obtain ⟨A, c, rfl, h1, h2, hn, h3⟩ := h
    exact ⟨A, c, rfl, h1, h2, hn, fun h => by simp at h⟩
  | cons a t =>
    have h4 := ha (by simp)
    obtain ⟨A, c, rfl, h1, h2, hn, h3⟩ := h
    obtain ⟨b, o, rfl, hb, hc⟩ := h3 (by simp)
    refine RD.grownR hg ?_ ⟨_, c, rfl, h1, h2, hn, h3⟩
    rcases h4 with h4 | h4
    · simp [Value.ownBlock] at h4
    · exact h4
theorem Ap.next {n : Nat} {w : World} {v u u' : Value} (h : Ap n v u) (hu : u'.ownBlock = u.ownBlock ∨ u'.ownBlock = some w.heap.size) (hv : 0 < n → Lo w.heap.size v) : Ap n v u' := fun h0 => by
  rcases hu with hu | hu
  · rw [hu]; exact h h0
  · rw [hu]
    cases hb : v.ownBlock with
    | none => exact .inl rfl
    | some k =>
      refine .inr fun e => ?_
      injection e with e
      have := hv h0 k hb
      omega

/-- Rows that lie apart. -/
def Dis (u v : Value) : Prop := ∀ k, u.ownBlock = some k → v.ownBlock ≠ some k
theorem Dis.symm {u v : Value} (h : Dis u v) : Dis v u := fun k h1 h2 => h k h2 h1
theorem Dis.or {u v : Value} (h : Dis u v) : u.ownBlock = none ∨ u.ownBlock ≠ v.ownBlock := by
  cases hu : u.ownBlock with
  | none => exact .inl rfl
  | some k => exact .inr fun e => h k hu e.symm
theorem Dis.next {u u' v : Value} {n : Nat} (h : Dis u v) (hu : u'.ownBlock = u.ownBlock ∨ u'.ownBlock = some n) (hv : Lo n v) : Dis u' v := fun k h1 h2 => by
  rcases hu with e | e
  · exact h k (by rw [← e]; exact h1) h2
  · rw [e] at h1
    injection h1 with h1
    have := hv k h2
    omega
end Go.Proofs.Ytnallpdmdhbidaa
namespace Go.Proofs.Ytnallpdmdhbidaa
open Go.ChangeShapes Go.WideShapes Go.ChangeAt Go.RowKit
set_option linter.unusedVariables false
set_option linter.unusedSimpArgs false

def lessL (x : Int) (l : List Int) : List Int := l.filter fun k => decide (k < x)
def moreL (x : Int) (l : List Int) : List Int := l.filter fun k => !decide (k < x)
theorem lessL_len (x : Int) (l : List Int) : (lessL x l).length ≤ l.length := List.length_filter_le _ _
theorem moreL_len (x : Int) (l : List Int) : (moreL x l).length ≤ l.length := List.length_filter_le _ _
theorem parts_len (x : Int) : ∀ l : List Int, (lessL x l).length + (moreL x l).length = l.length
  | [] => rfl
  | y :: t => by
    have := parts_len x t
    unfold lessL moreL at this ⊢
    by_cases h : y < x <;> simp [List.filter_cons, h] <;> omega
theorem lessL_snoc (x : Int) (l : List Int) (k : Nat) (h : k < l.length) : lessL x (l.take (k + 1)) = lessL x (l.take k) ++ if l[k] < x then [l[k]] else [] := by
  rw [List.take_succ_eq_append_getElem h, lessL, lessL, List.filter_append]
  congr 1
  by_cases hd : l[k] < x <;> simp [hd]
theorem moreL_snoc (x : Int) (l : List Int) (k : Nat) (h : k < l.length) : moreL x (l.take (k + 1)) = moreL x (l.take k) ++ if l[k] < x then [] else [l[k]] := by
  rw [List.take_succ_eq_append_getElem h, moreL, moreL, List.filter_append]
  congr 1
  by_cases hd : l[k] < x <;> simp [hd]
def SoRel (x : Int) (t : List Int) (w : World) (lv mv iv : Value) (wr : World) : Prop :=
  ∃ k : Nat, k ≤ t.length ∧ iv = .int .i64 k ∧ OW wr w.heap.size 3 eInt lv (lessL x (t.take k)) ∧ OW wr w.heap.size 3 eInt mv (moreL x (t.take k)) ∧ Dis lv mv ∧ Kp w wr
end Go.Proofs.Ytnallpdmdhbidaa
