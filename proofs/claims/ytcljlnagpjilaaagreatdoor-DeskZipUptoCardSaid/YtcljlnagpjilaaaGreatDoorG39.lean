/-
  A stable sort by blocks: rows whose blocks are sorted
  slices.SortStableFunc at spots
  slices.SortStableFunc at spots
  shape.Order by depths: what it answers
  hedgref.TreeOf, hedgref.SpotsRight: what they answer
  Plain laws: hedgref.TreeOf makes of right spots the tree that shape.Parents reads, and the
  A tree told node first, node last, row by row: what the shape's order tells
  The keys behind ops are right
-/
import Derived.Test.YtcljlnagpjilaaaGreatDoorG37
import Derived.Test.YtcljlnagpjilaaaGreatDoorG38
import Derived.Test.YtcljlnagpjilaaaGreatDoorG17
import Derived.Test.YtcljlnagpjilaaaGreatDoorG7
import Derived.Test.YtcljlnagpjilaaaGreatDoorG33
import Derived.Test.YtcljlnagpjilaaaGreatDoorG16
import Derived.Test.YtcljlnagpjilaaaGreatDoorG20
import Derived.Test.YtcljlnagpjilaaaGreatDoorG14

set_option linter.unusedVariables false
set_option linter.unusedSimpArgs false
set_option maxRecDepth 100000
set_option maxHeartbeats 8000000
namespace Go.Proofs.YtcljlnagpjilaaaGreatDoor
open Go.ChangeShapes Go.WideShapes Go.ChangeAt Go.RowKit
theorem merge_sorted (l : List IP) : SortedK Prod.snd (l.mergeSort (fun a b => decide (a.2 <= b.2))) := by
 have := List.pairwise_mergeSort (le := fun a b : IP => decide (a.2 <= b.2)) (fun a b c h1 h2 => by simp at *; omega) (fun a b => by simp; omega) l
 exact List.Pairwise.imp (fun h => by simpa using h) this
theorem merge_stab (l : List IP) : StabEq Prod.snd l (l.mergeSort (fun a b => decide (a.2 <= b.2))) := fun k => by
 have hs : (l.filter fun x => x.2 == k).Pairwise (fun a b => decide (a.2 <= b.2) = true) := by
  rw [List.pairwise_iff_forall_sublist]
  intro a b h
  have ha := h.subset (show a ∈ [a, b] by simp)
  have hb := h.subset (show b ∈ [a, b] by simp)
  simp at ha hb ⊢
  omega
 have h1 := List.sublist_mergeSort (le := fun a b : IP => decide (a.2 <= b.2)) (fun a b c h1 h2 => by simp at *; omega) (fun a b => by simp; omega) hs (List.filter_sublist (l := l))
 have h2 := h1.filter (fun x => x.2 == k)
 rw [List.filter_filter] at h2
 simp only [Bool.and_self] at h2
 have hp := (List.mergeSort_perm l (fun a b : IP => decide (a.2 <= b.2))).filter (fun x => x.2 == k)
 exact (h2.eq_of_length hp.length_eq.symm).symm
theorem ord3_of {l l' : List IP} (h1 : SortedK Prod.snd l') (h2 : StabEq Prod.snd l l') : l'.map Prod.fst = ord3 l := by
 rw [ord3, stab_unique h1 (merge_sorted l) (fun k => (merge_stab l k).trans (h2 k).symm)]
theorem topF_spec (l : List IP) (lo : Nat) : ∀ n k a al, lo <= a -> a < k -> (∀ j, lo <= j -> j < k -> gv l a <= gv l j) -> (al = true -> ∀ j, lo <= j -> j < k -> j ≠ a -> gv l a < gv l j) -> (al = false -> ∃ j, lo <= j /\ j < k /\ j ≠ a /\ gv l j = gv l a) ->
  lo <= (topF l n k a al).1 /\ (topF l n k a al).1 < k + n /\ (∀ j, lo <= j -> j < k + n -> gv l (topF l n k a al).1 <= gv l j) /\ ((topF l n k a al).2 = true -> ∀ j, lo <= j -> j < k + n -> j ≠ (topF l n k a al).1 -> gv l (topF l n k a al).1 < gv l j) /\
   ((topF l n k a al).2 = false -> ∃ j, lo <= j /\ j < k + n /\ j ≠ (topF l n k a al).1 /\ gv l j = gv l (topF l n k a al).1)
 | 0, k, a, al, h0, h1, h2, h3, h4 => ⟨h0, by simpa [topF] using h1, by simpa [topF] using h2, by simpa [topF] using h3, by simpa [topF] using h4⟩
 | n + 1, k, a, al, h0, h1, h2, h3, h4 => by
  rw [topF, show k + (n + 1) = (k + 1) + n from by omega]
  split
  ·rename_i hlt
   refine topF_spec l lo n (k + 1) k true (by omega) (by omega) (fun j j1 j2 => ?_) (fun _ j j1 j2 j3 => ?_) (by simp)
   ·rcases Nat.lt_or_ge j k with h | h
    ·have := h2 j j1 h; omega
    ·rw [show j = k from by omega]; exact Int.le_refl _
   ·have := h2 j j1 (by omega); omega
  ·rename_i hnl
   split
   ·rename_i heq
    refine topF_spec l lo n (k + 1) a false h0 (by omega) (fun j j1 j2 => ?_) (by simp) (fun _ => ⟨k, by omega, by omega, by omega, heq⟩)
    rcases Nat.lt_or_ge j k with h | h
    ·exact h2 j j1 h
    ·rw [show j = k from by omega]; omega
   ·rename_i hne
    refine topF_spec l lo n (k + 1) a al h0 (by omega) (fun j j1 j2 => ?_) (fun hal j j1 j2 j3 => ?_) (fun hal => ?_)
    ·rcases Nat.lt_or_ge j k with h | h
     ·exact h2 j j1 h
     ·rw [show j = k from by omega]; omega
    ·rcases Nat.lt_or_ge j k with h | h
     ·exact h3 hal j j1 h j3
     ·rw [show j = k from by omega]; omega
    ·obtain ⟨j, a1, a2, a3, a4⟩ := h4 hal
     exact ⟨j, a1, by omega, a3, a4⟩
theorem topS_min (l : List IP) (lo hi : Nat) (h : lo < hi) : (∀ j, lo <= j -> j < hi -> gv l (topS l lo hi).1 <= gv l j) /\ ((topS l lo hi).2 = true -> ∀ j, lo <= j -> j < hi -> j ≠ (topS l lo hi).1 -> gv l (topS l lo hi).1 < gv l j) := by
 have := topF_spec l lo (hi - (lo + 1)) (lo + 1) lo true (Nat.le_refl _) (by omega) (fun j a b => by rw [show j = lo from by omega]; exact Int.le_refl _) (fun _ j a b c => by omega) (by simp)
 rw [show lo + 1 + (hi - (lo + 1)) = hi from by omega] at this
 exact ⟨this.2.2.1, this.2.2.2.1⟩
def treeOf (l : List IP) (d : Int) : T × Bool :=
 if h : l = [] then (.nil, true)
 else
  have := topS_in l 0 l.length (List.length_pos_iff.2 h)
  if (topS l 0 l.length).2 = true /\ gv l (topS l 0 l.length).1 = d then
   (.node (gk l (topS l 0 l.length).1) (treeOf (l.take (topS l 0 l.length).1) (d + 1)).1 (treeOf (l.drop ((topS l 0 l.length).1 + 1)) (d + 1)).1,
    (treeOf (l.take (topS l 0 l.length).1) (d + 1)).2 && (treeOf (l.drop ((topS l 0 l.length).1 + 1)) (d + 1)).2)
  else (.nil, false)
termination_by l.length
decreasing_by all_goals simp <;> omega
theorem treeOf_nil (d : Int) : treeOf [] d = (.nil, true) := by rw [treeOf]; simp
theorem treeOf_node (l : List IP) (d : Int) (m : Nat) (hm : m < l.length) (h1 : gv l m = d) (h2 : ∀ j, j < l.length -> j ≠ m -> d < gv l j) : treeOf l d = (.node (gk l m) (treeOf (l.take m) (d + 1)).1 (treeOf (l.drop (m + 1)) (d + 1)).1, (treeOf (l.take m) (d + 1)).2 && (treeOf (l.drop (m + 1)) (d + 1)).2) := by
 have ht := topS_find l 0 l.length m (by omega) hm (fun j _ b c => by rw [h1]; exact h2 j b c)
 rw [treeOf, dif_neg (by rintro rfl; simp at hm)]
 simp only [ht, h1, and_self, if_true]
theorem treeOf_none (l : List IP) (d : Int) (h0 : l ≠ []) (h : ¬ ∃ m, m < l.length /\ gv l m = d /\ ∀ j, j < l.length -> j ≠ m -> d < gv l j) : treeOf l d = (.nil, false) := by
 have hpos := List.length_pos_iff.2 h0
 rw [treeOf, dif_neg h0]
 simp only
 rw [if_neg]
 rintro ⟨h1, h2⟩
 have ht := topS_in l 0 l.length hpos
 have hmn := (topS_min l 0 l.length hpos).2 h1
 exact h ⟨_, ht.2, h2, fun j a b => by have := hmn j (by omega) a b; omega⟩
def toT (l : List IP) : PT -> T
 | .nil => .nil
 | .node p a b => .node (gk l p) (toT l a) (toT l b)
theorem seg_len (l : List IP) (lo hi : Nat) (h1 : lo <= hi) (h2 : hi <= l.length) : ((l.take hi).drop lo).length = hi - lo := by simp; omega
theorem seg_gv (l : List IP) (lo hi j : Nat) (h2 : hi <= l.length) (hj : j < hi - lo) : gv ((l.take hi).drop lo) j = gv l (lo + j) := by
 rw [gv_eq _ j (by rw [seg_len l lo hi (by omega) h2]; exact hj), gv_eq l (lo + j) (by omega)]; simp
theorem seg_gk (l : List IP) (lo hi j : Nat) (h2 : hi <= l.length) (hj : j < hi - lo) : gk ((l.take hi).drop lo) j = gk l (lo + j) := by
 rw [gk_eq _ j (by rw [seg_len l lo hi (by omega) h2]; exact hj), gk_eq l (lo + j) (by omega)]; simp
theorem seg_take (l : List IP) (lo hi m : Nat) (h : lo <= m) (hm : m <= hi) : ((l.take hi).drop lo).take (m - lo) = (l.take m).drop lo := by
 rw [List.take_drop, show lo + (m - lo) = m from by omega, List.take_take, Nat.min_eq_left hm]
theorem seg_drop (l : List IP) (lo hi m : Nat) (h : lo <= m) : ((l.take hi).drop lo).drop (m - lo + 1) = (l.take hi).drop (m + 1) := by
 rw [List.drop_drop]; congr 1; omega
theorem treeOf_seg (l : List IP) (lo hi : Nat) (d : Int) (h1 : lo <= hi) (h2 : hi <= l.length) :
  (treeOf ((l.take hi).drop lo) d).2 = (ptR l lo hi d).isSome /\ ∀ t, ptR l lo hi d = some t -> (treeOf ((l.take hi).drop lo) d).1 = toT l t := by
 by_cases hlt : lo < hi
 ·have hsl := seg_len l lo hi h1 h2
  have htin := topS_in l lo hi hlt
  have hmin := topS_min l lo hi hlt
  by_cases hok : (topS l lo hi).2 = true /\ gv l (topS l lo hi).1 = d
  ·obtain ⟨m, hm⟩ : ∃ m, m = (topS l lo hi).1 := ⟨_, rfl⟩
   have htop : topS l lo hi = (m, true) := by rw [hm, <- hok.1]
   have hgd : gv l m = d := by rw [hm]; exact hok.2
   have hst := hmin.2 hok.1
   rw [<- hm] at htin hst
   have hnode := treeOf_node ((l.take hi).drop lo) d (m - lo) (by omega) (by rw [seg_gv l lo hi _ h2 (by omega), show lo + (m - lo) = m from by omega, hgd]) (fun j j1 j2 => by
    rw [seg_gv l lo hi j h2 (by omega)]
    have := hst (lo + j) (by omega) (by omega) (by omega)
    omega)
   rw [seg_take l lo hi m (by omega) (by omega), seg_drop l lo hi m (by omega), seg_gk l lo hi _ h2 (by omega), show lo + (m - lo) = m from by omega] at hnode
   obtain ⟨a1, a2⟩ := treeOf_seg l lo m (d + 1) htin.1 (by omega)
   obtain ⟨b1, b2⟩ := treeOf_seg l (m + 1) hi (d + 1) (by omega) h2
   rw [hnode, ptR_node l lo hi d hlt m htop hgd]
   simp only
   rw [a1, b1]
   cases ha : ptR l lo m (d + 1) with
   | none => simp
   | some ta =>
    cases hb : ptR l (m + 1) hi (d + 1) with
    | none => simp
    | some tb =>
     refine ⟨rfl, fun t ht => ?_⟩
     simp only [Option.some.injEq] at ht
     subst ht
     rw [a2 ta ha, b2 tb hb]; rfl
  ·rw [treeOf_none ((l.take hi).drop lo) d (by intro e; rw [e] at hsl; simp at hsl; omega) (by
    rintro ⟨x, x1, x2, x3⟩
    rw [hsl] at x1
    rw [seg_gv l lo hi x h2 x1] at x2
    have ht := topS_find l lo hi (lo + x) (by omega) (by omega) (fun j j1 j2 j3 => by
     have := x3 (j - lo) (by omega) (by omega)
     rw [seg_gv l lo hi _ h2 (by omega), show lo + (j - lo) = j from by omega] at this
     omega)
    exact hok ⟨by rw [ht], by rw [ht]; exact x2⟩), ptR_none l lo hi d hlt hok]
   exact ⟨rfl, fun t ht => by cases ht⟩
 ·obtain rfl : lo = hi := by omega
  have : (l.take lo).drop lo = [] := by simp
  rw [this, treeOf_nil, ptR_nil l lo lo d hlt]
  exact ⟨rfl, fun t ht => by injection ht with ht; subst ht; rfl⟩
termination_by hi - lo
theorem treeOf_whole (l : List IP) : (treeOf l 0).2 = (ptR l 0 l.length 0).isSome /\ ∀ t, ptR l 0 l.length 0 = some t -> (treeOf l 0).1 = toT l t := by
 have := treeOf_seg l 0 l.length 0 (by omega) (Nat.le_refl _)
 simpa using this
theorem toT_spots (l : List IP) : ∀ (t : PT) (lo hi : Nat) (d : Int), t.At lo -> hi = lo + t.size -> hi <= l.length -> (∀ j, j < t.size -> some (gv l (lo + j)) = (t.deps d)[j]?) -> (toT l t).spots d = (l.take hi).drop lo
 | .nil, lo, hi, d, _, h, _, _ => by simp [PT.size] at h; subst h; simp [toT, T.spots]
 | .node p a b, lo, hi, d, ⟨hp, ha, hb⟩, h, h3, hg => by
  simp only [PT.size] at h hg
  have hgp : gv l p = d := by
   have := hg a.size (by omega)
   rw [PT.deps_node, if_neg (by omega), if_pos rfl, <- hp] at this
   exact Option.some.inj this
  have ia := toT_spots l a lo p (d + 1) ha hp (by omega) (fun j hj => by
   have := hg j (by omega)
   rwa [PT.deps_node, if_pos hj] at this)
  have ib := toT_spots l b (p + 1) hi (d + 1) hb (by omega) h3 (fun j hj => by
   have := hg (a.size + 1 + j) (by omega)
   rw [PT.deps_node, if_neg (by omega), if_neg (by omega), show a.size + 1 + j - (a.size + 1) = j from by omega, show lo + (a.size + 1 + j) = p + 1 + j from by omega] at this
   exact this)
  rw [toT, T.spots, ia, ib, seg_split l lo p hi (by omega) (by omega) h3]
  have : ((gk l p, d) : IP) = l[p]'(by omega) := Prod.ext (gk_eq l p (by omega)) (by rw [<- hgp]; exact gv_eq l p (by omega))
  rw [this]
theorem treeOf_spots (l : List IP) (h : (parOf l).2 = 0) : (treeOf l 0).1.spots 0 = l /\ (treeOf l 0).2 = true := by
 obtain ⟨h1, h2, t, ht, _⟩ := parOf_len l h
 obtain ⟨h3, h4, h5⟩ := ptR_to l 0 l.length 0 t (by omega) ht
 obtain ⟨w1, w2⟩ := treeOf_whole l
 refine ⟨?_, by rw [w1, ht]; rfl⟩
 rw [w2 t ht, toT_spots l t 0 l.length 0 h3 (by omega) (Nat.le_refl _) h5]
 simp
def T.kids : T -> List T
 | .nil => []
 | .node _ l r => (match l with | .nil => [] | .node a b c => [.node a b c]) ++ (match r with | .nil => [] | .node a b c => [.node a b c])
def T.top : T -> Int
 | .nil => 0
 | .node k _ _ => k
def T.isNode : T -> Prop
 | .nil => False
 | .node _ _ _ => True
theorem T.kids_node (t : T) : ∀ u ∈ t.kids, u.isNode := by
 cases t with
 | nil => intro u h; cases h
 | node k l r =>
  intro u h
  simp only [kids, List.mem_append] at h
  rcases h with h | h
  ·cases l with
   | nil => cases h
   | node a b c => simp at h; subst h; trivial
  ·cases r with
   | nil => cases h
   | node a b c => simp at h; subst h; trivial
def sizesT (ts : List T) : Nat := (ts.map T.size).sum
theorem T.kids_size (t : T) (h : t.isNode) : sizesT t.kids + 1 = t.size := by
 cases t with
 | nil => cases h
 | node k l r => cases l <;> cases r <;> simp [kids, sizesT, size] <;> omega
theorem kids_sizes : ∀ ts : List T, (∀ t ∈ ts, t.isNode) -> sizesT (ts.flatMap T.kids) + ts.length = sizesT ts
 | [], _ => rfl
 | t :: ts, h => by
  have h1 := T.kids_size t (h t (by simp))
  have h2 := kids_sizes ts (fun u hu => h u (by simp [hu]))
  simp only [sizesT, List.flatMap_cons, List.map_append, List.sum_append, List.map_cons, List.sum_cons, List.length_cons] at *
  omega
def rowsT : Nat -> List T -> List Int
 | 0, _ => []
 | n + 1, ts => if ts = [] then [] else ts.map T.top ++ rowsT n (ts.flatMap T.kids)
def told3 (t : T) : List Int := match t with | .nil => [] | .node k l r => rowsT (t.size + 1) [.node k l r]
def spotsT (ts : List T) (d : Int) : List IP := ts.flatMap fun t => t.spots d
theorem T.spots_ge : ∀ (t : T) (d : Int), ∀ p ∈ t.spots d, d <= p.2
 | .nil, d, p, h => by cases h
 | .node k l r, d, p, h => by
  simp only [spots, List.mem_append, List.mem_singleton] at h
  rcases h with (h | rfl) | h
  ·have := spots_ge l (d + 1) p h; omega
  ·exact Int.le_refl _
  ·have := spots_ge r (d + 1) p h; omega
theorem T.kids_spots (k : Int) (l r : T) (d : Int) : spotsT (T.kids (.node k l r)) d = l.spots d ++ r.spots d := by
 cases l <;> cases r <;> simp [T.kids, spotsT, T.spots]
theorem row_stab : ∀ (ts : List T) (d : Int), (∀ t ∈ ts, t.isNode) -> StabEq Prod.snd (spotsT ts d) (ts.map (fun t => (t.top, d)) ++ spotsT (ts.flatMap T.kids) (d + 1))
 | [], d, _ => StabEq.refl _
 | t :: ts, d, h => by
  cases t with
  | nil => exact absurd (h .nil (by simp)) id
  | node k l r =>
   have ih := row_stab ts d (fun u hu => h u (by simp [hu]))
   have e1 : spotsT (.node k l r :: ts) d = l.spots (d + 1) ++ [(k, d)] ++ r.spots (d + 1) ++ spotsT ts d := by simp [spotsT, T.spots]
   have e2 : spotsT ((T.node k l r :: ts).flatMap T.kids) (d + 1) = (l.spots (d + 1) ++ r.spots (d + 1)) ++ spotsT (ts.flatMap T.kids) (d + 1) := by
    rw [<- T.kids_spots k l r (d + 1)]
    simp [spotsT, List.flatMap_append]
   rw [e1, e2, List.map_cons, show (T.node k l r).top = k from rfl]
   have s1 : StabEq Prod.snd (l.spots (d + 1) ++ [(k, d)] ++ r.spots (d + 1)) ([(k, d)] ++ (l.spots (d + 1) ++ r.spots (d + 1))) := by
    have := (StabEq.swap (key := Prod.snd) (u := l.spots (d + 1)) (v := [((k, d) : IP)]) (fun a ha b hb => by
     rw [List.mem_singleton] at hb; subst hb
     have := T.spots_ge l (d + 1) a ha
     simp only; omega)).append (StabEq.refl (r.spots (d + 1)))
    simpa only [List.append_assoc] using this
   have s2 := s1.append ih
   refine s2.trans ?_
   have s3 := (StabEq.swap (key := Prod.snd) (u := l.spots (d + 1) ++ r.spots (d + 1)) (v := ts.map (fun t => ((t.top, d) : IP))) (fun a ha b hb => by
    obtain ⟨t, _, rfl⟩ := List.mem_map.1 hb
    rcases List.mem_append.1 ha with ha | ha
    ·have := T.spots_ge l (d + 1) a ha; simp only; omega
    ·have := T.spots_ge r (d + 1) a ha; simp only; omega)).mid [(k, d)] (spotsT (ts.flatMap T.kids) (d + 1))
   simpa only [List.append_assoc, List.singleton_append, List.cons_append, List.nil_append] using s3
theorem rows_ord : ∀ (n : Nat) (ts : List T) (d : Int), (∀ t ∈ ts, t.isNode) -> sizesT ts < n -> ∃ L : List IP, SortedK Prod.snd L /\ StabEq Prod.snd (spotsT ts d) L /\ L.map Prod.fst = rowsT n ts /\ ∀ p ∈ L, d <= p.2
 | 0, _, _, _, h => by omega
 | n + 1, ts, d, ht, hn => by
  by_cases h0 : ts = []
  ·subst h0
   exact ⟨[], List.Pairwise.nil, StabEq.refl _, by simp [rowsT], fun p hp => by cases hp⟩
  ·have hs := kids_sizes ts ht
   have hl := List.length_pos_iff.2 h0
   obtain ⟨L, h1, h2, h3, h4⟩ := rows_ord n (ts.flatMap T.kids) (d + 1) (fun u hu => by
    obtain ⟨t, _, hu⟩ := List.mem_flatMap.1 hu
    exact T.kids_node t u hu) (by omega)
   refine ⟨ts.map (fun t => (t.top, d)) ++ L, ?_, ?_, ?_, ?_⟩
   ·refine SortedK.append ?_ h1 (fun a ha b hb => ?_)
    ·rw [SortedK, List.pairwise_map]
     exact List.pairwise_of_forall (fun _ _ => Int.le_refl _)
    ·obtain ⟨t, _, rfl⟩ := List.mem_map.1 ha
     have := h4 b hb
     simp only; omega
   ·exact (row_stab ts d ht).trans ((StabEq.refl _).append h2)
   ·rw [rowsT, if_neg h0, List.map_append, h3, List.map_map]; rfl
   ·intro p hp
    rcases List.mem_append.1 hp with hp | hp
    ·obtain ⟨t, _, rfl⟩ := List.mem_map.1 hp; exact Int.le_refl _
    ·have := h4 p hp; omega
theorem told3_ord (t : T) : told3 t = ord3 (t.spots 0) := by
 cases t with
 | nil => simp [told3, ord3, T.spots]
 | node k l r =>
  obtain ⟨L, h1, h2, h3, _⟩ := rows_ord ((T.node k l r).size + 1) [.node k l r] 0 (fun t h => by simp at h; subst h; trivial) (by simp [sizesT])
  have e : spotsT [.node k l r] 0 = (T.node k l r).spots 0 := by simp [spotsT]
  rw [e] at h2
  rw [<- ord3_of h1 h2, h3]; rfl
theorem walk_told (l : List IP) (lo hi : Nat) (d : Int) (t : PT) (h : ptR l lo hi d = some t) : walkF l false lo hi = told1 (toT l t) /\ walkF l true lo hi = told2 (toT l t) := by
 by_cases hlt : lo < hi
 ·have hin := topS_in l lo hi hlt
  by_cases hc : (topS l lo hi).2 = true /\ gv l (topS l lo hi).1 = d
  ·obtain ⟨at_, hat⟩ : ∃ at_, at_ = (topS l lo hi).1 := ⟨_, rfl⟩
   have ht : topS l lo hi = (at_, true) := by rw [hat]; exact Prod.ext rfl hc.1
   rw [ptR_node l lo hi d hlt at_ ht (by rw [hat]; exact hc.2)] at h
   rw [<- hat] at hin
   cases ha : ptR l lo at_ (d + 1) with
   | none => rw [ha] at h; simp at h
   | some a =>
    cases hb : ptR l (at_ + 1) hi (d + 1) with
    | none => rw [ha, hb] at h; simp at h
    | some b =>
     rw [ha, hb] at h
     injection h with h
     subst h
     have i1 := walk_told l lo at_ (d + 1) a ha
     have i2 := walk_told l (at_ + 1) hi (d + 1) b hb
     rw [walkF_first l lo hi hlt, walkF_last l lo hi hlt, ht]
     simp only
     rw [i1.1, i1.2, i2.1, i2.2]
     exact ⟨rfl, rfl⟩
  ·rw [ptR_none l lo hi d hlt hc] at h; cases h
 ·rw [ptR_nil l lo hi d hlt] at h
  injection h with h
  subst h
  rw [walkF_nil l false lo hi hlt, walkF_nil l true lo hi hlt]
  exact ⟨rfl, rfl⟩
termination_by hi - lo
theorem order_told (l : List IP) (h : (parOf l).2 = 0) (way : Int) : orderOf l way = if way = 1 then (told1 (treeOf l 0).1, 0) else if way = 2 then (told2 (treeOf l 0).1, 0) else if way = 3 then (told3 (treeOf l 0).1, 0) else ([], 1) := by
 obtain ⟨_, _, t, ht, _⟩ := parOf_len l h
 have h1 := walk_told l 0 l.length 0 t ht
 have h2 := (treeOf_whole l).2 t ht
 have h3 := treeOf_spots l h
 rw [orderOf, if_neg (by simp [h]), told3_ord, h3.1, h2, h1.1, h1.2]
theorem runL_keys (ops : List O3) : krL ((runL ops).1.map Prod.fst) = 0 := by
 have h := runL_right ops ops.length (Nat.le_refl _)
 rw [List.take_length] at h
 have key : ∀ (l : List IP) (la : Int), mrFrom la l = krF la (l.map Prod.fst) := by
  intro l
  induction l with
  | nil => intro la; rfl
  | cons p t ih =>
   intro la
   rw [mrFrom, List.map_cons, krF, ih p.1]
   by_cases e : la + 1 <= p.1 /\ p.1 <= 1000000
   ·rw [if_pos ((btw_iff _ _ _).2 e), if_pos e]
   ·rw [if_neg (fun hh => e ((btw_iff _ _ _).1 hh)), if_neg e]
 have h1 := mapRight_len _ h
 rw [krL, List.length_map, if_neg (by omega), <- key]
 exact mapRight_from _ h
end Go.Proofs.YtcljlnagpjilaaaGreatDoor
