/-
  A stable sort by blocks: rows whose blocks are sorted
  slices.SortStableFunc at spots
  slices.SortStableFunc at spots
  shape.Order by depths: what it answers
  hedgref.TreeOf, hedgref.SpotsRight: what they answer
  Plain laws: hedgref.TreeOf makes of right spots the tree that shape.Parents reads, and the
  A tree told node first, node last, row by row: what the shape's order tells
  The keys behind ops are right
  The document's trees and desk.tree's: plain laws
  hedgref.Digits, numbersOf, wordsOf: what they answer
  hedgref.numbersOf: what it answers
  hedgref.Reversed of ints: what it answers
  slices.Clone at ops: what it answers
-/
import Derived.Test.YtcljlnagpjilaaaGreatDoorG42
import Derived.Test.YtcljlnagpjilaaaGreatDoorG43
import Derived.Test.YtcljlnagpjilaaaGreatDoorG21
import Derived.Test.YtcljlnagpjilaaaGreatDoorG8
import Derived.Test.YtcljlnagpjilaaaGreatDoorG36
import Derived.Test.YtcljlnagpjilaaaGreatDoorG20
import Derived.Test.YtcljlnagpjilaaaGreatDoorG25
import Derived.Test.YtcljlnagpjilaaaGreatDoorG15
import Derived.Test.YtcljlnagpjilaaaGreatDoorG37
import Derived.Test.YtcljlnagpjilaaaGreatDoorG41
import Derived.Test.YtcljlnagpjilaaaGreatDoorG17
import Derived.Lib.ItoaMem
import Derived.Test.YtcljlnagpjilaaaGreatDoorG6
import Derived.Lib.ConvBytes
import Derived.Test.YtcljlnagpjilaaaGreatDoorG1
import Derived.Test.YtcljlnagpjilaaaGreatDoorG33

set_option linter.unusedVariables false
set_option linter.unusedSimpArgs false
set_option maxRecDepth 100000
set_option maxHeartbeats 8000000
namespace Go.Proofs.YtcljlnagpjilaaaGreatDoor
open Go.ChangeShapes Go.WideShapes Go.ChangeAt Go.RowKit
theorem merge_sorted (l : List IP) : SortedK Prod.snd (l.mergeSort (fun a b => decide (a.2 <= b.2))) := by
 have := List.pairwise_mergeSort (le := fun a b : IP => decide (a.2 <= b.2)) (fun a b c h1 h2 => by simp at *; omega) (fun a b => by simp; omega) l
 exact List.Pairwise.imp (fun h => by simpa using h) this
theorem merge_stab (l : List IP) : StabEq Prod.snd l (l.mergeSort (fun a b => decide (a.2 <= b.2))) := fun k => by
 have hs : (l.filter fun x => x.2 == k).Pairwise (fun a b => decide (a.2 <= b.2) = true) := by
  rw [List.pairwise_iff_forall_sublist]
  intro a b h
  have ha := h.subset (show a ∈ [a, b] by simp)
  have hb := h.subset (show b ∈ [a, b] by simp)
  simp at ha hb ⊢
  omega
 have h1 := List.sublist_mergeSort (le := fun a b : IP => decide (a.2 <= b.2)) (fun a b c h1 h2 => by simp at *; omega) (fun a b => by simp; omega) hs (List.filter_sublist (l := l))
 have h2 := h1.filter (fun x => x.2 == k)
 rw [List.filter_filter] at h2
 simp only [Bool.and_self] at h2
 have hp := (List.mergeSort_perm l (fun a b : IP => decide (a.2 <= b.2))).filter (fun x => x.2 == k)
 exact (h2.eq_of_length hp.length_eq.symm).symm
theorem ord3_of {l l' : List IP} (h1 : SortedK Prod.snd l') (h2 : StabEq Prod.snd l l') : l'.map Prod.fst = ord3 l := by
 rw [ord3, stab_unique h1 (merge_sorted l) (fun k => (merge_stab l k).trans (h2 k).symm)]
theorem topF_spec (l : List IP) (lo : Nat) : ∀ n k a al, lo <= a -> a < k -> (∀ j, lo <= j -> j < k -> gv l a <= gv l j) -> (al = true -> ∀ j, lo <= j -> j < k -> j ≠ a -> gv l a < gv l j) -> (al = false -> ∃ j, lo <= j /\ j < k /\ j ≠ a /\ gv l j = gv l a) ->
  lo <= (topF l n k a al).1 /\ (topF l n k a al).1 < k + n /\ (∀ j, lo <= j -> j < k + n -> gv l (topF l n k a al).1 <= gv l j) /\ ((topF l n k a al).2 = true -> ∀ j, lo <= j -> j < k + n -> j ≠ (topF l n k a al).1 -> gv l (topF l n k a al).1 < gv l j) /\
   ((topF l n k a al).2 = false -> ∃ j, lo <= j /\ j < k + n /\ j ≠ (topF l n k a al).1 /\ gv l j = gv l (topF l n k a al).1)
 | 0, k, a, al, h0, h1, h2, h3, h4 => ⟨h0, by simpa [topF] using h1, by simpa [topF] using h2, by simpa [topF] using h3, by simpa [topF] using h4⟩
 | n + 1, k, a, al, h0, h1, h2, h3, h4 => by
  rw [topF, show k + (n + 1) = (k + 1) + n from by omega]
  split
  ·rename_i hlt
   refine topF_spec l lo n (k + 1) k true (by omega) (by omega) (fun j j1 j2 => ?_) (fun _ j j1 j2 j3 => ?_) (by simp)
   ·rcases Nat.lt_or_ge j k with h | h
    ·have := h2 j j1 h; omega
    ·rw [show j = k from by omega]; exact Int.le_refl _
   ·have := h2 j j1 (by omega); omega
  ·rename_i hnl
   split
   ·rename_i heq
    refine topF_spec l lo n (k + 1) a false h0 (by omega) (fun j j1 j2 => ?_) (by simp) (fun _ => ⟨k, by omega, by omega, by omega, heq⟩)
    rcases Nat.lt_or_ge j k with h | h
    ·exact h2 j j1 h
    ·rw [show j = k from by omega]; omega
   ·rename_i hne
    refine topF_spec l lo n (k + 1) a al h0 (by omega) (fun j j1 j2 => ?_) (fun hal j j1 j2 j3 => ?_) (fun hal => ?_)
    ·rcases Nat.lt_or_ge j k with h | h
     ·exact h2 j j1 h
     ·rw [show j = k from by omega]; omega
    ·rcases Nat.lt_or_ge j k with h | h
     ·exact h3 hal j j1 h j3
     ·rw [show j = k from by omega]; omega
    ·obtain ⟨j, a1, a2, a3, a4⟩ := h4 hal
     exact ⟨j, a1, by omega, a3, a4⟩
theorem topS_min (l : List IP) (lo hi : Nat) (h : lo < hi) : (∀ j, lo <= j -> j < hi -> gv l (topS l lo hi).1 <= gv l j) /\ ((topS l lo hi).2 = true -> ∀ j, lo <= j -> j < hi -> j ≠ (topS l lo hi).1 -> gv l (topS l lo hi).1 < gv l j) := by
 have := topF_spec l lo (hi - (lo + 1)) (lo + 1) lo true (Nat.le_refl _) (by omega) (fun j a b => by rw [show j = lo from by omega]; exact Int.le_refl _) (fun _ j a b c => by omega) (by simp)
 rw [show lo + 1 + (hi - (lo + 1)) = hi from by omega] at this
 exact ⟨this.2.2.1, this.2.2.2.1⟩
def treeOf (l : List IP) (d : Int) : T × Bool :=
 if h : l = [] then (.nil, true)
 else
  have := topS_in l 0 l.length (List.length_pos_iff.2 h)
  if (topS l 0 l.length).2 = true /\ gv l (topS l 0 l.length).1 = d then
   (.node (gk l (topS l 0 l.length).1) (treeOf (l.take (topS l 0 l.length).1) (d + 1)).1 (treeOf (l.drop ((topS l 0 l.length).1 + 1)) (d + 1)).1,
    (treeOf (l.take (topS l 0 l.length).1) (d + 1)).2 && (treeOf (l.drop ((topS l 0 l.length).1 + 1)) (d + 1)).2)
  else (.nil, false)
termination_by l.length
decreasing_by all_goals simp <;> omega
theorem treeOf_nil (d : Int) : treeOf [] d = (.nil, true) := by rw [treeOf]; simp
theorem treeOf_node (l : List IP) (d : Int) (m : Nat) (hm : m < l.length) (h1 : gv l m = d) (h2 : ∀ j, j < l.length -> j ≠ m -> d < gv l j) : treeOf l d = (.node (gk l m) (treeOf (l.take m) (d + 1)).1 (treeOf (l.drop (m + 1)) (d + 1)).1, (treeOf (l.take m) (d + 1)).2 && (treeOf (l.drop (m + 1)) (d + 1)).2) := by
 have ht := topS_find l 0 l.length m (by omega) hm (fun j _ b c => by rw [h1]; exact h2 j b c)
 rw [treeOf, dif_neg (by rintro rfl; simp at hm)]
 simp only [ht, h1, and_self, if_true]
theorem treeOf_none (l : List IP) (d : Int) (h0 : l ≠ []) (h : ¬ ∃ m, m < l.length /\ gv l m = d /\ ∀ j, j < l.length -> j ≠ m -> d < gv l j) : treeOf l d = (.nil, false) := by
 have hpos := List.length_pos_iff.2 h0
 rw [treeOf, dif_neg h0]
 simp only
 rw [if_neg]
 rintro ⟨h1, h2⟩
 have ht := topS_in l 0 l.length hpos
 have hmn := (topS_min l 0 l.length hpos).2 h1
 exact h ⟨_, ht.2, h2, fun j a b => by have := hmn j (by omega) a b; omega⟩
def toT (l : List IP) : PT -> T
 | .nil => .nil
 | .node p a b => .node (gk l p) (toT l a) (toT l b)
theorem seg_len (l : List IP) (lo hi : Nat) (h1 : lo <= hi) (h2 : hi <= l.length) : ((l.take hi).drop lo).length = hi - lo := by simp; omega
theorem seg_gv (l : List IP) (lo hi j : Nat) (h2 : hi <= l.length) (hj : j < hi - lo) : gv ((l.take hi).drop lo) j = gv l (lo + j) := by
 rw [gv_eq _ j (by rw [seg_len l lo hi (by omega) h2]; exact hj), gv_eq l (lo + j) (by omega)]; simp
theorem seg_gk (l : List IP) (lo hi j : Nat) (h2 : hi <= l.length) (hj : j < hi - lo) : gk ((l.take hi).drop lo) j = gk l (lo + j) := by
 rw [gk_eq _ j (by rw [seg_len l lo hi (by omega) h2]; exact hj), gk_eq l (lo + j) (by omega)]; simp
theorem seg_take (l : List IP) (lo hi m : Nat) (h : lo <= m) (hm : m <= hi) : ((l.take hi).drop lo).take (m - lo) = (l.take m).drop lo := by
 rw [List.take_drop, show lo + (m - lo) = m from by omega, List.take_take, Nat.min_eq_left hm]
theorem seg_drop (l : List IP) (lo hi m : Nat) (h : lo <= m) : ((l.take hi).drop lo).drop (m - lo + 1) = (l.take hi).drop (m + 1) := by
 rw [List.drop_drop]; congr 1; omega
theorem treeOf_seg (l : List IP) (lo hi : Nat) (d : Int) (h1 : lo <= hi) (h2 : hi <= l.length) :
  (treeOf ((l.take hi).drop lo) d).2 = (ptR l lo hi d).isSome /\ ∀ t, ptR l lo hi d = some t -> (treeOf ((l.take hi).drop lo) d).1 = toT l t := by
 by_cases hlt : lo < hi
 ·have hsl := seg_len l lo hi h1 h2
  have htin := topS_in l lo hi hlt
  have hmin := topS_min l lo hi hlt
  by_cases hok : (topS l lo hi).2 = true /\ gv l (topS l lo hi).1 = d
  ·obtain ⟨m, hm⟩ : ∃ m, m = (topS l lo hi).1 := ⟨_, rfl⟩
   have htop : topS l lo hi = (m, true) := by rw [hm, <- hok.1]
   have hgd : gv l m = d := by rw [hm]; exact hok.2
   have hst := hmin.2 hok.1
   rw [<- hm] at htin hst
   have hnode := treeOf_node ((l.take hi).drop lo) d (m - lo) (by omega) (by rw [seg_gv l lo hi _ h2 (by omega), show lo + (m - lo) = m from by omega, hgd]) (fun j j1 j2 => by
    rw [seg_gv l lo hi j h2 (by omega)]
    have := hst (lo + j) (by omega) (by omega) (by omega)
    omega)
   rw [seg_take l lo hi m (by omega) (by omega), seg_drop l lo hi m (by omega), seg_gk l lo hi _ h2 (by omega), show lo + (m - lo) = m from by omega] at hnode
   obtain ⟨a1, a2⟩ := treeOf_seg l lo m (d + 1) htin.1 (by omega)
   obtain ⟨b1, b2⟩ := treeOf_seg l (m + 1) hi (d + 1) (by omega) h2
   rw [hnode, ptR_node l lo hi d hlt m htop hgd]
   simp only
   rw [a1, b1]
   cases ha : ptR l lo m (d + 1) with
   | none => simp
   | some ta =>
    cases hb : ptR l (m + 1) hi (d + 1) with
    | none => simp
    | some tb =>
     refine ⟨rfl, fun t ht => ?_⟩
     simp only [Option.some.injEq] at ht
     subst ht
     rw [a2 ta ha, b2 tb hb]; rfl
  ·rw [treeOf_none ((l.take hi).drop lo) d (by intro e; rw [e] at hsl; simp at hsl; omega) (by
    rintro ⟨x, x1, x2, x3⟩
    rw [hsl] at x1
    rw [seg_gv l lo hi x h2 x1] at x2
    have ht := topS_find l lo hi (lo + x) (by omega) (by omega) (fun j j1 j2 j3 => by
     have := x3 (j - lo) (by omega) (by omega)
     rw [seg_gv l lo hi _ h2 (by omega), show lo + (j - lo) = j from by omega] at this
     omega)
    exact hok ⟨by rw [ht], by rw [ht]; exact x2⟩), ptR_none l lo hi d hlt hok]
   exact ⟨rfl, fun t ht => by cases ht⟩
 ·obtain rfl : lo = hi := by omega
  have : (l.take lo).drop lo = [] := by simp
  rw [this, treeOf_nil, ptR_nil l lo lo d hlt]
  exact ⟨rfl, fun t ht => by injection ht with ht; subst ht; rfl⟩
termination_by hi - lo
theorem treeOf_whole (l : List IP) : (treeOf l 0).2 = (ptR l 0 l.length 0).isSome /\ ∀ t, ptR l 0 l.length 0 = some t -> (treeOf l 0).1 = toT l t := by
 have := treeOf_seg l 0 l.length 0 (by omega) (Nat.le_refl _)
 simpa using this
theorem toT_spots (l : List IP) : ∀ (t : PT) (lo hi : Nat) (d : Int), t.At lo -> hi = lo + t.size -> hi <= l.length -> (∀ j, j < t.size -> some (gv l (lo + j)) = (t.deps d)[j]?) -> (toT l t).spots d = (l.take hi).drop lo
 | .nil, lo, hi, d, _, h, _, _ => by simp [PT.size] at h; subst h; simp [toT, T.spots]
 | .node p a b, lo, hi, d, ⟨hp, ha, hb⟩, h, h3, hg => by
  simp only [PT.size] at h hg
  have hgp : gv l p = d := by
   have := hg a.size (by omega)
   rw [PT.deps_node, if_neg (by omega), if_pos rfl, <- hp] at this
   exact Option.some.inj this
  have ia := toT_spots l a lo p (d + 1) ha hp (by omega) (fun j hj => by
   have := hg j (by omega)
   rwa [PT.deps_node, if_pos hj] at this)
  have ib := toT_spots l b (p + 1) hi (d + 1) hb (by omega) h3 (fun j hj => by
   have := hg (a.size + 1 + j) (by omega)
   rw [PT.deps_node, if_neg (by omega), if_neg (by omega), show a.size + 1 + j - (a.size + 1) = j from by omega, show lo + (a.size + 1 + j) = p + 1 + j from by omega] at this
   exact this)
  rw [toT, T.spots, ia, ib, seg_split l lo p hi (by omega) (by omega) h3]
  have : ((gk l p, d) : IP) = l[p]'(by omega) := Prod.ext (gk_eq l p (by omega)) (by rw [<- hgp]; exact gv_eq l p (by omega))
  rw [this]
theorem treeOf_spots (l : List IP) (h : (parOf l).2 = 0) : (treeOf l 0).1.spots 0 = l /\ (treeOf l 0).2 = true := by
 obtain ⟨h1, h2, t, ht, _⟩ := parOf_len l h
 obtain ⟨h3, h4, h5⟩ := ptR_to l 0 l.length 0 t (by omega) ht
 obtain ⟨w1, w2⟩ := treeOf_whole l
 refine ⟨?_, by rw [w1, ht]; rfl⟩
 rw [w2 t ht, toT_spots l t 0 l.length 0 h3 (by omega) (Nat.le_refl _) h5]
 simp
def T.kids : T -> List T
 | .nil => []
 | .node _ l r => (match l with | .nil => [] | .node a b c => [.node a b c]) ++ (match r with | .nil => [] | .node a b c => [.node a b c])
def T.top : T -> Int
 | .nil => 0
 | .node k _ _ => k
def T.isNode : T -> Prop
 | .nil => False
 | .node _ _ _ => True
theorem T.kids_node (t : T) : ∀ u ∈ t.kids, u.isNode := by
 cases t with
 | nil => intro u h; cases h
 | node k l r =>
  intro u h
  simp only [kids, List.mem_append] at h
  rcases h with h | h
  ·cases l with
   | nil => cases h
   | node a b c => simp at h; subst h; trivial
  ·cases r with
   | nil => cases h
   | node a b c => simp at h; subst h; trivial
def sizesT (ts : List T) : Nat := (ts.map T.size).sum
theorem T.kids_size (t : T) (h : t.isNode) : sizesT t.kids + 1 = t.size := by
 cases t with
 | nil => cases h
 | node k l r => cases l <;> cases r <;> simp [kids, sizesT, size] <;> omega
theorem kids_sizes : ∀ ts : List T, (∀ t ∈ ts, t.isNode) -> sizesT (ts.flatMap T.kids) + ts.length = sizesT ts
 | [], _ => rfl
 | t :: ts, h => by
  have h1 := T.kids_size t (h t (by simp))
  have h2 := kids_sizes ts (fun u hu => h u (by simp [hu]))
  simp only [sizesT, List.flatMap_cons, List.map_append, List.sum_append, List.map_cons, List.sum_cons, List.length_cons] at *
  omega
def rowsT : Nat -> List T -> List Int
 | 0, _ => []
 | n + 1, ts => if ts = [] then [] else ts.map T.top ++ rowsT n (ts.flatMap T.kids)
def told3 (t : T) : List Int := match t with | .nil => [] | .node k l r => rowsT (t.size + 1) [.node k l r]
def spotsT (ts : List T) (d : Int) : List IP := ts.flatMap fun t => t.spots d
theorem T.spots_ge : ∀ (t : T) (d : Int), ∀ p ∈ t.spots d, d <= p.2
 | .nil, d, p, h => by cases h
 | .node k l r, d, p, h => by
  simp only [spots, List.mem_append, List.mem_singleton] at h
  rcases h with (h | rfl) | h
  ·have := spots_ge l (d + 1) p h; omega
  ·exact Int.le_refl _
  ·have := spots_ge r (d + 1) p h; omega
theorem T.kids_spots (k : Int) (l r : T) (d : Int) : spotsT (T.kids (.node k l r)) d = l.spots d ++ r.spots d := by
 cases l <;> cases r <;> simp [T.kids, spotsT, T.spots]
theorem row_stab : ∀ (ts : List T) (d : Int), (∀ t ∈ ts, t.isNode) -> StabEq Prod.snd (spotsT ts d) (ts.map (fun t => (t.top, d)) ++ spotsT (ts.flatMap T.kids) (d + 1))
 | [], d, _ => StabEq.refl _
 | t :: ts, d, h => by
  cases t with
  | nil => exact absurd (h .nil (by simp)) id
  | node k l r =>
   have ih := row_stab ts d (fun u hu => h u (by simp [hu]))
   have e1 : spotsT (.node k l r :: ts) d = l.spots (d + 1) ++ [(k, d)] ++ r.spots (d + 1) ++ spotsT ts d := by simp [spotsT, T.spots]
   have e2 : spotsT ((T.node k l r :: ts).flatMap T.kids) (d + 1) = (l.spots (d + 1) ++ r.spots (d + 1)) ++ spotsT (ts.flatMap T.kids) (d + 1) := by
    rw [<- T.kids_spots k l r (d + 1)]
    simp [spotsT, List.flatMap_append]
   rw [e1, e2, List.map_cons, show (T.node k l r).top = k from rfl]
   have s1 : StabEq Prod.snd (l.spots (d + 1) ++ [(k, d)] ++ r.spots (d + 1)) ([(k, d)] ++ (l.spots (d + 1) ++ r.spots (d + 1))) := by
    have := (StabEq.swap (key := Prod.snd) (u := l.spots (d + 1)) (v := [((k, d) : IP)]) (fun a ha b hb => by
     rw [List.mem_singleton] at hb; subst hb
     have := T.spots_ge l (d + 1) a ha
     simp only; omega)).append (StabEq.refl (r.spots (d + 1)))
    simpa only [List.append_assoc] using this
   have s2 := s1.append ih
   refine s2.trans ?_
   have s3 := (StabEq.swap (key := Prod.snd) (u := l.spots (d + 1) ++ r.spots (d + 1)) (v := ts.map (fun t => ((t.top, d) : IP))) (fun a ha b hb => by
    obtain ⟨t, _, rfl⟩ := List.mem_map.1 hb
    rcases List.mem_append.1 ha with ha | ha
    ·have := T.spots_ge l (d + 1) a ha; simp only; omega
    ·have := T.spots_ge r (d + 1) a ha; simp only; omega)).mid [(k, d)] (spotsT (ts.flatMap T.kids) (d + 1))
   simpa only [List.append_assoc, List.singleton_append, List.cons_append, List.nil_append] using s3
theorem rows_ord : ∀ (n : Nat) (ts : List T) (d : Int), (∀ t ∈ ts, t.isNode) -> sizesT ts < n -> ∃ L : List IP, SortedK Prod.snd L /\ StabEq Prod.snd (spotsT ts d) L /\ L.map Prod.fst = rowsT n ts /\ ∀ p ∈ L, d <= p.2
 | 0, _, _, _, h => by omega
 | n + 1, ts, d, ht, hn => by
  by_cases h0 : ts = []
  ·subst h0
   exact ⟨[], List.Pairwise.nil, StabEq.refl _, by simp [rowsT], fun p hp => by cases hp⟩
  ·have hs := kids_sizes ts ht
   have hl := List.length_pos_iff.2 h0
   obtain ⟨L, h1, h2, h3, h4⟩ := rows_ord n (ts.flatMap T.kids) (d + 1) (fun u hu => by
    obtain ⟨t, _, hu⟩ := List.mem_flatMap.1 hu
    exact T.kids_node t u hu) (by omega)
   refine ⟨ts.map (fun t => (t.top, d)) ++ L, ?_, ?_, ?_, ?_⟩
   ·refine SortedK.append ?_ h1 (fun a ha b hb => ?_)
    ·rw [SortedK, List.pairwise_map]
     exact List.pairwise_of_forall (fun _ _ => Int.le_refl _)
    ·obtain ⟨t, _, rfl⟩ := List.mem_map.1 ha
     have := h4 b hb
     simp only; omega
   ·exact (row_stab ts d ht).trans ((StabEq.refl _).append h2)
   ·rw [rowsT, if_neg h0, List.map_append, h3, List.map_map]; rfl
   ·intro p hp
    rcases List.mem_append.1 hp with hp | hp
    ·obtain ⟨t, _, rfl⟩ := List.mem_map.1 hp; exact Int.le_refl _
    ·have := h4 p hp; omega
theorem told3_ord (t : T) : told3 t = ord3 (t.spots 0) := by
 cases t with
 | nil => simp [told3, ord3, T.spots]
 | node k l r =>
  obtain ⟨L, h1, h2, h3, _⟩ := rows_ord ((T.node k l r).size + 1) [.node k l r] 0 (fun t h => by simp at h; subst h; trivial) (by simp [sizesT])
  have e : spotsT [.node k l r] 0 = (T.node k l r).spots 0 := by simp [spotsT]
  rw [e] at h2
  rw [<- ord3_of h1 h2, h3]; rfl
theorem walk_told (l : List IP) (lo hi : Nat) (d : Int) (t : PT) (h : ptR l lo hi d = some t) : walkF l false lo hi = told1 (toT l t) /\ walkF l true lo hi = told2 (toT l t) := by
 by_cases hlt : lo < hi
 ·have hin := topS_in l lo hi hlt
  by_cases hc : (topS l lo hi).2 = true /\ gv l (topS l lo hi).1 = d
  ·obtain ⟨at_, hat⟩ : ∃ at_, at_ = (topS l lo hi).1 := ⟨_, rfl⟩
   have ht : topS l lo hi = (at_, true) := by rw [hat]; exact Prod.ext rfl hc.1
   rw [ptR_node l lo hi d hlt at_ ht (by rw [hat]; exact hc.2)] at h
   rw [<- hat] at hin
   cases ha : ptR l lo at_ (d + 1) with
   | none => rw [ha] at h; simp at h
   | some a =>
    cases hb : ptR l (at_ + 1) hi (d + 1) with
    | none => rw [ha, hb] at h; simp at h
    | some b =>
     rw [ha, hb] at h
     injection h with h
     subst h
     have i1 := walk_told l lo at_ (d + 1) a ha
     have i2 := walk_told l (at_ + 1) hi (d + 1) b hb
     rw [walkF_first l lo hi hlt, walkF_last l lo hi hlt, ht]
     simp only
     rw [i1.1, i1.2, i2.1, i2.2]
     exact ⟨rfl, rfl⟩
  ·rw [ptR_none l lo hi d hlt hc] at h; cases h
 ·rw [ptR_nil l lo hi d hlt] at h
  injection h with h
  subst h
  rw [walkF_nil l false lo hi hlt, walkF_nil l true lo hi hlt]
  exact ⟨rfl, rfl⟩
termination_by hi - lo
theorem order_told (l : List IP) (h : (parOf l).2 = 0) (way : Int) : orderOf l way = if way = 1 then (told1 (treeOf l 0).1, 0) else if way = 2 then (told2 (treeOf l 0).1, 0) else if way = 3 then (told3 (treeOf l 0).1, 0) else ([], 1) := by
 obtain ⟨_, _, t, ht, _⟩ := parOf_len l h
 have h1 := walk_told l 0 l.length 0 t ht
 have h2 := (treeOf_whole l).2 t ht
 have h3 := treeOf_spots l h
 rw [orderOf, if_neg (by simp [h]), told3_ord, h3.1, h2, h1.1, h1.2]
theorem runL_keys (ops : List O3) : krL ((runL ops).1.map Prod.fst) = 0 := by
 have h := runL_right ops ops.length (Nat.le_refl _)
 rw [List.take_length] at h
 have key : ∀ (l : List IP) (la : Int), mrFrom la l = krF la (l.map Prod.fst) := by
  intro l
  induction l with
  | nil => intro la; rfl
  | cons p t ih =>
   intro la
   rw [mrFrom, List.map_cons, krF, ih p.1]
   by_cases e : la + 1 <= p.1 /\ p.1 <= 1000000
   ·rw [if_pos ((btw_iff _ _ _).2 e), if_pos e]
   ·rw [if_neg (fun hh => e ((btw_iff _ _ _).1 hh)), if_neg e]
 have h1 := mapRight_len _ h
 rw [krL, List.length_map, if_neg (by omega), <- key]
 exact mapRight_from _ h
theorem spots_deep : ∀ (t : T) (d : Int), ∀ p ∈ t.spots d, d <= p.2
 | .nil, _, p, h => by simp [T.spots] at h
 | .node k l r, d, p, h => by
  rw [T.spots, List.mem_append, List.mem_append] at h
  rcases h with (h | h) | h
  ·have := spots_deep l _ p h; omega
  ·simp at h; rw [h]; exact Int.le_refl _
  ·have := spots_deep r _ p h; omega
theorem cut_uniq {d : Int} {x y : IP} : ∀ {a c b e : List IP}, (∀ p ∈ a, d < p.2) -> (∀ p ∈ c, d < p.2) -> x.2 = d -> y.2 = d -> a ++ [x] ++ b = c ++ [y] ++ e -> a = c /\ x = y /\ b = e
 | [], [], b, e, _, _, _, _, h => by simp at h; exact ⟨rfl, h.1, h.2⟩
 | [], z :: c, b, e, _, hc, hx, _, h => by
  simp at h
  have := hc z List.mem_cons_self
  rw [<- h.1] at this; omega
 | z :: a, [], b, e, ha, _, _, hy, h => by
  simp at h
  have := ha z List.mem_cons_self
  rw [h.1] at this; omega
 | z :: a, z' :: c, b, e, ha, hc, hx, hy, h => by
  simp only [List.cons_append] at h
  injection h with h1 h2
  obtain ⟨q1, q2, q3⟩ := cut_uniq (fun p hp => ha p (List.mem_cons_of_mem _ hp)) (fun p hp => hc p (List.mem_cons_of_mem _ hp)) hx hy h2
  exact ⟨by rw [h1, q1], q2, q3⟩
theorem spots_inj : ∀ (t u : T) (d : Int), t.spots d = u.spots d -> t = u
 | .nil, .nil, _, _ => rfl
 | .nil, .node k l r, d, h => by simp [T.spots] at h
 | .node k l r, .nil, d, h => by simp [T.spots] at h
 | .node k l r, .node k' l' r', d, h => by
  rw [T.spots, T.spots] at h
  obtain ⟨h1, h2, h3⟩ := cut_uniq (d := d) (fun p hp => by have := spots_deep l _ p hp; omega) (fun p hp => by have := spots_deep l' _ p hp; omega) rfl rfl h
  rw [spots_inj l l' _ h1, spots_inj r r' _ h3]
  injection h2 with h2
  rw [h2]
theorem order_telD {t : T} (h : (parOf (t.spots 0)).2 = 0) : orderOf (t.spots 0) 1 = (told1 t, 0) := by
 rw [order_told _ h, if_pos rfl, spots_inj _ _ 0 (treeOf_spots _ h).1]
theorem zip_spD (ops : List O3) : (heapTree (((runL ops).1.map Prod.fst).map zk)).spots 0 = (zrT (opsA ops)).spotsBy Prod.fst 0 /\ (parOf ((zrT (opsA ops)).spotsBy Prod.fst 0)).2 = 0 := by
 have h := zip_inv_all ops
 have hr := runL_right ops _ (Nat.le_refl _)
 rw [List.take_length] at hr
 refine ⟨by rw [<- h.nd_, heapTree_nd _ h.hp (by rw [h.nd_]; exact zk_up h.up), skZ_spots], ?_⟩
 have hkk : keysM Prod.fst (zrT (opsA ops)) = (runL ops).1.map Prod.fst := by
  rw [keysM_nd, h.nd_, List.map_map]; simp [Function.comp_def, zk]
 have hsz : (zrT (opsA ops)).size <= 200 := by
  rw [<- keysM_len Prod.fst, hkk, List.length_map]
  exact mapRight_len _ hr
 rw [spotsBy_right Prod.fst _ hsz (by rw [hkk]; exact h.up) (by
  rw [hkk]
  intro k hk
  obtain ⟨p, hp, rfl⟩ := List.mem_map.1 hk
  exact mapRight_in _ hr p hp)]
theorem sum_told {t : T} (h : (parOf (t.spots 0)).2 = 0) : sumOf (t.spots 0) = (mostL (t.spots 0), allL (t.spots 0), 0) := by
 rw [sumOf, if_neg (by rw [h]; decide)]
def refT (ks : List Int) (ops : List O3) (s : By) : Option T :=
 if s = growB then some (grT (ops.zip (runL ops).2)) else if s = zipB then some (heapTree (ks.map zk)) else
 if s = goatB then some (skel (gtT (opsZ ops)).T) else if s = evenB then some (skel (evenT ks)) else none
theorem tree_link {l : List IP} {ops : List O3} (h : DkIn l ops) (hn : ops.length <= 300) (s : By) :
  match refT (l.map Prod.fst) ops s with
  | some t => treeS (l.map Prod.fst) ops s = .ok (t.spots 0) /\ (parOf (t.spots 0)).2 = 0
  | none => treeS (l.map Prod.fst) ops s = .error 1 := by
 have hks : krL (l.map Prod.fst) = 0 := by rw [<- h.run]; exact runL_keys ops
 have hle : ¬ ops.length > 300 := by omega
 unfold refT treeS
 by_cases h1 : s = growB
 ·rw [if_pos h1, if_pos h1]
  refine ⟨?_, ?_⟩
  ·rw [growRun, if_neg hle, exT, if_pos rfl, skel_run, skel_spots]
  ·rw [skel_run, skel_spots]; exact (grow_right ops).1
 ·rw [if_neg h1, if_neg h1]
  by_cases h2 : s = zipB
  ·rw [if_pos h2, if_pos h2]
   have e := (zip_spD ops).1
   have e2 := (zip_spD ops).2
   rw [h.run] at e
   refine ⟨?_, ?_⟩
   ·rw [zipRun, if_neg hle, exT, if_pos rfl, e]
   ·rw [e]; exact e2
  ·rw [if_neg h2, if_neg h2]
   by_cases h3 : s = goatB
   ·rw [if_pos h3, if_pos h3]
    refine ⟨?_, ?_⟩
    ·rw [goatRun, if_neg hle, exT, if_pos rfl, skel_spots]
    ·rw [skel_spots]; exact (goat_right ops).1
   ·rw [if_neg h3, if_neg h3]
    by_cases h4 : s = evenB
    ·rw [if_pos h4, if_pos h4]
     obtain ⟨q1, q2, q3⟩ := krL_in hks
     refine ⟨?_, ?_⟩
     ·rw [evenA, if_pos hks, exT, if_pos rfl, skel_spots]
     ·rw [skel_spots]; exact (even_right _ q1 q2 q3).1
    ·rw [if_neg h4, if_neg h4]
theorem spots_size {t : T} (h : (parOf (t.spots 0)).2 = 0) : t.size <= 200 := by
 have := (parOf_len _ h).1
 rw [T.spots_len] at this
 exact this
theorem dig_ext : ∀ u : Nat, u < 10 -> (⟨#[48, 49, 50, 51, 52, 53, 54, 55, 56, 57]⟩ : ByteArray).extract u (u + 1) = bs (Lib.decDigits u) := fun u hu => by
 rw [Lib.decDigits_one hu]
 match u, hu with
 | 0, _ => rfl
 | 1, _ => rfl
 | 2, _ => rfl
 | 3, _ => rfl
 | 4, _ => rfl
 | 5, _ => rfl
 | 6, _ => rfl
 | 7, _ => rfl
 | 8, _ => rfl
 | 9, _ => rfl
theorem nDig_le : ∀ (k u : Nat), u < 10 ^ k -> 1 <= k -> (Lib.decDigits u).length <= k
 | 0, u, h, hk => by omega
 | k + 1, u, h, _ => by
  rw [Lib.decDigits]
  split
  ·simp
  ·rw [List.length_append, List.length_singleton]
   have hk : 1 <= k := by
    refine Nat.pos_of_ne_zero fun e => ?_
    subst e
    omega
   have := nDig_le k (u / 10) (by rw [Nat.pow_succ] at h; omega) hk
   omega
theorem dig_len (u : Nat) (h : u <= 9223372036854775807) : (Lib.decDigits u).length <= 20 := nDig_le 20 u (by omega) (by decide)
theorem digits_any : ∀ (N u : Nat) (w : World), u <= N -> u <= 9223372036854775807 -> Calls Tryz.prog 49 #[.int .i64 (u : Int)] w (fun e w' => e = .returned (.string (bs (Lib.decDigits u))) /\ w = w') := by
 intro N
 induction N with
 | zero =>
  intro u w h h63
  obtain rfl : u = 0 := by omega
  have he := dig_ext 0 (by omega)
  go_enter Tryz.func49, Tryz.ntmps49
  go_wp2
  go_ret
  exact ⟨rfl, rfl⟩
 | succ N ih =>
  intro u w h h63
  by_cases hu : u < 10
  ·have he := dig_ext u hu
   have d1 : decide ((u : Int) < 10) = true := decide_eq_true (by omega)
   go_enter Tryz.func49, Tryz.ntmps49
   go_wp2
   go_ret
   exact ⟨rfl, rfl⟩
  ·have d1 : decide ((u : Int) < 10) = false := decide_eq_false (by omega)
   have HR : Hid (Lib.decDigits u = Lib.decDigits (u / 10) ++ Lib.decDigits (u % 10)) := hide (by
    rw [Lib.decDigits, dif_neg hu, Lib.decDigits_one (Nat.mod_lt _ (by omega))])
   have h1 := dig_len (u / 10) (by omega)
   have h2 := dig_len (u % 10) (by omega)
   have I1 := hide (ih (u / 10) w (by omega) (by omega))
   have I2 := hide (fun W => ih (u % 10) W (by omega) (by omega))
   have e1 : (u : Int) / 10 = ((u / 10 : Nat) : Int) := by omega
   have e2 : (u : Int) % 10 = ((u % 10 : Nat) : Int) := by omega
   obtain ⟨a, ha⟩ : ∃ a, a = Lib.decDigits (u / 10) := ⟨_, rfl⟩
   obtain ⟨b, hb⟩ : ∃ b, b = Lib.decDigits (u % 10) := ⟨_, rfl⟩
   rw [<- ha] at I1 h1 HR
   rw [<- hb] at I2 h2 HR
   obtain ⟨q, hq⟩ : ∃ q : Int, q = ((u / 10 : Nat) : Int) := ⟨_, rfl⟩
   obtain ⟨r, hr⟩ : ∃ r : Int, r = ((u % 10 : Nat) : Int) := ⟨_, rfl⟩
   rw [<- hq] at I1 e1
   rw [<- hr] at I2 e2
   have hb6 : ¬ (9223372036854775807 < ((bs a).size : Int) + ((bs b).size : Int)) := by
    rw [Lib.size_eq, Lib.size_eq]
    show ¬ (9223372036854775807 < (a.length : Int) + (b.length : Int))
    omega
   clear h1 h2 ha hb hq hr ih
   go_enter Tryz.func49, Tryz.ntmps49
   go_wp2_with fail
   refine I1.out.mono ?_
   rintro e w1 ⟨rfl, hw1⟩
   rw [<- hw1]
   go_wp2_with fail
   refine (I2.out _).mono ?_
   rintro e w2 ⟨rfl, hw2⟩
   rw [<- hw2]
   go_wp2
   go_ret
   refine ⟨?_, by first | exact hw2 | exact hw1.trans hw2 | rfl⟩
   rw [HR.out]
   have : bs a ++ bs b = bs (a ++ b) := by apply ByteArray.ext; simp [bs]
   rw [<- this]
   rfl
theorem dig_any (n : Int) (w : World) (h0 : 0 <= n) (h1 : n <= 9223372036854775807) : Calls Tryz.prog 49 #[.int .i64 n] w (fun e w' => e = .returned (.string (bs (Lib.itoa n))) /\ w = w') := by
 obtain ⟨u, rfl⟩ : ∃ u : Nat, n = (u : Int) := ⟨n.toNat, by omega⟩
 rw [Lib.itoa_nonneg]
 exact digits_any u u w (Nat.le_refl _) (by omega)
def NN (l : List Int) : Prop := ∀ x ∈ l, 0 <= x /\ x <= 9223372036854775807
theorem NN.in64 {l : List Int} (h : NN l) : In64 l := fun x hx => by have := h x hx; omega
theorem wordsOf_any (l : List Int) (v : Value) (w : World) (hr : RD w eInt v l) (hn : l.length <= 1000000) (h64 : NN l) : Calls Tryz.prog 53 #[v] w (RetS (wordsF l noneB) w) := by
 obtain ⟨A, c, rfl, hc, hm⟩ := hr.shape
 have HR := hide hr
 clear hr
 go_enter Tryz.func53, Tryz.ntmps53
 go_wp2
 go_loopw [3, 8] (WdRel l w) (fun _ i _ => l.length - (intOf i).toNat)
 case atStart => exact ⟨0, by omega, rfl, OW.nil, Kp.refl _⟩
 case round =>
  obtain ⟨k, hk, rfl, ho, hkp⟩ := hrel
  have hi := ho.hi
  have HO := hide ho
  obtain ⟨u, hu⟩ : ∃ u, u = u3 := ⟨_, rfl⟩
  by_cases hlt : k < l.length
  ·obtain ⟨b, o, rfl, _, x0⟩ := (HR.out.kp hkp).int hlt
   obtain ⟨y, hy⟩ : ∃ y, y = l[k] := ⟨_, rfl⟩
   rw [<- hy] at x0
   have hy64 := h64 y (by rw [hy]; exact List.getElem_mem hlt)
   have HN : Hid ((l.take k).map (fun n => bs (Lib.itoa n)) ++ [bs (Lib.itoa y)] = (l.take (k + 1)).map (fun n => bs (Lib.itoa n))) := hide (by rw [List.take_succ_eq_append_getElem hlt, List.map_append, hy]; rfl)
   have HM1 : Hid ((((l.take k).map (fun n => bs (Lib.itoa n))).length + [bs (Lib.itoa y)].length) * 16 <= 140737488355328) := hide (by simp; omega)
   have HM2 : Hid (((l.take k).map (fun n => bs (Lib.itoa n))).length + [bs (Lib.itoa y)].length <= maxLen) := hide (by simp [maxLen]; omega)
   have HI := hide (dig_any y wr hy64.1 hy64.2)
   clear hy ho hu hy64
   go_wp2_with fail
   with_reducible refine HI.out.mono ?_
   rintro e w1 ⟨rfl, rfl⟩
   go_wp2_with (at_builtin; (with_reducible refine list_app (B := w.heap.size) (l := (l.take k).map (fun n => bs (Lib.itoa n))) (m := [bs (Lib.itoa y)]) row_str u3 ?_ (.tmp 12) (.tmp 15) ?_ ?_ ?_ ?_ HM1.out HM2.out ?_ ?_); (with_reducible rfl); (with_reducible rfl); rfl; ((with_reducible apply OW.alloc); exact HO.out); (show RD _ _ (.slice (some ⟨_, 0, Option.none⟩) 1 1) _; (exact RD.auto)); (have := hkp.size; simp; omega); intro v3 w3 ho3 hg3 hat3)
   go_roundw
   case rel => exact ⟨k + 1, by omega, by go_num, by rw [<- HN.out]; exact ho3, Kp.app hg3 hkp.alloc hi⟩
   case measure => simp [intOf]; omega
  ·have hkl : Hid ((l.take k).map (fun n => bs (Lib.itoa n)) = (l.map Lib.itoa).map bs) := hide (by rw [List.take_of_length_le (by omega), List.map_map]; rfl)
   have hrd := ho.rd
   rw [hkl.out] at hrd
   have hlm : (l.map Lib.itoa).length = l.length := List.length_map _
   have hjn := words_len l h64.in64
   have HJ := hide (join_any (l.map Lib.itoa) [32] u3 wr hrd (by rw [hlm]; omega) (by omega))
   obtain ⟨A5, c5, rfl, hc5, _⟩ := hrd.shape
   have hl2 : ((l.map Lib.itoa).map bs).length = l.length := by rw [List.length_map, List.length_map]
   rw [hl2] at HJ
   rw [hl2] at HO hi
   rw [hl2]
   clear ho hu hrd hi HO hkl hjn hc5 hlm hl2
   by_cases h0 : l = []
   ·have H1 : Hid (wordsF l noneB = noneB) := hide (by rw [wordsF, if_pos h0])
    subst h0
    go_wp2
    go_ret
    exact ⟨by rw [H1.out]; rfl, hkp⟩
   ·have H1 : Hid (wordsF l noneB = Lib.join (l.map Lib.itoa) [32]) := hide (by rw [wordsF, if_neg h0])
    have hl : 0 < l.length := List.length_pos_iff.2 h0
    have b0 : ((l.length : Int) == 0) = false := beq_eq_false_iff_ne.2 (by omega)
    clear h0
    go_wp2_with fail
    refine HJ.out.mono ?_
    rintro e w1 ⟨rfl, hk1⟩
    have hkp1 := hkp.trans hk1
    go_wp2
    go_ret
    exact ⟨by rw [H1.out]; rfl, hkp1⟩
def wOk (s : ByteArray) : Bool := decide (s.data.toList.length <= 7) && s.data.toList.all dig
def wV (s : ByteArray) : Int := (decV 0 s.data.toList : Int)
def numsF (l : List ByteArray) : Option (List Int) := if l.all wOk = true then some (l.map wV) else none
def NoPost (r : Option (List Int)) (w : World) (e : Ending) (w' : World) : Prop :=
 (match r with | some ns => ∃ v, e = .returned (.tuple #[v, .bool true]) /\ RD w' eInt v ns | none => e = .returned (.tuple #[.slice none 0 0, .bool false])) /\ Kp w w'
theorem decV_nil (acc : Nat) : decV acc [] = acc := by unfold decV; rfl
theorem decV_cons (acc : Nat) (b : UInt8) (r : By) : decV acc (b :: r) = decV (acc * 10 + (b.toNat - 48)) r := by
 conv => lhs; unfold decV
theorem decV_snoc (b : UInt8) (l : By) : ∀ acc, decV acc (l ++ [b]) = decV acc l * 10 + (b.toNat - 48) := by
 induction l with
 | nil => intro acc; rw [List.nil_append, decV_cons, decV_nil, decV_nil]
 | cons x l ih => intro acc; rw [List.cons_append, decV_cons, decV_cons, ih]
def NoRel (l : List ByteArray) (w : World) (ov iv : Value) (wr : World) : Prop := ∃ k : Nat, k <= l.length /\ iv = .int .i64 k /\ OW wr w.heap.size 3 eInt ov ((l.take k).map wV) /\ Kp w wr /\ (l.take k).all wOk = true
def NiRel (s : ByteArray) (w : World) (nv jv : Value) (wr : World) : Prop := ∃ j : Nat, j <= s.size /\ jv = .int .i64 j /\ nv = .int .i64 (decV 0 (s.data.toList.take j) : Int) /\ wr = w /\ (s.data.toList.take j).all dig = true /\ (0 < j -> s.size <= 7)
theorem all_no {l : List ByteArray} {k : Nat} (h : k < l.length) (hk : wOk l[k] = false) : numsF l = none := by
 rw [numsF, if_neg]
 intro h1
 rw [List.all_eq_true] at h1
 rw [h1 _ (List.getElem_mem h)] at hk
 cases hk
theorem numbersOf_any (l : List ByteArray) (v : Value) (w : World) (hr : RD w eStr v l) (hn : l.length <= 4294967296) (hs : ∀ s ∈ l, s.size <= 9223372036854775807) : Calls Tryz.prog 47 #[v] w (NoPost (numsF l) w) := by
 obtain ⟨A, c, rfl, hc, hm⟩ := hr.shape
 have HR := hide hr
 clear hr
 go_enter Tryz.func47, Tryz.ntmps47
 go_wp2
 go_loopw [4, 12] (NoRel l w) (fun _ i _ => l.length - (intOf i).toNat)
 case atStart => exact ⟨0, by omega, rfl, OW.nil, Kp.refl _, rfl⟩
 case round =>
  obtain ⟨k, hk, rfl, ho, hkp, hall⟩ := hrel
  have hi := ho.hi
  have HO := hide ho
  obtain ⟨u, hu⟩ : ∃ u, u = u4 := ⟨_, rfl⟩
  by_cases hlt : k < l.length
  ·obtain ⟨b, o, rfl, _, x0⟩ := (HR.out.kp hkp).str hlt
   have HNO : Hid (wOk l[k] = false -> numsF l = none) := hide (all_no hlt)
   have HTK : Hid (l.take (k + 1) = l.take k ++ [l[k]]) := hide (List.take_succ_eq_append_getElem hlt)
   obtain ⟨s, hsk⟩ : ∃ s, s = l[k] := ⟨_, rfl⟩
   rw [<- hsk] at x0 HNO HTK
   have hss := hs s (by rw [hsk]; exact List.getElem_mem hlt)
   have hcv : ∀ W : World, (convert 9 42 (.string s)).run Tryz.prog W = .ok (.slice (some ⟨W.heap.size, 0, none⟩) s.size (grownCap W s.size 0 5)) (Lib.bytesWorld W 5 s) := fun W => Lib.run_convert_string_bytes W _ _ _ s Tryz.underlying9 Tryz.underlying42 Tryz.underlying5
   have HSZ := hide (Lib.size_eq s)
   clear hsk ho hu
   go_wp2_with fail
   obtain ⟨W2, hW2⟩ : ∃ W2, W2 = Lib.bytesWorld wr 5 s := ⟨_, rfl⟩
   have hk2 : Kp wr W2 := by rw [hW2]; exact Kp.bytes (Kp.refl wr)
   have HBY : Hid (∀ j, j < s.size -> W2.cell? ⟨wr.heap.size, j, none⟩ = some (.int .u8 (s.data.toList.getD j 0).toNat)) := hide (by rw [hW2]; exact fun j hj => Lib.bytesWorld_cell wr _ s j hj)
   rw [<- hW2]
   obtain ⟨g, hg⟩ : ∃ g, g = wr.heap.size := ⟨_, rfl⟩
   obtain ⟨cap, hcap⟩ : ∃ cap, cap = grownCap wr s.size 0 5 := ⟨_, rfl⟩
   rw [<- hg] at HBY
   rw [<- hg, <- hcap]
   have HO2 := hide (HO.out.kp hk2)
   have HK2 := hide (hkp.trans hk2)
   clear hW2 hg hcap hcv x0 HO hk2 hkp
   go_loopw [7, 19] (NiRel s W2) (fun _ i _ => s.size - (intOf i).toNat)
   case atStart => exact ⟨0, by omega, rfl, rfl, rfl, rfl, fun h => absurd h (by omega)⟩
   case round =>
    obtain ⟨j, hj, rfl, rfl, rfl, hd, h7⟩ := hrel
    by_cases hjl : j < s.size
    ·have y0 := HBY.out j hjl
     have hj' : j < s.data.toList.length := by have := HSZ.out; omega
     obtain ⟨c0, hc0⟩ : ∃ c0, c0 = s.data.toList.getD j 0 := ⟨_, rfl⟩
     have hcj : s.data.toList[j] = c0 := by rw [hc0, List.getD_eq_getElem?_getD, List.getElem?_eq_getElem hj']; rfl
     have HT1 : Hid (s.data.toList.take (j + 1) = s.data.toList.take j ++ [c0]) := hide (by rw [List.take_succ_eq_append_getElem hj', hcj])
     have hmem : c0 ∈ s.data.toList := by rw [<- hcj]; exact List.getElem_mem hj'
     rw [<- hc0] at y0
     obtain ⟨C, hC⟩ : ∃ C : Int, C = (c0.toNat : Int) := ⟨_, rfl⟩
     have hC0 : 0 <= C /\ C < 256 := by have := c0.toNat_lt; omega
     rw [<- hC] at y0
     by_cases hdg : dig c0 = true
     ·have hcd := of_decide_eq_true hdg
      have HB : Hid (btw C 48 57 = true) := hide ((btw_iff _ _ _).2 (by omega))
      by_cases hl7 : 7 < s.size
      ·have dl : decide ((7 : Int) < s.size) = true := decide_eq_true (by omega)
       have HNO2 : Hid (numsF l = none) := hide (HNO.out (by unfold wOk; rw [decide_eq_false (by have := HSZ.out; omega)]; rfl))
       clear hcj hc0 hmem hdg hcd hC
       go_wp2_with fail
       refine (between_to _ _ _ true _ HB.out).mono ?_
       rintro e w5 ⟨rfl, rfl⟩
       go_wp2
       go_ret2
       exact ⟨by rw [HNO2.out]; rfl, HK2.out⟩
      ·have dl : decide ((7 : Int) < s.size) = false := decide_eq_false (by omega)
       have hlt7 : (s.data.toList.take j).length < 7 := by rw [List.length_take]; omega
       have hV := decV_lt (s.data.toList.take j) hd (by omega)
       have HVS : Hid (decV 0 (s.data.toList.take (j + 1)) = decV 0 (s.data.toList.take j) * 10 + (c0.toNat - 48)) := hide (by rw [HT1.out, decV_snoc])
       have hd2 : Hid ((s.data.toList.take (j + 1)).all dig = true) := hide (by rw [HT1.out, List.all_append, hd]; simp [hdg])
       obtain ⟨V, hVe⟩ : ∃ V : Int, V = (decV 0 (s.data.toList.take j) : Int) := ⟨_, rfl⟩
       have hw1 : IntKind.u8.wrap (C - 48) = C - 48 := IntWalk.u8_in _ (by omega)
       have hw2 : IntKind.i64.wrap (10 * V) = 10 * V := IntWalk.i64_in _ (by omega)
       have hw3 : IntKind.i64.wrap (10 * V + (C - 48)) = 10 * V + (C - 48) := IntWalk.i64_in _ (by omega)
       have HVE : Hid (10 * V + (C - 48) = (decV 0 (s.data.toList.take (j + 1)) : Int)) := hide (by rw [HVS.out]; omega)
       have HS7 : Hid (s.size <= 7) := hide (by omega)
       rw [<- hVe]
       clear hcj hc0 hmem hdg hcd hC hV hVe hlt7 hd
       go_wp2_with fail
       refine (between_to _ _ _ true _ HB.out).mono ?_
       rintro e w5 ⟨rfl, rfl⟩
       go_wp2
       go_roundw
       case rel => exact ⟨j + 1, by omega, by go_num, by rw [<- HVE.out], rfl, hd2.out, fun _ => HS7.out⟩
       case measure => simp [intOf]; omega
     ·have hdg0 : dig c0 = false := by simpa using hdg
      have hcd : ¬ (48 <= c0.toNat /\ c0.toNat <= 57) := fun h => hdg (decide_eq_true h)
      have HB : Hid (btw C 48 57 = false) := hide ((btw_f_iff _ _ _).2 (by omega))
      have HNO2 : Hid (numsF l = none) := hide (HNO.out (by
       unfold wOk
       rw [Bool.and_eq_false_iff]
       right
       rw [List.all_eq_false]
       exact ⟨c0, hmem, by simp [hdg0]⟩))
      clear hcj hc0 hmem hdg hdg0 hcd hC
      go_wp2_with fail
      refine (between_to _ _ _ false _ HB.out).mono ?_
      rintro e w5 ⟨rfl, rfl⟩
      go_wp2
      go_ret2
      exact ⟨by rw [HNO2.out]; rfl, HK2.out⟩
    ·have hje : j = s.data.toList.length := by have := HSZ.out; omega
     have HV : Hid ((decV 0 (s.data.toList.take j) : Int) = wV s) := hide (by rw [hje, List.take_length]; rfl)
     have HWO : Hid (wOk s = true) := hide (by
      rw [hje, List.take_length] at hd
      unfold wOk
      rw [hd, Bool.and_true]
      refine decide_eq_true ?_
      have := HSZ.out
      by_cases h0 : j = 0
      ·omega
      ·have := h7 (by omega); omega)
     obtain ⟨V, hVe⟩ : ∃ V : Int, V = (decV 0 (s.data.toList.take j) : Int) := ⟨_, rfl⟩
     rw [<- hVe] at HV
     rw [<- hVe]
     have HM1 : Hid ((((l.take k).map wV).length + [V].length) * 8 <= 140737488355328) := hide (by simp; omega)
     have HM2 : Hid (((l.take k).map wV).length + [V].length <= maxLen) := hide (by simp [maxLen]; omega)
     clear hje hd h7 hVe
     go_wp2_with (at_builtin; (with_reducible refine list_app (B := w.heap.size) (l := (l.take k).map wV) (m := [V]) row_int u4 ?_ (.tmp 39) (.tmp 41) ?_ ?_ ?_ ?_ HM1.out HM2.out ?_ ?_); (with_reducible rfl); (with_reducible rfl); rfl; ((with_reducible apply OW.alloc); exact HO2.out); (show RD _ _ (.slice (some ⟨_, 0, none⟩) 1 1) _; (exact RD.auto)); (have := HK2.out.size; simp; omega); intro v3 w3 ho3 hg3 hat3)
     go_roundw
     case rel => exact ⟨k + 1, by omega, by go_num, by rw [HTK.out, List.map_append, List.map_cons, List.map_nil, <- HV.out]; exact ho3, Kp.app hg3 HK2.out.alloc hi, by rw [HTK.out, List.all_append, hall]; simp [HWO.out]⟩
     case measure => simp [intOf]; omega
  ·have hkl : l.take k = l := List.take_of_length_le (by omega)
   have HNS : Hid (numsF l = some (l.map wV)) := hide (by rw [numsF, if_pos (by rw [<- hkl]; exact hall)])
   have HRD : Hid (RD wr eInt u4 (l.map wV)) := hide (by have := ho.rd; rw [hkl] at this; exact this)
   clear ho hu hkl
   go_wp2
   go_ret2
   exact ⟨by rw [HNS.out]; exact ⟨_, rfl, HRD.out⟩, hkp⟩
theorem cloneOps_any (l : List O3) (v : Value) (w : World) (hr : RD w eOp v l) (hn : l.length * 24 <= 140737488355328) : Calls Tryz.prog 50 #[v] w (RetOW 82 eOp l w) := by
 obtain ⟨A, c, rfl, hc, hm, hA, h3⟩ := id hr
 have he := fun W => Lib.run_eql_slice_nil (P := Tryz.prog) W 38 82 A l.length c 0 0 Tryz.underlying38
 have HR := hide hr
 clear hr h3
 cases A with
 | none =>
  have hc0 : c = 0 := hA rfl
  have hl : l = [] := List.eq_nil_of_length_eq_zero (by omega)
  subst hl
  subst hc0
  clear hA
  simp only [List.length_nil] at he ⊢
  go_enter Tryz.func50, Tryz.ntmps50
  go_wp2
  go_ret
  exact ⟨_, rfl, OW.nil, Below.refl _ _⟩
 | some a =>
  have HM1 : Hid ((([] : List O3).length + l.length) * 24 <= 140737488355328) := hide (by simp; omega)
  have HM2 : Hid (([] : List O3).length + l.length <= maxLen) := hide (by simp only [List.length_nil, Nat.zero_add]; exact Nat.le_trans hc hm)
  have HE : Hid (OW (w.alloc (.cells #[] 82)) w.heap.size 82 eOp (.slice (some ⟨w.heap.size, 0, none⟩) 0 0) ([] : List O3)) := hide (OW.empty (Nat.le_refl _))
  have HHI : Hi w.heap.size (.slice (some ⟨w.heap.size, 0, none⟩) 0 0) := fun k hk => by simp [Value.ownBlock] at hk; omega
  clear hA
  go_enter Tryz.func50, Tryz.ntmps50
  go_wp2_with (at_builtin; (with_reducible refine list_app (B := w.heap.size) (l := ([] : List O3)) (m := l) row_op (.slice (some ⟨w.heap.size, 0, none⟩) 0 0) ?_ (.tmp 5) (.tmp 6) ?_ ?_ ?_ ?_ HM1.out HM2.out ?_ ?_); (with_reducible rfl); (with_reducible rfl); rfl; (exact HE.out); (show RD _ _ (.slice (some a) l.length c) _; exact HR.out.alloc _); (simp); intro v3 w3 ho3 hg3 hat3)
  go_ret
  exact ⟨_, rfl, ho3, (Kp.app hg3 (Kp.refl w).alloc HHI).bel⟩
end Go.Proofs.YtcljlnagpjilaaaGreatDoor
