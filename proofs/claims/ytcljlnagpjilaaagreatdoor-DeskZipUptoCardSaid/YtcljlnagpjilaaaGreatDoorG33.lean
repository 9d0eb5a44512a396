/-
  Trees of the references that are only read (TR); hedgref.Spots: what it answers
  hedgref.Leaf: what it answers
  hedgref.Least, hedgref.Unleafed: what they answer
  hedgref.SortedKeys: what it answers
  hedgref.Leaf, Least, Unleafed, Grown, HeldOften, UnlikeKeys, SortedKeys: what they answer
  The document's trees are the packages' trees without values
  The document's grown tree is the package's without values
  Plain laws of zipped trees: which keys they hold; that they are the one tree of their keys
  Plain laws: run op by op the tree is the one of the keys that are there
  heap.above, heap.built: what they answer
  heap.spots and its closure: what they answer
  hedgref.HeapTree: what it answers
  The plain law of heap.built: who stands next above, by the stack, is who stands next above
  heap.Check, heap.Of: what they answer
  Plain laws
  hedgref.ZipTree: what it answers
  hedgref.EvenTree, inOrder, depthIn, DeepestOf: what they answer
  hedgref.DeepestOf, builtAnew: what they answer
-/
import Derived.Test.YtcljlnagpjilaaaGreatDoorG1
import Derived.Test.YtcljlnagpjilaaaGreatDoorG3
import Derived.Test.YtcljlnagpjilaaaGreatDoorG21
import Derived.Test.YtcljlnagpjilaaaGreatDoorG16
import Derived.Test.YtcljlnagpjilaaaGreatDoorG17
import Derived.Test.YtcljlnagpjilaaaGreatDoorG22
import Derived.Test.YtcljlnagpjilaaaGreatDoorG20
import Derived.Test.YtcljlnagpjilaaaGreatDoorG7
import Derived.Laws.EntriesVeiled
import Derived.Test.YtcljlnagpjilaaaGreatDoorG14
import Derived.Lib.MinMax

set_option linter.unusedVariables false
set_option linter.unusedSimpArgs false
set_option maxRecDepth 100000
set_option maxHeartbeats 8000000
namespace Go.Proofs.YtcljlnagpjilaaaGreatDoor
open Go.ChangeShapes Go.WideShapes Go.ChangeAt Go.RowKit
inductive T where
 | nil
 | node (k : Int) (l r : T)
def T.size : T -> Nat
 | .nil => 0
 | .node _ l r => l.size + 1 + r.size
def T.spots : T -> Int -> List IP
 | .nil, _ => []
 | .node k l r, d => l.spots (d + 1) ++ [(k, d)] ++ r.spots (d + 1)
theorem T.spots_len : ∀ (t : T) (d : Int), (t.spots d).length = t.size
 | .nil, _ => rfl
 | .node k l r, d => by simp [T.spots, T.size, T.spots_len l, T.spots_len r]; omega
def leafT : T -> Int -> T
 | .nil, k => .node k .nil .nil
 | .node a l r, k => if k < a then .node a (leafT l k) r else if a < k then .node a l (leafT r k) else .node a l r
def leastT : T -> Int
 | .nil => 0
 | .node a .nil _ => a
 | .node _ (.node b x y) _ => leastT (.node b x y)
def T.isN : T -> Bool
 | .nil => true
 | .node _ _ _ => false
def unlT : T -> Int -> T
 | .nil, _ => .nil
 | .node a l r, k => if k < a then .node a (unlT l k) r else if a < k then .node a l (unlT r k) else if l.isN then r else if r.isN then l else .node (leastT r) l (unlT r (leastT r))
def grS (t : T) (o : O3) (a : An) : T := if a.err ≠ 0 then t else if o.1 = 1 then leafT t o.2.1 else if o.1 = 3 then unlT t o.2.1 else t
def grT (z : List (O3 × An)) : T := z.foldl (fun t p => grS t p.1 p.2) .nil
theorem grT_snoc (z : List (O3 × An)) (k : Nat) (h : k < z.length) : grT (z.take (k + 1)) = grS (grT (z.take k)) z[k].1 z[k].2 := by
 rw [List.take_succ_eq_append_getElem h, grT, List.foldl_append]; rfl
def skel : MT IP -> T
 | .nil => .nil
 | .node a l r => .node a.1 (skel l) (skel r)
theorem skel_spots : ∀ (t : MT IP) (d : Int), (skel t).spots d = t.spotsBy Prod.fst d
 | .nil, _ => rfl
 | .node a l r, d => by simp [skel, T.spots, MT.spotsBy, skel_spots l, skel_spots r]
theorem skel_size : ∀ t : MT IP, (skel t).size = t.size
 | .nil => rfl
 | .node a l r => by simp [skel, T.size, MT.size, skel_size l, skel_size r]
theorem skel_isN : ∀ t : MT IP, (skel t).isN = true ↔ t = .nil
 | .nil => by simp [skel, T.isN]
 | .node a l r => by simp [skel, T.isN]
theorem skel_ins : ∀ (t : MT IP) (p : IP), leafT (skel t) p.1 = skel (ins t p)
 | .nil, p => rfl
 | .node a l r, p => by
  simp only [skel, leafT, ins]
  split
  ·simp [skel, skel_ins l]
  ·split
   ·simp [skel, skel_ins r]
   ·rfl
theorem skel_least : ∀ t : MT IP, leastT (skel t) = (minA t).1
 | .nil => rfl
 | .node a .nil r => rfl
 | .node a (.node b x y) r => by
  have := skel_least (.node b x y)
  rw [minA, <- this]; rfl
theorem skel_delMin : ∀ t : MT IP, Up (kM t) -> t ≠ .nil -> unlT (skel t) (minA t).1 = skel (delMin t)
 | .nil, _, h => absurd rfl h
 | .node a .nil r, _, _ => by
  simp only [skel, minA, delMin, unlT]
  rw [if_neg (by omega), if_neg (by omega)]; rfl
 | .node a (.node b x y) r, h, _ => by
  obtain ⟨h1, h2, h3, h4⟩ := up_node h
  have ih := skel_delMin (.node b x y) h1 (by simp)
  have hm : (minA (.node b x y)).1 < a.1 := h3 _ (by rw [kM_delMin]; simp)
  rw [minA, delMin]
  show unlT (.node a.1 (skel (.node b x y)) (skel r)) _ = _
  rw [unlT, if_pos hm, ih]; rfl
theorem skel_del : ∀ (t : MT IP) (k : Int), Up (kM t) -> unlT (skel t) k = skel (del t k)
 | .nil, _, _ => rfl
 | .node a l r, k, h => by
  obtain ⟨h1, h2, h3, h4⟩ := up_node h
  show unlT (.node a.1 (skel l) (skel r)) k = _
  rw [unlT, del]
  split
  ·rw [skel_del l k h1]; rfl
  ·split
   ·rw [skel_del r k h2]; rfl
   ·cases l with
    | nil => rfl
    | node c x y =>
     cases r with
     | nil => rfl
     | node d u z =>
      rw [if_neg (by rw [skel_isN]; simp), if_neg (by rw [skel_isN]; simp), skel_least, skel_delMin _ h2 (by simp), delTop_nn]
      rfl
theorem skel_growS {t : MT IP} (h : Up (kM t)) (o : O3) (a : An) : grS (skel t) o a = skel (growS t o a) := by
 unfold grS growS
 split
 ·rfl
 ·split
  ·exact skel_ins t (o.2.1, o.2.2)
  ·split
   ·exact skel_del t _ h
   ·rfl
theorem skel_grow (ops : List O3) : ∀ k, k <= ops.length -> grT ((opsZ ops).take k) = skel (growT ((opsZ ops).take k)) := by
 intro k
 induction k with
 | zero => intro _; rfl
 | succ k ih =>
  intro h
  have hz : (opsZ ops).length = ops.length := by
   have := runL_len ops ops.length (Nat.le_refl _)
   rw [List.take_length] at this
   rw [opsZ, List.length_zip, this]; omega
  rw [grT_snoc _ k (by omega), growT_snoc _ k (by omega), ih (by omega), skel_growS (grow_keys ops k (by omega)).2]
theorem skel_run (ops : List O3) : grT (ops.zip (runL ops).2) = skel (growT (opsZ ops)) := by
 have h := skel_grow ops ops.length (Nat.le_refl _)
 have hz : (opsZ ops).length = ops.length := by
  have := runL_len ops ops.length (Nat.le_refl _)
  rw [List.take_length] at this
  rw [opsZ, List.length_zip, this]; omega
 rw [List.take_of_length_le (by omega)] at h
 exact h
theorem ov_iff (a c : IP) : ov a c = true ↔ (c.2 < a.2 ∨ (a.2 = c.2 /\ a.1 < c.1)) := by simp [ov]
theorem ov_trans {a b c : IP} (h1 : ov a b = true) (h2 : ov b c = true) : ov a c = true := by
 rw [ov_iff] at *; omega
theorem ov_total {a c : IP} (h : ov a c = false) (hne : a.1 ≠ c.1) : ov c a = true := by
 have h' : ¬ (ov a c = true) := by simp [h]
 rw [ov_iff] at h' ⊢; omega
theorem ov_irr {a c : IP} (h1 : ov a c = true) (h2 : ov c a = true) : False := by
 rw [ov_iff] at *; omega
def nd : MT IP -> List IP
 | .nil => []
 | .node a l r => nd l ++ a :: nd r
def Hp : MT IP -> Prop
 | .nil => True
 | .node a l r => (∀ x ∈ nd l, ov a x = true) /\ (∀ x ∈ nd r, ov a x = true) /\ Hp l /\ Hp r
def UpN (L : List IP) : Prop := L.Pairwise (fun x y => x.1 < y.1)
theorem upN_node {a : IP} {l r : MT IP} (h : UpN (nd (.node a l r))) : UpN (nd l) /\ UpN (nd r) /\ (∀ x ∈ nd l, x.1 < a.1) /\ (∀ x ∈ nd r, a.1 < x.1) /\ ∀ x ∈ nd l, ∀ y ∈ nd r, x.1 < y.1 := by
 rw [UpN, nd, List.pairwise_append, List.pairwise_cons] at h
 obtain ⟨h1, ⟨h2, h3⟩, h4⟩ := h
 exact ⟨h1, h3, fun x hx => h4 x hx a (by simp), h2, fun x hx y hy => h4 x hx y (by simp [hy])⟩
theorem flt_all {p : IP -> Bool} {l : List IP} (h : ∀ x ∈ l, p x = true) : l.filter p = l := List.filter_eq_self.2 h
theorem flt_no {p : IP -> Bool} {l : List IP} (h : ∀ x ∈ l, p x = false) : l.filter p = [] := List.filter_eq_nil_iff.2 fun x hx => by simp [h x hx]
theorem nd_unz : ∀ (t : MT IP) (k : Int), UpN (nd t) -> nd (unz t k).1 = (nd t).filter (fun x => decide (x.1 < k)) /\ nd (unz t k).2 = (nd t).filter (fun x => !decide (x.1 < k))
 | .nil, _, _ => ⟨rfl, rfl⟩
 | .node a l r, k, h => by
  obtain ⟨h1, h2, h3, h4, _⟩ := upN_node h
  unfold unz
  split
  ·next hk =>
   obtain ⟨e1, e2⟩ := nd_unz r k h2
   have hl : ∀ x ∈ nd l, x.1 < k := fun x hx => by have := h3 x hx; omega
   constructor
   ·simp only [nd, List.filter_append, List.filter_cons, e1]
    rw [flt_all (l := nd l) (p := fun x => decide (x.1 < k)) (fun x hx => by simp [hl x hx])]; simp [hk]
   ·simp only [nd, List.filter_append, List.filter_cons, e2]
    rw [flt_no (l := nd l) (p := fun x => !decide (x.1 < k)) (fun x hx => by simp [hl x hx])]; simp [hk]
  ·next hk =>
   obtain ⟨e1, e2⟩ := nd_unz l k h1
   have hr : ∀ x ∈ nd r, ¬ x.1 < k := fun x hx => by have := h4 x hx; omega
   constructor
   ·simp only [nd, List.filter_append, List.filter_cons, e1]
    rw [flt_no (l := nd r) (p := fun x => decide (x.1 < k)) (fun x hx => by simp [hr x hx])]; simp [hk]
   ·simp only [nd, List.filter_append, List.filter_cons, e2]
    rw [flt_all (l := nd r) (p := fun x => !decide (x.1 < k)) (fun x hx => by simp [hr x hx])]; simp [hk]
theorem hp_unz : ∀ (t : MT IP) (k : Int), UpN (nd t) -> Hp t -> Hp (unz t k).1 /\ Hp (unz t k).2
 | .nil, _, _, _ => ⟨trivial, trivial⟩
 | .node a l r, k, h, ⟨p1, p2, p3, p4⟩ => by
  obtain ⟨h1, h2, _, _, _⟩ := upN_node h
  unfold unz
  split
  ·obtain ⟨e1, e2⟩ := nd_unz r k h2
   obtain ⟨i1, i2⟩ := hp_unz r k h2 p4
   exact ⟨⟨p1, fun x hx => p2 x (by simp only [e1, List.mem_filter] at hx; exact hx.1), p3, i1⟩, i2⟩
  ·obtain ⟨e1, e2⟩ := nd_unz l k h1
   obtain ⟨i1, i2⟩ := hp_unz l k h1 p3
   exact ⟨i1, fun x hx => p1 x (by simp only [e2, List.mem_filter] at hx; exact hx.1), p2, i2, p4⟩
theorem nd_zip : ∀ (n : Nat) (t u : MT IP), t.size + u.size <= n -> nd (zipM t u) = nd t ++ nd u
 | _, .nil, u, _ => by rw [zipM]; rfl
 | _, .node a l r, .nil, _ => by rw [zipM_nil]; simp [nd]
 | 0, .node a l r, .node c x y, h => by simp [MT.size] at h
 | n + 1, .node a l r, .node c x y, h => by
  simp only [MT.size] at h
  have h1 := nd_zip n r (.node c x y) (by simp only [MT.size]; omega)
  have h2 := nd_zip n (.node a l r) x (by simp only [MT.size]; omega)
  rw [zipM_node]
  split
  ·simp only [nd] at h1 ⊢; rw [h1]; simp
  ·simp only [nd] at h2 ⊢; rw [h2]; simp
theorem hp_zip : ∀ (n : Nat) (t u : MT IP), t.size + u.size <= n -> Hp t -> Hp u -> (∀ x ∈ nd t, ∀ y ∈ nd u, x.1 < y.1) -> Hp (zipM t u)
 | _, .nil, u, _, _, h, _ => by rw [zipM]; exact h
 | _, .node a l r, .nil, _, h, _, _ => by rw [zipM_nil]; exact h
 | 0, .node a l r, .node c x y, h, _, _, _ => by simp [MT.size] at h
 | n + 1, .node a l r, .node c x y, h, ⟨p1, p2, p3, p4⟩, ⟨q1, q2, q3, q4⟩, hlt => by
  simp only [MT.size] at h
  rw [zipM_node]
  have hac : a.1 < c.1 := hlt a (by simp [nd]) c (by simp [nd])
  split
  ·next ho =>
   refine ⟨p1, fun z hz => ?_, p3, hp_zip n r (.node c x y) (by simp only [MT.size]; omega) p4 ⟨q1, q2, q3, q4⟩ (fun z hz w hw => hlt z (by simp [nd, hz]) w hw)⟩
   rw [nd_zip _ r (.node c x y) (Nat.le_refl _)] at hz
   rcases List.mem_append.1 hz with hz | hz
   ·exact p2 z hz
   ·simp only [nd, List.mem_append, List.mem_cons] at hz
    rcases hz with hz | hz | hz
    ·exact ov_trans ho (q1 z hz)
    ·rw [hz]; exact ho
    ·exact ov_trans ho (q2 z hz)
  ·next ho =>
   have hca : ov c a = true := ov_total (by simpa using ho) (by omega)
   refine ⟨fun z hz => ?_, q2, hp_zip n (.node a l r) x (by simp only [MT.size]; omega) ⟨p1, p2, p3, p4⟩ q3 (fun z hz w hw => hlt z hz w (by simp [nd, hw])), q4⟩
   rw [nd_zip _ (.node a l r) x (Nat.le_refl _)] at hz
   rcases List.mem_append.1 hz with hz | hz
   ·simp only [nd, List.mem_append, List.mem_cons] at hz
    rcases hz with hz | hz | hz
    ·exact ov_trans hca (p1 z hz)
    ·rw [hz]; exact hca
    ·exact ov_trans hca (p2 z hz)
   ·exact q1 z hz
def ndIns (L : List IP) (p : IP) : List IP := L.filter (fun x => decide (x.1 < p.1)) ++ p :: L.filter (fun x => decide (p.1 < x.1))
theorem ndIns_mem {L : List IP} {p x : IP} (h : x ∈ ndIns L p) : x = p ∨ x ∈ L := by
 simp only [ndIns, List.mem_append, List.mem_cons, List.mem_filter] at h
 rcases h with h | h | h
 ·exact .inr h.1
 ·exact .inl h
 ·exact .inr h.1
theorem nd_put : ∀ (t : MT IP) (p : IP), UpN (nd t) -> Hp t -> (∀ x ∈ nd t, x.1 = p.1 -> x = p) -> nd (putM t p) = ndIns (nd t) p /\ Hp (putM t p)
 | .nil, p, _, _, _ => ⟨rfl, by simp [putM, Hp, nd]⟩
 | .node a l r, p, h, ⟨p1, p2, p3, p4⟩, hk => by
  obtain ⟨h1, h2, h3, h4, _⟩ := upN_node h
  unfold putM
  split
  ·next ho =>
   have hne : ¬ p.1 = a.1 := fun e => by
    have := hk a (by simp [nd]) e.symm
    rw [this] at ho; exact ov_irr ho ho
   rw [if_neg hne]
   split
   ·next hlt =>
    obtain ⟨i1, i2⟩ := nd_put l p h1 p3 (fun x hx => hk x (by simp [nd, hx]))
    refine ⟨?_, fun x hx => ?_, p2, i2, p4⟩
    ·simp only [nd, ndIns, List.filter_append, List.filter_cons] at i1 ⊢
     rw [i1, flt_no (l := nd r) (p := fun x => decide (x.1 < p.1)) (fun x hx => by have := h4 x hx; simp; omega), flt_all (l := nd r) (p := fun x => decide (p.1 < x.1)) (fun x hx => by have := h4 x hx; simp; omega)]
     simp [hlt, show ¬ a.1 < p.1 by omega]
    ·rw [i1] at hx
     rcases ndIns_mem hx with e | hx
     ·rw [e]; exact ho
     ·exact p1 x hx
   ·next hlt =>
    obtain ⟨i1, i2⟩ := nd_put r p h2 p4 (fun x hx => hk x (by simp [nd, hx]))
    refine ⟨?_, p1, fun x hx => ?_, p3, i2⟩
    ·simp only [nd, ndIns, List.filter_append, List.filter_cons] at i1 ⊢
     rw [i1, flt_all (l := nd l) (p := fun x => decide (x.1 < p.1)) (fun x hx => by have := h3 x hx; simp; omega), flt_no (l := nd l) (p := fun x => decide (p.1 < x.1)) (fun x hx => by have := h3 x hx; simp; omega)]
     simp [show a.1 < p.1 by omega, show ¬ p.1 < a.1 by omega]
    ·rw [i1] at hx
     rcases ndIns_mem hx with e | hx
     ·rw [e]; exact ho
     ·exact p2 x hx
  ·next ho =>
   split
   ·next he =>
    have e : a = p := hk a (by simp [nd]) he
    subst e
    refine ⟨?_, p1, p2, p3, p4⟩
    simp only [nd, ndIns, List.filter_append, List.filter_cons]
    rw [flt_all (l := nd l) (p := fun x => decide (x.1 < a.1)) (fun x hx => by have := h3 x hx; simp; omega), flt_no (l := nd l) (p := fun x => decide (a.1 < x.1)) (fun x hx => by have := h3 x hx; simp; omega), flt_no (l := nd r) (p := fun x => decide (x.1 < a.1)) (fun x hx => by have := h4 x hx; simp; omega), flt_all (l := nd r) (p := fun x => decide (a.1 < x.1)) (fun x hx => by have := h4 x hx; simp; omega)]
    simp
   ·next he =>
    have hpa : ov p a = true := ov_total (by simpa using ho) he
    have hall : ∀ x ∈ nd (.node a l r), ov p x = true := fun x hx => by
     simp only [nd, List.mem_append, List.mem_cons] at hx
     rcases hx with hx | hx | hx
     ·exact ov_trans hpa (p1 x hx)
     ·rw [hx]; exact hpa
     ·exact ov_trans hpa (p2 x hx)
    have hnk : ∀ x ∈ nd (.node a l r), x.1 ≠ p.1 := fun x hx e => by
     have e2 := hk x hx e
     have h9 := hall x hx
     rw [e2] at h9; exact ov_irr h9 h9
    obtain ⟨e1, e2⟩ := nd_unz (.node a l r) p.1 h
    obtain ⟨i1, i2⟩ := hp_unz (.node a l r) p.1 h ⟨p1, p2, p3, p4⟩
    refine ⟨?_, fun x hx => ?_, fun x hx => ?_, i1, i2⟩
    ·rw [nd, e1, e2, ndIns]
     congr 2
     apply List.filter_congr
     intro x hx
     have := hnk x hx
     rw [Bool.eq_iff_iff]; simp; omega
    ·rw [e1] at hx; exact hall x (List.mem_filter.1 hx).1
    ·rw [e2] at hx; exact hall x (List.mem_filter.1 hx).1
theorem nd_cut : ∀ (t : MT IP) (k : Int), UpN (nd t) -> Hp t -> nd (cutM t k) = (nd t).filter (fun x => !(x.1 == k)) /\ Hp (cutM t k)
 | .nil, _, _, _ => ⟨rfl, trivial⟩
 | .node a l r, k, h, ⟨p1, p2, p3, p4⟩ => by
  obtain ⟨h1, h2, h3, h4, h5⟩ := upN_node h
  unfold cutM
  split
  ·next hk =>
   obtain ⟨i1, i2⟩ := nd_cut l k h1 p3
   refine ⟨?_, fun x hx => p1 x ?_, p2, i2, p4⟩
   ·simp only [nd, List.filter_append, List.filter_cons, i1]
    rw [flt_all (l := nd r) (p := fun x => !(x.1 == k)) (fun x hx => by have := h4 x hx; simp; omega)]
    simp [show ¬ a.1 = k by omega]
   ·rw [i1] at hx; exact (List.mem_filter.1 hx).1
  ·split
   ·next hk =>
    obtain ⟨i1, i2⟩ := nd_cut r k h2 p4
    refine ⟨?_, p1, fun x hx => p2 x ?_, p3, i2⟩
    ·simp only [nd, List.filter_append, List.filter_cons, i1]
     rw [flt_all (l := nd l) (p := fun x => !(x.1 == k)) (fun x hx => by have := h3 x hx; simp; omega)]
     simp [show ¬ a.1 = k by omega]
    ·rw [i1] at hx; exact (List.mem_filter.1 hx).1
   ·next hk1 hk2 =>
    have e : a.1 = k := by omega
    refine ⟨?_, hp_zip _ l r (Nat.le_refl _) p3 p4 h5⟩
    rw [nd_zip _ l r (Nat.le_refl _)]
    simp only [nd, List.filter_append, List.filter_cons]
    rw [flt_all (l := nd l) (p := fun x => !(x.1 == k)) (fun x hx => by have := h3 x hx; simp; omega), flt_all (l := nd r) (p := fun x => !(x.1 == k)) (fun x hx => by have := h4 x hx; simp; omega)]
    simp [e]
structure ZI (T : MT IP) (ks : List Int) : Prop where
 nd_ : nd T = ks.map zk
 hp : Hp T
 up : Up ks
theorem zk_up {ks : List Int} (h : Up ks) : UpN (ks.map zk) := by
 rw [UpN, List.pairwise_map]; exact h
theorem ZI.put {T : MT IP} {ks : List Int} (h : ZI T ks) (k : Int) : ZI (putM T (zk k)) (ksIns ks k) := by
 have hu : UpN (nd T) := by rw [h.nd_]; exact zk_up h.up
 obtain ⟨h1, h2⟩ := nd_put T (zk k) hu h.hp (fun x hx e => by
  rw [h.nd_] at hx
  obtain ⟨y, _, rfl⟩ := List.mem_map.1 hx
  have : y = k := e
  rw [this])
 refine ⟨?_, h2, up_ins h.up k⟩
 rw [h1, h.nd_, ndIns, ksIns, List.filter_map, List.filter_map]
 simp [Function.comp_def, zk]
 rfl
theorem ZI.cut {T : MT IP} {ks : List Int} (h : ZI T ks) (k : Int) : ZI (cutM T k) (ksDel ks k) := by
 have hu : UpN (nd T) := by rw [h.nd_]; exact zk_up h.up
 obtain ⟨h1, h2⟩ := nd_cut T k hu h.hp
 refine ⟨?_, h2, up_del h.up k⟩
 rw [h1, h.nd_, ksDel, List.filter_map]
 simp [Function.comp_def, zk]
theorem zip_inv (ops : List O3) : ∀ k, k <= ops.length -> ZI (zrT ((opsA ops).take k)) ((runL (ops.take k)).1.map Prod.fst) := by
 have hal := runL_len ops ops.length (Nat.le_refl _)
 rw [List.take_length] at hal
 have hzl : (opsA ops).length = ops.length := by rw [opsA, List.length_zip, hal]; omega
 intro k
 induction k with
 | zero => intro _; exact ⟨rfl, trivial, .nil⟩
 | succ k ih =>
  intro hk
  have h1 := ih (by omega)
  have hz : (opsA ops)[k]'(by omega) = (ops[k], (runL ops).2[k]'(by omega)) := by simp [opsA]
  have ha := runL_ans ops k (by omega) ops.length (by omega) (Nat.le_refl _)
  simp only [List.take_length] at ha
  have ha' := ha (by omega)
  have hr := runL_right ops k (by omega)
  have hd := doA_keys (runL (ops.take k)).1 ops[k].1 ops[k].2.1 ops[k].2.2 hr
  rw [zrT_snoc _ k (by omega), hz, runL_take ops k (by omega), runS]
  simp only
  rw [hd, zrS, ha']
  split
  ·exact h1
  ·split
   ·exact h1.put _
   ·split
    ·exact h1.cut _
    ·exact h1
theorem zip_inv_all (ops : List O3) : ZI (zrT (opsA ops)) ((runL ops).1.map Prod.fst) := by
 have h := zip_inv ops ops.length (Nat.le_refl _)
 have hal := runL_len ops ops.length (Nat.le_refl _)
 rw [List.take_length] at hal h
 rwa [List.take_of_length_le (by rw [opsA, List.length_zip, hal]; omega)] at h
def hd (st : List Nat) : Int := match st with | [] => -1 | t :: _ => (t : Int)
def dl (l : List IP) (D : Nat -> Int) : List IP := (List.range l.length).map fun k => ((l.getD k (0, 0)).1, D k)
def amax (l : List IP) : Nat -> Nat -> Nat -> Nat
 | 0, _, at_ => at_
 | n + 1, k, at_ => amax l n (k + 1) (if (l.getD at_ (0, 0)).2 < (l.getD k (0, 0)).2 then k else at_)
def top (l : List IP) : Nat := amax l l.length 0 0
theorem amax_lt (l : List IP) : ∀ n k a, a < l.length -> k + n <= l.length -> amax l n k a < l.length
 | 0, _, a, h, _ => h
 | n + 1, k, a, h, hk => by
  unfold amax
  split
  ·exact amax_lt l n (k + 1) k (by omega) (by omega)
  ·exact amax_lt l n (k + 1) a h (by omega)
theorem top_lt (l : List IP) (h : l ≠ []) : top l < l.length := amax_lt l l.length 0 0 (List.length_pos_iff.2 h) (by omega)
def heapTree (l : List IP) : T :=
 if h : l = [] then .nil
 else
  have := top_lt l h
  .node (l[top l]'(top_lt l h)).1 (heapTree (l.take (top l))) (heapTree (l.drop (top l + 1)))
termination_by l.length
decreasing_by
 ·simp; omega
 ·simp; omega
theorem heapTree_nil : heapTree [] = .nil := by rw [heapTree]; simp
theorem heapTree_cons (l : List IP) (h : l ≠ []) : heapTree l = .node (l[top l]'(top_lt l h)).1 (heapTree (l.take (top l))) (heapTree (l.drop (top l + 1))) := by
 rw [heapTree, dif_neg h]
theorem amax_last (l : List IP) : ∀ m k a, amax l (m + 1) k a = (if (l.getD (amax l m k a) (0, 0)).2 < (l.getD (k + m) (0, 0)).2 then k + m else amax l m k a)
 | 0, k, a => by simp [amax]
 | m + 1, k, a => by
  rw [amax, amax_last l m (k + 1), show k + 1 + m = k + (m + 1) from by omega]
  rfl
theorem amax_ge (l : List IP) : ∀ m k a, k + m <= l.length -> a < l.length -> (∀ j, j < k -> (l.getD j (0, 0)).2 <= (l.getD a (0, 0)).2) -> ∀ j, j < k + m -> (l.getD j (0, 0)).2 <= (l.getD (amax l m k a) (0, 0)).2
 | 0, k, a, _, _, h, j, hj => h j hj
 | m + 1, k, a, hk, ha, h, j, hj => by
  rw [amax]
  split
  ·rename_i hlt
   exact amax_ge l m (k + 1) k (by omega) (by omega) (fun i hi => by
    rcases Nat.lt_or_ge i k with h1 | h1
    ·have := h i h1; omega
    ·obtain rfl : i = k := by omega
     omega) j (by omega)
  ·rename_i hlt
   exact amax_ge l m (k + 1) a (by omega) ha (fun i hi => by
    rcases Nat.lt_or_ge i k with h1 | h1
    ·exact h i h1
    ·obtain rfl : i = k := by omega
     omega) j (by omega)
theorem top_ge (l : List IP) (h : l ≠ []) (j : Nat) (hj : j < l.length) : l[j].2 <= (l[top l]'(top_lt l h)).2 := by
 have := amax_ge l l.length 0 0 (by omega) (List.length_pos_iff.2 h) (fun j hj => by omega) j (by omega)
 have ht := top_lt l h
 unfold top at ht ⊢
 simp only [List.getD_eq_getElem?_getD, List.getElem?_eq_getElem hj, List.getElem?_eq_getElem ht, Option.getD_some] at this
 exact this
def ptree (l : List IP) (off : Nat) : PT :=
 if h : l = [] then .nil
 else
  have := top_lt l h
  .node (off + top l) (ptree (l.take (top l)) off) (ptree (l.drop (top l + 1)) (off + top l + 1))
termination_by l.length
decreasing_by
 ·simp; omega
 ·simp; omega
def hD (l : List IP) (k : Nat) : Int := ((ptree l 0).deps 0).getD k 0
def skZ : MT IP -> T
 | .nil => .nil
 | .node a l r => .node a.1 (skZ l) (skZ r)
theorem skZ_spots : ∀ (t : MT IP) (d : Int), (skZ t).spots d = t.spotsBy Prod.fst d
 | .nil, _ => rfl
 | .node a l r, d => by simp [skZ, T.spots, MT.spotsBy, skZ_spots l, skZ_spots r]
theorem amax_first (l : List IP) : ∀ m, m <= l.length -> 0 < l.length -> amax l m 0 0 < max 1 m /\ ∀ j, j < amax l m 0 0 -> (l.getD j (0, 0)).2 < (l.getD (amax l m 0 0) (0, 0)).2 := by
 intro m
 induction m with
 | zero => intro _ _; simp [amax]
 | succ m ih =>
  intro h1 h2
  obtain ⟨i1, i2⟩ := ih (by omega) h2
  have hg := amax_ge l m 0 0 (by omega) h2 (fun j hj => by omega)
  rw [amax_last, Nat.zero_add]
  split
  ·next hlt =>
   refine ⟨by omega, fun j hj => ?_⟩
   have := hg j (by omega)
   omega
  ·exact ⟨by omega, i2⟩
theorem top_first (l : List IP) (h : l ≠ []) (j : Nat) (hj : j < top l) : (l[j]'(Nat.lt_trans hj (top_lt l h))).2 < (l[top l]'(top_lt l h)).2 := by
 have hl := top_lt l h
 have h0 : 0 < l.length := by omega
 have := (amax_first l l.length (Nat.le_refl _) h0).2 j hj
 simpa [top, List.getD_eq_getElem?_getD, List.getElem?_eq_getElem (show j < l.length by omega), List.getElem?_eq_getElem (show amax l l.length 0 0 < l.length from hl)] using this
theorem heapTree_nd : ∀ t : MT IP, Hp t -> UpN (nd t) -> heapTree (nd t) = skZ t
 | .nil, _, _ => by rw [nd, heapTree_nil]; rfl
 | .node a l r, ⟨p1, p2, p3, p4⟩, hu => by
  obtain ⟨u1, u2, u3, u4, _⟩ := upN_node hu
  have hne : nd (.node a l r) ≠ [] := by simp [nd]
  have hlen : (nd (.node a l r)).length = (nd l).length + 1 + (nd r).length := by simp [nd]; omega
  have hat : ∀ h : (nd l).length < (nd (.node a l r)).length, (nd (.node a l r))[(nd l).length]'h = a := fun h => by simp [nd]
  have hxl : ∀ j (h : j < (nd (.node a l r)).length) (h1 : j < (nd l).length), (nd (.node a l r))[j] = (nd l)[j] := fun j h h1 => by simp only [nd]; rw [List.getElem_append_left h1]
  have hxr : ∀ j (h : j < (nd (.node a l r)).length), (nd l).length < j -> (nd (.node a l r))[j] ∈ nd r := fun j h h1 => by
   have e : (nd (.node a l r))[j] = (nd r)[j - ((nd l).length + 1)]'(by omega) := by
    simp only [nd]
    rw [List.getElem_append_right (by omega), List.getElem_cons, dif_neg (by omega)]
    congr 1
   rw [e]; exact List.getElem_mem _
  have htl := top_lt _ hne
  have hn : (nd l).length < (nd (.node a l r)).length := by omega
  have htop : top (nd (.node a l r)) = (nd l).length := by
   have g1 := top_ge _ hne _ hn
   rw [hat hn] at g1
   rcases Nat.lt_trichotomy (top (nd (.node a l r))) (nd l).length with h1 | h1 | h1
   ·exfalso
    have hx := hxl _ htl h1
    have ho := p1 _ (List.getElem_mem h1)
    have hk := u3 _ (List.getElem_mem h1)
    rw [ov_iff] at ho
    rw [hx] at g1
    omega
   ·exact h1
   ·exfalso
    have g2 := top_first _ hne _ h1
    rw [hat hn] at g2
    have hx := hxr _ htl h1
    have ho := p2 _ hx
    rw [ov_iff] at ho
    omega
  rw [heapTree_cons _ hne]
  have e1 : (nd (.node a l r)).take (nd l).length = nd l := by simp [nd]
  have e2 : (nd (.node a l r)).drop ((nd l).length + 1) = nd r := by
   rw [nd, show nd l ++ a :: nd r = (nd l ++ [a]) ++ nd r by simp]
   exact List.drop_left' (by simp)
  have e3 : (nd (.node a l r))[top (nd (.node a l r))] = a := by
   have := hat hn
   simp only [htop]
   exact this
  rw [e3, htop, e1, e2, heapTree_nd l p3 u1, heapTree_nd r p4 u2]
  rfl
theorem keysM_nd : ∀ t : MT IP, keysM Prod.fst t = (nd t).map Prod.fst
 | .nil => rfl
 | .node a l r => by simp [keysM, nd, keysM_nd l, keysM_nd r]
end Go.Proofs.YtcljlnagpjilaaaGreatDoor
