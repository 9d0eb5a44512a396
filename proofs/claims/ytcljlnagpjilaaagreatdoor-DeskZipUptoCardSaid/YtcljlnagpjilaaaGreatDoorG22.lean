/-
  The keys of a list behind ops: plain laws
  Plain laws: op by op the tree has just the keys of the list
  The tree that is built anew where it is too deep: plain words and laws
  goat.even, goat.size, goat.spots: what they answer
  slices.Grow of nil, slices.Concat: what they answer
  slices.Grow of nil, slices.Concat of ints: what they answer
  goat.keys, goat.told, goat.deepest, goat.Deepest, goat.Even: what they answer
  Laws of the tree that is built anew: its keys, how deep it is, how much was built
  The yard in memory; a way down to a link, kept, taken back up; the links that were met
  goat.yard.anew: what it leaves
-/
import Derived.Test.YtcljlnagpjilaaaGreatDoorG20
import Derived.Test.YtcljlnagpjilaaaGreatDoorG9
import Derived.Test.YtcljlnagpjilaaaGreatDoorG17
import Derived.Test.YtcljlnagpjilaaaGreatDoorG21
import Derived.Test.YtcljlnagpjilaaaGreatDoorG16
import Derived.Test.YtcljlnagpjilaaaGreatDoorG14
import Derived.Lib.AppendZeros
import Derived.Lib.SliceRun

set_option linter.unusedVariables false
set_option linter.unusedSimpArgs false
set_option maxRecDepth 100000
set_option maxHeartbeats 8000000
namespace Go.Proofs.YtcljlnagpjilaaaGreatDoor
open Go.ChangeShapes Go.WideShapes Go.ChangeAt Go.RowKit
def ksIns (ks : List Int) (k : Int) : List Int := ks.filter (fun x => decide (x < k)) ++ [k] ++ ks.filter (fun x => decide (k < x))
def ksDel (ks : List Int) (k : Int) : List Int := ks.filter fun x => !(x == k)
def Up (ks : List Int) : Prop := ks.Pairwise (fun a b => a < b)
theorem filter_all {p : Int -> Bool} {l : List Int} (h : ∀ x ∈ l, p x = true) : l.filter p = l := List.filter_eq_self.2 h
theorem filter_no {p : Int -> Bool} {l : List Int} (h : ∀ x ∈ l, p x = false) : l.filter p = [] := List.filter_eq_nil_iff.2 fun x hx => by simp [h x hx]
theorem up_ins {ks : List Int} (h : Up ks) (k : Int) : Up (ksIns ks k) := by
 unfold Up ksIns at *
 rw [List.pairwise_append, List.pairwise_append]
 refine ⟨⟨h.filter _, by simp, fun x hx y hy => ?_⟩, h.filter _, fun x hx y hy => ?_⟩
 ·simp at hx hy; omega
 ·simp only [List.mem_append, List.mem_filter, List.mem_singleton, decide_eq_true_eq] at hx hy
  rcases hx with ⟨_, hx⟩ | hx <;> omega
theorem up_del {ks : List Int} (h : Up ks) (k : Int) : Up (ksDel ks k) := h.filter _
theorem doA_keys (l : List IP) (kind key val : Int) (h : mapRight l = 0) :
  (doA l kind key val).1.map Prod.fst = if (doA l kind key val).2.err ≠ 0 then l.map Prod.fst else if kind = 1 then ksIns (l.map Prod.fst) key else if kind = 3 then ksDel (l.map Prod.fst) key else l.map Prod.fst := by
 have hr := rise_of h
 rw [doA, if_pos h, doL]
 by_cases hb : ¬ (1 <= kind /\ kind <= 7) ∨ (kind <= 5 /\ ¬ (0 <= key /\ key <= 1000000))
 ·rw [if_pos hb]; simp
 ·rw [if_neg hb]
  obtain ⟨T, M, D, hl, htd, hT, hD, hM⟩ := td_of l hr key
  have eT1 : (T.map Prod.fst).filter (fun x => decide (x < key)) = T.map Prod.fst := filter_all fun x hx => by obtain ⟨p, hp, rfl⟩ := List.mem_map.1 hx; have := htd.lt p hp; simp; omega
  have eT2 : (T.map Prod.fst).filter (fun x => decide (key < x)) = [] := filter_no fun x hx => by obtain ⟨p, hp, rfl⟩ := List.mem_map.1 hx; have := htd.lt p hp; simp; omega
  have eD1 : (D.map Prod.fst).filter (fun x => decide (x < key)) = [] := filter_no fun x hx => by obtain ⟨p, hp, rfl⟩ := List.mem_map.1 hx; have := htd.gt p hp; simp; omega
  have eD2 : (D.map Prod.fst).filter (fun x => decide (key < x)) = D.map Prod.fst := filter_all fun x hx => by obtain ⟨p, hp, rfl⟩ := List.mem_map.1 hx; have := htd.gt p hp; simp; omega
  have eT3 : (T.map Prod.fst).filter (fun x => !(x == key)) = T.map Prod.fst := filter_all fun x hx => by obtain ⟨p, hp, rfl⟩ := List.mem_map.1 hx; have := htd.lt p hp; simp; omega
  have eD3 : (D.map Prod.fst).filter (fun x => !(x == key)) = D.map Prod.fst := filter_all fun x hx => by obtain ⟨p, hp, rfl⟩ := List.mem_map.1 hx; have := htd.gt p hp; simp; omega
  by_cases k1 : kind = 1
  ·rw [if_pos k1]
   rcases hM with rfl | ⟨u, rfl⟩
   ·rw [List.append_nil] at hl
    rw [hl, htd.put_no]
    by_cases h2 : (T ++ D).length = 200
    ·rw [if_pos h2]; simp
    ·rw [if_neg h2]
     simp only [ne_eq, not_true_eq_false, if_false]
     rw [if_pos k1]
     simp [ksIns, List.filter_append, eT1, eT2, eD1, eD2]
   ·rw [hl, htd.put_one]
    simp only [ne_eq, not_true_eq_false, if_false]
    rw [if_pos k1]
    simp [ksIns, List.filter_append, List.filter_cons, eT1, eT2, eD1, eD2]
  ·rw [if_neg k1]
   by_cases k2 : kind = 2
   ·rw [if_pos k2]
    have h3 : ¬ kind = 3 := by omega
    simp only
    rw [if_neg k1, if_neg h3]
    split <;> rfl
   ·rw [if_neg k2]
    by_cases k3 : kind = 3
    ·rw [if_pos k3]
     have hc : (if hasKey l key = true then (l.take (below l key) ++ l.drop (below l key + 1), (⟨0, 0, gv l (below l key), true⟩ : An)) else (l, ⟨0, 0, 0, false⟩)) = cutL l key := rfl
     rw [hc]
     rcases hM with rfl | ⟨u, rfl⟩
     ·rw [List.append_nil] at hl
      rw [hl, htd.cut_no]
      simp only [ne_eq, not_true_eq_false, if_false]
      rw [if_neg k1, if_pos k3]
      simp [ksDel, List.filter_append, eT3, eD3]
     ·rw [hl, htd.cut_one]
      simp only [ne_eq, not_true_eq_false, if_false]
      rw [if_neg k1, if_pos k3]
      simp [ksDel, List.filter_append, List.filter_cons, eT3, eD3]
    ·rw [if_neg k3]
     have hno : ∀ a : An, (if a.err ≠ 0 then l.map Prod.fst else if kind = 1 then ksIns (l.map Prod.fst) key else if kind = 3 then ksDel (l.map Prod.fst) key else l.map Prod.fst) = l.map Prod.fst := fun a => by
      rw [if_neg k1, if_neg k3]; split <;> rfl
     by_cases k4 : kind = 4
     ·rw [if_pos k4]; exact (hno _).symm
     ·rw [if_neg k4]
      by_cases k5 : kind = 5
      ·rw [if_pos k5]; exact (hno _).symm
      ·rw [if_neg k5]
       by_cases k6 : kind = 6
       ·rw [if_pos k6]; exact (hno _).symm
       ·rw [if_neg k6]; exact (hno _).symm
theorem runL_ans (ops : List O3) (k : Nat) (hk : k < ops.length) : ∀ m, k < m -> m <= ops.length -> ∀ h : k < (runL (ops.take m)).2.length, (runL (ops.take m)).2[k] = (doA (runL (ops.take k)).1 ops[k].1 ops[k].2.1 ops[k].2.2).2 := by
 intro m
 induction m with
 | zero => intro h; omega
 | succ m ih =>
  intro h1 h2 h
  have hl := runL_len ops m (by omega)
  have e : (runL (ops.take (m + 1))).2 = (runL (ops.take m)).2 ++ [(doA (runL (ops.take m)).1 ops[m].1 ops[m].2.1 ops[m].2.2).2] := by rw [runL_take ops m (by omega)]; rfl
  rcases Nat.lt_or_ge k m with h3 | h3
  ·have := ih h3 (by omega) (by omega)
   simp only [e]
   rw [List.getElem_append_left (by omega)]
   exact this
  ·have : k = m := by omega
   subst this
   simp only [e]
   rw [List.getElem_append_right (by omega)]
   simp [hl]
def kM (T : MT IP) : List Int := keysM Prod.fst T
theorem kM_node (a : IP) (l r : MT IP) : kM (.node a l r) = kM l ++ [a.1] ++ kM r := rfl
theorem up_node {a : IP} {l r : MT IP} (h : Up (kM (.node a l r))) : Up (kM l) /\ Up (kM r) /\ (∀ x ∈ kM l, x < a.1) /\ ∀ x ∈ kM r, a.1 < x := by
 rw [kM_node] at h
 unfold Up at h
 rw [List.pairwise_append, List.pairwise_append] at h
 obtain ⟨⟨h1, _, h2⟩, h3, h4⟩ := h
 exact ⟨h1, h3, fun x hx => h2 x hx a.1 (by simp), fun x hx => h4 a.1 (by simp) x hx⟩
theorem kM_ins : ∀ (T : MT IP) (p : IP), Up (kM T) -> kM (ins T p) = ksIns (kM T) p.1
 | .nil, p, _ => rfl
 | .node a l r, p, h => by
  obtain ⟨h1, h2, h3, h4⟩ := up_node h
  have ihl := kM_ins l p h1
  have ihr := kM_ins r p h2
  rw [ins, kM_node a l r]
  unfold ksIns at ihl ihr ⊢
  by_cases hlt : p.1 < a.1
  ·rw [if_pos hlt, kM_node, ihl]
   have e1 : (kM r).filter (fun x => decide (x < p.1)) = [] := filter_no fun x hx => by have := h4 x hx; simp; omega
   have e2 : (kM r).filter (fun x => decide (p.1 < x)) = kM r := filter_all fun x hx => by have := h4 x hx; simp; omega
   simp [List.filter_append, List.filter_cons, e1, e2, hlt, show ¬ a.1 < p.1 by omega]
  ·rw [if_neg hlt]
   by_cases hgt : a.1 < p.1
   ·rw [if_pos hgt, kM_node, ihr]
    have e1 : (kM l).filter (fun x => decide (x < p.1)) = kM l := filter_all fun x hx => by have := h3 x hx; simp; omega
    have e2 : (kM l).filter (fun x => decide (p.1 < x)) = [] := filter_no fun x hx => by have := h3 x hx; simp; omega
    simp [List.filter_append, List.filter_cons, e1, e2, hlt, hgt]
   ·rw [if_neg hgt, kM_node]
    have he : a.1 = p.1 := by omega
    have e1 : (kM l).filter (fun x => decide (x < p.1)) = kM l := filter_all fun x hx => by have := h3 x hx; simp; omega
    have e2 : (kM l).filter (fun x => decide (p.1 < x)) = [] := filter_no fun x hx => by have := h3 x hx; simp; omega
    have e3 : (kM r).filter (fun x => decide (x < p.1)) = [] := filter_no fun x hx => by have := h4 x hx; simp; omega
    have e4 : (kM r).filter (fun x => decide (p.1 < x)) = kM r := filter_all fun x hx => by have := h4 x hx; simp; omega
    simp [List.filter_append, List.filter_cons, e1, e2, e3, e4, he]
theorem kM_delMin : ∀ (a : IP) (l r : MT IP), kM (.node a l r) = (minA (.node a l r)).1 :: kM (delMin (.node a l r))
 | a, .nil, r => by simp [kM_node, minA, delMin]; rfl
 | a, .node b x y, r => by
  have ih := kM_delMin b x y
  rw [kM_node a, ih, minA, delMin, kM_node]
  simp
theorem kM_delTop (l r : MT IP) : kM (delTop l r) = kM l ++ kM r := by
 cases l with
 | nil => rfl
 | node a x y =>
  cases r with
  | nil => simp [delTop]; rfl
  | node b u v => rw [delTop_nn, kM_node (minA _), kM_delMin b u v]; simp
theorem kM_del : ∀ (T : MT IP) (k : Int), Up (kM T) -> kM (del T k) = ksDel (kM T) k
 | .nil, k, _ => rfl
 | .node a l r, k, h => by
  obtain ⟨h1, h2, h3, h4⟩ := up_node h
  have ihl := kM_del l k h1
  have ihr := kM_del r k h2
  rw [del, kM_node a l r]
  unfold ksDel at ihl ihr ⊢
  by_cases hlt : k < a.1
  ·rw [if_pos hlt, kM_node, ihl]
   have e1 : (kM r).filter (fun x => !(x == k)) = kM r := filter_all fun x hx => by have := h4 x hx; simp; omega
   simp [List.filter_append, List.filter_cons, e1, show ¬ a.1 = k by omega]
  ·rw [if_neg hlt]
   by_cases hgt : a.1 < k
   ·rw [if_pos hgt, kM_node, ihr]
    have e1 : (kM l).filter (fun x => !(x == k)) = kM l := filter_all fun x hx => by have := h3 x hx; simp; omega
    simp [List.filter_append, List.filter_cons, e1, show ¬ a.1 = k by omega]
   ·rw [if_neg hgt, kM_delTop]
    have he : a.1 = k := by omega
    have e1 : (kM l).filter (fun x => !(x == k)) = kM l := filter_all fun x hx => by have := h3 x hx; simp; omega
    have e2 : (kM r).filter (fun x => !(x == k)) = kM r := filter_all fun x hx => by have := h4 x hx; simp; omega
    simp [List.filter_append, List.filter_cons, e1, e2, he]
theorem kM_growS (T : MT IP) (o : O3) (a : An) (h : Up (kM T)) : kM (growS T o a) = if a.err ≠ 0 then kM T else if o.1 = 1 then ksIns (kM T) o.2.1 else if o.1 = 3 then ksDel (kM T) o.2.1 else kM T := by
 unfold growS
 split
 ·rfl
 ·split
  ·exact kM_ins T _ h
  ·split
   ·exact kM_del T _ h
   ·rfl
theorem grow_keys (ops : List O3) : ∀ k, k <= ops.length -> kM (growT ((opsZ ops).take k)) = (runL (ops.take k)).1.map Prod.fst /\ Up (kM (growT ((opsZ ops).take k))) := by
 have hal := runL_len ops ops.length (Nat.le_refl _)
 rw [List.take_length] at hal
 have hzl : (opsZ ops).length = ops.length := by rw [opsZ, List.length_zip, hal]; omega
 intro k
 induction k with
 | zero => intro _; exact ⟨rfl, .nil⟩
 | succ k ih =>
  intro hk
  obtain ⟨h1, h2⟩ := ih (by omega)
  have hz : (opsZ ops)[k]'(by omega) = (ops[k], (runL ops).2[k]'(by omega)) := by simp [opsZ]
  have ha := runL_ans ops k (by omega) ops.length (by omega) (Nat.le_refl _)
  simp only [List.take_length] at ha
  have ha' := ha (by omega)
  have hr := runL_right ops k (by omega)
  have hd := doA_keys (runL (ops.take k)).1 ops[k].1 ops[k].2.1 ops[k].2.2 hr
  have hs := kM_growS (growT ((opsZ ops).take k)) ops[k] ((runL ops).2[k]'(by omega)) h2
  have e1 : kM (growT ((opsZ ops).take (k + 1))) = (runL (ops.take (k + 1))).1.map Prod.fst := by
   rw [growT_snoc _ k (by omega), hz]
   simp only
   rw [hs, runL_take ops k (by omega), runS]
   simp only
   rw [hd, ha', h1]
  refine ⟨e1, ?_⟩
  rw [growT_snoc _ k (by omega), hz]
  simp only
  rw [hs]
  split
  ·exact h2
  ·split
   ·exact up_ins h2 _
   ·split
    ·exact up_del h2 _
    ·exact h2
theorem grow_right (ops : List O3) : (parOf ((growT (opsZ ops)).spotsBy Prod.fst 0)).2 = 0 /\ ((growT (opsZ ops)).spotsBy Prod.fst 0).map Prod.fst = (runL ops).1.map Prod.fst := by
 have hal := runL_len ops ops.length (Nat.le_refl _)
 rw [List.take_length] at hal
 have hzl : (opsZ ops).length = ops.length := by rw [opsZ, List.length_zip, hal]; omega
 have h := grow_keys ops ops.length (Nat.le_refl _)
 have hr := runL_right ops ops.length (Nat.le_refl _)
 rw [List.take_of_length_le (show (opsZ ops).length <= ops.length by omega)] at h
 rw [List.take_length] at h hr
 obtain ⟨h1, h2⟩ := h
 obtain ⟨r1, r2, r3⟩ := (mapRight_iff _).1 hr
 refine ⟨?_, by rw [spotsBy_keys]; exact h1⟩
 rw [spotsBy_right Prod.fst _ ?_ h2 ?_]
 ·rw [<- keysM_len Prod.fst]
  have : (kM (growT (opsZ ops))).length <= 200 := by rw [h1]; simpa using r1
  exact this
 ·intro x hx
  have hx' : x ∈ kM (growT (opsZ ops)) := hx
  rw [h1] at hx'
  obtain ⟨p, hp, rfl⟩ := List.mem_map.1 hx'
  exact r3 p hp
def evenT (l : List Int) : MT IP :=
 if h : l = [] then .nil
 else .node (l[l.length / 2]'(by have := List.length_pos_iff.2 h; omega), 0) (evenT (l.take (l.length / 2))) (evenT (l.drop (l.length / 2 + 1)))
termination_by l.length
decreasing_by
 ·have := List.length_pos_iff.2 h; simp; omega
 ·have := List.length_pos_iff.2 h; simp; omega
theorem evenT_nil : evenT [] = .nil := by rw [evenT]; simp
theorem evenT_cons (l : List Int) (h : 0 < l.length) : evenT l = .node (l[l.length / 2]'(by omega), 0) (evenT (l.take (l.length / 2))) (evenT (l.drop (l.length / 2 + 1))) := by
 have hn : l ≠ [] := List.length_pos_iff.1 h
 rw [evenT, dif_neg hn]
theorem half_ind {P : List Int -> Prop} (h0 : P []) (h1 : ∀ l : List Int, 0 < l.length -> P (l.take (l.length / 2)) -> P (l.drop (l.length / 2 + 1)) -> P l) : ∀ l, P l := by
 intro l
 obtain ⟨n, hn⟩ : ∃ n, n = l.length := ⟨_, rfl⟩
 induction n using Nat.strongRecOn generalizing l with
 | ind n ih =>
  by_cases h : 0 < l.length
  ·exact h1 l h (ih (l.take (l.length / 2)).length (by simp; omega) _ rfl) (ih (l.drop (l.length / 2 + 1)).length (by simp; omega) _ rfl)
  ·have : l = [] := List.eq_nil_of_length_eq_zero (by omega)
   subst this; exact h0
theorem evenT_keys : ∀ l, kM (evenT l) = l := half_ind (by rw [evenT_nil]; rfl) fun l h i1 i2 => by
 rw [evenT_cons l h, kM_node, i1, i2]
 conv => rhs; rw [<- List.take_append_drop (l.length / 2) l, List.drop_eq_getElem_cons (show l.length / 2 < l.length by omega)]
 simp
theorem kM_len (T : MT IP) : (kM T).length = T.size := by unfold kM; rw [keysM_len]
theorem evenT_size (l : List Int) : (evenT l).size = l.length := by rw [<- kM_len, evenT_keys]
def hT : MT IP -> Nat
 | .nil => 0
 | .node _ l r => max (hT l) (hT r) + 1
theorem size_hT : ∀ T : MT IP, T.size + 1 <= 2 ^ hT T
 | .nil => by simp [MT.size, hT]
 | .node a l r => by
  have h1 := size_hT l
  have h2 := size_hT r
  have h3 : 2 ^ hT l <= 2 ^ (max (hT l) (hT r)) := Nat.pow_le_pow_right (by omega) (by omega)
  have h4 : 2 ^ hT r <= 2 ^ (max (hT l) (hT r)) := Nat.pow_le_pow_right (by omega) (by omega)
  simp only [MT.size, hT, Nat.pow_succ]
  omega
theorem evenT_h : ∀ l : List Int, l.length < 2 ^ hT (evenT l) /\ (0 < l.length -> 2 ^ (hT (evenT l) - 1) <= l.length) /\ (l.length = 0 -> hT (evenT l) = 0) := half_ind (by rw [evenT_nil]; simp [hT]) fun l h ⟨a1, a2, a3⟩ ⟨b1, b2, b3⟩ => by
 rw [evenT_cons l h]
 simp only [List.length_take, List.length_drop] at a1 a2 a3 b1 b2 b3
 rw [Nat.min_eq_left (by omega)] at a1 a2 a3
 obtain ⟨x, hx⟩ : ∃ x, x = hT (evenT (l.take (l.length / 2))) := ⟨_, rfl⟩
 obtain ⟨y, hy⟩ : ∃ y, y = hT (evenT (l.drop (l.length / 2 + 1))) := ⟨_, rfl⟩
 rw [<- hx] at a1 a2 a3
 rw [<- hy] at b1 b2 b3
 have hyx : y <= x := by
  rcases Nat.lt_or_ge x y with h1 | h1
  ·exfalso
   have h2 : 0 < l.length - (l.length / 2 + 1) := by
    rcases Nat.eq_zero_or_pos (l.length - (l.length / 2 + 1)) with h3 | h3
    ·have := b3 h3; omega
    ·exact h3
   have h3 := b2 h2
   have h4 : 2 ^ x <= 2 ^ (y - 1) := Nat.pow_le_pow_right (by omega) (by omega)
   omega
  ·exact h1
 simp only [hT]
 rw [<- hx, <- hy, Nat.max_eq_left hyx, Nat.pow_succ]
 refine ⟨by omega, fun _ => ?_, fun h1 => by omega⟩
 rw [Nat.add_sub_cancel]
 rcases Nat.eq_zero_or_pos (l.length / 2) with h1 | h1
 ·rw [a3 h1]; simp; omega
 ·have h2 := a2 h1
  rcases Nat.eq_zero_or_pos x with h3 | h3
  ·rw [h3]; simp; omega
  ·have : 2 ^ x = 2 ^ (x - 1) * 2 := by rw [<- Nat.pow_succ]; congr 1; omega
   omega
def deepL (n : Nat) : Nat -> Nat -> Nat
 | 0, d => d
 | f + 1, d => if 0 < n /\ 3 ^ (d + 1) <= n * 2 ^ (d + 1) then deepL n f (d + 1) else d
def deepF (n : Nat) : Nat := deepL n 18 0
theorem pow_gap (n : Nat) (hn : n <= 1000) : ∀ k, n * 2 ^ (18 + k) < 3 ^ (18 + k)
 | 0 => by
  have : n * 2 ^ 18 <= 1000 * 2 ^ 18 := Nat.mul_le_mul_right _ hn
  have h2 : (1000 : Nat) * 2 ^ 18 < 3 ^ 18 := by decide +kernel
  exact Nat.lt_of_le_of_lt this h2
 | k + 1 => by
  have h := pow_gap n hn k
  rw [<- Nat.add_assoc, Nat.pow_succ, Nat.pow_succ, <- Nat.mul_assoc]
  omega
theorem pow_mono (n : Nat) : ∀ d, n * 2 ^ d < 3 ^ d -> n * 2 ^ (d + 1) < 3 ^ (d + 1) := fun d h => by
 rw [Nat.pow_succ, Nat.pow_succ, <- Nat.mul_assoc]; omega
theorem pow_mono_le (n : Nat) (d e : Nat) (hde : d <= e) (h : n * 2 ^ d < 3 ^ d) : n * 2 ^ e < 3 ^ e := by
 obtain ⟨k, rfl⟩ : ∃ k, e = d + k := ⟨e - d, by omega⟩
 induction k with
 | zero => exact h
 | succ k ih => exact pow_mono n (d + k) (ih (by omega))
theorem deepL_spec (n : Nat) (hp : 0 < n) (hn : n <= 1000) : ∀ f d, 18 <= f + d -> 3 ^ d <= n * 2 ^ d -> 3 ^ deepL n f d <= n * 2 ^ deepL n f d /\ n * 2 ^ (deepL n f d + 1) < 3 ^ (deepL n f d + 1)
 | 0, d, h, hd => by
  have h1 := pow_gap n hn (d - 18)
  rw [show 18 + (d - 18) = d by omega] at h1
  omega
 | f + 1, d, h, hd => by
  unfold deepL
  by_cases hc : 0 < n /\ 3 ^ (d + 1) <= n * 2 ^ (d + 1)
  ·rw [if_pos hc]; exact deepL_spec n hp hn f (d + 1) (by omega) hc.2
  ·rw [if_neg hc]
   refine ⟨hd, ?_⟩
   rcases Nat.lt_or_ge (n * 2 ^ (d + 1)) (3 ^ (d + 1)) with h1 | h1
   ·exact h1
   ·exact absurd ⟨hp, h1⟩ hc
theorem deepL_zero : ∀ f d, deepL 0 f d = d
 | 0, d => rfl
 | f + 1, d => by unfold deepL; rw [if_neg (by omega)]
theorem deepF_zero : deepF 0 = 0 := deepL_zero 18 0
theorem deepF_spec (n : Nat) (hp : 0 < n) (hn : n <= 1000) : 3 ^ deepF n <= n * 2 ^ deepF n /\ n * 2 ^ (deepF n + 1) < 3 ^ (deepF n + 1) := deepL_spec n hp hn 18 0 (by omega) (by simp; omega)
theorem deepF_ge (n d : Nat) (hp : 0 < n) (hn : n <= 1000) (h : 3 ^ d <= n * 2 ^ d) : d <= deepF n := by
 rcases Nat.lt_or_ge (deepF n) d with h1 | h1
 ·have := pow_mono_le n (deepF n + 1) d (by omega) (deepF_spec n hp hn).2
  omega
 ·exact h1
theorem deepF_mono (m n : Nat) (hmn : m <= n) (hn : n <= 1000) : deepF m <= deepF n := by
 rcases Nat.eq_zero_or_pos m with h0 | h0
 ·subst h0; rw [deepF_zero]; omega
 ·refine deepF_ge n _ (by omega) hn (Nat.le_trans (deepF_spec m h0 (by omega)).1 (Nat.mul_le_mul_right _ hmn))
theorem deepF_lt (n : Nat) (hn : n <= 1000) : deepF n < 18 := by
 rcases Nat.eq_zero_or_pos n with h0 | h0
 ·subst h0; rw [deepF_zero]; omega
 ·have h1 := (deepF_spec n h0 hn).1
  rcases Nat.lt_or_ge (deepF n) 18 with h2 | h2
  ·exact h2
  ·have h3 := pow_gap n hn (deepF n - 18)
   rw [show 18 + (deepF n - 18) = deepF n by omega] at h3
   omega
def lenT : MT IP -> Int -> Nat
 | .nil, _ => 0
 | .node a l r, k => if k = a.1 then 0 else if k < a.1 then lenT l k + 1 else lenT r k + 1
def leans (l r : MT IP) : Bool := decide (2 * (l.size + r.size + 1) < 3 * max l.size r.size)
def fixT : MT IP -> Int -> MT IP × Nat × Bool
 | .nil, _ => (.nil, 0, false)
 | .node a l r, k =>
  if k = a.1 then (.node a l r, 0, false)
  else if k < a.1 then
   if (fixT l k).2.2 = true then (.node a (fixT l k).1 r, (fixT l k).2.1, true)
   else if leans l r = true then (evenT (kM (.node a l r)), l.size + r.size + 1, true) else (.node a l r, 0, false)
  else
   if (fixT r k).2.2 = true then (.node a l (fixT r k).1, (fixT r k).2.1, true)
   else if leans l r = true then (evenT (kM (.node a l r)), l.size + r.size + 1, true) else (.node a l r, 0, false)
theorem fixT_keys : ∀ (T : MT IP) (k : Int), kM (fixT T k).1 = kM T
 | .nil, k => rfl
 | .node a l r, k => by
  have h1 := fixT_keys l k
  have h2 := fixT_keys r k
  unfold fixT
  split
  ·rfl
  ·split
   ·split
    ·rw [kM_node, kM_node, h1]
    ·split
     ·rw [evenT_keys]
     ·rfl
   ·split
    ·rw [kM_node, kM_node, h2]
    ·split
     ·rw [evenT_keys]
     ·rfl
theorem fixT_size (T : MT IP) (k : Int) : (fixT T k).1.size = T.size := by rw [<- kM_len, fixT_keys, kM_len]
structure Gt where
 T : MT IP
 many : Nat
 most : Nat
 built : Nat
def Gt.put (S : Gt) (k : Int) : Gt :=
 if k ∈ kM S.T then S
 else if lenT S.T k <= deepF (max S.most (S.many + 1)) then ⟨ins S.T (k, 0), S.many + 1, max S.most (S.many + 1), S.built⟩
 else ⟨(fixT (ins S.T (k, 0)) k).1, S.many + 1, max S.most (S.many + 1), S.built + (fixT (ins S.T (k, 0)) k).2.1⟩
def Gt.cut (S : Gt) (k : Int) : Gt :=
 if k ∉ kM S.T then S
 else if 3 * (S.many - 1) < 2 * S.most then ⟨evenT (kM (del S.T k)), S.many - 1, S.many - 1, S.built + (S.many - 1)⟩
 else ⟨del S.T k, S.many - 1, S.most, S.built⟩
def gtS (S : Gt) (o : O3) (a : An) : Gt := if a.err ≠ 0 then S else if o.1 = 1 then S.put o.2.1 else if o.1 = 3 then S.cut o.2.1 else S
def gtT (z : List (O3 × An)) : Gt := z.foldl (fun S p => gtS S p.1 p.2) ⟨.nil, 0, 0, 0⟩
theorem gtT_snoc (z : List (O3 × An)) (k : Nat) (h : k < z.length) : gtT (z.take (k + 1)) = gtS (gtT (z.take k)) z[k].1 z[k].2 := by
 rw [List.take_succ_eq_append_getElem h, gtT, List.foldl_append]; rfl
def eFst : Enc IP := ⟨1, fun p => [.int .i64 p.1], fun _ => rfl, fun _ u h => by simp at h; subst h; rfl⟩
theorem gtSize_any (t : MT IP) : ∀ (p : Option Addr) (F : List Nat) (w : World), MR w 256 eFst t p F -> t.size <= 1000000 -> Calls Tryz.prog 178 #[.pointer p] w (Drew (.int .i64 (t.size : Int)) w) := by
 induction t with
 | nil =>
  intro p F w hm hs
  obtain ⟨rfl, rfl⟩ := hm
  go_enter Tryz.func178, Tryz.ntmps178
  go_wp2
  go_ret
  exact ⟨rfl, 0, rfl⟩
 | node a l r ihl ihr =>
  intro p F w hm hs
  obtain ⟨b, pl, pr, Fl, Fr, rfl, rfl, hbc, _, _, _, hml, hmr⟩ := hm
  simp only [MT.size] at hs
  have IHL := hide (fun n => ihl pl Fl (w.drewN n) (hml.kp ((Kp.refl w).drewN)) (by omega))
  have IHR := hide (fun n => ihr pr Fr (w.drewN n) (hmr.kp ((Kp.refl w).drewN)) (by omega))
  have cL : w.cell? ⟨b, 1, none⟩ = some (.pointer pl) := hbc.cell 1
  have cR : w.cell? ⟨b, 2, none⟩ = some (.pointer pr) := hbc.cell 2
  have hw1 : IntKind.i64.wrap ((l.size : Int) + 1) = (l.size : Int) + 1 := IntWalk.i64_in _ (by omega)
  have hw2 : IntKind.i64.wrap ((l.size : Int) + 1 + (r.size : Int)) = ((l.size + 1 + r.size : Nat) : Int) := by rw [IntWalk.i64_in _ (by omega)]; omega
  have hsz : (MT.node a l r).size = l.size + 1 + r.size := rfl
  obtain ⟨N, hN⟩ : ∃ N, N = l.size + 1 + r.size := ⟨_, rfl⟩
  rw [hsz]
  clear hsz
  obtain ⟨nl, hnl⟩ : ∃ nl, nl = l.size := ⟨_, rfl⟩
  obtain ⟨nr, hnr⟩ : ∃ nr, nr = r.size := ⟨_, rfl⟩
  rw [<- hN] at hw2 ⊢
  rw [<- hnl] at hw1 hw2 IHL
  rw [<- hnr] at hw2 IHR
  clear hN hml hmr hbc hs ihl ihr hnl hnr
  go_enter Tryz.func178, Tryz.ntmps178
  go_wp2_with fail
  go_quiet ((first | (go_at_call_of 178 (Value.pointer pl); exact Calls.quiet_of (IHL.out _)) | (go_at_call_of 178 (Value.pointer pr); exact Calls.quiet_of (IHR.out _))))
  go_wp2
  go_ret
  exact ⟨rfl, _, rfl⟩
def EvPost (l : List Int) (w : World) (e : Ending) (w' : World) : Prop := ∃ p F, e = .returned (.pointer p) /\ MR w' 256 eFst (evenT l) p F /\ (∀ x ∈ F, w.heap.size <= x) /\ Below w.heap.size w w'
theorem gtEven_any (n : Nat) : ∀ (l : List Int) (v : Value) (w : World), l.length <= n -> n <= 1000000 -> RD w eInt v l -> Calls Tryz.prog 141 #[v] w (EvPost l w) := by
 induction n with
 | zero =>
  intro l v w h0 hn hr
  have hl : l = [] := List.eq_nil_of_length_eq_zero (by omega)
  subst hl
  obtain ⟨A, c, rfl, hc, hm⟩ := hr.shape
  go_enter Tryz.func141, Tryz.ntmps141
  go_wp2
  go_ret
  exact ⟨none, [], rfl, by rw [evenT_nil]; exact MR.nil, by simp, (Kp.refl _).bel⟩
 | succ n ih =>
  intro l v w h0 hn hr
  have IH := hide ih
  clear ih
  obtain ⟨A, c, rfl, hc, hm⟩ := hr.shape
  by_cases hl : l.length = 0
  ·have hl' : l = [] := List.eq_nil_of_length_eq_zero hl
   subst hl'
   go_enter Tryz.func141, Tryz.ntmps141
   go_wp2
   go_ret
   exact ⟨none, [], rfl, by rw [evenT_nil]; exact MR.nil, by simp, (Kp.refl _).bel⟩
  ·have hlb : ((l.length : Int) == 0) = false := beq_eq_false_iff_ne.2 (by omega)
   obtain ⟨m, hm2⟩ : ∃ m, m = l.length / 2 := ⟨_, rfl⟩
   have hml : m < l.length := by omega
   have hq : ((l.length : Int)).tdiv 2 = (m : Int) := by rw [hm2]; rfl
   have hev := evenT_cons l (by omega)
   obtain ⟨K, hK⟩ : ∃ K, K = l[m]'hml := ⟨_, rfl⟩
   have HEV : Hid (evenT l = .node (K, 0) (evenT (l.take m)) (evenT (l.drop (m + 1)))) := hide (by rw [hev, hK]; simp only [hm2])
   obtain ⟨b, o, rfl, hb, c0⟩ := hr.int (k := m) hml
   rw [<- hK] at c0
   have HR := hide hr
   have HL := hide hl
   have b1 : (m : Int) < (l.length : Int) := by omega
   have b2 : (m : Int) <= (c : Int) := by omega
   have b3 : (0 : Int) <= (m : Int) := by omega
   have b4 : (m : Int) + 1 <= (l.length : Int) := by omega
   have b5 : (0 : Int) <= (m : Int) + 1 := by omega
   have KS : Hid (∀ W', Kp w W' -> (W'.cell? ⟨b, o + m, none⟩ = some (.int .i64 K) /\ Kp w W')) := hide fun W' h => ⟨h.cell c0, h⟩
   obtain ⟨A2, hif⟩ : ∃ A2, (if c = m + 1 then some (⟨b, o, none⟩ : Addr) else some ⟨b, o + (m + 1), none⟩) = A2 := ⟨_, rfl⟩
   have HC1 := hide (fun W (h : Kp w W) => IH.out (l.take m) (.slice (some ⟨b, o, none⟩) m c) W (by simp; omega) (by omega) ((HR.out.kp h).takeS (by omega)))
   have HC2 := hide (fun W (h : Kp w W) => IH.out (l.drop (m + 1)) (.slice A2 (l.length - (m + 1)) (c - (m + 1))) W (by simp; omega) (by omega) ((HR.out.kp h).dropS (by omega) rfl (by simpa [eInt] using hif)))
   have tn : ((m : Int) + 1).toNat = m + 1 := by omega
   have hw : IntKind.i64.wrap ((m : Int) + 1) = (m : Int) + 1 := IntWalk.i64_in _ (by omega)
   have K0 := Kp.refl w
   clear hr hl hm2 hev hK
   go_enter Tryz.func141, Tryz.ntmps141
   go_wp2_with fail
   go_region_held3 (fun w' => w'.cell? ⟨b, o + m, none⟩ = some (.int .i64 K) /\ Kp w w')
    ((go_split_ands; refine KS.out _ ?_; (exact Kp.auto)))
    (first
     | (go_at_call 141; (with_reducible refine (HC1.out _ ?_).mono ?_); (go_split_ands; (exact Kp.auto)); rintro e w1 ⟨p1, F1, rfl, ht1, lo1, hb1⟩)
     | (go_at_call 141; (with_reducible refine (HC2.out _ ?_).mono ?_); (go_split_ands; (exact Kp.auto)); rintro e w2 ⟨p2, F2, rfl, ht2, lo2, hb2⟩))
   all_goals
    go_wp2
    go_ret
    have s1 := ht1.lt
    have s2 := ht2.lt
    have k1 := Kp.of hb1
    have k2 := Kp.of hb2
    have s3 := k2.size
    have s4 := k1.size
    (try simp at lo1 lo2 s3 s4)
    refine ⟨some ⟨w2.heap.size, 0, none⟩, w2.heap.size :: (F1 ++ F2), rfl, ?_, ?_, Kp.bel (by go_split_ands; (exact Kp.auto))⟩
    ·rw [HEV.out]
     refine MR.mk (BC.new w2 256 (nodeC eFst (K, 0) p1 p2)) (fun h => by have := s1 _ h; omega) (fun h => by have := s2 _ h; omega) (fun x h1 h2 => by have := s1 _ h1; have := lo2 _ h2; omega) ((ht1.kp k2).kp ((Kp.refl _).alloc)) (ht2.kp ((Kp.refl _).alloc))
    ·intro x hx
     rcases List.mem_cons.1 hx with rfl | hx
     ·omega
     ·rcases List.mem_append.1 hx with hx | hx
      ·have := lo1 x hx; omega
      ·have := lo2 x hx; omega
theorem goat_spots_any (g B : Nat) (hg : B <= g) : ∀ (t : MT IP) (p : Option Addr) (F : List Nat) (d : Int) (acc : List IP) (w : World), MR w 256 eFst t p F -> 0 <= d -> d + t.size <= 1000000 -> acc.length + t.size <= 1000000 ->
  OB w B g 72 108 ePair acc -> B <= w.heap.size ->
  Calls Tryz.prog 180 #[.pointer p, .int .i64 d, .pointer (some ⟨g, 0, none⟩)] w (WPost B g 72 108 ePair (.tuple #[]) (acc ++ t.spotsBy Prod.fst d) w)
 | .nil, p, F, d, acc, w, hm, h1, h2, h3, ho, hB => by
  obtain ⟨rfl, rfl⟩ := hm
  have HO := hide ho
  clear ho
  go_enter Tryz.func180, Tryz.ntmps180
  go_wp2
  obtain ⟨u, hb, hu, hn⟩ := HO.out
  exact bodyPost_ret (v := .tuple #[]) (by simp [results, Tryz.results180, go_sem]) rfl ⟨rfl, by simpa [MT.spotsBy] using HO.out, KO.refl (hb.cell 0)⟩
 | .node a l r, p, F, d, acc, w, hm, h1, h2, h3, ho, hB => by
  obtain ⟨b, pl, pr, Fl, Fr, rfl, rfl, hbc, _, _, _, hml, hmr⟩ := hm
  simp only [MT.size] at h2 h3
  have hll := MT.spotsBy_len Prod.fst l (d + 1)
  have HI := hide (fun F acc w hm h3 ho hB => goat_spots_any g B hg l pl F (d + 1) acc w hm (by omega) (by omega) h3 ho hB)
  have HJ := hide (fun F acc w hm h3 ho hB => goat_spots_any g B hg r pr F (d + 1) acc w hm (by omega) (by omega) h3 ho hB)
  have HBC := hide hbc
  have HML := hide hml
  have HMR := hide hmr
  have HO := hide ho
  have HBh := hide hB
  have cL : w.cell? ⟨b, 1, none⟩ = some (.pointer pl) := hbc.cell 1
  have hw : IntKind.i64.wrap (d + 1) = d + 1 := IntWalk.i64_in _ (by omega)
  clear hml hmr ho hbc
  go_enter Tryz.func180, Tryz.ntmps180
  go_wp2_with fail
  with_reducible refine (HI.out _ acc _ HML.out (by omega) HO.out HBh.out).mono ?_
  rintro e w5 ⟨rfl, ho5, hk5⟩
  have HO5 := hide ho5
  have HBC5 := hide (HBC.out.ko HO.out hk5 (by decide) (by decide))
  have HMR5 := hide (HMR.out.ko HO.out hk5 (by decide) (by decide))
  have HB5 : Hid (B <= w5.heap.size) := hide (Nat.le_trans HBh.out hk5.size)
  have HK5 := hide hk5
  clear ho5 hk5 cL
  obtain ⟨u5, hb5, hu5, hn5⟩ := HO5.out
  have d0 : w5.cell? ⟨b, 0, none⟩ = some (.int .i64 (Prod.fst a)) := HBC5.out.cell 0
  have hblk : u5.ownBlock ≠ some b := hu5.bc_ne HBC5.out (by decide)
  obtain ⟨acc5, hacc⟩ : ∃ x, x = acc ++ l.spotsBy Prod.fst (d + 1) := ⟨_, rfl⟩
  have hal : acc5.length = acc.length + l.size := by rw [hacc, List.length_append, hll]
  have HACC := hide hacc
  rw [<- hacc] at hu5
  have HAL := hide hal
  have HM1 : Hid ((acc5.length + [((Prod.fst a, d) : IP)].length) * 16 <= 140737488355328) := hide (by simp; omega)
  have HM2 : Hid (acc5.length + [((Prod.fst a, d) : IP)].length <= maxLen) := hide (by simp [maxLen]; omega)
  clear hacc hal hll
  have KS : Hid (∀ W', KV u5 w5 W' -> (W'.cell? ⟨b, 0, none⟩ = some (.int .i64 (Prod.fst a)) /\ W'.cell? ⟨g, 0, none⟩ = some u5 /\ W'.frozen? ⟨g, 0, none⟩ = false /\ KV u5 w5 W')) := hide fun W' h => ⟨h.cell hblk d0, h.cell hn5 (hb5.cell 0), (h.frozen hb5.lt hn5).trans (hb5.frozen 0), h⟩
  have g0 := hb5.cell 0
  have f0 := hb5.frozen 0
  have L1 : ∀ n o, ((w5.drewN n).alloc o).cell? ⟨g, 0, none⟩ = some u5 := fun n o => ((Kp.refl w5).drewN.alloc).cell g0
  have L2 : ∀ n o', ((w5.drewN n).alloc o').cell? ⟨b, 0, none⟩ = some (.int .i64 (Prod.fst a)) := fun n o' => ((Kp.refl w5).drewN.alloc).cell d0
  have L3 : ∀ o, (w5.drew.alloc o).cell? ⟨g, 0, none⟩ = some u5 := fun o => ((Kp.refl w5).drew.alloc).cell g0
  have L4 : ∀ o', (w5.drew.alloc o').cell? ⟨b, 0, none⟩ = some (.int .i64 (Prod.fst a)) := fun o' => ((Kp.refl w5).drew.alloc).cell d0
  have L5 : ∀ o, ((w5.alloc o).drew).cell? ⟨g, 0, none⟩ = some u5 := fun o => ((Kp.refl w5).alloc.drew).cell g0
  have L6 : ∀ o', ((w5.alloc o').drew).cell? ⟨b, 0, none⟩ = some (.int .i64 (Prod.fst a)) := fun o' => ((Kp.refl w5).alloc.drew).cell d0
  have L7 : ∀ o, (w5.alloc o).cell? ⟨g, 0, none⟩ = some u5 := fun o => ((Kp.refl w5).alloc).cell g0
  have L8 : ∀ o', (w5.alloc o').cell? ⟨b, 0, none⟩ = some (.int .i64 (Prod.fst a)) := fun o' => ((Kp.refl w5).alloc).cell d0
  go_wp2_with fail
  go_region_law (((with_reducible refine step_app (l := acc5) (m := [((Prod.fst a, d) : IP)]) row_spot u5 ?_ (.tmp 19) (.tmp 26) ?_ ?_ ?_ ?_ HM1.out HM2.out (Nat.le_trans HB5.out (KV.size (w := w5) (v := u5) ?_)) ?_); (with_reducible rfl); (with_reducible rfl); rfl; (exact OW.auto); (show RD _ _ (.slice (some ⟨_, 0, none⟩) 1 1) _; (exact RD.auto)); (go_split_ands; (focus ((repeat (first | (with_reducible first | assumption | exact KV.refl _ _ | apply KV.drew | apply KV.drewN | apply KV.alloc) | ((with_reducible apply KV.call); (with_reducible assumption)) | ((with_reducible apply KV.app); (with_reducible assumption)))); done))); intro v3 w3 ho3 hg3 hat3; obtain ⟨_, sc3, sf3, _⟩ := KS.out w3 (by go_split_ands; (focus ((repeat (first | (with_reducible first | assumption | exact KV.refl _ _ | apply KV.drew | apply KV.drewN | apply KV.alloc) | ((with_reducible apply KV.call); (with_reducible assumption)) | ((with_reducible apply KV.app); (with_reducible assumption)))); done))); obtain ⟨A3, N3, c3, rfl⟩ := ho3.rd.slice))
  all_goals
   have hat9 := hat3.imp id (fun e => show Hi w5.heap.size (Value.slice A3 N3 c3) from fun k hk => by rw [e] at hk; injection hk with hk; subst hk; simp <;> omega)
   obtain ⟨ho4, hk4⟩ := ob_app hb5 hu5 hn5 (show KV u5 w5 w3 by (focus ((repeat (first | (with_reducible first | assumption | exact KV.refl _ _ | apply KV.drew | apply KV.drewN | apply KV.alloc) | ((with_reducible apply KV.call); (with_reducible assumption)) | ((with_reducible apply KV.app); (with_reducible assumption)))); done))) ho3 hat9
   clear hat9 hat3 hg3 ho3 sc3 sf3 L1 L2 L3 L4 L5 L6 L7 L8 g0 f0
   have HBC6 := hide (HBC5.out.ko HO5.out hk4 (by decide) (by decide))
   have HMR6 := hide (HMR5.out.ko HO5.out hk4 (by decide) (by decide))
   have HZ6 := hide hk4.size
   have HO6 := hide ho4
   have HK6 := hide (HK5.out.trans hk4)
   have cR := HBC6.out.cell 2
   simp only [nodeC, eFst, List.cons_append, List.nil_append, List.getElem?_cons_succ, List.getElem?_cons_zero] at cR
   clear ho4 hk4
   go_wp2_with fail
   with_reducible refine (HJ.out _ (acc5 ++ [((Prod.fst a, d) : IP)]) _ HMR6.out (by simp only [List.length_append, List.length_cons, List.length_nil]; have := HAL.out; omega) HO6.out (Nat.le_trans HB5.out HZ6.out)).mono ?_
   rintro e w7 ⟨rfl, ho7, hk7⟩
   have HO7 := hide ho7
   have HK7 := hide (HK6.out.trans hk7)
   clear ho7 hk7
   go_wp2
   exact bodyPost_ret (v := .tuple #[]) (by simp [results, Tryz.results180, go_sem]) rfl ⟨rfl, by have h := HO7.out; rw [HACC.out] at h; simpa [MT.spotsBy, List.append_assoc] using h, HK7.out⟩
def fl {α : Type} (ls : List (List α)) (k : Nat) : Nat := (ls.take k).flatten.length
theorem fl_succ {α : Type} (ls : List (List α)) (k : Nat) (h : k < ls.length) : fl ls (k + 1) = fl ls k + ls[k].length := by
 unfold fl
 rw [List.take_succ_eq_append_getElem h, List.flatten_append, List.length_append, List.flatten_cons, List.flatten_nil, List.append_nil]
theorem fl_all {α : Type} (ls : List (List α)) : fl ls ls.length = ls.flatten.length := by unfold fl; rw [List.take_length]
theorem fl_le {α : Type} (ls : List (List α)) (k : Nat) : fl ls k <= fl ls ls.length := by
 unfold fl
 rw [List.take_length]
 conv => rhs; rw [<- List.take_append_drop k ls, List.flatten_append, List.length_append]
 omega
theorem RDS.new3 {α : Type} {w : World} {E : Enc α} {a b c : List α} {va vb vc : Value} {t : TypeId} {g : Nat} (hg : w.heap.size = g) (ha : RD w E va a) (hb : RD w E vb b) (hc : RD w E vc c) : RDS (w.alloc (.cells #[va, vb, vc] t)) E (.slice (some ⟨g, 0, none⟩) 3 3) [a, b, c] := by
 subst hg
 have hk : Kp w (w.alloc (.cells #[va, vb, vc] t)) := (Kp.refl w).alloc
 refine ⟨_, _, rfl, Nat.le_refl _, by simp [maxLen], fun _ => ⟨w.heap.size, 0, rfl, by simp, fun k h => ?_⟩⟩
 have hc' := fun i => cell_of_row _ _ i _ t (0, 0) (heap_alloc_new w (.cells #[va, vb, vc] t))
 match k, h with
 | 0, _ => exact ⟨va, hc' 0, ha.kp hk⟩
 | 1, _ => exact ⟨vb, hc' 1, hb.kp hk⟩
 | 2, _ => exact ⟨vc, hc' 2, hc.kp hk⟩
theorem growI (n : Nat) (hn : n * 8 <= 140737488355328) (w : World) : Calls Tryz.prog 207 #[.slice none 0 0, .int .i64 (n : Int)] w (RetOW 3 eInt [] w) := by
 by_cases h0 : n = 0
 ·subst h0
  go_enter Tryz.func207, Tryz.ntmps207
  go_wp2
  go_ret
  exact ⟨_, rfl, OW.nil, Below.refl _ _⟩
 ·obtain ⟨i, hi, h1, h2, h3⟩ := info_parts info_int
  have hrz := fun ty => Lib.run_append_nil_zeros (P := Tryz.prog) w 69 3 ty 3 i _ .i64 .i64 Tryz.underlying69 Tryz.underlying3 hi h1 n (by omega) (by rw [h2]; decide) (by omega) (by rw [h3]; omega)
  have hG := grownCap_ge w n 0 3
  have hG2 := grownCap_le_maxLen w n 0 3 (by unfold maxLen; omega)
  obtain ⟨G, hGe⟩ : ∃ G, G = grownCap w n 0 3 := ⟨_, rfl⟩
  rw [<- hGe] at hG hG2
  simp only [<- hGe] at hrz
  obtain ⟨C, hC⟩ : ∃ C, C = Builtin.zeroCells (Value.int .i64 0).cells n ++ Builtin.zeroCells (Value.int .i64 0).cells (G - n) := ⟨_, rfl⟩
  simp only [<- hC] at hrz
  have hCs : Hid (C.size = G) := hide (by rw [hC, Array.size_append, size_zeroCells, size_zeroCells]; simp [Value.cells]; omega)
  have HG := hide hG2
  have hGG : G <= 9223372036854775807 := by unfold maxLen at hG2; omega
  have hnn : (0 : Int) < (n : Int) := by omega
  clear hGe hC hG2
  go_enter Tryz.func207, Tryz.ntmps207
  go_wp2_with (at_builtin; refine Lib.wpList_append_run _ rfl _ _ _ _ rfl _ _ rfl rfl _ _ (hrz _) ?_)
  all_goals (go_ret; exact ⟨_, rfl, ⟨rfl, .inr ⟨w.heap.size, G, C, rfl, Nat.le_refl _, heap_alloc_new w.drew _, Nat.zero_le _, HG.out, (by rw [hCs.out]; simp [eInt]), by simp⟩⟩, ((Kp.refl w).drew.alloc).bel⟩)
def CSumI (ls : List (List Int)) (w : World) (sv iv : Value) (wr : World) : Prop :=
 ∃ k : Nat, k <= ls.length /\ iv = .int .i64 k /\ sv = .int .i64 (fl ls k : Nat) /\ Kp w wr
def CAppI (ls : List (List Int)) (w0 : World) (sv iv : Value) (wr : World) : Prop :=
 ∃ k : Nat, k <= ls.length /\ iv = .int .i64 k /\ OW wr w0.heap.size 3 eInt sv (ls.take k).flatten /\ Kp w0 wr
theorem concatI (ls : List (List Int)) (v : Value) (w : World) (hr : RDS w eInt v ls) (hlen : ls.flatten.length <= 1073741824) : Calls Tryz.prog 205 #[v] w (RetOW 3 eInt ls.flatten w) := by
 obtain ⟨A, c, rfl, hc, hm⟩ := hr.shape
 have HR := hide hr
 have HF := hide (fl_le ls)
 have hfa : fl ls ls.length <= 1073741824 := by rw [fl_all]; exact hlen
 clear hr
 go_enter Tryz.func205, Tryz.ntmps205
 go_wp2
 go_loopw [3, 11] (CSumI ls w) (fun _ i _ => ls.length - (intOf i).toNat)
 case atStart => exact ⟨0, by omega, rfl, rfl, Kp.refl _⟩
 case round =>
  obtain ⟨k, hk, rfl, rfl, hkp0⟩ := hrel
  by_cases hlt : k < ls.length
  ·obtain ⟨b, o, u, rfl, hb, cu, hu⟩ := (HR.out.kp hkp0).at_ hlt
   obtain ⟨A2, c2, rfl, hc2, hm2⟩ := hu.shape
   have hs1 := fl_succ ls k hlt
   have hs2 := HF.out (k + 1)
   have hs3 := HF.out k
   have HS1 := hide hs1
   have b1 : (0 : Int) <= (fl ls k : Int) := by omega
   have b2 : (fl ls k : Int) + (ls[k].length : Int) <= 1073741824 := by omega
   clear hs1 hs2 hs3 hu
   go_wp2
   go_roundw
   case rel => exact ⟨k + 1, by omega, by go_num, by rw [HS1.out]; go_num, hkp0⟩
   case measure => simp [intOf]; omega
  ·have hkl : (ls.take k).flatten = ls.flatten := by rw [List.take_of_length_le (by omega)]
   have hs3 := HF.out k
   have HK := hide hkl
   have HFA := hide hfa
   clear hkl
   go_wp2_with fail
   refine (growI (fl ls k) (by omega) _).mono ?_
   rintro e w1 ⟨v1, rfl, ho1, hb1⟩
   have HO1 := hide ho1
   clear ho1 hs3
   go_wp2
   have hb1' : Kp w w1 := hkp0.trans hb1
   go_loopw [6, 27] (CAppI ls w) (fun _ i _ => ls.length - (intOf i).toNat)
   case atStart => exact ⟨0, by omega, rfl, HO1.out.more hkp0.size, hb1'⟩
   case round =>
    obtain ⟨j, hj, rfl, ho, hkp⟩ := hrel
    have hi := ho.hi
    by_cases hltj : j < ls.length
    ·obtain ⟨b, o, u, rfl, hb, cu, hu⟩ := (HR.out.kp hkp).at_ hltj
     have hs1 := fl_succ ls j hltj
     have hs2 := HF.out (j + 1)
     have HM1 : Hid (((ls.take j).flatten.length + ls[j].length) * 8 <= 140737488355328) := hide (by have := HFA.out; have h9 : fl ls j = (ls.take j).flatten.length := rfl; omega)
     have HM2 : Hid ((ls.take j).flatten.length + ls[j].length <= maxLen) := hide (by have := HFA.out; have h9 : fl ls j = (ls.take j).flatten.length := rfl; unfold maxLen; omega)
     have HF2 : Hid ((ls.take j).flatten ++ ls[j] = (ls.take (j + 1)).flatten) := hide (by rw [List.take_succ_eq_append_getElem hltj, List.flatten_append, List.flatten_cons, List.flatten_nil, List.append_nil])
     obtain ⟨A6, c6, hv6, hc6, hm6⟩ := ho.rd.shape
     have hv6' : u6 = .slice A6 (fl ls j) c6 := hv6
     subst hv6'
     clear hv6
     obtain ⟨A2, c2, rfl, hc2, hm2⟩ := hu.shape
     clear hs1 hs2
     go_wp2_with (at_builtin; (with_reducible refine list_app (B := w.heap.size) (l := (ls.take j).flatten) (m := ls[j]) row_int (.slice A6 (fl ls j) c6) ?_ (.tmp 31) (.tmp 32) ?_ ?_ ?_ ?_ HM1.out HM2.out ?_ ?_); (with_reducible rfl); (with_reducible rfl); rfl; (with_reducible assumption); (show RD _ _ (.slice A2 ls[j].length c2) _; with_reducible assumption); (exact hkp.size); intro v3 w3 ho3 hg3 hat3)
     go_roundw
     case rel => exact ⟨j + 1, by omega, by go_num, by rw [<- HF2.out]; exact ho3, (by (exact Kp.auto))⟩
     case measure => simp [intOf]; omega
    ·have hjl : (ls.take j).flatten = ls.flatten := by rw [List.take_of_length_le (by omega)]
     have HJ := hide hjl
     clear hjl
     go_wp2
     go_ret
     exact ⟨_, rfl, by rw [<- HJ.out]; exact ho, hkp.bel⟩
theorem gtKeys_any (t : MT IP) : ∀ (p : Option Addr) (F : List Nat) (w : World), MR w 256 eFst t p F -> t.size <= 1000000 -> Calls Tryz.prog 197 #[.pointer p] w (RetOW 3 eInt (kM t) w) := by
 induction t with
 | nil =>
  intro p F w hm hs
  obtain ⟨rfl, rfl⟩ := hm
  go_enter Tryz.func197, Tryz.ntmps197
  go_wp2
  go_ret
  exact ⟨_, rfl, OW.nil, Below.refl _ _⟩
 | node a l r ihl ihr =>
  intro p F w hm hs
  obtain ⟨b, pl, pr, Fl, Fr, rfl, rfl, hbc, _, _, _, hml, hmr⟩ := hm
  simp only [MT.size] at hs
  have HC1 := hide (fun W (h : Kp w W) => ihl pl Fl W (hml.kp h) (by omega))
  have HC2 := hide (fun W (h : Kp w W) => ihr pr Fr W (hmr.kp h) (by omega))
  obtain ⟨k0, hk0⟩ : ∃ k0, k0 = a.1 := ⟨_, rfl⟩
  have c0 : w.cell? ⟨b, 0, none⟩ = some (.int .i64 k0) := by rw [hk0]; exact hbc.cell 0
  have cL : w.cell? ⟨b, 1, none⟩ = some (.pointer pl) := hbc.cell 1
  have cR : w.cell? ⟨b, 2, none⟩ = some (.pointer pr) := hbc.cell 2
  have HK : Hid (kM (.node a l r) = [kM l, [k0], kM r].flatten) := hide (by rw [kM_node, hk0]; simp)
  have HCC := hide (fun W v (h : RDS W eInt v [kM l, [k0], kM r]) => concatI [kM l, [k0], kM r] v W h (by simp [kM_len]; omega))
  have KS : Hid (∀ W', Kp w W' -> (W'.cell? ⟨b, 0, none⟩ = some (.int .i64 k0) /\ W'.cell? ⟨b, 1, none⟩ = some (.pointer pl) /\ W'.cell? ⟨b, 2, none⟩ = some (.pointer pr) /\ Kp w W')) :=
   hide fun W' h => ⟨h.cell c0, h.cell cL, h.cell cR, h⟩
  have K0 := Kp.refl w
  clear hml hmr hbc hs ihl ihr hk0
  go_enter Tryz.func197, Tryz.ntmps197
  go_wp2_with fail
  go_region_held3 (fun w' => w'.cell? ⟨b, 0, none⟩ = some (.int .i64 k0) /\ w'.cell? ⟨b, 1, none⟩ = some (.pointer pl) /\ w'.cell? ⟨b, 2, none⟩ = some (.pointer pr) /\ Kp w w')
   ((go_split_ands; refine KS.out _ ?_; (exact Kp.auto)))
   (first
    | (go_at_call_of 197 (Value.pointer pl); (with_reducible refine (HC1.out _ ?_).mono ?_); (go_split_ands; (exact Kp.auto)); rintro e w1 ⟨v1, rfl, ho1, hb1⟩; obtain ⟨X1, N1, Y1, rfl⟩ := ho1.rd.slice; have hr1 := ho1.rd)
    | (go_at_call_of 197 (Value.pointer pr); (with_reducible refine (HC2.out _ ?_).mono ?_); (go_split_ands; (exact Kp.auto)); rintro e w2 ⟨v2, rfl, ho2, hb2⟩; obtain ⟨X2, N2, Y2, rfl⟩ := ho2.rd.slice; have hr2 := ho2.rd)
    | (go_at_call 205; (with_reducible refine (HCC.out _ _ ?_).mono ?_); (focus (refine RDS.new3 ?_ ?_ ?_ ?_; (focus (first | rfl | (simp; done))); (exact RD.auto); (exact RD.auto); (exact RD.auto))); rintro e w3 ⟨v3, rfl, ho3, hb3⟩))
  all_goals
   go_wp2
   go_ret
   have k3 : Kp w w3 := by (go_split_ands; (exact Kp.auto))
   refine ⟨v3, rfl, ?_, k3.bel⟩
   rw [HK.out]
   refine ho3.more ?_
   refine Kp.size (w := w) ?_
   (go_split_ands; (exact Kp.auto))
theorem gtTold_any (t : MT IP) (p : Option Addr) (F : List Nat) (w : World) (hm : MR w 256 eFst t p F) (hs : t.size <= 1000) : Calls Tryz.prog 140 #[.pointer p] w (RetRD ePair (t.spotsBy Prod.fst 0) w) := by
 have HO := hide (OB.new (B := w.heap.size) (st := 72) (e := 108) (E := ePair) w (Nat.le_refl _))
 have HC := hide (goat_spots_any w.heap.size w.heap.size (Nat.le_refl _) t p F 0 [] _ (hm.kp (Kp.refl w).alloc) (by omega) (by omega) (by simp; omega) HO.out (by simp))
 clear hm
 go_enter Tryz.func140, Tryz.ntmps140
 go_wp2_with fail
 with_reducible refine HC.out.mono ?_
 rintro e w1 ⟨rfl, ho1, hk1⟩
 have k1 := hk1.none (Kp.refl w).alloc (Nat.le_refl _) (by simp [go_sem])
 rw [List.nil_append] at ho1
 obtain ⟨u, hb, hu, hn⟩ := ho1
 have g0 := hb.cell 0
 obtain ⟨A3, N3, c3, rfl⟩ := hu.rd.slice
 have HU := hide hu.rd
 have K1 := hide k1
 clear hk1 hb hu hn k1
 go_wp2
 go_ret
 exact ⟨_, rfl, HU.out, K1.out.bel⟩
def DpRel (n : Nat) (w : World) (dv tv uv : Value) (wr : World) : Prop :=
 ∃ d A B : Nat, d <= 18 /\ A = 3 ^ (d + 1) /\ B = 2 ^ (d + 1) /\ dv = .int .i64 (d : Int) /\ tv = .int .i64 (A : Int) /\ uv = .int .i64 (B : Int) /\ deepL n (18 - d) d = deepF n /\ w = wr
theorem pow_bounds (d : Nat) (h : d <= 18) : 3 ^ (d + 1) <= 3 ^ 19 /\ 2 ^ (d + 1) <= 2 ^ 19 := ⟨Nat.pow_le_pow_right (by omega) (by omega), Nat.pow_le_pow_right (by omega) (by omega)⟩
theorem pow_nums : (3 : Nat) ^ 19 = 1162261467 /\ (2 : Nat) ^ 19 = 524288 := by decide +kernel
theorem gtDeepest_any (n : Nat) (hn : n <= 1000) (w : World) : Calls Tryz.prog 177 #[.int .i64 (n : Int)] w (fun e w' => e = .returned (.int .i64 (deepF n : Int)) /\ w = w') := by
 have HLT := hide (deepF_lt n hn)
 go_enter Tryz.func177, Tryz.ntmps177
 go_wp2
 go_loopw [3, 4, 5] (DpRel n w) (fun d _ _ _ => 19 - (intOf d).toNat)
 case atStart => exact ⟨0, 3, 2, by omega, rfl, rfl, rfl, rfl, rfl, rfl, rfl⟩
 case round =>
  obtain ⟨d, A, B, hd, hA, hB, rfl, rfl, rfl, hl, rfl⟩ := hrel
  have hd17 : d <= 17 := by
   rcases Nat.lt_or_ge d 18 with h | h
   ·omega
   ·have : d = 18 := by omega
    subst this
    have e : deepL n (18 - 18) 18 = 18 := rfl
    have := HLT.out
    omega
  have hb := pow_bounds d hd
  rw [<- hA, <- hB, pow_nums.1, pow_nums.2] at hb
  obtain ⟨hb1, hb2⟩ := hb
  obtain ⟨NB, hNB⟩ : ∃ NB, NB = n * B := ⟨_, rfl⟩
  have hnb : NB <= 1000 * 524288 := by rw [hNB]; exact Nat.mul_le_mul hn hb2
  have hmul : (n : Int) * (B : Int) = (NB : Int) := by rw [hNB]; exact (Int.natCast_mul n B).symm
  have hw1 : IntKind.i64.wrap ((n : Int) * (B : Int)) = (NB : Int) := by rw [hmul]; exact IntWalk.i64_in _ (by omega)
  have hw2 : IntKind.i64.wrap (3 * (A : Int)) = ((3 * A : Nat) : Int) := by rw [IntWalk.i64_in _ (by omega)]; omega
  have hw3 : IntKind.i64.wrap (2 * (B : Int)) = ((2 * B : Nat) : Int) := by rw [IntWalk.i64_in _ (by omega)]; omega
  have hw4 : IntKind.i64.wrap ((d : Int) + 1) = ((d + 1 : Nat) : Int) := by rw [IntWalk.i64_in _ (by omega)]; omega
  have hst : deepL n (18 - d) d = if 0 < n /\ A <= NB then deepL n (18 - (d + 1)) (d + 1) else d := by
   rw [show 18 - d = (18 - (d + 1)) + 1 by omega, deepL, hA, hNB, hB]
  have HL := hide hl
  have HST := hide hst
  have HA := hide hA
  have HB := hide hB
  have HNB := hide hNB
  clear hl hst hA hB hNB hmul
  by_cases hc : A <= NB
  ·have hn0 : 0 < n := by
    rcases Nat.eq_zero_or_pos n with h | h
    ·have h1 := HNB.out
     rw [h, Nat.zero_mul] at h1
     have h2 : 0 < A := by rw [HA.out]; exact Nat.pow_pos (by omega)
     omega
    ·exact h
   have HN : Hid (deepL n (18 - (d + 1)) (d + 1) = deepF n) := hide (by rw [<- HL.out, HST.out, if_pos ⟨hn0, hc⟩])
   have d1 : decide (A <= NB) = true := decide_eq_true hc
   have d2 : decide (0 < n) = true := decide_eq_true hn0
   have hc' : (A : Int) <= (NB : Int) := by omega
   have hn0' : (0 : Int) < (n : Int) := by omega
   go_wp2
   go_roundw
   case rel => exact ⟨d + 1, 3 * A, 2 * B, by omega, by rw [HA.out, Nat.pow_succ 3 (d + 1), Nat.mul_comm], by rw [HB.out, Nat.pow_succ 2 (d + 1), Nat.mul_comm], rfl, rfl, rfl, HN.out, rfl⟩
   case measure => simp [intOf]; omega
  ·have HN : Hid (d = deepF n) := hide (by rw [<- HL.out, HST.out, if_neg (fun h => hc h.2)])
   have d1 : decide (A <= NB) = false := decide_eq_false hc
   have hc' : ¬ (A : Int) <= (NB : Int) := by omega
   go_wp2
   go_ret
   exact ⟨by rw [<- HN.out]; rfl, rfl⟩
theorem ins_new_size : ∀ (T : MT IP) (k : Int), Up (kM T) -> k ∉ kM T -> (ins T (k, 0)).size = T.size + 1
 | .nil, k, _, _ => rfl
 | .node a l r, k, h, hn => by
  obtain ⟨h1, h2, h3, h4⟩ := up_node h
  rw [kM_node] at hn
  simp only [List.mem_append, List.mem_singleton, not_or] at hn
  unfold ins
  split
  ·simp only [MT.size, ins_new_size l k h1 hn.1.1]; omega
  ·split
   ·simp only [MT.size, ins_new_size r k h2 hn.2]; omega
   ·rename_i a1 a2; exact absurd (show k = a.1 by simp only at a1 a2; omega) hn.1.2
theorem ins_hT : ∀ (T : MT IP) (k : Int), hT (ins T (k, 0)) <= max (hT T) (lenT T k + 1)
 | .nil, k => by simp [ins, hT, lenT]
 | .node a l r, k => by
  have h1 := ins_hT l k
  have h2 := ins_hT r k
  unfold ins lenT
  simp only
  split
  ·rw [if_neg (by omega)]; simp only [hT]; omega
  ·split
   ·rw [if_neg (by omega)]; simp only [hT]; omega
   ·simp only [hT]; omega
theorem lenT_hT : ∀ (T : MT IP) (k : Int), lenT T k <= hT T
 | .nil, k => by simp [lenT]
 | .node a l r, k => by
  have h1 := lenT_hT l k
  have h2 := lenT_hT r k
  unfold lenT
  simp only [hT]
  split
  ·omega
  ·split <;> omega
theorem lenT_ins : ∀ (T : MT IP) (k : Int), k ∉ kM T -> lenT (ins T (k, 0)) k = lenT T k
 | .nil, k, _ => by simp [ins, lenT]
 | .node a l r, k, hn => by
  rw [kM_node] at hn
  simp only [List.mem_append, List.mem_singleton, not_or] at hn
  unfold ins
  simp only
  split
  ·rename_i h
   simp only [lenT, if_neg hn.1.2, if_pos h, lenT_ins l k hn.1.1]
  ·rename_i h
   rw [if_pos (by omega)]
   simp only [lenT, if_neg hn.1.2, if_neg h, lenT_ins r k hn.2]
theorem fixT_none : ∀ (T : MT IP) (k : Int), Up (kM T) -> k ∈ kM T -> (fixT T k).2.2 = false -> 3 ^ lenT T k <= T.size * 2 ^ lenT T k
 | .nil, k, _, hk, _ => by cases hk
 | .node a l r, k, h, hk, hf => by
  obtain ⟨h1, h2, h3, h4⟩ := up_node h
  rw [kM_node] at hk
  simp only [List.mem_append, List.mem_singleton] at hk
  unfold fixT at hf
  unfold lenT
  by_cases hka : k = a.1
  ·rw [if_pos hka]; simp [MT.size]; omega
  ·rw [if_neg hka] at hf ⊢
   by_cases hlt : k < a.1
   ·rw [if_pos hlt] at hf ⊢
    split at hf
    ·simp at hf
    ·rename_i hl
     split at hf
     ·simp at hf
     ·rename_i hb
      have hkl : k ∈ kM l := by
       rcases hk with (hk | hk) | hk
       ·exact hk
       ·exact absurd hk hka
       ·have := h4 k hk; omega
      have ih := fixT_none l k h1 hkl (by simpa using hl)
      simp only [leans, decide_eq_true_eq, Nat.not_lt] at hb
      have hs : 3 * l.size <= 2 * (l.size + r.size + 1) := by omega
      simp only [MT.size, Nat.pow_succ]
      have e1 : 3 ^ lenT l k * 3 <= (l.size * 2 ^ lenT l k) * 3 := Nat.mul_le_mul_right 3 ih
      have e2 : (3 * l.size) * 2 ^ lenT l k <= (2 * (l.size + r.size + 1)) * 2 ^ lenT l k := Nat.mul_le_mul_right _ hs
      have e3 : (l.size * 2 ^ lenT l k) * 3 = (3 * l.size) * 2 ^ lenT l k := by rw [Nat.mul_comm, <- Nat.mul_assoc]
      have e4 : (2 * (l.size + r.size + 1)) * 2 ^ lenT l k = (l.size + 1 + r.size) * (2 ^ lenT l k * 2) := by
       rw [show l.size + r.size + 1 = l.size + 1 + r.size by omega, Nat.mul_comm 2 (l.size + 1 + r.size), Nat.mul_assoc, Nat.mul_comm 2]
      omega
   ·rw [if_neg hlt] at hf ⊢
    split at hf
    ·simp at hf
    ·rename_i hl
     split at hf
     ·simp at hf
     ·rename_i hb
      have hkr : k ∈ kM r := by
       rcases hk with (hk | hk) | hk
       ·have := h3 k hk; omega
       ·exact absurd hk hka
       ·exact hk
      have ih := fixT_none r k h2 hkr (by simpa using hl)
      simp only [leans, decide_eq_true_eq, Nat.not_lt] at hb
      have hs : 3 * r.size <= 2 * (l.size + r.size + 1) := by omega
      simp only [MT.size, Nat.pow_succ]
      have e1 : 3 ^ lenT r k * 3 <= (r.size * 2 ^ lenT r k) * 3 := Nat.mul_le_mul_right 3 ih
      have e2 : (3 * r.size) * 2 ^ lenT r k <= (2 * (l.size + r.size + 1)) * 2 ^ lenT r k := Nat.mul_le_mul_right _ hs
      have e3 : (r.size * 2 ^ lenT r k) * 3 = (3 * r.size) * 2 ^ lenT r k := by rw [Nat.mul_comm, <- Nat.mul_assoc]
      have e4 : (2 * (l.size + r.size + 1)) * 2 ^ lenT r k = (l.size + 1 + r.size) * (2 ^ lenT r k * 2) := by
       rw [show l.size + r.size + 1 = l.size + 1 + r.size by omega, Nat.mul_comm 2 (l.size + 1 + r.size), Nat.mul_assoc, Nat.mul_comm 2]
      omega
theorem even_le (T : MT IP) (H : Nat) (h : T.size < 2 ^ H) : hT (evenT (kM T)) <= H := by
 obtain ⟨_, h2, h3⟩ := evenT_h (kM T)
 rw [kM_len] at h2 h3
 rcases Nat.eq_zero_or_pos T.size with h0 | h0
 ·rw [h3 h0]; omega
 ·rcases Nat.lt_or_ge H (hT (evenT (kM T))) with h1 | h1
  ·have := h2 h0
   have h4 : 2 ^ H <= 2 ^ (hT (evenT (kM T)) - 1) := Nat.pow_le_pow_right (by omega) (by omega)
   omega
  ·exact h1
theorem fixT_low : ∀ (T : MT IP) (k : Int) (H : Nat), Up (kM T) -> k ∉ kM T -> hT T <= H -> lenT T k = H -> (fixT (ins T (k, 0)) k).2.2 = true -> hT (fixT (ins T (k, 0)) k).1 <= H
 | .nil, k, H, _, _, _, _, hf => by simp [ins, fixT] at hf
 | .node a l r, k, H, hu, hn, hh, hl, hf => by
  obtain ⟨h1, h2, h3, h4⟩ := up_node hu
  rw [kM_node] at hn
  simp only [List.mem_append, List.mem_singleton, not_or] at hn
  simp only [hT] at hh
  obtain ⟨H', rfl⟩ : ∃ H', H = H' + 1 := ⟨H - 1, by omega⟩
  have sl := size_hT l
  have sr := size_hT r
  have pl : 2 ^ hT l <= 2 ^ H' := Nat.pow_le_pow_right (by omega) (by omega)
  have pr : 2 ^ hT r <= 2 ^ H' := Nat.pow_le_pow_right (by omega) (by omega)
  by_cases hlt : k < a.1
  ·have e : ins (.node a l r) (k, 0) = .node a (ins l (k, 0)) r := by rw [ins, if_pos hlt]
   rw [e] at hf ⊢
   rw [lenT, if_neg hn.1.2, if_pos hlt] at hl
   have hsz := ins_new_size l k h1 hn.1.1
   rw [fixT, if_neg hn.1.2, if_pos hlt] at hf ⊢
   by_cases hfl : (fixT (ins l (k, 0)) k).2.2 = true
   ·rw [if_pos hfl]
    have ih := fixT_low l k H' h1 hn.1.1 (by omega) (by omega) hfl
    simp only [hT]; omega
   ·rw [if_neg hfl] at hf ⊢
    by_cases hb : leans (ins l (k, 0)) r = true
    ·rw [if_pos hb]
     simp only [leans, decide_eq_true_eq] at hb
     refine even_le _ _ ?_
     simp only [MT.size, Nat.pow_succ]
     omega
    ·rw [if_neg hb] at hf; simp at hf
  ·have hgt : a.1 < k := by have := hn.1.2; omega
   have e : ins (.node a l r) (k, 0) = .node a l (ins r (k, 0)) := by rw [ins, if_neg hlt, if_pos hgt]
   rw [e] at hf ⊢
   rw [lenT, if_neg hn.1.2, if_neg hlt] at hl
   have hsz := ins_new_size r k h2 hn.2
   rw [fixT, if_neg hn.1.2, if_neg hlt] at hf ⊢
   by_cases hfl : (fixT (ins r (k, 0)) k).2.2 = true
   ·rw [if_pos hfl]
    have ih := fixT_low r k H' h2 hn.2 (by omega) (by omega) hfl
    simp only [hT]; omega
   ·rw [if_neg hfl] at hf ⊢
    by_cases hb : leans l (ins r (k, 0)) = true
    ·rw [if_pos hb]
     simp only [leans, decide_eq_true_eq] at hb
     refine even_le _ _ ?_
     simp only [MT.size, Nat.pow_succ]
     omega
    ·rw [if_neg hb] at hf; simp at hf
theorem delMin_hT : ∀ T : MT IP, hT (delMin T) <= hT T
 | .nil => by simp [delMin]
 | .node a .nil r => by simp [delMin, hT]
 | .node a (.node b x y) r => by
  have := delMin_hT (.node b x y)
  rw [delMin]
  simp only [hT] at this ⊢
  omega
theorem delTop_hT (a : IP) (l r : MT IP) : hT (delTop l r) <= hT (.node a l r) := by
 cases l with
 | nil => simp [delTop, hT]
 | node b x y =>
  cases r with
  | nil => simp [delTop, hT]
  | node c u z =>
   have := delMin_hT (.node c u z)
   rw [delTop_nn]
   simp only [hT] at this ⊢
   omega
theorem del_hT : ∀ (T : MT IP) (k : Int), hT (del T k) <= hT T
 | .nil, k => by simp [del]
 | .node a l r, k => by
  have h1 := del_hT l k
  have h2 := del_hT r k
  unfold del
  split
  ·simp only [hT]; omega
  ·split
   ·simp only [hT]; omega
   ·exact delTop_hT a l r
def gap (a b : Nat) : Nat := max a b - min a b - 1
def phi : MT IP -> Nat
 | .nil => 0
 | .node _ l r => phi l + phi r + gap l.size r.size
theorem evenT_phi : ∀ l, phi (evenT l) = 0 := half_ind (by rw [evenT_nil]; rfl) fun l h i1 i2 => by
 rw [evenT_cons l h]
 simp only [phi, i1, i2, evenT_size, List.length_take, List.length_drop, gap]
 omega
theorem ins_phi : ∀ (T : MT IP) (k : Int), Up (kM T) -> k ∉ kM T -> phi (ins T (k, 0)) <= phi T + lenT T k
 | .nil, k, _, _ => by simp [ins, phi, lenT, gap, MT.size]
 | .node a l r, k, h, hn => by
  obtain ⟨h1, h2, h3, h4⟩ := up_node h
  rw [kM_node] at hn
  simp only [List.mem_append, List.mem_singleton, not_or] at hn
  unfold ins lenT
  simp only
  rw [if_neg hn.1.2]
  split
  ·have ih := ins_phi l k h1 hn.1.1
   have hs := ins_new_size l k h1 hn.1.1
   simp only [phi, hs, gap]; omega
  ·rw [if_pos (by have := hn.1.2; omega)]
   have ih := ins_phi r k h2 hn.2
   have hs := ins_new_size r k h2 hn.2
   simp only [phi, hs, gap]; omega
theorem fixT_phi : ∀ (T : MT IP) (k : Int), (fixT T k).2.2 = true -> (fixT T k).2.1 + 3 * phi (fixT T k).1 <= 3 * phi T
 | .nil, k, h => by simp [fixT] at h
 | .node a l r, k, h => by
  have i1 := fixT_phi l k
  have i2 := fixT_phi r k
  have s1 := fixT_size l k
  have s2 := fixT_size r k
  unfold fixT at h ⊢
  split at h
  ·simp at h
  ·rename_i hka
   rw [if_neg hka]
   split at h
   ·rename_i hlt
    rw [if_pos hlt]
    split at h
    ·rename_i hf
     rw [if_pos hf]
     have := i1 hf
     simp only [phi, s1]; omega
    ·rename_i hf
     rw [if_neg hf]
     split at h
     ·rename_i hb
      rw [if_pos hb]
      simp only [leans, decide_eq_true_eq] at hb
      simp only [evenT_phi, phi, gap]; omega
     ·simp at h
   ·rename_i hlt
    rw [if_neg hlt]
    split at h
    ·rename_i hf
     rw [if_pos hf]
     have := i2 hf
     simp only [phi, s2]; omega
    ·rename_i hf
     rw [if_neg hf]
     split at h
     ·rename_i hb
      rw [if_pos hb]
      simp only [leans, decide_eq_true_eq] at hb
      simp only [evenT_phi, phi, gap]; omega
     ·simp at h
theorem fixT_nb : ∀ (T : MT IP) (k : Int), (fixT T k).2.2 = false -> (fixT T k).1 = T /\ (fixT T k).2.1 = 0
 | .nil, k, _ => ⟨rfl, rfl⟩
 | .node a l r, k, h => by
  unfold fixT at h ⊢
  split at h
  ·rename_i hka; rw [if_pos hka]; exact ⟨rfl, rfl⟩
  ·rename_i hka
   rw [if_neg hka]
   split at h
   ·rename_i hlt
    rw [if_pos hlt]
    split at h
    ·simp at h
    ·rename_i hf
     rw [if_neg hf]
     split at h
     ·simp at h
     ·rename_i hb; rw [if_neg hb]; exact ⟨rfl, rfl⟩
   ·rename_i hlt
    rw [if_neg hlt]
    split at h
    ·simp at h
    ·rename_i hf
     rw [if_neg hf]
     split at h
     ·simp at h
     ·rename_i hb; rw [if_neg hb]; exact ⟨rfl, rfl⟩
theorem delMin_sz : ∀ T : MT IP, T ≠ .nil -> (delMin T).size + 1 = T.size
 | .nil, h => absurd rfl h
 | .node a .nil r, _ => by simp [delMin, MT.size]; omega
 | .node a (.node b x y) r, _ => by
  have := delMin_sz (.node b x y) (by simp)
  rw [delMin]
  simp only [MT.size] at this ⊢
  omega
theorem delMin_phi : ∀ T : MT IP, phi (delMin T) <= phi T + hT T
 | .nil => by simp [delMin]
 | .node a .nil r => by simp only [delMin, phi, hT]; omega
 | .node a (.node b x y) r => by
  have h1 := delMin_phi (.node b x y)
  have h2 := delMin_sz (.node b x y) (by simp)
  rw [delMin]
  have e1 : phi (.node a (delMin (.node b x y)) r) = phi (delMin (.node b x y)) + phi r + gap (delMin (.node b x y)).size r.size := rfl
  have e2 : phi (.node a (.node b x y) r) = phi (.node b x y) + phi r + gap (MT.node b x y).size r.size := rfl
  have e3 : hT (.node a (.node b x y) r) = max (hT (.node b x y)) (hT r) + 1 := rfl
  rw [e1, e2, e3, <- h2]
  unfold gap; omega
theorem delTop_phi (a : IP) (l r : MT IP) : phi (delTop l r) <= phi (.node a l r) + hT (.node a l r) := by
 cases l with
 | nil => simp only [delTop, phi]; omega
 | node b x y =>
  cases r with
  | nil => simp only [delTop, phi]; omega
  | node c u z =>
   have h1 := delMin_phi (.node c u z)
   have h2 := delMin_sz (.node c u z) (by simp)
   rw [delTop_nn]
   have e1 : phi (.node (minA (.node c u z)) (.node b x y) (delMin (.node c u z))) = phi (.node b x y) + phi (delMin (.node c u z)) + gap (MT.node b x y).size (delMin (.node c u z)).size := rfl
   have e2 : phi (.node a (.node b x y) (.node c u z)) = phi (.node b x y) + phi (.node c u z) + gap (MT.node b x y).size (MT.node c u z).size := rfl
   have e3 : hT (.node a (.node b x y) (.node c u z)) = max (hT (.node b x y)) (hT (.node c u z)) + 1 := rfl
   rw [e1, e2, e3, <- h2]
   unfold gap; omega
theorem del_sz : ∀ (T : MT IP) (k : Int), Up (kM T) -> k ∈ kM T -> (del T k).size + 1 = T.size := fun T k h hk => by
 rw [<- kM_len, <- kM_len, kM_del T k h]
 unfold ksDel
 obtain ⟨n, hn⟩ : ∃ n, n = kM T := ⟨_, rfl⟩
 rw [<- hn] at h hk ⊢
 clear hn
 induction n with
 | nil => cases hk
 | cons x n ih =>
  have hx := List.pairwise_cons.1 h
  by_cases e : x = k
  ·subst e
   rw [List.filter_cons_of_neg (by simp), List.filter_eq_self.2 fun y hy => by have := hx.1 y hy; simp; omega]
   simp
  ·rw [List.filter_cons_of_pos (by simp [e])]
   have hk' : k ∈ n := (List.mem_cons.1 hk).resolve_left fun h => e h.symm
   have := ih hk' hx.2
   simp only [List.length_cons]; omega
theorem del_phi : ∀ (T : MT IP) (k : Int), Up (kM T) -> k ∈ kM T -> phi (del T k) <= phi T + hT T
 | .nil, k, _, hk => by cases hk
 | .node a l r, k, h, hk => by
  obtain ⟨h1, h2, h3, h4⟩ := up_node h
  rw [kM_node] at hk
  simp only [List.mem_append, List.mem_singleton] at hk
  unfold del
  split
  ·rename_i hlt
   have hkl : k ∈ kM l := by
    rcases hk with (hk | hk) | hk
    ·exact hk
    ·omega
    ·have := h4 k hk; omega
   have ih := del_phi l k h1 hkl
   have hs := del_sz l k h1 hkl
   simp only [phi, hT]
   rw [<- hs]
   unfold gap; omega
  ·split
   ·rename_i hlt
    have hkr : k ∈ kM r := by
     rcases hk with (hk | hk) | hk
     ·have := h3 k hk; omega
     ·omega
     ·exact hk
    have ih := del_phi r k h2 hkr
    have hs := del_sz r k h2 hkr
    simp only [phi, hT]
    rw [<- hs]
    unfold gap; omega
   ·exact delTop_phi a l r
structure GtOk (S : Gt) : Prop where
 up : Up (kM S.T)
 many : S.many = S.T.size
 le : S.many <= S.most
 low : hT S.T <= deepF S.most + 1
theorem gtOk_new : GtOk ⟨.nil, 0, 0, 0⟩ := ⟨.nil, rfl, Nat.le_refl _, by simp [hT]⟩
theorem GtOk.put {S : Gt} (h : GtOk S) (k : Int) (hm : S.many < 1000) (hmo : S.most <= 1000) : GtOk (S.put k) := by
 unfold Gt.put
 by_cases hk : k ∈ kM S.T
 ·rw [if_pos hk]; exact h
 ·rw [if_neg hk]
  have hup : Up (kM (ins S.T (k, 0))) := by rw [kM_ins _ _ h.up]; exact up_ins h.up k
  have hsz := ins_new_size S.T k h.up hk
  have hms := h.many
  have hle := h.le
  have hmx : max S.most (S.many + 1) <= 1000 := by omega
  have hmono := deepF_mono S.most (max S.most (S.many + 1)) (by omega) hmx
  have hlow := h.low
  have hins := ins_hT S.T k
  have hlh := lenT_hT S.T k
  by_cases hd : lenT S.T k <= deepF (max S.most (S.many + 1))
  ·rw [if_pos hd]
   exact ⟨hup, by simp only; omega, by simp only; omega, by simp only; omega⟩
  ·rw [if_neg hd]
   have hlen : lenT S.T k = deepF (max S.most (S.many + 1)) + 1 := by omega
   have hfound : (fixT (ins S.T (k, 0)) k).2.2 = true := by
    cases hf : (fixT (ins S.T (k, 0)) k).2.2 with
    | true => rfl
    | false =>
     have hkm : k ∈ kM (ins S.T (k, 0)) := by rw [kM_ins _ _ h.up]; simp [ksIns]
     have h1 := fixT_none _ k hup hkm hf
     rw [lenT_ins _ _ hk, hlen, hsz] at h1
     have h2 := (deepF_spec (max S.most (S.many + 1)) (by omega) hmx).2
     have h3 : (S.T.size + 1) * 2 ^ (deepF (max S.most (S.many + 1)) + 1) <= max S.most (S.many + 1) * 2 ^ (deepF (max S.most (S.many + 1)) + 1) := Nat.mul_le_mul_right _ (by omega)
     omega
   have hlw := fixT_low S.T k _ h.up hk (show hT S.T <= deepF (max S.most (S.many + 1)) + 1 by omega) hlen hfound
   exact ⟨by simp only; rw [fixT_keys]; exact hup, by simp only; rw [fixT_size]; omega, by simp only; omega, hlw⟩
theorem GtOk.cut {S : Gt} (h : GtOk S) (k : Int) (hmo : S.most <= 1000) : GtOk (S.cut k) := by
 unfold Gt.cut
 by_cases hk : k ∈ kM S.T
 ·rw [if_neg (by simpa using hk)]
  have hup : Up (kM (del S.T k)) := by rw [kM_del _ _ h.up]; exact up_del h.up k
  have hsz := del_sz S.T k h.up hk
  have hms := h.many
  have hle := h.le
  have hlow := h.low
  have hdh := del_hT S.T k
  by_cases hd : 3 * (S.many - 1) < 2 * S.most
  ·rw [if_pos hd]
   refine ⟨by simp only; rw [evenT_keys]; exact hup, by simp only; rw [evenT_size, kM_len]; omega, Nat.le_refl _, ?_⟩
   simp only
   obtain ⟨_, e2, e3⟩ := evenT_h (kM (del S.T k))
   rw [kM_len] at e2 e3
   have hsm : (del S.T k).size = S.many - 1 := by omega
   rw [hsm] at e2 e3
   rcases Nat.eq_zero_or_pos (S.many - 1) with h0 | h0
   ·rw [e3 h0]; omega
   ·have h1 := e2 h0
    obtain ⟨x, hx⟩ : ∃ x, x = hT (evenT (kM (del S.T k))) - 1 := ⟨_, rfl⟩
    rw [<- hx] at h1
    have h2 : x <= deepF (S.many - 1) := by
     refine deepF_ge _ x h0 (by omega) ?_
     have h3 : 3 ^ x <= 4 ^ x := Nat.pow_le_pow_left (by omega) x
     have h4 : (4 : Nat) ^ x = 2 ^ x * 2 ^ x := by rw [<- Nat.mul_pow]
     have h5 : 2 ^ x * 2 ^ x <= (S.many - 1) * 2 ^ x := Nat.mul_le_mul_right _ h1
     omega
    omega
  ·rw [if_neg hd]
   exact ⟨hup, by simp only; omega, by simp only; omega, by simp only; omega⟩
 ·rw [if_pos hk]; exact h
def pot (S : Gt) : Nat := S.built + 3 * phi S.T + 2 * (S.most - S.many)
theorem GtOk.pot_put {S : Gt} (h : GtOk S) (k : Int) (D : Nat) (hD : deepF S.most <= D) : pot (S.put k) <= pot S + (if k ∈ kM S.T then 0 else 3 * (D + 1)) := by
 unfold Gt.put
 by_cases hk : k ∈ kM S.T
 ·rw [if_pos hk]; omega
 ·rw [if_neg hk, if_neg hk]
  have hph := ins_phi S.T k h.up hk
  have hlh := lenT_hT S.T k
  have hlow := h.low
  split
  ·simp only [pot]; omega
  ·cases hf : (fixT (ins S.T (k, 0)) k).2.2 with
   | true =>
    have := fixT_phi _ k hf
    simp only [pot]; omega
   | false =>
    obtain ⟨e1, e2⟩ := fixT_nb _ k hf
    simp only [pot, e1, e2]; omega
theorem GtOk.pot_cut {S : Gt} (h : GtOk S) (k : Int) (D : Nat) (hD : deepF S.most <= D) : pot (S.cut k) <= pot S + (if k ∈ kM S.T then 3 * (D + 1) + 2 else 0) := by
 unfold Gt.cut
 by_cases hk : k ∈ kM S.T
 ·rw [if_neg (by simpa using hk), if_pos hk]
  have hph := del_phi S.T k h.up hk
  have hlow := h.low
  have hms := h.many
  have hle := h.le
  split
  ·simp only [pot, evenT_phi]; omega
  ·simp only [pot]; omega
 ·rw [if_pos hk, if_neg hk]; omega
section
variable {α : Type} {w w' : World} {nt : TypeId} {E : Enc α} {kf : α -> Int} {r0 : Addr} {T : MT α} {F : List Nat} {key : Int} {C : List (Fm α)} {q : Addr} {t : MT α} {p : Option Addr} {Fc Ft : List Nat}
theorem At_.keep (h : At_ w nt E kf r0 T F key C q t p Fc Ft) (hr : w'.cell? r0 = w.cell? r0) (hf : w'.frozen? r0 = w.frozen? r0) (hk : ∀ i ∈ F, w'.heap[i]? = w.heap[i]?) : At_ w' nt E kf r0 T F key C q t p Fc Ft := by
 have hz := h.zp.keep hr (fun i hi => hk i (h.sub i (.inr hi)))
 refine ⟨hz, ?_, ?_, MR.keep (fun i hi => hk i (h.sub i (.inl hi))) h.mr, h.dis, h.eq, h.dir, h.sub⟩
 ·rcases h.zp.at_ with e | hx
  ·rw [e, hr, <- e]; exact h.cell
  ·exact (World.cell?_of_block (hk _ (h.sub _ (.inr hx)))).trans h.cell
 ·rcases h.zp.at_ with e | hx
  ·rw [e, hf, <- e]; exact h.fz
  ·rw [World.frozen?_of_block (hk _ (h.sub _ (.inr hx)))]; exact h.fz
theorem At_.kp (h : At_ w nt E kf r0 T F key C q t p Fc Ft) (hk : Kp w w') (hr : r0.block < w.heap.size) (hF : ∀ x ∈ F, x < w.heap.size) : At_ w' nt E kf r0 T F key C q t p Fc Ft :=
 h.keep (World.cell?_of_block (hk.bel.block _ hr)) (hk.frozen hr) fun i hi => hk.bel.block i (hF i hi)
theorem At_.upf {f : Fm α} (h : At_ w nt E kf r0 T F key (f :: C) q t p Fc Ft) (hfr : w.frozen? r0 = false) :
  ∃ b q' Fc' Ft', q = ⟨b, lk E f.left, none⟩ /\ (∃ ph po, BC w b nt (fmC E f ph po)) /\ w.cell? q' = some (.pointer (some ⟨b, 0, none⟩)) /\ At_ w nt E kf r0 T F key C q' (f.on t) (some ⟨b, 0, none⟩) Fc' Ft' := by
 obtain ⟨hz, hc, hf, hm, hd, he, hdir, hs⟩ := h
 obtain ⟨b, ph, po, Fo, q', F', rfl, hb, ho, hz', hc', rfl, h1, h2, h3⟩ := hz
 have e := hb.cell (lk E f.left)
 rw [hc, fmC_link] at e
 injection e with e
 injection e with e
 subst e
 have hbt : b ∉ Ft := fun h => hd b h (by simp)
 have hto : ∀ x ∈ Ft, x ∉ Fo := fun x hx hx' => hd x hx (by simp [hx'])
 have hfq : w.frozen? q' = false := by
  rcases hz'.at_ with rfl | hx
  ·exact hfr
  ·obtain ⟨cs, hbc⟩ := hz'.bc _ hx
   have := hbc.frozen q'.off
   simp only [World.frozen?] at this ⊢
   exact this
 have hdir' : Dir kf C key := fun x hx => hdir x (by simp [hx])
 cases hfl : f.left with
 | true =>
  have hb' : BC w b nt (nodeC E f.a p po) := by simpa [fmC, hfl] using hb
  refine ⟨b, q', F', b :: (Ft ++ Fo), by simp [lk], ⟨p, po, hb⟩, hc', hz', hc', hfq, by simpa [Fm.on, hfl] using MR.mk hb' hbt h1 hto hm ho, ?_, he, hdir', ?_⟩
  ·intro x hx hx'
   rcases List.mem_cons.1 hx with rfl | hx
   ·exact h2 hx'
   ·rcases List.mem_append.1 hx with hx | hx
    ·exact hd x hx (by simp [hx'])
    ·exact h3 x hx hx'
  ·intro x hx
   refine hs x ?_
   simp only [List.mem_cons, List.mem_append] at hx ⊢
   rcases hx with (hx | hx | hx) | hx
   ·exact .inr (.inl hx)
   ·exact .inl hx
   ·exact .inr (.inr (.inl hx))
   ·exact .inr (.inr (.inr hx))
 | false =>
  have hb' : BC w b nt (nodeC E f.a po p) := by simpa [fmC, hfl] using hb
  refine ⟨b, q', F', b :: (Fo ++ Ft), by simp [lk], ⟨p, po, hb⟩, hc', hz', hc', hfq, by simpa [Fm.on, hfl] using MR.mk hb' h1 hbt (fun x hx hx' => hto x hx' hx) ho hm, ?_, he, hdir', ?_⟩
  ·intro x hx hx'
   rcases List.mem_cons.1 hx with rfl | hx
   ·exact h2 hx'
   ·rcases List.mem_append.1 hx with hx | hx
    ·exact h3 x hx hx'
    ·exact hd x hx (by simp [hx'])
  ·intro x hx
   refine hs x ?_
   simp only [List.mem_cons, List.mem_append] at hx ⊢
   rcases hx with (hx | hx | hx) | hx
   ·exact .inr (.inl hx)
   ·exact .inr (.inr (.inl hx))
   ·exact .inl hx
   ·exact .inr (.inr (.inr hx))
end
def ChL (w : World) (key : Int) (r0 : Addr) (L : List Addr) (e : Addr) : Prop :=
 (L ++ [e])[0]? = some r0 /\ ∀ i, i < L.length -> ∃ a b K, L[i]? = some a /\ w.cell? a = some (.pointer (some ⟨b, 0, none⟩)) /\ w.cell? ⟨b, 0, none⟩ = some (.int .i64 K) /\ (L ++ [e])[i + 1]? = some (if key < K then ⟨b, 1, none⟩ else ⟨b, 2, none⟩)
theorem ChL.start (w : World) (key : Int) (r0 : Addr) : ChL w key r0 [] r0 := ⟨rfl, fun i h => by simp at h⟩
theorem ChL.snoc {w : World} {key : Int} {r0 e : Addr} {L : List Addr} (h : ChL w key r0 L e) {b : Nat} {K : Int} (h1 : w.cell? e = some (.pointer (some ⟨b, 0, none⟩))) (h2 : w.cell? ⟨b, 0, none⟩ = some (.int .i64 K)) : ChL w key r0 (L ++ [e]) (if key < K then ⟨b, 1, none⟩ else ⟨b, 2, none⟩) := by
 obtain ⟨g1, g2⟩ := h
 refine ⟨?_, fun i hi => ?_⟩
 ·rw [List.getElem?_append_left (by simp)]; exact g1
 ·rw [List.length_append, List.length_singleton] at hi
  by_cases hl : i < L.length
  ·obtain ⟨a, b', K', e1, e2, e3, e4⟩ := g2 i hl
   refine ⟨a, b', K', ?_, e2, e3, ?_⟩
   ·rw [List.getElem?_append_left hl]; exact e1
   ·rw [List.getElem?_append_left (by simp; omega)]; exact e4
  ·obtain rfl : i = L.length := by omega
   refine ⟨e, b, K, ?_, h1, h2, ?_⟩
   ·rw [List.getElem?_append_right (Nat.le_refl _)]; simp
   ·rw [List.getElem?_append_right (by simp)]; simp
theorem ChL.keep {w w' : World} {key : Int} {r0 e : Addr} {L : List Addr} (h : ChL w key r0 L e) (h1 : ∀ a b, w.cell? a = some (.pointer (some b)) -> w'.cell? a = w.cell? a) (h2 : ∀ (b : Nat) K, w.cell? ⟨b, 0, none⟩ = some (.int .i64 K) -> w'.cell? ⟨b, 0, none⟩ = w.cell? ⟨b, 0, none⟩) : ChL w' key r0 L e := by
 obtain ⟨g1, g2⟩ := h
 refine ⟨g1, fun i hi => ?_⟩
 obtain ⟨a, b, K, e1, e2, e3, e4⟩ := g2 i hi
 exact ⟨a, b, K, e1, (h1 a _ e2).trans e2, (h2 b K e3).trans e3, e4⟩
theorem ChL.kp {w w' : World} {key : Int} {r0 e : Addr} {L : List Addr} (h : ChL w key r0 L e) (hk : Kp w w') : ChL w' key r0 L e :=
 h.keep (fun a b hc => (hk.cell hc).trans hc.symm) (fun b K hc => (hk.cell hc).trans hc.symm)
theorem ChL.set {w : World} {key : Int} {r0 e : Addr} {L : List Addr} (h : ChL w key r0 L e) {q : Addr} {u : Value} (h1 : ∀ b, w.cell? q ≠ some (.pointer (some b))) (h2 : q.off = 0 -> ∀ K, w.cell? q ≠ some (.int .i64 K)) : ChL (w.setCell q u) key r0 L e :=
 h.keep (fun a b hc => World.cell?_setCell_other _ _ _ _ (fun e => h1 b (e ▸ hc))) (fun b K hc => World.cell?_setCell_other _ _ _ _ (fun e => h2 (by rw [e]) K (e ▸ hc)))
theorem At_.chain {w : World} {nt : TypeId} {r0 : Addr} {T : MT IP} {F : List Nat} {key : Int} {L : List Addr} {e : Addr} (hc : ChL w key r0 L e) (hfr : w.frozen? r0 = false) : ∀ (C : List (Fm IP)) (q : Addr) (t : MT IP) (p : Option Addr) (Fc Ft : List Nat), At_ w nt eFst Prod.fst r0 T F key C q t p Fc Ft -> C.length <= L.length -> (L ++ [e])[C.length]? = some q
 | [], q, t, p, Fc, Ft, h, _ => by
  obtain ⟨rfl, _⟩ := h.zp
  exact hc.1
 | f :: C, q, t, p, Fc, Ft, h, hl => by
  obtain ⟨b, q', Fc', Ft', rfl, ⟨ph, po, hb⟩, hq', h'⟩ := h.upf hfr
  have ih := At_.chain hc hfr C q' _ _ _ _ h' (by simp at hl; omega)
  have hdir := h.dir f (by simp)
  obtain ⟨a, b', K, e1, e2, e3, e4⟩ := hc.2 C.length (by simp at hl; omega)
  rw [List.getElem?_append_left (by simp at hl; omega), e1] at ih
  injection ih with ih
  subst ih
  rw [hq'] at e2
  injection e2 with e2
  injection e2 with e2
  injection e2 with e2
  injection e2 with e2
  subst e2
  have hk : w.cell? ⟨b, 0, none⟩ = some (.int .i64 f.a.1) := by
   rw [hb.cell 0]
   unfold fmC nodeC
   split <;> rfl
  rw [hk] at e3
  injection e3 with e3
  injection e3 with _ e3
  subst e3
  rw [List.length_cons, e4]
  cases hfl : f.left with
  | true => rw [if_pos (hdir.1 hfl)]; rfl
  | false => rw [if_neg (by have := hdir.2 hfl; omega)]; rfl
theorem mem_on (f : Fm IP) (t : MT IP) (k : Int) (h : k ∈ kM t) : k ∈ kM (f.on t) := by
 obtain ⟨a, left, o⟩ := f
 cases left with
 | true => simp only [Fm.on, if_true, kM_node, List.mem_append, List.mem_singleton]; exact .inl (.inl h)
 | false => simp only [Fm.on, Bool.false_eq_true, if_false, kM_node, List.mem_append, List.mem_singleton]; exact .inr h
theorem mem_plug : ∀ (C : List (Fm IP)) (t : MT IP) (k : Int), k ∈ kM t -> k ∈ kM (plug C t)
 | [], t, k, h => h
 | f :: C, t, k, h => mem_plug C (f.on t) k (mem_on f t k h)
theorem up_on {f : Fm IP} {t : MT IP} (h : Up (kM (f.on t))) : Up (kM t) := by
 obtain ⟨a, left, o⟩ := f
 cases left with
 | true => simp only [Fm.on, if_true] at h; exact (up_node h).1
 | false => simp only [Fm.on, Bool.false_eq_true, if_false] at h; exact (up_node h).2.1
theorem notin_on {f : Fm IP} {t : MT IP} {k : Int} (hu : Up (kM (f.on t))) (hd : (f.left = true -> k < f.a.1) /\ (f.left = false -> f.a.1 < k)) (h : k ∉ kM t) : k ∉ kM (f.on t) := by
 obtain ⟨a, left, o⟩ := f
 cases left with
 | true =>
  simp only [Fm.on, if_true] at hu ⊢
  obtain ⟨_, _, h3, h4⟩ := up_node hu
  have := hd.1 rfl
  simp only at this
  simp only [kM_node, List.mem_append, List.mem_singleton, not_or]
  exact ⟨⟨h, by omega⟩, fun hx => by have := h4 k hx; omega⟩
 | false =>
  simp only [Fm.on, Bool.false_eq_true, if_false] at hu ⊢
  obtain ⟨_, _, h3, h4⟩ := up_node hu
  have := hd.2 rfl
  simp only at this
  simp only [kM_node, List.mem_append, List.mem_singleton, not_or]
  exact ⟨⟨fun hx => by have := h3 k hx; omega, by omega⟩, h⟩
theorem up_plug : ∀ (C : List (Fm IP)) (t : MT IP), Up (kM (plug C t)) -> Up (kM t)
 | [], t, h => h
 | f :: C, t, h => up_on (up_plug C (f.on t) h)
theorem notin_plug : ∀ (C : List (Fm IP)) (t : MT IP) (k : Int), Up (kM (plug C t)) -> Dir Prod.fst C k -> k ∉ kM t -> k ∉ kM (plug C t)
 | [], t, k, _, _, h => h
 | f :: C, t, k, hu, hd, h => notin_plug C (f.on t) k hu (fun x hx => hd x (by simp [hx])) (notin_on (up_plug C (f.on t) hu) (hd f (by simp)) h)
theorem lenT_on {f : Fm IP} {k : Int} (hd : (f.left = true -> k < f.a.1) /\ (f.left = false -> f.a.1 < k)) (t : MT IP) : lenT (f.on t) k = lenT t k + 1 := by
 obtain ⟨a, left, o⟩ := f
 cases left with
 | true =>
  have := hd.1 rfl
  simp only at this
  simp only [Fm.on, if_true, lenT]
  rw [if_neg (by omega), if_pos this]
 | false =>
  have := hd.2 rfl
  simp only at this
  simp only [Fm.on, Bool.false_eq_true, if_false, lenT]
  rw [if_neg (by omega), if_neg (by omega)]
theorem lenT_plug : ∀ (C : List (Fm IP)) (t : MT IP) (k : Int), Dir Prod.fst C k -> lenT (plug C t) k = C.length + lenT t k
 | [], t, k, _ => by simp [plug]
 | f :: C, t, k, hd => by
  rw [plug, lenT_plug C (f.on t) k (fun x hx => hd x (by simp [hx])), lenT_on (hd f (by simp))]
  simp only [List.length_cons]; omega
theorem fixT_on {f : Fm IP} {k : Int} (hd : (f.left = true -> k < f.a.1) /\ (f.left = false -> f.a.1 < k)) (t : MT IP) (h : (fixT t k).2.2 = true) : fixT (f.on t) k = (f.on (fixT t k).1, (fixT t k).2.1, true) := by
 obtain ⟨a, left, o⟩ := f
 cases left with
 | true =>
  have := hd.1 rfl
  simp only at this
  simp only [Fm.on, if_true]
  rw [fixT, if_neg (by omega), if_pos this, if_pos h]
 | false =>
  have := hd.2 rfl
  simp only at this
  simp only [Fm.on, Bool.false_eq_true, if_false]
  rw [fixT, if_neg (by omega), if_neg (by omega), if_pos h]
theorem fixT_plug : ∀ (C : List (Fm IP)) (t : MT IP) (k : Int), Dir Prod.fst C k -> (fixT t k).2.2 = true -> fixT (plug C t) k = (plug C (fixT t k).1, (fixT t k).2.1, true)
 | [], t, k, _, h => by rw [plug]; exact Prod.ext rfl (Prod.ext rfl h)
 | f :: C, t, k, hd, h => by
  have e := fixT_on (hd f (by simp)) t h
  have h2 : (fixT (f.on t) k).2.2 = true := by rw [e]
  rw [plug, fixT_plug C (f.on t) k (fun x hx => hd x (by simp [hx])) h2, e]
  rfl
theorem fixT_here {f : Fm IP} {k : Int} (hd : (f.left = true -> k < f.a.1) /\ (f.left = false -> f.a.1 < k)) (t : MT IP) (h : (fixT t k).2.2 = false) (l r : MT IP) (he : f.on t = .node f.a l r) : fixT (f.on t) k = if leans l r = true then (evenT (kM (f.on t)), (f.on t).size, true) else (f.on t, 0, false) := by
 obtain ⟨a, left, o⟩ := f
 cases left with
 | true =>
  have := hd.1 rfl
  simp only at this
  simp only [Fm.on, if_true] at he ⊢
  injection he with _ h1 h2
  subst h1 h2
  rw [fixT, if_neg (by omega), if_pos this, if_neg (by simp [h])]
  split
  ·simp only [MT.size]; rw [show t.size + 1 + o.size = t.size + o.size + 1 by omega]
  ·rfl
 | false =>
  have := hd.2 rfl
  simp only at this
  simp only [Fm.on, Bool.false_eq_true, if_false] at he ⊢
  injection he with _ h1 h2
  subst h1 h2
  rw [fixT, if_neg (by omega), if_neg (by omega), if_neg (by simp [h])]
  split
  ·simp only [MT.size]; rw [show o.size + 1 + t.size = o.size + t.size + 1 by omega]
  ·rfl
theorem on_node (f : Fm IP) (t : MT IP) : ∃ l r, f.on t = .node f.a l r := by
 unfold Fm.on
 split
 ·exact ⟨_, _, rfl⟩
 ·exact ⟨_, _, rfl⟩
def YR (w : World) (gy base : Nat) (S : Gt) : Prop :=
 TB w 256 eFst ⟨gy, 0, none⟩ base S.T /\ w.cell? ⟨gy, 1, none⟩ = some (.int .i64 (S.many : Int)) /\ w.cell? ⟨gy, 2, none⟩ = some (.int .i64 (S.most : Int)) /\ w.cell? ⟨gy, 3, none⟩ = some (.int .i64 (S.built : Int)) /\ (∀ j, w.frozen? ⟨gy, j, none⟩ = false) /\ base <= gy
def YPost (gy : Nat) (S : Gt) (w0 : World) (e : Ending) (w' : World) : Prop := e = .returned (.tuple #[]) /\ YR w' gy w0.heap.size S /\ Kp w0 w'
theorem yr_put {w w1 w0 : World} {gy : Nat} {T t t' : MT IP} {F Fc Ft Ft' : List Nat} {key : Int} {C : List (Fm IP)} {q : Addr} {p p' : Option Addr} {many most built : Nat}
  (ha : At_ w 256 eFst Prod.fst ⟨gy, 0, none⟩ T F key C q t p Fc Ft) (hy : gy ∉ F) (hF : ∀ x ∈ F, w0.heap.size <= x) (hFl : ∀ x ∈ F, x < w.heap.size) (hB : w0.heap.size <= gy) (hk0 : Kp w0 w)
  (hgl : gy < w.heap.size) (hf : ∀ j, w.frozen? ⟨gy, j, none⟩ = false) (hk : Kp w w1) (hm : MR w1 256 eFst t' p' Ft') (hn : ∀ x ∈ Ft', w.heap.size <= x)
  (c1 : w1.cell? ⟨gy, 1, none⟩ = some (.int .i64 (many : Int))) (c2 : w1.cell? ⟨gy, 2, none⟩ = some (.int .i64 (most : Int))) (c3 : w1.cell? ⟨gy, 3, none⟩ = some (.int .i64 (built : Int))) :
  YR (w1.setCell q (.pointer p')) gy w0.heap.size ⟨plug C t', many, most, built⟩ /\ Kp w0 (w1.setCell q (.pointer p')) := by
 have hfcl : ∀ x ∈ Fc, x ∈ F := fun x hx => ha.sub x (.inr hx)
 have hqb : q = ⟨gy, 0, none⟩ ∨ q.block ∈ F := ha.zp.at_.imp id (fun h => hfcl _ h)
 have hqj : ∀ j, 0 < j -> q ≠ ⟨gy, j, none⟩ := fun j hj e => by
  rcases hqb with h | h
  ·rw [h] at e
   injection e with _ e
   omega
  ·rw [e] at h; exact hy h
 have hql : q.block < w.heap.size := by
  rcases hqb with h | h
  ·rw [h]; exact hgl
  ·exact hFl _ h
 obtain ⟨p0, F0, g1, g2, g3, g4, g5⟩ := ha.put hy hk hgl (hf 0) hm (fun x hx hx' => by have := hn x hx; have := hFl x (hfcl x hx'); omega) (fun h => by have := hn _ h; omega) (fun x hx => .inr (hn x hx))
 have hk1 : Kp w0 (w1.setCell q (.pointer p')) := g5.kp hk0 fun i hi => by
  rcases hi with rfl | hi
  ·exact hB
  ·exact hF i hi
 have hz := hk0.size
 refine ⟨⟨⟨p0, F0, g1, g4, g2, fun h => ?_, fun x hx => ?_⟩, ?_, ?_, ?_, fun j => ?_, hB⟩, hk1⟩
 ·rcases g3 _ h with h | h
  ·exact hy h
  ·simp only at h; omega
 ·rcases g3 x hx with h | h
  ·exact hF x h
  ·omega
 ·rw [World.cell?_setCell_other _ _ _ _ (hqj 1 (by omega))]; exact c1
 ·rw [World.cell?_setCell_other _ _ _ _ (hqj 2 (by omega))]; exact c2
 ·rw [World.cell?_setCell_other _ _ _ _ (hqj 3 (by omega))]; exact c3
 ·rw [World.frozen?_setCell]; exact (hk.frozen hgl).trans (hf j)
theorem gtAnew_any {w w0 : World} {gy : Nat} {T t : MT IP} {F Fc Ft : List Nat} {key : Int} {C : List (Fm IP)} {q : Addr} {p : Option Addr} (many most built : Nat)
  (ha : At_ w 256 eFst Prod.fst ⟨gy, 0, none⟩ T F key C q t p Fc Ft) (hy : gy ∉ F) (hF : ∀ x ∈ F, w0.heap.size <= x) (hFl : ∀ x ∈ F, x < w.heap.size) (hB : w0.heap.size <= gy) (hk : Kp w0 w)
  (c1 : w.cell? ⟨gy, 1, none⟩ = some (.int .i64 (many : Int))) (c2 : w.cell? ⟨gy, 2, none⟩ = some (.int .i64 (most : Int))) (c3 : w.cell? ⟨gy, 3, none⟩ = some (.int .i64 (built : Int))) (hf : ∀ j, w.frozen? ⟨gy, j, none⟩ = false)
  (hs : t.size <= 100000) (hb : built + t.size <= 1000000000) :
  Calls Tryz.prog 179 #[.pointer (some ⟨gy, 0, none⟩), .pointer (some q)] w (YPost gy ⟨plug C (evenT (kM t)), many, most, built + t.size⟩ w0) := by
 have hgl : gy < w.heap.size := World.block_lt_of_cell? _ _ c1
 have cq := ha.cell
 have HKE := hide (gtKeys_any t p Ft w ha.mr (by omega))
 have HA := hide ha
 have HY := hide hy
 have HF := hide hF
 have HFL := hide hFl
 have HFZ := hide hf
 have HK := hide hk
 have HSZ := hide hs
 have HBD := hide hb
 have HGL := hide hgl
 have HBB := hide hB
 have HC1 := hide c1
 have HC2 := hide c2
 have HC3 := hide c3
 clear ha hy hF hFl hf hk hs hb hgl hB c1 c2 c3
 go_enter Tryz.func179, Tryz.ntmps179
 go_wp2_with fail
 with_reducible refine HKE.out.mono ?_
 rintro e w1 ⟨v1, rfl, ho1, hb1⟩
 have kk1 := Kp.of hb1
 obtain ⟨A1, a1, rfl, _, _⟩ := ho1.rd.shape
 have d3 : w1.cell? ⟨gy, 3, none⟩ = some (.int .i64 (built : Int)) := kk1.cell HC3.out
 have f3 : w1.frozen? ⟨gy, 3, none⟩ = false := (kk1.frozen HGL.out).trans (HFZ.out 3)
 have hw : IntKind.i64.wrap ((built : Int) + ((kM t).length : Int)) = ((built + (kM t).length : Nat) : Int) := by rw [IntWalk.i64_in _ (by rw [kM_len]; have := HBD.out; omega)]; omega
 have HKL : Hid ((kM t).length = t.size) := hide (kM_len t)
 have HO1 := hide ho1
 obtain ⟨nb, hnb⟩ : ∃ nb, nb = built + (kM t).length := ⟨_, rfl⟩
 rw [<- hnb] at hw
 have HNB := hide hnb
 clear ho1 hb1 cq hnb
 go_wp2_with fail
 obtain ⟨W2, hW2⟩ : ∃ W2, W2 = w1.setCell ⟨gy, 3, none⟩ (.int .i64 (nb : Int)) := ⟨_, rfl⟩
 rw [<- hW2]
 have hkf2 : Kf (fun i => i = gy) w1 W2 := by rw [hW2]; exact (Kf.refl _ _).set (.inl rfl)
 have hgl1 : gy < w1.heap.size := Nat.lt_of_lt_of_le HGL.out kk1.size
 have HRD : Hid (RD W2 eInt (.slice A1 (kM t).length a1) (kM t)) := hide (HO1.out.rd.kf hkf2 (fun _ k hk e => by have h1 := (HO1.out.lt k hk).1; have := HGL.out; subst e; omega))
 have hEV := gtEven_any (kM t).length (kM t) _ W2 (Nat.le_refl _) (by have := HSZ.out; have := HKL.out; omega) HRD.out
 have HA2 : Hid (At_ W2 256 eFst Prod.fst ⟨gy, 0, none⟩ T F key C q t p Fc Ft) := hide ((HA.out.kp kk1 HGL.out HFL.out).keep (by rw [hW2, World.cell?_setCell_other _ _ _ _ (by simp)]) (by rw [hW2, World.frozen?_setCell]) (fun i hi => hkf2.block (Nat.lt_of_lt_of_le (HFL.out i hi) kk1.size) (fun e => HY.out (e ▸ hi))))
 have HE1 : Hid (W2.cell? ⟨gy, 1, none⟩ = some (.int .i64 (many : Int))) := hide (by rw [hW2, World.cell?_setCell_other _ _ _ _ (by simp)]; exact kk1.cell HC1.out)
 have HE2 : Hid (W2.cell? ⟨gy, 2, none⟩ = some (.int .i64 (most : Int))) := hide (by rw [hW2, World.cell?_setCell_other _ _ _ _ (by simp)]; exact kk1.cell HC2.out)
 have HE3 : Hid (W2.cell? ⟨gy, 3, none⟩ = some (.int .i64 (nb : Int))) := hide (by rw [hW2]; exact World.cell?_setCell_same' w1 _ _ (by rw [d3]; rfl))
 have HZ2 : Hid (W2.heap.size = w1.heap.size) := hide (by rw [hW2]; simp [World.setCell])
 have HF2 : Hid (∀ j, W2.frozen? ⟨gy, j, none⟩ = false) := hide (fun j => by rw [hW2, World.frozen?_setCell]; exact (kk1.frozen HGL.out).trans (HFZ.out j))
 have HK2 : Hid (Kp w0 W2) := hide (hkf2.kp (HK.out.trans kk1) (fun i hi => by subst hi; exact HBB.out))
 have HEV := hide hEV
 have HK1 := hide kk1
 have HGL2 : Hid (gy < W2.heap.size) := hide (by rw [HZ2.out]; exact hgl1)
 have HFL2 : Hid (∀ x ∈ F, x < W2.heap.size) := hide (fun x hx => by rw [HZ2.out]; exact Nat.lt_of_lt_of_le (HFL.out x hx) kk1.size)
 clear hW2 hkf2 hgl1 hEV d3 f3 hw kk1
 with_reducible refine HEV.out.mono ?_
 rintro e w3 ⟨p3, F3, rfl, hm3, hn3, hb3⟩
 have kk3 := Kp.of hb3
 have c9 : w3.cell? q = some (.pointer p) := kk3.cell HA2.out.cell
 have f9 : w3.frozen? q = false := (kk3.frozen (World.block_lt_of_cell? _ _ HA2.out.cell)).trans HA2.out.fz
 have HYP := hide (yr_put HA2.out HY.out HF.out HFL2.out HBB.out HK2.out HGL2.out HF2.out kk3 hm3 hn3 (kk3.cell HE1.out) (kk3.cell HE2.out) (kk3.cell HE3.out))
 clear hm3 hn3 hb3 kk3
 go_wp2
 exact bodyPost_ret (v := .tuple #[]) (by simp [results, Tryz.results179, go_sem]) rfl ⟨rfl, by have h := HYP.out.1; rw [HNB.out, HKL.out] at h; exact h, HYP.out.2⟩
end Go.Proofs.YtcljlnagpjilaaaGreatDoor
