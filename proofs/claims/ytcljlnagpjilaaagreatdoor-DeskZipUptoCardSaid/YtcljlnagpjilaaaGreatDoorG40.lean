/-
  The document's trees and desk.tree's: plain laws
  hedgref.Digits, numbersOf, wordsOf: what they answer
  hedgref.numbersOf: what it answers
-/
import Derived.Test.YtcljlnagpjilaaaGreatDoorG32
import Derived.Test.YtcljlnagpjilaaaGreatDoorG33
import Derived.Test.YtcljlnagpjilaaaGreatDoorG36
import Derived.Test.YtcljlnagpjilaaaGreatDoorG39
import Derived.Test.YtcljlnagpjilaaaGreatDoorG15
import Derived.Lib.ItoaMem
import Derived.Test.YtcljlnagpjilaaaGreatDoorG7
import Derived.Lib.ConvBytes

set_option linter.unusedVariables false
set_option linter.unusedSimpArgs false
set_option maxRecDepth 100000
set_option maxHeartbeats 8000000
namespace Go.Proofs.YtcljlnagpjilaaaGreatDoor
open Go.ChangeShapes Go.WideShapes Go.ChangeAt Go.RowKit
theorem spots_deep : ∀ (t : T) (d : Int), ∀ p ∈ t.spots d, d <= p.2
 | .nil, _, p, h => by simp [T.spots] at h
 | .node k l r, d, p, h => by
  rw [T.spots, List.mem_append, List.mem_append] at h
  rcases h with (h | h) | h
  ·have := spots_deep l _ p h; omega
  ·simp at h; rw [h]; exact Int.le_refl _
  ·have := spots_deep r _ p h; omega
theorem cut_uniq {d : Int} {x y : IP} : ∀ {a c b e : List IP}, (∀ p ∈ a, d < p.2) -> (∀ p ∈ c, d < p.2) -> x.2 = d -> y.2 = d -> a ++ [x] ++ b = c ++ [y] ++ e -> a = c /\ x = y /\ b = e
 | [], [], b, e, _, _, _, _, h => by simp at h; exact ⟨rfl, h.1, h.2⟩
 | [], z :: c, b, e, _, hc, hx, _, h => by
  simp at h
  have := hc z List.mem_cons_self
  rw [<- h.1] at this; omega
 | z :: a, [], b, e, ha, _, _, hy, h => by
  simp at h
  have := ha z List.mem_cons_self
  rw [h.1] at this; omega
 | z :: a, z' :: c, b, e, ha, hc, hx, hy, h => by
  simp only [List.cons_append] at h
  injection h with h1 h2
  obtain ⟨q1, q2, q3⟩ := cut_uniq (fun p hp => ha p (List.mem_cons_of_mem _ hp)) (fun p hp => hc p (List.mem_cons_of_mem _ hp)) hx hy h2
  exact ⟨by rw [h1, q1], q2, q3⟩
theorem spots_inj : ∀ (t u : T) (d : Int), t.spots d = u.spots d -> t = u
 | .nil, .nil, _, _ => rfl
 | .nil, .node k l r, d, h => by simp [T.spots] at h
 | .node k l r, .nil, d, h => by simp [T.spots] at h
 | .node k l r, .node k' l' r', d, h => by
  rw [T.spots, T.spots] at h
  obtain ⟨h1, h2, h3⟩ := cut_uniq (d := d) (fun p hp => by have := spots_deep l _ p hp; omega) (fun p hp => by have := spots_deep l' _ p hp; omega) rfl rfl h
  rw [spots_inj l l' _ h1, spots_inj r r' _ h3]
  injection h2 with h2
  rw [h2]
theorem order_telD {t : T} (h : (parOf (t.spots 0)).2 = 0) : orderOf (t.spots 0) 1 = (told1 t, 0) := by
 rw [order_told _ h, if_pos rfl, spots_inj _ _ 0 (treeOf_spots _ h).1]
theorem zip_spD (ops : List O3) : (heapTree (((runL ops).1.map Prod.fst).map zk)).spots 0 = (zrT (opsA ops)).spotsBy Prod.fst 0 /\ (parOf ((zrT (opsA ops)).spotsBy Prod.fst 0)).2 = 0 := by
 have h := zip_inv_all ops
 have hr := runL_right ops _ (Nat.le_refl _)
 rw [List.take_length] at hr
 refine ⟨by rw [<- h.nd_, heapTree_nd _ h.hp (by rw [h.nd_]; exact zk_up h.up), skZ_spots], ?_⟩
 have hkk : keysM Prod.fst (zrT (opsA ops)) = (runL ops).1.map Prod.fst := by
  rw [keysM_nd, h.nd_, List.map_map]; simp [Function.comp_def, zk]
 have hsz : (zrT (opsA ops)).size <= 200 := by
  rw [<- keysM_len Prod.fst, hkk, List.length_map]
  exact mapRight_len _ hr
 rw [spotsBy_right Prod.fst _ hsz (by rw [hkk]; exact h.up) (by
  rw [hkk]
  intro k hk
  obtain ⟨p, hp, rfl⟩ := List.mem_map.1 hk
  exact mapRight_in _ hr p hp)]
theorem sum_told {t : T} (h : (parOf (t.spots 0)).2 = 0) : sumOf (t.spots 0) = (mostL (t.spots 0), allL (t.spots 0), 0) := by
 rw [sumOf, if_neg (by rw [h]; decide)]
def refT (ks : List Int) (ops : List O3) (s : By) : Option T :=
 if s = growB then some (grT (ops.zip (runL ops).2)) else if s = zipB then some (heapTree (ks.map zk)) else
 if s = goatB then some (skel (gtT (opsZ ops)).T) else if s = evenB then some (skel (evenT ks)) else none
theorem tree_link {l : List IP} {ops : List O3} (h : DkIn l ops) (hn : ops.length <= 300) (s : By) :
  match refT (l.map Prod.fst) ops s with
  | some t => treeS (l.map Prod.fst) ops s = .ok (t.spots 0) /\ (parOf (t.spots 0)).2 = 0
  | none => treeS (l.map Prod.fst) ops s = .error 1 := by
 have hks : krL (l.map Prod.fst) = 0 := by rw [<- h.run]; exact runL_keys ops
 have hle : ¬ ops.length > 300 := by omega
 unfold refT treeS
 by_cases h1 : s = growB
 ·rw [if_pos h1, if_pos h1]
  refine ⟨?_, ?_⟩
  ·rw [growRun, if_neg hle, exT, if_pos rfl, skel_run, skel_spots]
  ·rw [skel_run, skel_spots]; exact (grow_right ops).1
 ·rw [if_neg h1, if_neg h1]
  by_cases h2 : s = zipB
  ·rw [if_pos h2, if_pos h2]
   have e := (zip_spD ops).1
   have e2 := (zip_spD ops).2
   rw [h.run] at e
   refine ⟨?_, ?_⟩
   ·rw [zipRun, if_neg hle, exT, if_pos rfl, e]
   ·rw [e]; exact e2
  ·rw [if_neg h2, if_neg h2]
   by_cases h3 : s = goatB
   ·rw [if_pos h3, if_pos h3]
    refine ⟨?_, ?_⟩
    ·rw [goatRun, if_neg hle, exT, if_pos rfl, skel_spots]
    ·rw [skel_spots]; exact (goat_right ops).1
   ·rw [if_neg h3, if_neg h3]
    by_cases h4 : s = evenB
    ·rw [if_pos h4, if_pos h4]
     obtain ⟨q1, q2, q3⟩ := krL_in hks
     refine ⟨?_, ?_⟩
     ·rw [evenA, if_pos hks, exT, if_pos rfl, skel_spots]
     ·rw [skel_spots]; exact (even_right _ q1 q2 q3).1
    ·rw [if_neg h4, if_neg h4]
theorem spots_size {t : T} (h : (parOf (t.spots 0)).2 = 0) : t.size <= 200 := by
 have := (parOf_len _ h).1
 rw [T.spots_len] at this
 exact this
theorem nDig_le : ∀ (k u : Nat), u < 10 ^ k -> 1 <= k -> (Lib.decDigits u).length <= k
 | 0, u, h, hk => by omega
 | k + 1, u, h, _ => by
  rw [Lib.decDigits]
  split
  ·simp
  ·rw [List.length_append, List.length_singleton]
   have hk : 1 <= k := by
    refine Nat.pos_of_ne_zero fun e => ?_
    subst e
    omega
   have := nDig_le k (u / 10) (by rw [Nat.pow_succ] at h; omega) hk
   omega
def NN (l : List Int) : Prop := ∀ x ∈ l, 0 <= x /\ x <= 9223372036854775807
theorem decV_nil (acc : Nat) : decV acc [] = acc := by unfold decV; rfl
theorem decV_cons (acc : Nat) (b : UInt8) (r : By) : decV acc (b :: r) = decV (acc * 10 + (b.toNat - 48)) r := by
 conv => lhs; unfold decV
theorem decV_snoc (b : UInt8) (l : By) : ∀ acc, decV acc (l ++ [b]) = decV acc l * 10 + (b.toNat - 48) := by
 induction l with
 | nil => intro acc; rw [List.nil_append, decV_cons, decV_nil, decV_nil]
 | cons x l ih => intro acc; rw [List.cons_append, decV_cons, decV_cons, ih]
end Go.Proofs.YtcljlnagpjilaaaGreatDoor
