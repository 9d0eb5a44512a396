/-
  What the desk holds while lines are answered, and that each line finds it right: plain law
-/
import Derived.Test.YtcljlnagpjilaaaGreatDoorG30
import Derived.Test.YtcljlnagpjilaaaGreatDoorG9
import Derived.Test.YtcljlnagpjilaaaGreatDoorG20
import Derived.Test.YtcljlnagpjilaaaGreatDoorG17
import Derived.Test.YtcljlnagpjilaaaGreatDoorG31

set_option linter.unusedVariables false
set_option linter.unusedSimpArgs false
set_option maxRecDepth 100000
set_option maxHeartbeats 8000000
namespace Go.Proofs.YtcljlnagpjilaaaGreatDoor
open Go.ChangeShapes Go.WideShapes Go.ChangeAt Go.RowKit
theorem z00 : (0 : Int) <= 0 := Int.le_refl 0
theorem z03 : (0 : Int) <= 3 := by decide
def Num (n : Int) : Prop := 0 <= n /\ n < 10000000
structure DkIn (l : List IP) (ops : List O3) : Prop where
 right : mapRight l = 0
 vals : ∀ p ∈ l, Num p.2
 run : (runL ops).1 = l
theorem DkIn.start : DkIn [] [] := ⟨rfl, fun p h => absurd h List.not_mem_nil, rfl⟩
theorem doA_vals {l : List IP} {k key val : Int} (h : ∀ p ∈ l, Num p.2) (hv : Num val) : ∀ p ∈ (doA l k key val).1, Num p.2 := by
 have hput : ∀ p ∈ (putL l key val).1, Num p.2 := by
  unfold putL
  split
  ·intro p hp
   rcases List.mem_or_eq_of_mem_set hp with hp | rfl
   ·exact h p hp
   ·exact hv
  ·split
   ·exact h
   ·intro p hp
    simp only [List.mem_append, List.mem_singleton] at hp
    rcases hp with (hp | rfl) | hp
    ·exact h p (List.mem_of_mem_take hp)
    ·exact hv
    ·exact h p (List.mem_of_mem_drop hp)
 have hcut : ∀ p ∈ l.take (below l key) ++ l.drop (below l key + 1), Num p.2 := by
  intro p hp
  rcases List.mem_append.1 hp with hp | hp
  ·exact h p (List.mem_of_mem_take hp)
  ·exact h p (List.mem_of_mem_drop hp)
 unfold doA
 split
 ·unfold doL
  split
  ·exact h
  ·split
   ·exact hput
   ·split
    ·exact h
    ·split
     ·split
      ·exact hcut
      ·exact h
     ·split
      ·exact h
      ·split
       ·exact h
       ·split
        ·exact h
        ·exact h
 ·intro p hp; cases hp
theorem runL_snocD (ops : List O3) (o : O3) : (runL (ops ++ [o])).1 = (doA (runL ops).1 o.1 o.2.1 o.2.2).1 := by
 unfold runL
 rw [List.foldl_append]
 rfl
theorem DkIn.ask {l : List IP} {ops : List O3} (h : DkIn l ops) {k key val : Int} (hv : Num val) {x : List IP × List O3 × By} (hx : askO l ops k key val = .ok x) : DkIn x.1 x.2.1 /\ x.2.1.length = ops.length + 1 := by
 unfold askO at hx
 split at hx
 ·injection hx with hx
  subst hx
  refine ⟨⟨doA_right l k key val h.right, doA_vals h.vals hv, ?_⟩, by simp⟩
  show (runL (ops ++ [(k, key, val)])).1 = (doA l k key val).1
  rw [runL_snocD, h.run]
 ·cases hx
theorem DkIn.askW {l : List IP} {ops : List O3} (h : DkIn l ops) {ws : List ByteArray} {x : List IP × List O3 × By} (hx : askW l ops ws = .ok x) : DkIn x.1 x.2.1 /\ x.2.1.length <= ops.length + 1 := by
 have key : ∀ k key val, Num val -> askO l ops k key val = .ok x -> DkIn x.1 x.2.1 /\ x.2.1.length <= ops.length + 1 := fun k key val hv hx => ⟨(h.ask hv hx).1, by rw [(h.ask hv hx).2]; exact Nat.le_refl _⟩
 unfold Go.Proofs.YtcljlnagpjilaaaGreatDoor.askW at hx
 split at hx
 ·split at hx
  ·cases hx
  ·split at hx
   ·cases hx
   ·split at hx
    ·cases hx
    ·rename_i val hval
     exact key _ _ _ (numF_in hval) hx
 ·split at hx
  ·cases hx
  ·split at hx
   ·cases hx
   ·exact key _ _ _ (by unfold Num; omega) hx
theorem DkIn.line {l : List IP} {ops : List O3} (h : DkIn l ops) (ws : List ByteArray) : DkIn (ansW l ops ws).1 (ansW l ops ws).2.1 /\ (ansW l ops ws).2.1.length <= ops.length + 1 := by
 unfold ansW
 split
 ·cases hr : Go.Proofs.YtcljlnagpjilaaaGreatDoor.askW l ops ws with
  | ok x => exact h.askW hr
  | error e => exact ⟨h, by simp⟩
 ·exact ⟨h, by simp⟩
theorem mrFrom_03 : ∀ (l : List IP) (a : Int), mrFrom a l = 0 ∨ mrFrom a l = 3
 | [], _ => .inl rfl
 | x :: l, a => by
  rw [mrFrom]
  split
  ·exact mrFrom_03 l _
  ·exact .inr rfl
theorem mapRight_03 (l : List IP) : 0 <= mapRight l /\ mapRight l <= 3 := by
 unfold mapRight
 split
 ·omega
 ·rcases mrFrom_03 l (-1) with h | h <;> omega
theorem parOf_03 (l : List IP) : 0 <= (parOf l).2 /\ (parOf l).2 <= 3 := by
 have := mapRight_03 l
 unfold parOf
 split
 ·exact this
 ·split
  ·exact ⟨z00, z03⟩
  ·exact ⟨z03, Int.le_refl 3⟩
theorem krF_03 : ∀ (l : List Int) (a : Int), krF a l = 0 ∨ krF a l = 3
 | [], _ => .inl rfl
 | x :: l, a => by
  rw [krF]
  split
  ·exact krF_03 l _
  ·exact .inr rfl
theorem krL_03 (l : List Int) : 0 <= krL l /\ krL l <= 3 := by
 unfold krL
 split
 ·omega
 ·rcases krF_03 l (-1) with h | h <;> omega
theorem walk_in {t : List IP} (h : mapRight t = 0) : ∀ x ∈ walkF t false 0 t.length, 0 <= x /\ x <= 1000000 := by
 intro x hx
 obtain ⟨k, _, hk, rfl⟩ := walkF_mem t false 0 t.length x hx
 have := mapRight_in t h t[k] (List.getElem_mem hk)
 rw [gk_eq t k hk]
 exact this
theorem order_in (t : List IP) : (orderOf t 1).1.length <= 1000000 /\ In64 (orderOf t 1).1 /\ 0 <= (orderOf t 1).2 /\ (orderOf t 1).2 <= 3 := by
 have h03 := parOf_03 t
 unfold orderOf
 split
 ·exact ⟨by simp, fun x h => absurd h List.not_mem_nil, h03⟩
 ·rename_i h
  rw [if_pos rfl]
  obtain ⟨h1, h2, _⟩ := parOf_len t (by omega)
  refine ⟨by rw [walkF_len]; omega, fun x hx => ?_, by omega, by omega⟩
  have := walk_in h2 x hx
  omega
theorem most_in (l : List IP) (h : ∀ p ∈ l, 0 <= p.2 /\ p.2 < 200) : -1 <= mostL l /\ mostL l < 200 := by
 have key : ∀ (l : List IP) (a : Int), -1 <= a -> a < 200 -> (∀ p ∈ l, 0 <= p.2 /\ p.2 < 200) -> -1 <= l.foldl (fun m p => max m p.2) a /\ l.foldl (fun m p => max m p.2) a < 200 := by
  intro l
  induction l with
  | nil => intro a h1 h2 _; exact ⟨h1, h2⟩
  | cons x l ih =>
   intro a h1 h2 h3
   have := h3 x List.mem_cons_self
   exact ih (max a x.2) (by omega) (by omega) fun p hp => h3 p (List.mem_cons_of_mem _ hp)
 exact key l (-1) (by decide) (by decide) h
theorem sum_in (t : List IP) : In64 [(sumOf t).1] /\ 0 <= (sumOf t).2.2 /\ (sumOf t).2.2 <= 3 := by
 have h03 := parOf_03 t
 unfold sumOf
 split
 ·exact ⟨fun x h => by simp at h; omega, h03⟩
 ·rename_i h
  have hm := most_in t fun p hp => by
   obtain ⟨k, hk, rfl⟩ := List.mem_iff_getElem.1 hp
   exact gv_bound t (by omega) k hk
  exact ⟨fun x h => by simp at h; omega, z00, z03⟩
theorem doA_in {l : List IP} (hr : mapRight l = 0) (hv : ∀ p ∈ l, Num p.2) (k key val : Int) :
  In64 [(doA l k key val).2.key, (doA l k key val).2.val] /\ 0 <= (doA l k key val).2.err /\ (doA l k key val).2.err <= 3 := by
 have hlen := mapRight_len l hr
 have hbl := below_le l key
 have z : ∀ e i, 0 <= e -> e <= 3 -> In64 [(⟨e, 0, 0, i⟩ : An).key, (⟨e, 0, 0, i⟩ : An).val] /\ 0 <= (⟨e, 0, 0, i⟩ : An).err /\ (⟨e, 0, 0, i⟩ : An).err <= 3 := fun e i h1 h2 => ⟨fun x h => by simp at h; omega, h1, h2⟩
 have hgv : ∀ j, -10000000 <= gv l j /\ gv l j <= 10000000 := fun j => by
  unfold gv
  rw [List.getD_eq_getElem?_getD]
  cases hj : l[j]? with
  | none => simp
  | some p =>
   have := hv p (List.mem_of_getElem? hj)
   unfold Num at this
   simp
   omega
 have g : ∀ v, -10000000 <= v -> v <= 10000000 -> In64 [(⟨0, 0, v, true⟩ : An).key, (⟨0, 0, v, true⟩ : An).val] /\ 0 <= (⟨0, 0, v, true⟩ : An).err /\ (⟨0, 0, v, true⟩ : An).err <= 3 := fun v h1 h2 => ⟨fun x h => by simp at h; omega, z00, z03⟩
 have tl : ∀ a, In64 [(toldL l a).key, (toldL l a).val] /\ 0 <= (toldL l a).err /\ (toldL l a).err <= 3 := fun a => by
  unfold toldL
  split
  ·rename_i h
   have hm : l[a.toNat]'(by omega) ∈ l := List.getElem_mem _
   have h1 := mapRight_in l hr _ hm
   have h2 := hv _ hm
   unfold Num at h2
   exact ⟨fun x h => by simp at h; omega, z00, z03⟩
  ·exact z 0 false (by decide) (by decide)
 unfold doA
 rw [if_pos hr]
 unfold doL
 split
 ·exact z 1 false (by decide) (by decide)
 ·split
  ·unfold putL
   split
   ·exact z 0 true (by decide) (by decide)
   ·split
    ·exact z 2 false (by decide) (by decide)
    ·exact z 0 false (by decide) (by decide)
  ·split
   ·split
    ·exact g _ (hgv _).1 (hgv _).2
    ·exact z 0 false (by decide) (by decide)
   ·split
    ·split
     ·exact g _ (hgv _).1 (hgv _).2
     ·exact z 0 false (by decide) (by decide)
    ·split
     ·exact tl _
     ·split
      ·exact tl _
      ·split
       ·exact g _ (by omega) (by omega)
       ·exact tl _
theorem path_in (ks : List Int) (key : Int) : (pathOf ks key).1.length <= 1000000 /\ In64 ((pathOf ks key).1.map Prod.snd) /\ 0 <= (pathOf ks key).2 /\ (pathOf ks key).2 <= 3 := by
 have h03 := krL_03 ks
 unfold pathOf
 split
 ·rename_i h
  obtain ⟨h1, h2, h3⟩ := krL_in h
  split
  ·refine ⟨?_, fun x hx => ?_, z00, z03⟩
   ·show (stAll ks key 12).1.length <= 1000000
    have := (stAll_in h3 key 12).2.2
    have : 12 * ks.length <= 12 * 200 := Nat.mul_le_mul_left _ h1
    omega
   ·have := ((seen_all h2 h3 12 (by omega) x).1 hx).1
    have := h3 x this
    omega
  ·exact ⟨by simp, fun x h => absurd h List.not_mem_nil, by decide, by decide⟩
 ·exact ⟨by simp, fun x h => absurd h List.not_mem_nil, h03⟩
theorem rows_in (ks : List Int) : (rowsOf ks).1.length <= 1000 /\ (∀ r ∈ (rowsOf ks).1, r.length <= 1000000 /\ In64 r) /\ 0 <= (rowsOf ks).2 /\ (rowsOf ks).2 <= 3 := by
 have h03 := krL_03 ks
 unfold rowsOf
 split
 ·rename_i h
  obtain ⟨h1, h2, h3⟩ := krL_in h
  obtain ⟨R, hR, e, _, _⟩ := rowsN_range ks
  refine ⟨?_, fun r hr => ?_, z00, z03⟩
  ·show (rowsN ks 12).length <= 1000
   have := rowsN_len ks 12; omega
  ·rw [e] at hr
   obtain ⟨q, _, rfl⟩ := List.mem_map.1 hr
   refine ⟨?_, fun x hx => ?_⟩
   ·have := rowK_len ks q; omega
   ·have := h3 x (mem_rowH.1 hx).1
    omega
 ·exact ⟨by simp, fun r h => absurd h List.not_mem_nil, h03⟩
theorem tree_err (ks : List Int) (ops : List O3) (s : By) (e : Int) (h : treeS ks ops s = .error e) : 0 <= e /\ e <= 3 := by
 have hx : ∀ (x : List IP) (a : Int), 0 <= a -> a <= 3 -> exT x a = .error e -> 0 <= e /\ e <= 3 := fun x a h1 h2 hh => by
  unfold exT at hh
  split at hh
  ·cases hh
  ·injection hh with hh; omega
 have h03 := krL_03 ks
 unfold treeS at h
 split at h
 ·refine hx _ _ ?_ ?_ h <;> (unfold growRun; split <;> first | exact z00 | exact z03 | decide)
 ·split at h
  ·refine hx _ _ ?_ ?_ h <;> (unfold zipRun; split <;> first | exact z00 | exact z03 | decide)
  ·split at h
   ·refine hx _ _ ?_ ?_ h <;> (unfold goatRun; split <;> first | exact z00 | exact z03 | decide)
   ·split at h
    ·refine hx _ _ ?_ ?_ h <;> (unfold evenA; split <;> simp only <;> omega)
    ·injection h with h; omega
theorem line_err (ks : List Int) (ops : List O3) (ws : List ByteArray) (e : Int) (h : lineS ks ops ws = .error e) : 0 <= e /\ e <= 3 := by
 have h1 : (Except.error 1 : Except Int By) = .error e -> 0 <= e /\ e <= 3 := fun hh => by injection hh with hh; omega
 unfold lineS at h
 split at h
 ·have := (rows_in ks).2.2
  unfold rowsS at h
  split at h
  ·cases h
  ·injection h with h; omega
 ·split at h
  ·exact h1 h
  ·split at h
   ·split at h
    ·exact h1 h
    ·rename_i n _
     have := (path_in ks n).2.2
     unfold pathS at h
     split at h
     ·cases h
     ·injection h with h; omega
   ·split at h
    ·split at h
     ·rename_i e' ht
      injection h with h
      subst h
      exact tree_err ks ops _ _ ht
     ·rename_i t _
      have := (order_in t).2.2
      split at h
      ·cases h
      ·injection h with h; omega
    ·split at h
     ·split at h
      ·rename_i e' ht
       injection h with h
       subst h
       exact tree_err ks ops _ _ ht
      ·rename_i t _
       have := (sum_in t).2
       split at h
       ·cases h
       ·injection h with h; omega
     ·exact h1 h
theorem DkIn.ok {l : List IP} {ops : List O3} (h : DkIn l ops) (hn : ops.length <= 1000) : LnOk l ops := {
 many := hn
 len := by have := mapRight_len l h.right; omega
 ask := fun k key val => (doA_in h.right h.vals k key val).1
 err := fun k key val => by have := (doA_in h.right h.vals k key val).2; omega
 path := fun key => ⟨(path_in _ key).1, (path_in _ key).2.1⟩
 rows := ⟨(rows_in _).1, (rows_in _).2.1⟩
 tree := fun s t _ => ⟨(order_in t).1, (order_in t).2.1, (sum_in t).1⟩
 line := fun ws e he => by have := line_err _ _ _ _ he; omega }
end Go.Proofs.YtcljlnagpjilaaaGreatDoor
