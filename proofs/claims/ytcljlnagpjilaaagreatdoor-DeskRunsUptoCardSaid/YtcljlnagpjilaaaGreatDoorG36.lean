/-
  Plain laws of rows and stops: a row's keys; a path rises, its rows go down, each stop is m
  The stops of a way, just which they are: those below the key with none between them and th
  What the desk holds while lines are answered, and that each line finds it right: plain law
  Trees of the references that are only read (TR); hedgref.Spots: what it answers
  hedgref.Leaf: what it answers
  hedgref.Least, hedgref.Unleafed: what they answer
  hedgref.SortedKeys: what it answers
  hedgref.Leaf, Least, Unleafed, Grown, HeldOften, UnlikeKeys, SortedKeys: what they answer
-/
import Derived.Test.YtcljlnagpjilaaaGreatDoorG16
import Derived.Test.YtcljlnagpjilaaaGreatDoorG35
import Derived.Test.YtcljlnagpjilaaaGreatDoorG10
import Derived.Test.YtcljlnagpjilaaaGreatDoorG25
import Derived.Test.YtcljlnagpjilaaaGreatDoorG21
import Derived.Test.YtcljlnagpjilaaaGreatDoorG1
import Derived.Test.YtcljlnagpjilaaaGreatDoorG3
import Derived.Test.YtcljlnagpjilaaaGreatDoorG26
import Derived.Test.YtcljlnagpjilaaaGreatDoorG19
import Derived.Test.YtcljlnagpjilaaaGreatDoorG22

set_option linter.unusedVariables false
set_option linter.unusedSimpArgs false
set_option maxRecDepth 100000
set_option maxHeartbeats 8000000
namespace Go.Proofs.YtcljlnagpjilaaaGreatDoor
open Go.ChangeShapes Go.WideShapes Go.ChangeAt Go.RowKit
theorem mem_rowH {H : Int -> Int} {ks : List Int} {r : Nat} {x : Int} : x ∈ rowH H ks r ↔ x ∈ ks /\ (r : Int) < H x := by
 unfold rowH
 rw [List.mem_filter, decide_eq_true_eq]
structure StI (ks : List Int) (key : Int) (H : Int -> Int) (n : Nat) (P : List IP) (la : Int) : Prop where
 all : ∀ p ∈ P, p.2 ∈ ks /\ p.2 < key /\ p.1 = H p.2 - 1 /\ p.2 <= la /\ ((12 - n : Nat) : Int) <= p.1
 last : (P = [] /\ la = -1) ∨ ∃ Q r, P = Q ++ [(r, la)]
 done : ∀ k ∈ ks, k < key -> ((12 - n : Nat) : Int) < H k -> k <= la
 up : P.Pairwise fun a b => a.2 < b.2 /\ b.1 <= a.1
theorem stI_step {ks : List Int} {key : Int} {H : Int -> Int} {n : Nat} {P : List IP} {la : Int} (hp : ks.Pairwise (· < ·)) (hb : ∀ x ∈ ks, 0 <= x /\ x <= 1000000) (h : StI ks key H n P la) (hn : n < 12) :
  StI ks key H (n + 1) (P ++ (stL (rowH H ks (11 - n)) key la).map fun k => (((11 - n : Nat) : Int), k)) (lastOr (stL (rowH H ks (11 - n)) key la) la) := by
 obtain ⟨r, hr⟩ : ∃ r, r = 11 - n := ⟨_, rfl⟩
 have e1 : 12 - n = r + 1 := by omega
 have e2 : 12 - (n + 1) = r := by omega
 obtain ⟨h1, h2, h3, h4⟩ := h
 rw [e1] at h1 h3
 rw [<- hr]
 have hL : ∀ k, k ∈ stL (rowH H ks r) key la ↔ k ∈ ks /\ (r : Int) < H k /\ la + 1 <= k /\ k <= key - 1 := fun k => by
  unfold stL
  rw [List.mem_filter, mem_rowH, decide_eq_true_eq]
  exact and_assoc
 have hLp : (stL (rowH H ks r) key la).Pairwise (· < ·) := List.Pairwise.filter _ (List.Pairwise.filter _ hp)
 obtain ⟨L, hLe⟩ : ∃ L, L = stL (rowH H ks r) key la := ⟨_, rfl⟩
 rw [<- hLe] at hL hLp ⊢
 have hH : ∀ k ∈ L, H k = (r : Int) + 1 := fun k hk => by
  obtain ⟨a, b, c, d⟩ := (hL k).1 hk
  by_cases e : (((r + 1 : Nat)) : Int) < H k
  ·have := h3 k a (by omega) e; omega
  ·omega
 have hlast : (L = [] /\ lastOr L la = la) ∨ (lastOr L la ∈ L /\ ∀ k ∈ L, k <= lastOr L la) := by
  rcases List.eq_nil_or_concat L with e | ⟨L', y, e⟩
  ·exact .inl ⟨e, by rw [e]; rfl⟩
  ·right
   rw [List.concat_eq_append] at e
   rw [e, lastOr_snoc]
   refine ⟨by simp, fun k hk => ?_⟩
   rw [e] at hLp
   rcases List.mem_append.1 hk with hk | hk
   ·have := (List.pairwise_append.1 hLp).2.2 k hk y (by simp); omega
   ·simp at hk; omega
 have hge : la <= lastOr L la := by
  rcases hlast with ⟨_, e⟩ | ⟨e, _⟩
  ·omega
  ·have := ((hL _).1 e).2.2.1; omega
 refine ⟨fun p hp' => ?_, ?_, fun k hk hkk hkr => ?_, ?_⟩
 ·rw [e2]
  rcases List.mem_append.1 hp' with hp' | hp'
  ·obtain ⟨a, b, c, d, f⟩ := h1 p hp'
   exact ⟨a, b, c, by omega, by omega⟩
  ·obtain ⟨k, hk, rfl⟩ := List.mem_map.1 hp'
   obtain ⟨a, b, c, d⟩ := (hL k).1 hk
   have := hH k hk
   refine ⟨a, by simp only; omega, by simp only; omega, ?_, Int.le_refl _⟩
   rcases hlast with ⟨e, _⟩ | ⟨_, e⟩
   ·rw [e] at hk; cases hk
   ·exact e k hk
 ·rcases List.eq_nil_or_concat L with e | ⟨L', y, e⟩
  ·rw [e, List.map_nil, List.append_nil, lastOr_nil]; exact h2
  ·right
   rw [List.concat_eq_append] at e
   rw [e, lastOr_snoc, List.map_append, <- List.append_assoc]
   exact ⟨_, _, rfl⟩
 ·rw [e2] at hkr
  by_cases e : la + 1 <= k
  ·have hm : k ∈ L := (hL k).2 ⟨hk, hkr, e, by omega⟩
   rcases hlast with ⟨e', _⟩ | ⟨_, e'⟩
   ·rw [e'] at hm; cases hm
   ·exact e' k hm
  ·omega
 ·rw [List.pairwise_append]
  refine ⟨h4, ?_, fun a ha b hb' => ?_⟩
  ·rw [List.pairwise_map]
   exact hLp.imp fun h => ⟨h, Int.le_refl _⟩
  ·obtain ⟨k, hk, rfl⟩ := List.mem_map.1 hb'
   obtain ⟨_, _, _, d, f⟩ := h1 a ha
   have := ((hL k).1 hk).2.2.1
   simp only
   omega
theorem stI_all {ks : List Int} {key : Int} (hp : ks.Pairwise (· < ·)) (hb : ∀ x ∈ ks, 0 <= x /\ x <= 1000000) : ∀ n, n <= 12 -> StI ks key hgtF n (stAll ks key n).1 (stAll ks key n).2
 | 0, _ => ⟨fun p hp => (by cases hp), .inl ⟨rfl, rfl⟩, fun k hk _ h => (by have := (hgtF_in k).2; omega), List.Pairwise.nil⟩
 | n + 1, hn => stI_step hp hb (stI_all hp hb n (by omega)) (by omega)
def seen (ks : List Int) (key : Int) (H : Int -> Int) (k : Int) : Prop := ∀ q ∈ ks, k < q -> q < key -> H q <= H k
theorem seen_step {ks : List Int} {key : Int} {H : Int -> Int} {n : Nat} {P : List IP} {la : Int} (hb : ∀ x ∈ ks, 0 <= x /\ x <= 1000000) (h : StI ks key H n P la) (hn : n < 12)
  (hs : ∀ x, x ∈ P.map Prod.snd ↔ x ∈ ks /\ x < key /\ ((12 - n : Nat) : Int) < H x /\ seen ks key H x) :
  ∀ x, x ∈ (P ++ (stL (rowH H ks (11 - n)) key la).map fun k => (((11 - n : Nat) : Int), k)).map Prod.snd ↔ x ∈ ks /\ x < key /\ ((12 - (n + 1) : Nat) : Int) < H x /\ seen ks key H x := by
 intro x
 have e2 : 12 - (n + 1) = 11 - n := by omega
 have e1 : ((12 - n : Nat) : Int) = ((11 - n : Nat) : Int) + 1 := by omega
 obtain ⟨h1, h2, h3, h4⟩ := h
 rw [e1] at h1 h3 hs
 rw [e2]
 have hL : x ∈ stL (rowH H ks (11 - n)) key la ↔ x ∈ ks /\ ((11 - n : Nat) : Int) < H x /\ la + 1 <= x /\ x <= key - 1 := by
  unfold stL
  rw [List.mem_filter, mem_rowH, decide_eq_true_eq]
  exact and_assoc
 rw [List.map_append, List.mem_append, hs x, List.map_map, show (Prod.snd ∘ fun k : Int => (((11 - n : Nat) : Int), k)) = id from rfl, List.map_id, hL]
 generalize ((11 - n : Nat) : Int) = r at *
 constructor
 ·rintro (⟨a, b, c, d⟩ | ⟨a, b, c, d⟩)
  ·exact ⟨a, b, by omega, d⟩
  ·refine ⟨a, by omega, b, fun q hq h5 h6 => ?_⟩
   by_cases e : r + 1 < H q
   ·have := h3 q hq h6 e; omega
   ·omega
 ·rintro ⟨a, b, c, d⟩
  by_cases e : r + 1 < H x
  ·exact .inl ⟨a, b, e, d⟩
  ·refine .inr ⟨a, c, ?_, by omega⟩
   rcases h2 with ⟨_, h2⟩ | ⟨Q, q, h2⟩
   ·have := (hb x a).1; omega
   ·obtain ⟨f1, f2, f3, _, f5⟩ := h1 (q, la) (by rw [h2]; simp)
    simp only at f1 f2 f3 f5
    by_cases e3 : la + 1 <= x
    ·exact e3
    ·exfalso
     by_cases e4 : x = la
     ·subst e4; omega
     ·have := d la f1 (by omega) f2
      omega
theorem seen_all {ks : List Int} {key : Int} (hp : ks.Pairwise (· < ·)) (hb : ∀ x ∈ ks, 0 <= x /\ x <= 1000000) : ∀ n, n <= 12 -> ∀ x, x ∈ (stAll ks key n).1.map Prod.snd ↔ x ∈ ks /\ x < key /\ ((12 - n : Nat) : Int) < hgtF x /\ seen ks key hgtF x
 | 0, _, x => by
  have h1 := (hgtF_in x).2
  have : (stAll ks key 0).1 = [] := rfl
  rw [this]
  generalize hgtF x = t at *
  constructor
  ·intro h; cases h
  ·rintro ⟨_, _, h, _⟩; omega
 | n + 1, hn, x => seen_step hb (stI_all hp hb n (by omega)) (by omega) (seen_all hp hb n (by omega)) x
theorem z00 : (0 : Int) <= 0 := Int.le_refl 0
theorem z03 : (0 : Int) <= 3 := by decide
def Num (n : Int) : Prop := 0 <= n /\ n < 10000000
structure DkIn (l : List IP) (ops : List O3) : Prop where
 right : mapRight l = 0
 vals : ∀ p ∈ l, Num p.2
 run : (runL ops).1 = l
theorem DkIn.start : DkIn [] [] := ⟨rfl, fun p h => absurd h List.not_mem_nil, rfl⟩
theorem doA_vals {l : List IP} {k key val : Int} (h : ∀ p ∈ l, Num p.2) (hv : Num val) : ∀ p ∈ (doA l k key val).1, Num p.2 := by
 have hput : ∀ p ∈ (putL l key val).1, Num p.2 := by
  unfold putL
  split
  ·intro p hp
   rcases List.mem_or_eq_of_mem_set hp with hp | rfl
   ·exact h p hp
   ·exact hv
  ·split
   ·exact h
   ·intro p hp
    simp only [List.mem_append, List.mem_singleton] at hp
    rcases hp with (hp | rfl) | hp
    ·exact h p (List.mem_of_mem_take hp)
    ·exact hv
    ·exact h p (List.mem_of_mem_drop hp)
 have hcut : ∀ p ∈ l.take (below l key) ++ l.drop (below l key + 1), Num p.2 := by
  intro p hp
  rcases List.mem_append.1 hp with hp | hp
  ·exact h p (List.mem_of_mem_take hp)
  ·exact h p (List.mem_of_mem_drop hp)
 unfold doA
 split
 ·unfold doL
  split
  ·exact h
  ·split
   ·exact hput
   ·split
    ·exact h
    ·split
     ·split
      ·exact hcut
      ·exact h
     ·split
      ·exact h
      ·split
       ·exact h
       ·split
        ·exact h
        ·exact h
 ·intro p hp; cases hp
theorem runL_snocD (ops : List O3) (o : O3) : (runL (ops ++ [o])).1 = (doA (runL ops).1 o.1 o.2.1 o.2.2).1 := by
 unfold runL
 rw [List.foldl_append]
 rfl
theorem DkIn.ask {l : List IP} {ops : List O3} (h : DkIn l ops) {k key val : Int} (hv : Num val) {x : List IP × List O3 × By} (hx : askO l ops k key val = .ok x) : DkIn x.1 x.2.1 /\ x.2.1.length = ops.length + 1 := by
 unfold askO at hx
 split at hx
 ·injection hx with hx
  subst hx
  refine ⟨⟨doA_right l k key val h.right, doA_vals h.vals hv, ?_⟩, by simp⟩
  show (runL (ops ++ [(k, key, val)])).1 = (doA l k key val).1
  rw [runL_snocD, h.run]
 ·cases hx
theorem DkIn.askW {l : List IP} {ops : List O3} (h : DkIn l ops) {ws : List ByteArray} {x : List IP × List O3 × By} (hx : askW l ops ws = .ok x) : DkIn x.1 x.2.1 /\ x.2.1.length <= ops.length + 1 := by
 have key : ∀ k key val, Num val -> askO l ops k key val = .ok x -> DkIn x.1 x.2.1 /\ x.2.1.length <= ops.length + 1 := fun k key val hv hx => ⟨(h.ask hv hx).1, by rw [(h.ask hv hx).2]; exact Nat.le_refl _⟩
 unfold Go.Proofs.YtcljlnagpjilaaaGreatDoor.askW at hx
 split at hx
 ·split at hx
  ·cases hx
  ·split at hx
   ·cases hx
   ·split at hx
    ·cases hx
    ·rename_i val hval
     exact key _ _ _ (numF_in hval) hx
 ·split at hx
  ·cases hx
  ·split at hx
   ·cases hx
   ·exact key _ _ _ (by unfold Num; omega) hx
theorem DkIn.line {l : List IP} {ops : List O3} (h : DkIn l ops) (ws : List ByteArray) : DkIn (ansW l ops ws).1 (ansW l ops ws).2.1 /\ (ansW l ops ws).2.1.length <= ops.length + 1 := by
 unfold ansW
 split
 ·cases hr : Go.Proofs.YtcljlnagpjilaaaGreatDoor.askW l ops ws with
  | ok x => exact h.askW hr
  | error e => exact ⟨h, by simp⟩
 ·exact ⟨h, by simp⟩
theorem mrFrom_03 : ∀ (l : List IP) (a : Int), mrFrom a l = 0 ∨ mrFrom a l = 3
 | [], _ => .inl rfl
 | x :: l, a => by
  rw [mrFrom]
  split
  ·exact mrFrom_03 l _
  ·exact .inr rfl
theorem mapRight_03 (l : List IP) : 0 <= mapRight l /\ mapRight l <= 3 := by
 unfold mapRight
 split
 ·omega
 ·rcases mrFrom_03 l (-1) with h | h <;> omega
theorem parOf_03 (l : List IP) : 0 <= (parOf l).2 /\ (parOf l).2 <= 3 := by
 have := mapRight_03 l
 unfold parOf
 split
 ·exact this
 ·split
  ·exact ⟨z00, z03⟩
  ·exact ⟨z03, Int.le_refl 3⟩
theorem krF_03 : ∀ (l : List Int) (a : Int), krF a l = 0 ∨ krF a l = 3
 | [], _ => .inl rfl
 | x :: l, a => by
  rw [krF]
  split
  ·exact krF_03 l _
  ·exact .inr rfl
theorem krL_03 (l : List Int) : 0 <= krL l /\ krL l <= 3 := by
 unfold krL
 split
 ·omega
 ·rcases krF_03 l (-1) with h | h <;> omega
theorem walk_in {t : List IP} (h : mapRight t = 0) : ∀ x ∈ walkF t false 0 t.length, 0 <= x /\ x <= 1000000 := by
 intro x hx
 obtain ⟨k, _, hk, rfl⟩ := walkF_mem t false 0 t.length x hx
 have := mapRight_in t h t[k] (List.getElem_mem hk)
 rw [gk_eq t k hk]
 exact this
theorem order_in (t : List IP) : (orderOf t 1).1.length <= 1000000 /\ In64 (orderOf t 1).1 /\ 0 <= (orderOf t 1).2 /\ (orderOf t 1).2 <= 3 := by
 have h03 := parOf_03 t
 unfold orderOf
 split
 ·exact ⟨by simp, fun x h => absurd h List.not_mem_nil, h03⟩
 ·rename_i h
  rw [if_pos rfl]
  obtain ⟨h1, h2, _⟩ := parOf_len t (by omega)
  refine ⟨by rw [walkF_len]; omega, fun x hx => ?_, by omega, by omega⟩
  have := walk_in h2 x hx
  omega
theorem most_in (l : List IP) (h : ∀ p ∈ l, 0 <= p.2 /\ p.2 < 200) : -1 <= mostL l /\ mostL l < 200 := by
 have key : ∀ (l : List IP) (a : Int), -1 <= a -> a < 200 -> (∀ p ∈ l, 0 <= p.2 /\ p.2 < 200) -> -1 <= l.foldl (fun m p => max m p.2) a /\ l.foldl (fun m p => max m p.2) a < 200 := by
  intro l
  induction l with
  | nil => intro a h1 h2 _; exact ⟨h1, h2⟩
  | cons x l ih =>
   intro a h1 h2 h3
   have := h3 x List.mem_cons_self
   exact ih (max a x.2) (by omega) (by omega) fun p hp => h3 p (List.mem_cons_of_mem _ hp)
 exact key l (-1) (by decide) (by decide) h
theorem sum_in (t : List IP) : In64 [(sumOf t).1] /\ 0 <= (sumOf t).2.2 /\ (sumOf t).2.2 <= 3 := by
 have h03 := parOf_03 t
 unfold sumOf
 split
 ·exact ⟨fun x h => by simp at h; omega, h03⟩
 ·rename_i h
  have hm := most_in t fun p hp => by
   obtain ⟨k, hk, rfl⟩ := List.mem_iff_getElem.1 hp
   exact gv_bound t (by omega) k hk
  exact ⟨fun x h => by simp at h; omega, z00, z03⟩
theorem doA_in {l : List IP} (hr : mapRight l = 0) (hv : ∀ p ∈ l, Num p.2) (k key val : Int) :
  In64 [(doA l k key val).2.key, (doA l k key val).2.val] /\ 0 <= (doA l k key val).2.err /\ (doA l k key val).2.err <= 3 := by
 have hlen := mapRight_len l hr
 have hbl := below_le l key
 have z : ∀ e i, 0 <= e -> e <= 3 -> In64 [(⟨e, 0, 0, i⟩ : An).key, (⟨e, 0, 0, i⟩ : An).val] /\ 0 <= (⟨e, 0, 0, i⟩ : An).err /\ (⟨e, 0, 0, i⟩ : An).err <= 3 := fun e i h1 h2 => ⟨fun x h => by simp at h; omega, h1, h2⟩
 have hgv : ∀ j, -10000000 <= gv l j /\ gv l j <= 10000000 := fun j => by
  unfold gv
  rw [List.getD_eq_getElem?_getD]
  cases hj : l[j]? with
  | none => simp
  | some p =>
   have := hv p (List.mem_of_getElem? hj)
   unfold Num at this
   simp
   omega
 have g : ∀ v, -10000000 <= v -> v <= 10000000 -> In64 [(⟨0, 0, v, true⟩ : An).key, (⟨0, 0, v, true⟩ : An).val] /\ 0 <= (⟨0, 0, v, true⟩ : An).err /\ (⟨0, 0, v, true⟩ : An).err <= 3 := fun v h1 h2 => ⟨fun x h => by simp at h; omega, z00, z03⟩
 have tl : ∀ a, In64 [(toldL l a).key, (toldL l a).val] /\ 0 <= (toldL l a).err /\ (toldL l a).err <= 3 := fun a => by
  unfold toldL
  split
  ·rename_i h
   have hm : l[a.toNat]'(by omega) ∈ l := List.getElem_mem _
   have h1 := mapRight_in l hr _ hm
   have h2 := hv _ hm
   unfold Num at h2
   exact ⟨fun x h => by simp at h; omega, z00, z03⟩
  ·exact z 0 false (by decide) (by decide)
 unfold doA
 rw [if_pos hr]
 unfold doL
 split
 ·exact z 1 false (by decide) (by decide)
 ·split
  ·unfold putL
   split
   ·exact z 0 true (by decide) (by decide)
   ·split
    ·exact z 2 false (by decide) (by decide)
    ·exact z 0 false (by decide) (by decide)
  ·split
   ·split
    ·exact g _ (hgv _).1 (hgv _).2
    ·exact z 0 false (by decide) (by decide)
   ·split
    ·split
     ·exact g _ (hgv _).1 (hgv _).2
     ·exact z 0 false (by decide) (by decide)
    ·split
     ·exact tl _
     ·split
      ·exact tl _
      ·split
       ·exact g _ (by omega) (by omega)
       ·exact tl _
theorem path_in (ks : List Int) (key : Int) : (pathOf ks key).1.length <= 1000000 /\ In64 ((pathOf ks key).1.map Prod.snd) /\ 0 <= (pathOf ks key).2 /\ (pathOf ks key).2 <= 3 := by
 have h03 := krL_03 ks
 unfold pathOf
 split
 ·rename_i h
  obtain ⟨h1, h2, h3⟩ := krL_in h
  split
  ·refine ⟨?_, fun x hx => ?_, z00, z03⟩
   ·show (stAll ks key 12).1.length <= 1000000
    have := (stAll_in h3 key 12).2.2
    have : 12 * ks.length <= 12 * 200 := Nat.mul_le_mul_left _ h1
    omega
   ·have := ((seen_all h2 h3 12 (by omega) x).1 hx).1
    have := h3 x this
    omega
  ·exact ⟨by simp, fun x h => absurd h List.not_mem_nil, by decide, by decide⟩
 ·exact ⟨by simp, fun x h => absurd h List.not_mem_nil, h03⟩
theorem rows_in (ks : List Int) : (rowsOf ks).1.length <= 1000 /\ (∀ r ∈ (rowsOf ks).1, r.length <= 1000000 /\ In64 r) /\ 0 <= (rowsOf ks).2 /\ (rowsOf ks).2 <= 3 := by
 have h03 := krL_03 ks
 unfold rowsOf
 split
 ·rename_i h
  obtain ⟨h1, h2, h3⟩ := krL_in h
  obtain ⟨R, hR, e, _, _⟩ := rowsN_range ks
  refine ⟨?_, fun r hr => ?_, z00, z03⟩
  ·show (rowsN ks 12).length <= 1000
   have := rowsN_len ks 12; omega
  ·rw [e] at hr
   obtain ⟨q, _, rfl⟩ := List.mem_map.1 hr
   refine ⟨?_, fun x hx => ?_⟩
   ·have := rowK_len ks q; omega
   ·have := h3 x (mem_rowH.1 hx).1
    omega
 ·exact ⟨by simp, fun r h => absurd h List.not_mem_nil, h03⟩
theorem tree_err (ks : List Int) (ops : List O3) (s : By) (e : Int) (h : treeS ks ops s = .error e) : 0 <= e /\ e <= 3 := by
 have hx : ∀ (x : List IP) (a : Int), 0 <= a -> a <= 3 -> exT x a = .error e -> 0 <= e /\ e <= 3 := fun x a h1 h2 hh => by
  unfold exT at hh
  split at hh
  ·cases hh
  ·injection hh with hh; omega
 have h03 := krL_03 ks
 unfold treeS at h
 split at h
 ·refine hx _ _ ?_ ?_ h <;> (unfold growRun; split <;> first | exact z00 | exact z03 | decide)
 ·split at h
  ·refine hx _ _ ?_ ?_ h <;> (unfold zipRun; split <;> first | exact z00 | exact z03 | decide)
  ·split at h
   ·refine hx _ _ ?_ ?_ h <;> (unfold goatRun; split <;> first | exact z00 | exact z03 | decide)
   ·split at h
    ·refine hx _ _ ?_ ?_ h <;> (unfold evenA; split <;> simp only <;> omega)
    ·injection h with h; omega
theorem line_err (ks : List Int) (ops : List O3) (ws : List ByteArray) (e : Int) (h : lineS ks ops ws = .error e) : 0 <= e /\ e <= 3 := by
 have h1 : (Except.error 1 : Except Int By) = .error e -> 0 <= e /\ e <= 3 := fun hh => by injection hh with hh; omega
 unfold lineS at h
 split at h
 ·have := (rows_in ks).2.2
  unfold rowsS at h
  split at h
  ·cases h
  ·injection h with h; omega
 ·split at h
  ·exact h1 h
  ·split at h
   ·split at h
    ·exact h1 h
    ·rename_i n _
     have := (path_in ks n).2.2
     unfold pathS at h
     split at h
     ·cases h
     ·injection h with h; omega
   ·split at h
    ·split at h
     ·rename_i e' ht
      injection h with h
      subst h
      exact tree_err ks ops _ _ ht
     ·rename_i t _
      have := (order_in t).2.2
      split at h
      ·cases h
      ·injection h with h; omega
    ·split at h
     ·split at h
      ·rename_i e' ht
       injection h with h
       subst h
       exact tree_err ks ops _ _ ht
      ·rename_i t _
       have := (sum_in t).2
       split at h
       ·cases h
       ·injection h with h; omega
     ·exact h1 h
theorem DkIn.ok {l : List IP} {ops : List O3} (h : DkIn l ops) (hn : ops.length <= 1000) : LnOk l ops := {
 many := hn
 len := by have := mapRight_len l h.right; omega
 ask := fun k key val => (doA_in h.right h.vals k key val).1
 err := fun k key val => by have := (doA_in h.right h.vals k key val).2; omega
 path := fun key => ⟨(path_in _ key).1, (path_in _ key).2.1⟩
 rows := ⟨(rows_in _).1, (rows_in _).2.1⟩
 tree := fun s t _ => ⟨(order_in t).1, (order_in t).2.1, (sum_in t).1⟩
 line := fun ws e he => by have := line_err _ _ _ _ he; omega }
inductive T where
 | nil
 | node (k : Int) (l r : T)
def T.size : T -> Nat
 | .nil => 0
 | .node _ l r => l.size + 1 + r.size
def T.spots : T -> Int -> List IP
 | .nil, _ => []
 | .node k l r, d => l.spots (d + 1) ++ [(k, d)] ++ r.spots (d + 1)
theorem T.spots_len : ∀ (t : T) (d : Int), (t.spots d).length = t.size
 | .nil, _ => rfl
 | .node k l r, d => by simp [T.spots, T.size, T.spots_len l, T.spots_len r]; omega
def TR (w : World) : T -> Option Addr -> Prop
 | .nil, p => p = none
 | .node k l r, p => ∃ b pl pr, p = some ⟨b, 0, none⟩ /\ b < w.heap.size /\ w.cell? ⟨b, 0, none⟩ = some (.int .i64 k) /\ w.cell? ⟨b, 1, none⟩ = some (.pointer pl) /\ w.cell? ⟨b, 2, none⟩ = some (.pointer pr) /\ TR w l pl /\ TR w r pr
theorem TR.keep {w w' : World} (hs : w.heap.size <= w'.heap.size) (hk : ∀ p : Addr, p.block < w.heap.size -> w'.cell? p = w.cell? p) : ∀ {t : T} {v : Option Addr}, TR w t v -> TR w' t v
 | .nil, _, h => h
 | .node _ _ _, _, ⟨b, pl, pr, h1, h2, h3, h4, h5, h6, h7⟩ => ⟨b, pl, pr, h1, by omega, (hk _ h2).trans h3, (hk _ h2).trans h4, (hk _ h2).trans h5, TR.keep hs hk h6, TR.keep hs hk h7⟩
theorem TR.kp {w w' : World} {t : T} {v : Option Addr} (h : TR w t v) (hb : Kp w w') : TR w' t v := TR.keep (Kp.size hb) (fun p hp => Below.cell (Kp.bel hb) hp) h
theorem TR.below {w w' : World} {t : T} {v : Option Addr} (h : TR w t v) (hb : Below w.heap.size w w') : TR w' t v := TR.keep hb.size (fun p hp => hb.cell hp) h
theorem TR.mk {w : World} {k : Int} {l r : T} {pl pr : Option Addr} (hl : TR w l pl) (hr : TR w r pr) (tt : TypeId) : TR (w.alloc (.cells #[.int .i64 k, .pointer pl, .pointer pr] tt)) (.node k l r) (some ⟨w.heap.size, 0, none⟩) := by
 have hk : Kp w (w.alloc (.cells #[.int .i64 k, .pointer pl, .pointer pr] tt)) := (Kp.refl w).alloc
 exact ⟨w.heap.size, pl, pr, rfl, by simp, cell_of_row _ _ 0 _ tt (0, 0) (heap_alloc_new w _), cell_of_row _ _ 1 _ tt (0, 0) (heap_alloc_new w _), cell_of_row _ _ 2 _ tt (0, 0) (heap_alloc_new w _), hl.kp hk, hr.kp hk⟩
def RetTR (t : T) (w : World) (e : Ending) (w' : World) : Prop := ∃ p, e = .returned (.pointer p) /\ TR w' t p /\ Below w.heap.size w w'
theorem spots_any : ∀ (t : T) (v : Option Addr) (d : Int) (w : World), TR w t v -> 0 <= d -> d + t.size <= 1073741824 ->
    Calls Tryz.prog 62 #[.pointer v, .int .i64 d] w (RetOW 108 ePair (t.spots d) w)
  | .nil, v, d, w, h, h0, h1 => by
    have h' : v = none := h
    subst h'
    go_enter Tryz.func62, Tryz.ntmps62
    go_wp2
    go_ret
    exact ⟨_, rfl, OW.nil, Below.refl _ _⟩
  | .node k l r, v, d, w, h, h0, h1 => by
    obtain ⟨b, pl, pr, rfl, hb, c0, c1, c2, hl, hr⟩ := h
    simp only [T.size] at h1
    have HI := hide (fun w h => spots_any l pl (d + 1) w h (by omega) (by omega))
    have HJ := hide (fun w h => spots_any r pr (d + 1) w h (by omega) (by omega))
    have HL := hide hl
    have HR := hide hr
    clear hl hr
    have HM1 : Hid (((l.spots (d + 1)).length + [(k, d)].length) * 16 <= 140737488355328) := hide (by rw [T.spots_len]; simp; omega)
    have HM2 : Hid ((l.spots (d + 1)).length + [(k, d)].length <= maxLen) := hide (by rw [T.spots_len]; simp [maxLen]; omega)
    have HM3 : Hid (((l.spots (d + 1) ++ [(k, d)]).length + (r.spots (d + 1)).length) * 16 <= 140737488355328) := hide (by rw [List.length_append, T.spots_len, T.spots_len]; simp; omega)
    have HM4 : Hid ((l.spots (d + 1) ++ [(k, d)]).length + (r.spots (d + 1)).length <= maxLen) := hide (by rw [List.length_append, T.spots_len, T.spots_len]; simp [maxLen]; omega)
    have KS : Hid (∀ W', Kp w W' -> (W'.cell? ⟨b, 0, none⟩ = some (.int .i64 k) /\ W'.cell? ⟨b, 1, none⟩ = some (.pointer pl) /\ W'.cell? ⟨b, 2, none⟩ = some (.pointer pr) /\ Kp w W')) :=
      hide fun W' h => ⟨h.cell c0, h.cell c1, h.cell c2, h⟩
    have K0 := Kp.refl w
    have K1 := K0.drew
    have hw : IntKind.i64.wrap (d + 1) = d + 1 := IntWalk.i64_in _ (by omega)
    clear h0 h1
    go_enter Tryz.func62, Tryz.ntmps62
    go_wp2_with fail
    go_region_held3 (fun w' => w'.cell? ⟨b, 0, none⟩ = some (.int .i64 k) /\ w'.cell? ⟨b, 1, none⟩ = some (.pointer pl) /\ w'.cell? ⟨b, 2, none⟩ = some (.pointer pr) /\ Kp w w')
      ((go_split_ands
        refine KS.out _ ?_
        (exact Kp.auto)))
      (first
        | (go_at_call_of 62 (Value.pointer pl); refine (HI.out _ (HL.out.below (Kp.bel ?_))).mono ?_; (go_split_ands; (exact Kp.auto)); rintro e w1 ⟨v1, rfl, ho1', hb1⟩; have ho1 := OW.more ho1' (Kp.size (w := w) (by go_split_ands; (exact Kp.auto))); have lo1 := ho1.lo; have hi1 := ho1.hi; clear ho1')
        | (go_at_call_of 62 (Value.pointer pr); refine (HJ.out _ (HR.out.below (Kp.bel ?_))).mono ?_; (go_split_ands; (exact Kp.auto)); rintro e w2 ⟨v2, rfl, ho2', hb2⟩; have ho2 := OW.more ho2' (Kp.size (w := w) (by go_split_ands; (exact Kp.auto))); try have hap := lo1.apart (Hi.mono ho2'.hi (by simp)); clear ho2')
        | ((with_reducible refine step_app (l := l.spots (d + 1)) (m := [(k, d)]) row_spot v1 ?_ (.tmp 13) (.tmp 20) ?_ ?_ ?_ ?_ HM1.out HM2.out (Kp.size (w := w) ?_) ?_); (with_reducible rfl); (with_reducible rfl); rfl; (exact OW.auto); (show RD _ _ (.slice (some ⟨_, 0, none⟩) 1 1) _; (exact RD.auto)); (go_split_ands; (exact Kp.auto)); intro v3 w3 ho3 hg3 hat3; have hi3 := ho3.hi)
        | ((with_reducible refine step_app (l := l.spots (d + 1) ++ [(k, d)]) (m := r.spots (d + 1)) row_spot v3 ?_ (.tmp 21) (.tmp 28) ?_ ?_ ?_ ?_ HM3.out HM4.out (Kp.size (w := w) ?_) ?_); (with_reducible rfl); (with_reducible rfl); rfl; (exact OW.auto); (show RD _ _ v2 _; refine OW.rd (B := w.heap.size) (e := 108) ?_; (exact OW.auto)); (go_split_ands; (exact Kp.auto)); intro v4 w4 ho4 hg4 hat4))
    all_goals
      go_wp2
      go_ret
      exact ⟨_, rfl, ho4, Kp.bel (by (exact Kp.auto))⟩
def leafT : T -> Int -> T
 | .nil, k => .node k .nil .nil
 | .node a l r, k => if k < a then .node a (leafT l k) r else if a < k then .node a l (leafT r k) else .node a l r
theorem leaf_any : ∀ (t : T) (p : Option Addr) (k : Int) (w : World), TR w t p -> Calls Tryz.prog 92 #[.pointer p, .int .i64 k] w (RetTR (leafT t k) w)
 | .nil, p, k, w, h => by
  obtain rfl : p = none := h
  go_enter Tryz.func92, Tryz.ntmps92
  go_wp2
  go_ret
  exact ⟨_, rfl, TR.mk (l := .nil) (r := .nil) rfl rfl _, ((Kp.refl w).alloc).bel⟩
 | .node a l r, p, k, w, h => by
  obtain ⟨b, pl, pr, rfl, hb, c0, c1, c2, hl, hr⟩ := h
  have HL := hide hl
  have HR := hide hr
  have KS : Hid (∀ W', Kp w W' -> (W'.cell? ⟨b, 0, none⟩ = some (.int .i64 a) /\ W'.cell? ⟨b, 1, none⟩ = some (.pointer pl) /\ W'.cell? ⟨b, 2, none⟩ = some (.pointer pr) /\ Kp w W')) :=
   hide fun W' h => ⟨h.cell c0, h.cell c1, h.cell c2, h⟩
  have K0 := Kp.refl w
  by_cases h1 : k < a
  ·have IH := hide (fun w h => leaf_any l pl k w h)
   have HF : Hid (leafT (.node a l r) k = .node a (leafT l k) r) := hide (by rw [leafT, if_pos h1])
   have d1 : decide (k < a) = true := by simp [h1]
   clear hl hr h1
   go_enter Tryz.func92, Tryz.ntmps92
   go_wp2_with fail
   go_region_held3 (fun w' => w'.cell? ⟨b, 0, none⟩ = some (.int .i64 a) /\ w'.cell? ⟨b, 1, none⟩ = some (.pointer pl) /\ w'.cell? ⟨b, 2, none⟩ = some (.pointer pr) /\ Kp w w')
    ((go_split_ands; refine KS.out _ ?_; (exact Kp.auto)))
    ((go_at_call_of 92 (Value.pointer pl); (with_reducible refine (IH.out _ (HL.out.kp ?_)).mono ?_); (go_split_ands; (exact Kp.auto)); rintro e w1 ⟨p1, rfl, ht1, hb1⟩))
   all_goals
    go_wp2
    go_ret
    refine ⟨_, rfl, by rw [HF.out]; exact TR.mk (ht1.kp (by (exact Kp.auto))) (HR.out.kp (by (exact Kp.auto))) _, Kp.bel (by (exact Kp.auto))⟩
  ·by_cases h2 : a < k
   ·have IH := hide (fun w h => leaf_any r pr k w h)
    have HF : Hid (leafT (.node a l r) k = .node a l (leafT r k)) := hide (by rw [leafT, if_neg h1, if_pos h2])
    have d1 : decide (k < a) = false := by simp; omega
    have d2 : decide (a < k) = true := by simp [h2]
    clear hl hr h1 h2
    go_enter Tryz.func92, Tryz.ntmps92
    go_wp2_with fail
    go_region_held3 (fun w' => w'.cell? ⟨b, 0, none⟩ = some (.int .i64 a) /\ w'.cell? ⟨b, 1, none⟩ = some (.pointer pl) /\ w'.cell? ⟨b, 2, none⟩ = some (.pointer pr) /\ Kp w w')
     ((go_split_ands; refine KS.out _ ?_; (exact Kp.auto)))
     ((go_at_call_of 92 (Value.pointer pr); (with_reducible refine (IH.out _ (HR.out.kp ?_)).mono ?_); (go_split_ands; (exact Kp.auto)); rintro e w1 ⟨p1, rfl, ht1, hb1⟩))
    all_goals
     go_wp2
     go_ret
     refine ⟨_, rfl, by rw [HF.out]; exact TR.mk (HL.out.kp (by (exact Kp.auto))) (ht1.kp (by (exact Kp.auto))) _, Kp.bel (by (exact Kp.auto))⟩
   ·have HF : Hid (leafT (.node a l r) k = .node a l r) := hide (by rw [leafT, if_neg h1, if_neg h2])
    have d1 : decide (k < a) = false := by simp; omega
    have d2 : decide (a < k) = false := by simp; omega
    have HT : Hid (TR w (.node a l r) (some ⟨b, 0, none⟩)) := hide ⟨b, pl, pr, rfl, hb, c0, c1, c2, hl, hr⟩
    clear hl hr h1 h2
    go_enter Tryz.func92, Tryz.ntmps92
    go_wp2
    go_ret
    exact ⟨_, rfl, by rw [HF.out]; exact HT.out, Below.refl _ _⟩
def leastT : T -> Int
 | .nil => 0
 | .node a .nil _ => a
 | .node _ (.node b x y) _ => leastT (.node b x y)
def T.isN : T -> Bool
 | .nil => true
 | .node _ _ _ => false
def unlT : T -> Int -> T
 | .nil, _ => .nil
 | .node a l r, k => if k < a then .node a (unlT l k) r else if a < k then .node a l (unlT r k) else if l.isN then r else if r.isN then l else .node (leastT r) l (unlT r (leastT r))
theorem TR.uniq {w : World} : ∀ {t t' : T} {p : Option Addr}, TR w t p -> TR w t' p -> t = t'
 | .nil, .nil, _, _, _ => rfl
 | .nil, .node _ _ _, p, h, h' => by obtain ⟨b, pl, pr, e, _⟩ := h'; have h : p = none := h; rw [h] at e; cases e
 | .node _ _ _, .nil, p, h, h' => by obtain ⟨b, pl, pr, e, _⟩ := h; have h' : p = none := h'; rw [h'] at e; cases e
 | .node a l r, .node a' l' r', p, h, h' => by
  obtain ⟨b, pl, pr, rfl, _, c0, c1, c2, hl, hr⟩ := h
  obtain ⟨b', pl', pr', e, _, c0', c1', c2', hl', hr'⟩ := h'
  injection e with e
  injection e with e
  subst e
  rw [c0] at c0'; rw [c1] at c1'; rw [c2] at c2'
  injection c0' with c0'; injection c0' with _ c0'
  injection c1' with c1'; injection c1' with c1'
  injection c2' with c2'; injection c2' with c2'
  subst c0' c1' c2'
  rw [TR.uniq hl hl', TR.uniq hr hr']
noncomputable def szT (v : Value) (w : World) : Nat := by
 classical
 exact if h : ∃ (t : T) (p : Option Addr), v = .pointer p /\ TR w t p then h.choose.size else 0
theorem szT_eq {w : World} {t : T} {p : Option Addr} (hm : TR w t p) : szT (.pointer p) w = t.size := by
 unfold szT
 have h : ∃ (t : T) (p' : Option Addr), Value.pointer p = .pointer p' /\ TR w t p' := ⟨t, p, rfl, hm⟩
 rw [dif_pos h]
 obtain ⟨p', h1, h2⟩ := h.choose_spec
 generalize h.choose = t' at h2
 injection h1 with h1
 subst h1
 rw [TR.uniq h2 hm]
def LeRel (m : Int) (w : World) (v : Value) (wr : World) : Prop := ∃ t p, v = .pointer p /\ TR wr t p /\ t.isN = false /\ leastT t = m /\ w = wr
theorem least_ref_any (t : T) (p : Option Addr) (w : World) (h : TR w t p) (hn : t.isN = false) : Calls Tryz.prog 145 #[.pointer p] w (Ret (.int .i64 (leastT t)) w) := by
 have H := hide h
 have HN := hide hn
 clear h hn
 go_enter Tryz.func145, Tryz.ntmps145
 go_wp2
 go_loopw [0] (LeRel (leastT t) w) (fun v wr => szT v wr)
 case atStart => exact ⟨t, p, rfl, H.out, HN.out, rfl, rfl⟩
 case round =>
  obtain ⟨t1, p1, rfl, ht, hn, hl, rfl⟩ := hrel
  have HM := hide (szT_eq ht)
  cases t1 with
  | nil => cases hn
  | node a l r =>
   obtain ⟨b, pl, pr, rfl, hb, c0, c1, c2, hl1, hr1⟩ := ht
   cases l with
   | nil =>
    obtain rfl : pl = none := hl1
    have hl2 : a = leastT t := hl
    go_wp2
    go_ret
    exact ⟨rfl, Below.refl _ _⟩
   | node c x y =>
    obtain ⟨b2, px, py, rfl, hb2, d0, d1, d2, hx, hy⟩ := hl1
    have HT2 : Hid (TR w (.node c x y) (some ⟨b2, 0, none⟩)) := hide ⟨b2, px, py, rfl, hb2, d0, d1, d2, hx, hy⟩
    have HL2 : Hid (leastT (.node c x y) = leastT t) := hide (by rw [<- hl, leastT])
    clear hl hx hy hr1
    go_wp2
    go_roundw
    case rel => exact ⟨_, _, rfl, HT2.out, rfl, HL2.out, rfl⟩
    case measure => rw [HM.out, szT_eq HT2.out]; simp only [T.size]; omega
theorem unl_any : ∀ (t : T) (p : Option Addr) (k : Int) (w : World), TR w t p -> Calls Tryz.prog 93 #[.pointer p, .int .i64 k] w (RetTR (unlT t k) w)
 | .nil, p, k, w, h => by
  obtain rfl : p = none := h
  go_enter Tryz.func93, Tryz.ntmps93
  go_wp2
  go_ret
  exact ⟨none, rfl, rfl, Below.refl _ _⟩
 | .node a l r, p, k, w, h => by
  obtain ⟨b, pl, pr, rfl, hb, c0, c1, c2, hl, hr⟩ := h
  have HL := hide hl
  have HR := hide hr
  have KS : Hid (∀ W', Kp w W' -> (W'.cell? ⟨b, 0, none⟩ = some (.int .i64 a) /\ W'.cell? ⟨b, 1, none⟩ = some (.pointer pl) /\ W'.cell? ⟨b, 2, none⟩ = some (.pointer pr) /\ Kp w W')) :=
   hide fun W' h => ⟨h.cell c0, h.cell c1, h.cell c2, h⟩
  have K0 := Kp.refl w
  by_cases h1 : k < a
  ·have IH := hide (fun w h => unl_any l pl k w h)
   have HF : Hid (unlT (.node a l r) k = .node a (unlT l k) r) := hide (by rw [unlT, if_pos h1])
   have d1 : decide (k < a) = true := by simp [h1]
   clear hl hr h1
   go_enter Tryz.func93, Tryz.ntmps93
   go_wp2_with fail
   go_region_held3 (fun w' => w'.cell? ⟨b, 0, none⟩ = some (.int .i64 a) /\ w'.cell? ⟨b, 1, none⟩ = some (.pointer pl) /\ w'.cell? ⟨b, 2, none⟩ = some (.pointer pr) /\ Kp w w')
    ((go_split_ands; refine KS.out _ ?_; (exact Kp.auto)))
    ((go_at_call_of 93 (Value.pointer pl); (with_reducible refine (IH.out _ (HL.out.kp ?_)).mono ?_); (go_split_ands; (exact Kp.auto)); rintro e w1 ⟨p1, rfl, ht1, hb1⟩))
   all_goals
    go_wp2
    go_ret
    refine ⟨_, rfl, by rw [HF.out]; exact TR.mk (ht1.kp (by (exact Kp.auto))) (HR.out.kp (by (exact Kp.auto))) _, Kp.bel (by (exact Kp.auto))⟩
  ·by_cases h2 : a < k
   ·have IH := hide (fun w h => unl_any r pr k w h)
    have HF : Hid (unlT (.node a l r) k = .node a l (unlT r k)) := hide (by rw [unlT, if_neg h1, if_pos h2])
    have d1 : decide (k < a) = false := by simp; omega
    have d2 : decide (a < k) = true := by simp [h2]
    clear hl hr h1 h2
    go_enter Tryz.func93, Tryz.ntmps93
    go_wp2_with fail
    go_region_held3 (fun w' => w'.cell? ⟨b, 0, none⟩ = some (.int .i64 a) /\ w'.cell? ⟨b, 1, none⟩ = some (.pointer pl) /\ w'.cell? ⟨b, 2, none⟩ = some (.pointer pr) /\ Kp w w')
     ((go_split_ands; refine KS.out _ ?_; (exact Kp.auto)))
     ((go_at_call_of 93 (Value.pointer pr); (with_reducible refine (IH.out _ (HR.out.kp ?_)).mono ?_); (go_split_ands; (exact Kp.auto)); rintro e w1 ⟨p1, rfl, ht1, hb1⟩))
    all_goals
     go_wp2
     go_ret
     refine ⟨_, rfl, by rw [HF.out]; exact TR.mk (HL.out.kp (by (exact Kp.auto))) (ht1.kp (by (exact Kp.auto))) _, Kp.bel (by (exact Kp.auto))⟩
   ·have d1 : decide (k < a) = false := by simp; omega
    have d2 : decide (a < k) = false := by simp; omega
    have hf : unlT (.node a l r) k = if l.isN then r else if r.isN then l else .node (leastT r) l (unlT r (leastT r)) := by rw [unlT, if_neg h1, if_neg h2]
    cases l with
    | nil =>
     obtain rfl : pl = none := hl
     have HF : Hid (unlT (.node a .nil r) k = r) := hide hf
     clear hr h1 h2 hf
     go_enter Tryz.func93, Tryz.ntmps93
     go_wp2
     go_ret
     exact ⟨_, rfl, by rw [HF.out]; exact HR.out, Below.refl _ _⟩
    | node c x y =>
     obtain ⟨b2, px, py, rfl, _⟩ := id hl
     cases r with
     | nil =>
      obtain rfl : pr = none := hr
      have HF : Hid (unlT (.node a (.node c x y) .nil) k = .node c x y) := hide hf
      try clear hl
      try clear hr
      clear h1 h2 hf
      go_enter Tryz.func93, Tryz.ntmps93
      go_wp2
      go_ret
      exact ⟨_, rfl, by rw [HF.out]; exact HL.out, Below.refl _ _⟩
     | node d u z =>
      obtain ⟨b3, pu, pz, rfl, _⟩ := id hr
      have HLE := hide (fun w h => least_ref_any (.node d u z) (some ⟨b3, 0, none⟩) w h rfl)
      obtain ⟨m, hm⟩ : ∃ m, m = leastT (.node d u z) := ⟨_, rfl⟩
      rw [<- hm] at HLE
      have IH := hide (fun w h => unl_any (.node d u z) (some ⟨b3, 0, none⟩) m w h)
      have HF : Hid (unlT (.node a (.node c x y) (.node d u z)) k = .node m (.node c x y) (unlT (.node d u z) m)) := hide (by rw [hf, hm]; rfl)
      obtain ⟨R, hRR⟩ : ∃ R, R = unlT (.node d u z) m := ⟨_, rfl⟩
      rw [<- hRR] at IH HF
      try clear hl
      try clear hr
      clear h1 h2 hf hm hRR
      go_enter Tryz.func93, Tryz.ntmps93
      go_wp2_with fail
      with_reducible refine (HLE.out _ HR.out).mono ?_
      rintro e w0 ⟨rfl, hb0⟩
      have kk0 : Kp w w0 := Kp.of hb0
      clear hb0
      have c0' := kk0.cell c0
      have c1' := kk0.cell c1
      have c2' := kk0.cell c2
      clear c0 c1 c2 K0
      go_wp2_with fail
      go_region_held3 (fun w' => w'.cell? ⟨b, 0, none⟩ = some (.int .i64 a) /\ w'.cell? ⟨b, 1, none⟩ = some (.pointer (some ⟨b2, 0, none⟩)) /\ w'.cell? ⟨b, 2, none⟩ = some (.pointer (some ⟨b3, 0, none⟩)) /\ Kp w w')
       ((go_split_ands; refine KS.out _ ?_; (exact Kp.auto)))
       ((go_at_call_of 93 (Value.pointer (some ⟨b3, 0, none⟩)); (with_reducible refine (IH.out _ (HR.out.kp ?_)).mono ?_); (go_split_ands; (exact Kp.auto)); rintro e w1 ⟨p1, rfl, ht1, hb1⟩))
      all_goals
       go_wp2
       go_ret
       refine ⟨_, rfl, by rw [HF.out]; exact TR.mk (HL.out.kp (by (exact Kp.auto))) (ht1.kp (by (exact Kp.auto))) _, Kp.bel (by (exact Kp.auto))⟩
def grS (t : T) (o : O3) (a : An) : T := if a.err ≠ 0 then t else if o.1 = 1 then leafT t o.2.1 else if o.1 = 3 then unlT t o.2.1 else t
def grT (z : List (O3 × An)) : T := z.foldl (fun t p => grS t p.1 p.2) .nil
theorem grT_snoc (z : List (O3 × An)) (k : Nat) (h : k < z.length) : grT (z.take (k + 1)) = grS (grT (z.take k)) z[k].1 z[k].2 := by
 rw [List.take_succ_eq_append_getElem h, grT, List.foldl_append]; rfl
def GgRel (z : List (O3 × An)) (w : World) (tv iv : Value) (wr : World) : Prop := ∃ (k : Nat) (p : Option Addr), k <= z.length /\ iv = .int .i64 k /\ tv = .pointer p /\ TR wr (grT (z.take k)) p /\ Kp w wr
theorem grown_any (ops : List O3) (ans : List An) (v u : Value) (w : World) (hr : RD w eOp v ops) (ha : RD w eAns u ans) (hl : ans.length = ops.length) : Calls Tryz.prog 57 #[v, u] w (RetTR (grT (ops.zip ans)) w) := by
 obtain ⟨A, c, rfl, hc, hm⟩ := hr.shape
 obtain ⟨Au, cu, rfl, hcu, hmu⟩ := ha.shape
 have HR := hide hr
 have HA := hide ha
 have hzl : (ops.zip ans).length = ops.length := by rw [List.length_zip, hl]; omega
 obtain ⟨z, hz⟩ : ∃ z, z = ops.zip ans := ⟨_, rfl⟩
 have HZ : Hid (∀ k (h : k < z.length) (h1 : k < ops.length) (h2 : k < ans.length), z[k] = (ops[k], ans[k])) := hide (by subst hz; intro k h h1 h2; simp)
 rw [<- hz] at hzl ⊢
 have HZL := hide hzl
 have HAL := hide hl
 clear hr ha hz hzl hl
 go_enter Tryz.func57, Tryz.ntmps57
 go_wp2
 go_loopw [5, 10] (GgRel z w) (fun _ i _ => ops.length - (intOf i).toNat)
 case atStart => exact ⟨0, none, by omega, rfl, rfl, rfl, Kp.refl _⟩
 case round =>
  obtain ⟨k, p, hk, rfl, rfl, ht, hkp⟩ := hrel
  have HT := hide ht
  clear ht
  by_cases hlt : k < ops.length
  ·have hka : k < ans.length := by rw [HAL.out]; exact hlt
   have hka' : (k : Int) < (ans.length : Int) := by omega
   obtain ⟨b, o, rfl, _, x0, x1, x2⟩ := (HR.out.kp hkp).op hlt
   obtain ⟨b', o', rfl, _, a0, _⟩ := (HA.out.kp hkp).ans hka
   have hkz : k < z.length := by rw [HZL.out]; exact hlt
   have hst := grT_snoc z k hkz
   rw [HZ.out k hkz hlt hka] at hst
   simp only [grS] at hst
   obtain ⟨T0, hT0⟩ : ∃ T0, T0 = grT (z.take k) := ⟨_, rfl⟩
   obtain ⟨er, her⟩ : ∃ er, er = ans[k].err := ⟨_, rfl⟩
   obtain ⟨⟨kd, ke, va⟩, hop⟩ : ∃ P, P = ops[k] := ⟨_, rfl⟩
   rw [<- hT0] at HT hst
   rw [<- her] at a0 hst
   rw [<- hop] at x0 x1 x2 hst
   simp only at x0 x1 x2 hst
   have HST := hide hst
   have HLF := hide (fun W h => leaf_any T0 p ke W h)
   have HUL := hide (fun W h => unl_any T0 p ke W h)
   clear hT0 her hop hst
   by_cases he : er = 0
   ·subst he
    by_cases h1 : kd = 1
    ·subst h1
     have HN : Hid (grT (z.take (k + 1)) = leafT T0 ke) := hide (by rw [HST.out]; simp)
     go_wp2_with fail
     with_reducible refine (HLF.out _ (HT.out.kp (by (exact Kp.auto)))).mono ?_
     rintro e w1 ⟨p1, rfl, ht1, hb1⟩
     have kk1 : Kp wr w1 := (Kp.refl wr).alloc.trans hb1
     have HT1 := hide ht1
     clear ht1 hb1
     go_wp2
     go_roundw
     case rel => exact ⟨k + 1, p1, by omega, by go_num, rfl, by rw [HN.out]; exact HT1.out, hkp.trans kk1⟩
     case measure => simp [intOf]; omega
    ·by_cases h3 : kd = 3
     ·subst h3
      have HN : Hid (grT (z.take (k + 1)) = unlT T0 ke) := hide (by rw [HST.out]; simp)
      go_wp2_with fail
      with_reducible refine (HUL.out _ (HT.out.kp (by (exact Kp.auto)))).mono ?_
      rintro e w1 ⟨p1, rfl, ht1, hb1⟩
      have kk1 : Kp wr w1 := (Kp.refl wr).alloc.trans hb1
      have HT1 := hide ht1
      clear ht1 hb1
      go_wp2
      go_roundw
      case rel => exact ⟨k + 1, p1, by omega, by go_num, rfl, by rw [HN.out]; exact HT1.out, hkp.trans kk1⟩
      case measure => simp [intOf]; omega
     ·have HN : Hid (grT (z.take (k + 1)) = T0) := hide (by rw [HST.out]; simp [h1, h3])
      have d1 : (kd == 1) = false := by simpa using h1
      have d3 : (kd == 3) = false := by simpa using h3
      go_wp2
      go_roundw
      case rel => exact ⟨k + 1, p, by omega, by go_num, rfl, by rw [HN.out]; exact HT.out.kp (Kp.refl wr).alloc, hkp.alloc⟩
      case measure => simp [intOf]; omega
   ·have HN : Hid (grT (z.take (k + 1)) = T0) := hide (by rw [HST.out]; simp [he])
    have d1 : (er != 0) = true := by simpa using he
    go_wp2
    go_roundw
    case rel => exact ⟨k + 1, p, by omega, by go_num, rfl, by rw [HN.out]; exact HT.out.kp (Kp.refl wr).alloc, hkp.alloc⟩
    case measure => simp [intOf]; omega
  ·have HE : Hid (z.take k = z) := hide (List.take_of_length_le (by rw [HZL.out]; omega))
   go_wp2
   go_ret
   exact ⟨_, rfl, by rw [<- HE.out]; exact HT.out, hkp.bel⟩
end Go.Proofs.YtcljlnagpjilaaaGreatDoor
