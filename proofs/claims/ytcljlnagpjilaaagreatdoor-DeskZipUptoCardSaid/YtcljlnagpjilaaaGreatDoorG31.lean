/-
  Plain laws of rows and stops: a row's keys; a path rises, its rows go down, each stop is m
  The stops of a way, just which they are: those below the key with none between them and th
-/
import Derived.Test.YtcljlnagpjilaaaGreatDoorG14

set_option linter.unusedVariables false
set_option linter.unusedSimpArgs false
set_option maxRecDepth 100000
set_option maxHeartbeats 8000000
namespace Go.Proofs.YtcljlnagpjilaaaGreatDoor
open Go.ChangeShapes Go.WideShapes Go.ChangeAt Go.RowKit
theorem mem_rowH {H : Int -> Int} {ks : List Int} {r : Nat} {x : Int} : x ∈ rowH H ks r ↔ x ∈ ks /\ (r : Int) < H x := by
 unfold rowH
 rw [List.mem_filter, decide_eq_true_eq]
structure StI (ks : List Int) (key : Int) (H : Int -> Int) (n : Nat) (P : List IP) (la : Int) : Prop where
 all : ∀ p ∈ P, p.2 ∈ ks /\ p.2 < key /\ p.1 = H p.2 - 1 /\ p.2 <= la /\ ((12 - n : Nat) : Int) <= p.1
 last : (P = [] /\ la = -1) ∨ ∃ Q r, P = Q ++ [(r, la)]
 done : ∀ k ∈ ks, k < key -> ((12 - n : Nat) : Int) < H k -> k <= la
 up : P.Pairwise fun a b => a.2 < b.2 /\ b.1 <= a.1
theorem stI_step {ks : List Int} {key : Int} {H : Int -> Int} {n : Nat} {P : List IP} {la : Int} (hp : ks.Pairwise (· < ·)) (hb : ∀ x ∈ ks, 0 <= x /\ x <= 1000000) (h : StI ks key H n P la) (hn : n < 12) :
  StI ks key H (n + 1) (P ++ (stL (rowH H ks (11 - n)) key la).map fun k => (((11 - n : Nat) : Int), k)) (lastOr (stL (rowH H ks (11 - n)) key la) la) := by
 obtain ⟨r, hr⟩ : ∃ r, r = 11 - n := ⟨_, rfl⟩
 have e1 : 12 - n = r + 1 := by omega
 have e2 : 12 - (n + 1) = r := by omega
 obtain ⟨h1, h2, h3, h4⟩ := h
 rw [e1] at h1 h3
 rw [<- hr]
 have hL : ∀ k, k ∈ stL (rowH H ks r) key la ↔ k ∈ ks /\ (r : Int) < H k /\ la + 1 <= k /\ k <= key - 1 := fun k => by
  unfold stL
  rw [List.mem_filter, mem_rowH, decide_eq_true_eq]
  exact and_assoc
 have hLp : (stL (rowH H ks r) key la).Pairwise (· < ·) := List.Pairwise.filter _ (List.Pairwise.filter _ hp)
 obtain ⟨L, hLe⟩ : ∃ L, L = stL (rowH H ks r) key la := ⟨_, rfl⟩
 rw [<- hLe] at hL hLp ⊢
 have hH : ∀ k ∈ L, H k = (r : Int) + 1 := fun k hk => by
  obtain ⟨a, b, c, d⟩ := (hL k).1 hk
  by_cases e : (((r + 1 : Nat)) : Int) < H k
  ·have := h3 k a (by omega) e; omega
  ·omega
 have hlast : (L = [] /\ lastOr L la = la) ∨ (lastOr L la ∈ L /\ ∀ k ∈ L, k <= lastOr L la) := by
  rcases List.eq_nil_or_concat L with e | ⟨L', y, e⟩
  ·exact .inl ⟨e, by rw [e]; rfl⟩
  ·right
   rw [List.concat_eq_append] at e
   rw [e, lastOr_snoc]
   refine ⟨by simp, fun k hk => ?_⟩
   rw [e] at hLp
   rcases List.mem_append.1 hk with hk | hk
   ·have := (List.pairwise_append.1 hLp).2.2 k hk y (by simp); omega
   ·simp at hk; omega
 have hge : la <= lastOr L la := by
  rcases hlast with ⟨_, e⟩ | ⟨e, _⟩
  ·omega
  ·have := ((hL _).1 e).2.2.1; omega
 refine ⟨fun p hp' => ?_, ?_, fun k hk hkk hkr => ?_, ?_⟩
 ·rw [e2]
  rcases List.mem_append.1 hp' with hp' | hp'
  ·obtain ⟨a, b, c, d, f⟩ := h1 p hp'
   exact ⟨a, b, c, by omega, by omega⟩
  ·obtain ⟨k, hk, rfl⟩ := List.mem_map.1 hp'
   obtain ⟨a, b, c, d⟩ := (hL k).1 hk
   have := hH k hk
   refine ⟨a, by simp only; omega, by simp only; omega, ?_, Int.le_refl _⟩
   rcases hlast with ⟨e, _⟩ | ⟨_, e⟩
   ·rw [e] at hk; cases hk
   ·exact e k hk
 ·rcases List.eq_nil_or_concat L with e | ⟨L', y, e⟩
  ·rw [e, List.map_nil, List.append_nil, lastOr_nil]; exact h2
  ·right
   rw [List.concat_eq_append] at e
   rw [e, lastOr_snoc, List.map_append, <- List.append_assoc]
   exact ⟨_, _, rfl⟩
 ·rw [e2] at hkr
  by_cases e : la + 1 <= k
  ·have hm : k ∈ L := (hL k).2 ⟨hk, hkr, e, by omega⟩
   rcases hlast with ⟨e', _⟩ | ⟨_, e'⟩
   ·rw [e'] at hm; cases hm
   ·exact e' k hm
  ·omega
 ·rw [List.pairwise_append]
  refine ⟨h4, ?_, fun a ha b hb' => ?_⟩
  ·rw [List.pairwise_map]
   exact hLp.imp fun h => ⟨h, Int.le_refl _⟩
  ·obtain ⟨k, hk, rfl⟩ := List.mem_map.1 hb'
   obtain ⟨_, _, _, d, f⟩ := h1 a ha
   have := ((hL k).1 hk).2.2.1
   simp only
   omega
theorem stI_all {ks : List Int} {key : Int} (hp : ks.Pairwise (· < ·)) (hb : ∀ x ∈ ks, 0 <= x /\ x <= 1000000) : ∀ n, n <= 12 -> StI ks key hgtF n (stAll ks key n).1 (stAll ks key n).2
 | 0, _ => ⟨fun p hp => (by cases hp), .inl ⟨rfl, rfl⟩, fun k hk _ h => (by have := (hgtF_in k).2; omega), List.Pairwise.nil⟩
 | n + 1, hn => stI_step hp hb (stI_all hp hb n (by omega)) (by omega)
def seen (ks : List Int) (key : Int) (H : Int -> Int) (k : Int) : Prop := ∀ q ∈ ks, k < q -> q < key -> H q <= H k
theorem seen_step {ks : List Int} {key : Int} {H : Int -> Int} {n : Nat} {P : List IP} {la : Int} (hb : ∀ x ∈ ks, 0 <= x /\ x <= 1000000) (h : StI ks key H n P la) (hn : n < 12)
  (hs : ∀ x, x ∈ P.map Prod.snd ↔ x ∈ ks /\ x < key /\ ((12 - n : Nat) : Int) < H x /\ seen ks key H x) :
  ∀ x, x ∈ (P ++ (stL (rowH H ks (11 - n)) key la).map fun k => (((11 - n : Nat) : Int), k)).map Prod.snd ↔ x ∈ ks /\ x < key /\ ((12 - (n + 1) : Nat) : Int) < H x /\ seen ks key H x := by
 intro x
 have e2 : 12 - (n + 1) = 11 - n := by omega
 have e1 : ((12 - n : Nat) : Int) = ((11 - n : Nat) : Int) + 1 := by omega
 obtain ⟨h1, h2, h3, h4⟩ := h
 rw [e1] at h1 h3 hs
 rw [e2]
 have hL : x ∈ stL (rowH H ks (11 - n)) key la ↔ x ∈ ks /\ ((11 - n : Nat) : Int) < H x /\ la + 1 <= x /\ x <= key - 1 := by
  unfold stL
  rw [List.mem_filter, mem_rowH, decide_eq_true_eq]
  exact and_assoc
 rw [List.map_append, List.mem_append, hs x, List.map_map, show (Prod.snd ∘ fun k : Int => (((11 - n : Nat) : Int), k)) = id from rfl, List.map_id, hL]
 generalize ((11 - n : Nat) : Int) = r at *
 constructor
 ·rintro (⟨a, b, c, d⟩ | ⟨a, b, c, d⟩)
  ·exact ⟨a, b, by omega, d⟩
  ·refine ⟨a, by omega, b, fun q hq h5 h6 => ?_⟩
   by_cases e : r + 1 < H q
   ·have := h3 q hq h6 e; omega
   ·omega
 ·rintro ⟨a, b, c, d⟩
  by_cases e : r + 1 < H x
  ·exact .inl ⟨a, b, e, d⟩
  ·refine .inr ⟨a, c, ?_, by omega⟩
   rcases h2 with ⟨_, h2⟩ | ⟨Q, q, h2⟩
   ·have := (hb x a).1; omega
   ·obtain ⟨f1, f2, f3, _, f5⟩ := h1 (q, la) (by rw [h2]; simp)
    simp only at f1 f2 f3 f5
    by_cases e3 : la + 1 <= x
    ·exact e3
    ·exfalso
     by_cases e4 : x = la
     ·subst e4; omega
     ·have := d la f1 (by omega) f2
      omega
theorem seen_all {ks : List Int} {key : Int} (hp : ks.Pairwise (· < ·)) (hb : ∀ x ∈ ks, 0 <= x /\ x <= 1000000) : ∀ n, n <= 12 -> ∀ x, x ∈ (stAll ks key n).1.map Prod.snd ↔ x ∈ ks /\ x < key /\ ((12 - n : Nat) : Int) < hgtF x /\ seen ks key hgtF x
 | 0, _, x => by
  have h1 := (hgtF_in x).2
  have : (stAll ks key 0).1 = [] := rfl
  rw [this]
  generalize hgtF x = t at *
  constructor
  ·intro h; cases h
  ·rintro ⟨_, _, h, _⟩; omega
 | n + 1, hn, x => seen_step hb (stI_all hp hb n (by omega)) (by omega) (seen_all hp hb n (by omega)) x
end Go.Proofs.YtcljlnagpjilaaaGreatDoor
