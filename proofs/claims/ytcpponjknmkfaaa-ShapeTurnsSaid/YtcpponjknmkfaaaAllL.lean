/-
  Plain laws of shape.All: all trees of keys from one on, so many; they are all unlike; how they are ordered. No program. Conditions: none.
-/
import Derived.Test.YtcpponjknmkfaaaMPt
import Derived.Sort.Statements
namespace Go.Proofs.Ytcpponjknmkfaaa
set_option linter.unusedVariables false
set_option linter.unusedSimpArgs false

def allT : Nat → Nat → Nat → List (MT Int)
  | 0, _, _ => [.nil]
  | m + 1, a, n => if n = 0 then [.nil] else (List.range n).flatMap fun r => (allT m a r).flatMap fun x => (allT m (a + r + 1) (n - r - 1)).map fun y => .node ((a + r : Nat) : Int) x y
/-- .. as lists of spots. -/
def treesS : Nat → Nat → Nat → Int → List (List IP)
  | 0, _, _, _ => [[]]
  | m + 1, a, n, d => if n = 0 then [[]] else (List.range n).flatMap fun r => (treesS m a r (d + 1)).flatMap fun x => (treesS m (a + r + 1) (n - r - 1) (d + 1)).map fun y => x ++ [(((a + r : Nat) : Int), d)] ++ y
def catF : Nat → Nat → Nat
  | 0, _ => 1
  | m + 1, n => if n = 0 then 1 else ((List.range n).map fun r => catF m r * catF m (n - r - 1)).sum
theorem len_flatMap {α β : Type} (f : α → List β) : ∀ l : List α, (l.flatMap f).length = (l.map fun x => (f x).length).sum
  | [] => rfl
  | x :: t => by simp [List.flatMap_cons, len_flatMap f t]
theorem sum_const {α : Type} (c : Nat) : ∀ l : List α, (l.map fun _ => c).sum = l.length * c
  | [] => by simp
  | x :: t => by simp [sum_const c t, Nat.add_mul]; omega
theorem treesS_len : ∀ (m a n : Nat) (d : Int), (treesS m a n d).length = catF m n
  | 0, _, _, _ => rfl
  | m + 1, a, n, d => by
    rw [treesS, catF]
    split
    · rfl
    · rw [len_flatMap]
      congr 1
      apply List.map_congr_left
      intro r _
      rw [len_flatMap]
      simp only [List.length_map, treesS_len m]
      rw [sum_const, treesS_len m]
theorem catF_le : ∀ m, m ≤ 7 → ∀ n, n ≤ 7 → catF m n ≤ 1000 := by decide +kernel
theorem treesS_inner : ∀ (m a n : Nat) (d : Int), n ≤ m → ∀ t ∈ treesS m a n d, t.length = n
  | 0, a, n, d, h, t, ht => by
    simp [treesS] at ht; subst ht; simp; omega
  | m + 1, a, n, d, h, t, ht => by
    rw [treesS] at ht
    split at ht
    · simp at ht; subst ht; simp; omega
    · simp only [List.mem_flatMap, List.mem_range, List.mem_map] at ht
      obtain ⟨r, hr, x, hx, y, hy, rfl⟩ := ht
      have h1 := treesS_inner m a r (d + 1) (by omega) x hx
      have h2 := treesS_inner m (a + r + 1) (n - r - 1) (d + 1) (by omega) y hy
      simp; omega
theorem treesS_eq : ∀ (m a n : Nat) (d : Int), treesS m a n d = (allT m a n).map fun t => t.spotsBy id d
  | 0, _, _, _ => rfl
  | m + 1, a, n, d => by
    rw [treesS, allT]
    split
    · rfl
    · rw [List.map_flatMap]
      congr 1
      funext r
      rw [List.map_flatMap, treesS_eq m a r, List.flatMap_map]
      congr 1
      funext x
      rw [treesS_eq m (a + r + 1), List.map_map, List.map_map]
      rfl
theorem allT_keys : ∀ (m a n : Nat), n ≤ m → ∀ t ∈ allT m a n, keysM id t = (List.range n).map (fun j => ((a + j : Nat) : Int))
  | 0, a, n, h, t, ht => by
    simp [allT] at ht; subst ht
    have : n = 0 := by omega
    subst this; rfl
  | m + 1, a, n, h, t, ht => by
    rw [allT] at ht
    split at ht
    · rename_i h0; simp at ht; subst ht; subst h0; rfl
    · simp only [List.mem_flatMap, List.mem_range, List.mem_map] at ht
      obtain ⟨r, hr, x, hx, y, hy, rfl⟩ := ht
      have h1 := allT_keys m a r (by omega) x hx
      have h2 := allT_keys m (a + r + 1) (n - r - 1) (by omega) y hy
      rw [keysM, h1, h2]
      apply List.ext_getElem
      · simp; omega
      · intro k h3 h4
        simp only [List.length_map, List.length_range] at h4
        rcases Nat.lt_trichotomy k r with hk | hk | hk
        · rw [List.getElem_append_left (by simp; omega), List.getElem_append_left (by simp; omega)]
          simp
        · subst hk
          rw [List.getElem_append_left (by simp), List.getElem_append_right (by simp)]
          simp
        · rw [List.getElem_append_right (by simp; omega)]
          simp
          omega
/-- All spots of a tree lie as deep as its top, or deeper. -/
theorem spotsBy_ge : ∀ (t : MT Int) (d : Int), ∀ p ∈ t.spotsBy id d, d ≤ p.2
  | .nil, d, p, h => by simp [MT.spotsBy] at h
  | .node a l r, d, p, h => by
    simp only [MT.spotsBy, List.mem_append, List.mem_singleton] at h
    rcases h with (h | rfl) | h
    · have := spotsBy_ge l (d + 1) p h; omega
    · exact Int.le_refl _
    · have := spotsBy_ge r (d + 1) p h; omega
theorem split_at {d : Int} : ∀ (L1 L2 : List IP) (p q : IP) (R1 R2 : List IP), p.2 = d → q.2 = d → (∀ x ∈ L1, d < x.2) → (∀ x ∈ L2, d < x.2) → L1 ++ p :: R1 = L2 ++ q :: R2 → L1 = L2 ∧ p = q ∧ R1 = R2
  | [], [], p, q, R1, R2, _, _, _, _, e => by simp at e; exact ⟨rfl, e.1, e.2⟩
  | [], y :: L2, p, q, R1, R2, hp, hq, _, h2, e => by
    simp at e
    have := h2 y (by simp)
    rw [← e.1] at this; omega
  | x :: L1, [], p, q, R1, R2, hp, hq, h1, _, e => by
    simp at e
    have := h1 x (by simp)
    rw [e.1] at this; omega
  | x :: L1, y :: L2, p, q, R1, R2, hp, hq, h1, h2, e => by
    simp at e
    obtain ⟨a, b, c⟩ := split_at L1 L2 p q R1 R2 hp hq (fun z hz => h1 z (by simp [hz])) (fun z hz => h2 z (by simp [hz])) e.2
    exact ⟨by rw [e.1, a], b, c⟩
theorem spotsBy_inj : ∀ (t u : MT Int) (d : Int), t.spotsBy id d = u.spotsBy id d → t = u
  | .nil, .nil, _, _ => rfl
  | .nil, .node a l r, d, e => by simp [MT.spotsBy] at e
  | .node a l r, .nil, d, e => by simp [MT.spotsBy] at e
  | .node a l r, .node b l' r', d, e => by
    simp only [MT.spotsBy, List.append_assoc, List.singleton_append] at e
    obtain ⟨h1, h2, h3⟩ := split_at (d := d) _ _ _ _ _ _ rfl rfl (fun x hx => by have := spotsBy_ge l (d + 1) x hx; omega) (fun x hx => by have := spotsBy_ge l' (d + 1) x hx; omega) e
    rw [spotsBy_inj l l' _ h1, spotsBy_inj r r' _ h3]
    simp at h2
    rw [h2]
theorem nodup_flatMap {α β : Type} (f : α → List β) : ∀ l : List α, l.Nodup → (∀ x ∈ l, (f x).Nodup) → (∀ x ∈ l, ∀ y ∈ l, ∀ z, z ∈ f x → z ∈ f y → x = y) → (l.flatMap f).Nodup
  | [], _, _, _ => by simp
  | x :: t, h, h1, h2 => by
    rw [List.flatMap_cons, List.nodup_append]
    obtain ⟨h3, h4⟩ := List.nodup_cons.1 h
    refine ⟨h1 x (by simp), nodup_flatMap f t h4 (fun y hy => h1 y (by simp [hy])) (fun y hy z hz => h2 y (by simp [hy]) z (by simp [hz])), fun a ha b hb hab => ?_⟩
    subst hab
    obtain ⟨y, hy, hby⟩ := List.mem_flatMap.1 hb
    have := h2 x (by simp) y (by simp [hy]) a ha hby
    subst this
    exact h3 hy
theorem nodup_map {α β : Type} (f : α → β) (hf : ∀ x y, f x = f y → x = y) : ∀ l : List α, l.Nodup → (l.map f).Nodup
  | [], _ => by simp
  | x :: t, h => by
    obtain ⟨h3, h4⟩ := List.nodup_cons.1 h
    rw [List.map_cons, List.nodup_cons]
    refine ⟨fun hm => ?_, nodup_map f hf t h4⟩
    obtain ⟨y, hy, e⟩ := List.mem_map.1 hm
    have := hf _ _ e
    subst this
    exact h3 hy
theorem allT_nodup : ∀ (m a n : Nat), (allT m a n).Nodup
  | 0, _, _ => by simp [allT]
  | m + 1, a, n => by
    rw [allT]
    split
    · simp
    · refine nodup_flatMap _ _ List.nodup_range (fun r _ => nodup_flatMap _ _ (allT_nodup m a r) (fun x _ => nodup_map _ (fun y z e => by injection e) _ (allT_nodup m _ _)) (fun x _ y _ z hz1 hz2 => ?_)) (fun r _ s _ z hz1 hz2 => ?_)
      · obtain ⟨u, _, rfl⟩ := List.mem_map.1 hz1
        obtain ⟨v, _, e⟩ := List.mem_map.1 hz2
        injection e with e1 e2 e3
        exact e2.symm
      · obtain ⟨x, _, hx⟩ := List.mem_flatMap.1 hz1
        obtain ⟨u, _, rfl⟩ := List.mem_map.1 hx
        obtain ⟨y, _, hy⟩ := List.mem_flatMap.1 hz2
        obtain ⟨v, _, e⟩ := List.mem_map.1 hy
        injection e with e1 e2 e3
        omega

/-! ### the order -/
def cmpI (x y : Int) : Int := if x < y then -1 else if y < x then 1 else 0
def cmpD : List IP → List IP → Int
  | [], [] => 0
  | [], _ :: _ => -1
  | _ :: _, [] => 1
  | a :: s, b :: t => if cmpI a.2 b.2 ≠ 0 then cmpI a.2 b.2 else cmpD s t
theorem cmpI_cases (x y : Int) : (x < y ∧ cmpI x y = -1) ∨ (x = y ∧ cmpI x y = 0) ∨ (y < x ∧ cmpI x y = 1) := by
  unfold cmpI
  rcases Int.lt_trichotomy x y with h | h | h
  · exact .inl ⟨h, if_pos h⟩
  · exact .inr (.inl ⟨h, by rw [if_neg (by omega), if_neg (by omega)]⟩)
  · exact .inr (.inr ⟨h, by rw [if_neg (by omega), if_pos h]⟩)
theorem cmpD_cons (a b : IP) (s t : List IP) : (a.2 < b.2 ∧ cmpD (a :: s) (b :: t) = -1) ∨ (a.2 = b.2 ∧ cmpD (a :: s) (b :: t) = cmpD s t) ∨ (b.2 < a.2 ∧ cmpD (a :: s) (b :: t) = 1) := by
  rw [cmpD]
  rcases cmpI_cases a.2 b.2 with ⟨h1, h2⟩ | ⟨h1, h2⟩ | ⟨h1, h2⟩
  · exact .inl ⟨h1, by rw [h2]; rfl⟩
  · exact .inr (.inl ⟨h1, by rw [h2]; rfl⟩)
  · exact .inr (.inr ⟨h1, by rw [h2]; rfl⟩)
theorem cmpD_self : ∀ l, cmpD l l = 0
  | [] => rfl
  | a :: t => by
    rcases cmpD_cons a a t t with ⟨h, _⟩ | ⟨_, h⟩ | ⟨h, _⟩
    · omega
    · rw [h, cmpD_self t]
    · omega
theorem cmpD_in : ∀ a b, -1 ≤ cmpD a b ∧ cmpD a b ≤ 1
  | [], [] => by simp [cmpD]
  | [], _ :: _ => by simp [cmpD]
  | _ :: _, [] => by simp [cmpD]
  | a :: s, b :: t => by
    have := cmpD_in s t
    rcases cmpD_cons a b s t with ⟨_, h⟩ | ⟨_, h⟩ | ⟨_, h⟩ <;> omega
theorem cmpD_trans : ∀ a b c, cmpD a b < 0 → cmpD b c < 0 → cmpD a c < 0
  | [], [], c, h, _ => by simp [cmpD] at h
  | [], _ :: _, [], _, h => by simp [cmpD] at h
  | [], _ :: _, _ :: _, _, _ => by simp [cmpD]
  | _ :: _, [], _, h, _ => by simp [cmpD] at h
  | _ :: _, _ :: _, [], _, h => by simp [cmpD] at h
  | a :: s, b :: t, c :: u, h1, h2 => by
    rcases cmpD_cons a b s t with ⟨p1, p2⟩ | ⟨p1, p2⟩ | ⟨p1, p2⟩ <;> rcases cmpD_cons b c t u with ⟨q1, q2⟩ | ⟨q1, q2⟩ | ⟨q1, q2⟩ <;> rcases cmpD_cons a c s u with ⟨r1, r2⟩ | ⟨r1, r2⟩ | ⟨r1, r2⟩ <;> first | omega | (have := cmpD_trans s t u (by omega) (by omega); omega)
theorem cmpD_ntrans : ∀ a b c, 0 ≤ cmpD a b → 0 ≤ cmpD b c → 0 ≤ cmpD a c
  | [], _ :: _, _, h, _ => by simp [cmpD] at h
  | [], [], [], _, _ => by simp [cmpD]
  | [], [], _ :: _, _, h => by simp [cmpD] at h
  | _ :: _, [], _ :: _, _, h => by simp [cmpD] at h
  | _ :: _, [], [], _, _ => by simp [cmpD]
  | _ :: _, _ :: _, [], _, _ => by simp [cmpD]
  | a :: s, b :: t, c :: u, h1, h2 => by
    rcases cmpD_cons a b s t with ⟨p1, p2⟩ | ⟨p1, p2⟩ | ⟨p1, p2⟩ <;> rcases cmpD_cons b c t u with ⟨q1, q2⟩ | ⟨q1, q2⟩ | ⟨q1, q2⟩ <;> rcases cmpD_cons a c s u with ⟨r1, r2⟩ | ⟨r1, r2⟩ | ⟨r1, r2⟩ <;> first | omega | (have := cmpD_ntrans s t u (by omega) (by omega); omega)
theorem cmpD_swap : ∀ a b, cmpD b a = - cmpD a b
  | [], [] => rfl
  | [], _ :: _ => rfl
  | _ :: _, [] => rfl
  | a :: s, b :: t => by
    have := cmpD_swap s t
    rcases cmpD_cons a b s t with ⟨p1, p2⟩ | ⟨p1, p2⟩ | ⟨p1, p2⟩ <;> rcases cmpD_cons b a t s with ⟨q1, q2⟩ | ⟨q1, q2⟩ | ⟨q1, q2⟩ <;> omega
theorem cmpD_zero : ∀ a b, cmpD a b = 0 → a.map Prod.snd = b.map Prod.snd
  | [], [], _ => rfl
  | [], _ :: _, h => by simp [cmpD] at h
  | _ :: _, [], h => by simp [cmpD] at h
  | a :: s, b :: t, h => by
    rcases cmpD_cons a b s t with ⟨p1, p2⟩ | ⟨p1, p2⟩ | ⟨p1, p2⟩
    · omega
    · rw [List.map_cons, List.map_cons, p1, cmpD_zero s t (by omega)]
    · omega
theorem cmpD_swo (g : Nat → List IP) : Go.Sort.SWO (fun x y : Nat => decide (cmpD (g x) (g y) < 0)) where
  irrefl x := by simp [cmpD_self]
  trans x y z h1 h2 := by simp only [decide_eq_true_eq] at *; exact cmpD_trans _ _ _ h1 h2
  ntrans x y z h1 h2 := by simp only [decide_eq_false_iff_not, Int.not_lt] at *; exact cmpD_ntrans _ _ _ h1 h2
/-- Two trees of the same keys and the same depths are one. -/
theorem allT_deps {m a n : Nat} (h : n ≤ m) {t u : MT Int} (ht : t ∈ allT m a n) (hu : u ∈ allT m a n) {d : Int} (e : (t.spotsBy id d).map Prod.snd = (u.spotsBy id d).map Prod.snd) : t = u := by
  have h1 : (t.spotsBy id d).map Prod.fst = (u.spotsBy id d).map Prod.fst := by rw [spotsBy_keys, spotsBy_keys, allT_keys m a n h t ht, allT_keys m a n h u hu]
  apply spotsBy_inj t u d
  apply List.ext_getElem
  · have := congrArg List.length h1; simpa using this
  · intro k h2 h3
    have e1 := List.getElem_of_eq h1 (i := k) (by simpa using h2)
    have e2 := List.getElem_of_eq e (i := k) (by simpa using h2)
    simp only [List.getElem_map] at e1 e2
    exact Prod.ext e1 e2
end Go.Proofs.Ytcpponjknmkfaaa
