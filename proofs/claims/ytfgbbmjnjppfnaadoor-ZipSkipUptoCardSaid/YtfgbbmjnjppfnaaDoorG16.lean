/-
  The way from a key's place up through the places of a tree: who stands on it, which one is the lowest, which of them are less. No program. Conditions: none.
  By other ops to the same keys: all keys cut, then put anew from the last on. No program. Conditions: none.
  Keys put in order, on a plain list: just these are there. No program. Conditions: none.
  ZipSkip's plain law: what its two loops find in the spots of a zipped tree are the stops. No program. Conditions: none.
  ZipSkip's facts, all joined: for right keys of which key is none. No program. Conditions: none.
  Rows above rows: towers in order, with the links that each row has (the next tower that is high enough, and how many steps it is to it). No program. Conditions: none.
  Rows above rows in the heap (SKF: towers with what their links hold; SK: a whole stack): what a store makes of them. Conditions: none.
-/
import Derived.Test.YtfgbbmjnjppfnaaDoorG3
import Derived.Test.YtfgbbmjnjppfnaaDoorG15
import Derived.Test.YtfgbbmjnjppfnaaDoorG11
import Derived.Test.YtfgbbmjnjppfnaaDoorG12
import Derived.Test.YtfgbbmjnjppfnaaDoorG14
import Derived.Test.YtfgbbmjnjppfnaaDoorG2
import Derived.Test.YtfgbbmjnjppfnaaDoorG1

namespace Go.Proofs.YtfgbbmjnjppfnaaDoor
open Go.ChangeShapes Go.WideShapes Go.ChangeAt Go.RowKit
set_option linter.unusedVariables false
set_option linter.unusedSimpArgs false

/-- The way to a key's place, from the top on. -/
def PT.path (K : Nat → Int) (key : Int) : PT → List Nat
  | .nil => []
  | .node p l r => p :: if K p < key then r.path K key else l.path K key
def Chain (par : Nat → Int) : Int → List Nat → Prop
  | _, [] => True
  | up, x :: xs => par x = up ∧ Chain par (x : Int) xs
theorem Chain.mono {par par' : Nat → Int} : ∀ {up : Int} {l : List Nat}, (∀ x ∈ l, par' x = par x) → Chain par up l → Chain par' up l
  | _, [], _, _ => trivial
  | up, x :: xs, h, hc => ⟨(h x (by simp)).trans hc.1, Chain.mono (fun y hy => h y (by simp [hy])) hc.2⟩
theorem PT.path_in (K : Nat → Int) (key : Int) : ∀ (t : PT) (off : Nat), t.At off → ∀ j ∈ t.path K key, off ≤ j ∧ j < off + t.size
  | .nil, _, _, _, h => by cases h
  | .node p l r, off, ⟨hp, hl, hr⟩, j, h => by
    rw [PT.path, List.mem_cons] at h
    simp only [PT.size]
    rcases h with rfl | h
    · omega
    · split at h
      · have := PT.path_in K key r _ hr j h; omega
      · have := PT.path_in K key l _ hl j h; omega
/-- Each one on the way stands right below the one ahead of it. -/
theorem PT.path_chain (K : Nat → Int) (key : Int) : ∀ (t : PT) (off : Nat) (up : Int), t.At off → Chain (fun j => (t.pars up).getD (j - off) 0) up (t.path K key)
  | .nil, _, _, _ => trivial
  | .node p l r, off, up, ⟨hp, hl, hr⟩ => by
    have hll := PT.pars_len l (p : Int)
    rw [PT.path]
    refine ⟨?_, ?_⟩
    · simp only [PT.pars, List.append_assoc, List.getD_eq_getElem?_getD]
      rw [List.getElem?_append_right (by omega), hll, show p - off - l.size = 0 from by omega]
      rfl
    · split
      · refine Chain.mono (fun x hx => ?_) (PT.path_chain K key r (p + 1) p hr)
        have := PT.path_in K key r _ hr x hx
        simp only [PT.pars, List.getD_eq_getElem?_getD]
        rw [List.getElem?_append_right (by simp; omega)]
        simp only [List.length_append, hll, List.length_cons, List.length_nil]
        rw [show x - off - (l.size + (0 + 1)) = x - (p + 1) from by omega]
      · refine Chain.mono (fun x hx => ?_) (PT.path_chain K key l off p hl)
        have := PT.path_in K key l _ hl x hx
        simp only [PT.pars, List.append_assoc, List.getD_eq_getElem?_getD]
        rw [List.getElem?_append_left (by omega)]
/-- The deeper the farther along the way. -/
theorem PT.path_deps (K : Nat → Int) (key : Int) : ∀ (t : PT) (off : Nat) (d : Int), t.At off → ∀ i j : Nat, (t.path K key)[i]? = some j → (t.deps d).getD (j - off) 0 = d + i
  | .nil, _, _, _, _, _, h => by cases h
  | .node p l r, off, d, ⟨hp, hl, hr⟩, i, j, h => by
    have hll := PT.deps_len l (d + 1)
    rw [PT.path] at h
    cases i with
    | zero =>
      simp at h
      subst h
      simp only [PT.deps, List.append_assoc, List.getD_eq_getElem?_getD]
      rw [List.getElem?_append_right (by omega), hll, show p - off - l.size = 0 from by omega]
      simp
    | succ i =>
      rw [List.getElem?_cons_succ] at h
      split at h
      · have h1 := PT.path_in K key r _ hr j (List.mem_of_getElem? h)
        have h2 := PT.path_deps K key r (p + 1) (d + 1) hr i j h
        simp only [PT.deps, List.getD_eq_getElem?_getD] at h2 ⊢
        rw [List.getElem?_append_right (by simp; omega)]
        simp only [List.length_append, hll, List.length_cons, List.length_nil]
        rw [show j - off - (l.size + (0 + 1)) = j - (p + 1) from by omega, h2]
        omega
      · have h1 := PT.path_in K key l _ hl j (List.mem_of_getElem? h)
        have h2 := PT.path_deps K key l off (d + 1) hl i j h
        simp only [PT.deps, List.append_assoc, List.getD_eq_getElem?_getD] at h2 ⊢
        rw [List.getElem?_append_left (by omega), h2]
        omega
/-- A neighbour of the key, among the places lo, .. , hi - 1. -/
def nbr (K : Nat → Int) (key : Int) (lo hi j : Nat) : Prop := (K j < key ∧ (j + 1 = hi ∨ key < K (j + 1))) ∨ (key < K j ∧ (j = lo ∨ K (j - 1) < key))
theorem PT.nbr_path {K : Nat → Int} {key : Int} : ∀ (t : PT) (lo hi : Nat), t.At lo → hi = lo + t.size → (∀ i j, lo ≤ i → i < j → j < hi → K i < K j) → ∀ j, lo ≤ j → j < hi → nbr K key lo hi j → j ∈ t.path K key
  | .nil, lo, hi, _, h, _, j, h1, h2, _ => by simp [PT.size] at h; omega
  | .node p l r, lo, hi, ⟨hp, hl, hr⟩, h, hK, j, h1, h2, hn => by
    simp only [PT.size] at h
    rw [PT.path, List.mem_cons]
    by_cases e : j = p
    · exact .inl e
    · right
      by_cases e2 : j < p
      · have k1 := hK j p h1 e2 (by omega)
        have k2 : j + 1 = p ∨ K (j + 1) < K p := by
          by_cases e3 : j + 1 = p
          · exact .inl e3
          · exact .inr (hK (j + 1) p (by omega) (by omega) (by omega))
        by_cases e4 : K p < key
        · exfalso
          rcases hn with ⟨a, b | b⟩ | ⟨a, _⟩
          · omega
          · rcases k2 with k2 | k2
            · rw [k2] at b; omega
            · omega
          · omega
        · rw [if_neg e4]
          refine PT.nbr_path l lo p hl (by omega) (fun i j a b c => hK i j a b (by omega)) j h1 e2 ?_
          rcases hn with ⟨a, b | b⟩ | hn
          · omega
          · exact .inl ⟨a, .inr b⟩
          · exact .inr hn
      · have k1 := hK p j (by omega) (by omega) h2
        have k2 : j = p + 1 ∨ K p < K (j - 1) := by
          by_cases e3 : j = p + 1
          · exact .inl e3
          · exact .inr (hK p (j - 1) (by omega) (by omega) (by omega))
        by_cases e4 : K p < key
        · rw [if_pos e4]
          refine PT.nbr_path r (p + 1) hi hr (by omega) (fun i j a b c => hK i j (by omega) b c) j (by omega) h2 ?_
          rcases hn with hn | ⟨a, b | b⟩
          · exact .inl hn
          · omega
          · exact .inr ⟨a, .inr b⟩
        · exfalso
          rcases hn with ⟨a, _⟩ | ⟨a, b | b⟩
          · omega
          · omega
          · rcases k2 with k2 | k2
            · rw [k2, Nat.add_sub_cancel] at b; exact e4 b
            · omega
/-- The last one of the way is a neighbour. -/
theorem PT.path_last {K : Nat → Int} {key : Int} : ∀ (t : PT) (lo hi : Nat), t.At lo → hi = lo + t.size → (∀ j, lo ≤ j → j < hi → K j ≠ key) → ∀ j, (t.path K key).getLast? = some j → nbr K key lo hi j
  | .nil, _, _, _, _, _, _, h => by cases h
  | .node p l r, lo, hi, ⟨hp, hl, hr⟩, h, hne, j, hj => by
    simp only [PT.size] at h
    have hpn := hne p (by omega) (by omega)
    rw [PT.path] at hj
    by_cases e4 : K p < key
    · rw [if_pos e4] at hj
      cases hq : r.path K key with
      | nil =>
        have hr0 : r.size = 0 := by
          cases r with
          | nil => rfl
          | node _ _ _ => cases hq
        rw [hq] at hj
        simp at hj
        subst hj
        exact .inl ⟨e4, .inl (by omega)⟩
      | cons x xs =>
        have h3 : (r.path K key).getLast? = some j := by
          rw [hq] at hj ⊢
          rw [List.getLast?_cons_cons] at hj
          exact hj
        have h1 := PT.path_in K key r _ hr j (List.mem_of_getLast? h3)
        rcases PT.path_last r (p + 1) hi hr (by omega) (fun j a b => hne j (by omega) b) j h3 with hn | ⟨a, b | b⟩
        · exact .inl hn
        · exact .inr ⟨a, .inr (by rw [b, Nat.add_sub_cancel]; exact e4)⟩
        · exact .inr ⟨a, .inr b⟩
    · rw [if_neg e4] at hj
      cases hq : l.path K key with
      | nil =>
        have hr0 : l.size = 0 := by
          cases l with
          | nil => rfl
          | node _ _ _ => cases hq
        rw [hq] at hj
        simp at hj
        subst hj
        exact .inr ⟨by omega, .inl (by omega)⟩
      | cons x xs =>
        have h3 : (l.path K key).getLast? = some j := by
          rw [hq] at hj ⊢
          rw [List.getLast?_cons_cons] at hj
          exact hj
        have h1 := PT.path_in K key l _ hl j (List.mem_of_getLast? h3)
        rcases PT.path_last l lo p hl (by omega) (fun j a b => hne j a (by omega)) j h3 with ⟨a, b | b⟩ | hn
        · exact .inl ⟨a, .inr (by rw [b]; omega)⟩
        · exact .inl ⟨a, .inr b⟩
        · exact .inr hn
theorem Chain.get {par : Nat → Int} : ∀ {up : Int} {l : List Nat}, Chain par up l → ∀ (i : Nat) (h : i < l.length), par l[i] = if h0 : i = 0 then up else ((l[i - 1]'(by omega) : Nat) : Int)
  | _, [], _, i, h => by simp at h
  | up, x :: xs, hc, 0, h => by simpa using hc.1
  | up, x :: xs, hc, i + 1, h => by
    have h2 : i < xs.length := by simpa using h
    have := Chain.get hc.2 i h2
    rw [dif_neg (by omega)]
    simp only [List.getElem_cons_succ, Nat.add_sub_cancel]
    rw [this]
    by_cases e : i = 0
    · subst e
      simp
    · rw [dif_neg e]
      simp [List.getElem_cons, e]
/-- The deepest of the candidates, the first of them. -/
def atF (cand : Nat → Bool) (dep : Nat → Int) : Nat → Int
  | 0 => -1
  | k + 1 => if cand k = true ∧ (atF cand dep k < 0 ∨ dep (atF cand dep k).toNat < dep k) then (k : Int) else atF cand dep k
theorem atF_inv (cand : Nat → Bool) (dep : Nat → Int) : ∀ k, (atF cand dep k = -1 ∧ ∀ c, c < k → cand c = false) ∨ ∃ a : Nat, a < k ∧ atF cand dep k = a ∧ cand a = true ∧ ∀ c, c < k → cand c = true → dep c ≤ dep a
  | 0 => .inl ⟨rfl, fun c h => by omega⟩
  | k + 1 => by
    rw [atF]
    rcases atF_inv cand dep k with ⟨h1, h2⟩ | ⟨a, h1, h2, h3, h4⟩
    · rw [h1]
      by_cases e : cand k = true
      · rw [if_pos ⟨e, .inl (by omega)⟩]
        refine .inr ⟨k, by omega, rfl, e, fun c hc hcc => ?_⟩
        by_cases e2 : c = k
        · subst e2; omega
        · rw [h2 c (by omega)] at hcc; cases hcc
      · rw [if_neg fun h => e h.1]
        refine .inl ⟨rfl, fun c hc => ?_⟩
        by_cases e2 : c = k
        · subst e2; simpa using e
        · exact h2 c (by omega)
    · rw [h2, Int.toNat_natCast]
      right
      by_cases e : cand k = true ∧ ((a : Int) < 0 ∨ dep a < dep k)
      · rw [if_pos e]
        refine ⟨k, by omega, rfl, e.1, fun c hc hcc => ?_⟩
        by_cases e2 : c = k
        · subst e2; omega
        · have := h4 c (by omega) hcc
          rcases e.2 with e3 | e3 <;> omega
      · rw [if_neg e]
        refine ⟨a, by omega, rfl, h3, fun c hc hcc => ?_⟩
        by_cases e2 : c = k
        · subst e2
          refine Decidable.byContradiction fun h => e ⟨hcc, .inr (by omega)⟩
        · exact h4 c (by omega) hcc
theorem atF_last {cand : Nat → Bool} {dep : Nat → Int} {n : Nat} {P : List Nat} {d : Int} (hc : ∀ c, c < n → cand c = true → c ∈ P) (hd : ∀ i j : Nat, P[i]? = some j → dep j = d + i) {m : Nat} (hm : P.getLast? = some m) (hmn : m < n) (hmc : cand m = true) :
    atF cand dep n = m := by
  rcases atF_inv cand dep n with ⟨_, h2⟩ | ⟨a, h1, h2, h3, h4⟩
  · rw [h2 m hmn] at hmc; cases hmc
  · rw [h2]
    have k1 := h4 m hmn hmc
    obtain ⟨i, hi, hia⟩ := List.mem_iff_getElem.1 (hc a h1 h3)
    rw [List.getLast?_eq_getElem?] at hm
    have hl : P.length - 1 < P.length := by omega
    have d1 := hd i a (by simp [List.getElem?_eq_getElem hi, hia])
    have d2 := hd (P.length - 1) m hm
    have e : i = P.length - 1 := by omega
    subst e
    rw [List.getElem?_eq_getElem hl, hia] at hm
    injection hm with hm
    rw [hm]
theorem atF_none {cand : Nat → Bool} {dep : Nat → Int} {n : Nat} (h : ∀ c, c < n → cand c = false) : atF cand dep n = -1 := by
  rcases atF_inv cand dep n with ⟨h1, _⟩ | ⟨a, h1, _, h3, _⟩
  · exact h1
  · rw [h a h1] at h3; cases h3
/-- Those less on the way from a place up. -/
def upAt (P : List Nat) (i : Nat) : Int := if h : i < P.length then ((P[P.length - 1 - i]'(by omega) : Nat) : Int) else -1
def upLess (K : Nat → Int) (key : Int) (P : List Nat) (i : Nat) : List Int := ((P.reverse.take i).filter fun j => decide (K j < key)).map K
theorem upAt_step {par : Nat → Int} {P : List Nat} (hc : Chain par (-1) P) {i : Nat} (h : i < P.length) : par (P[P.length - 1 - i]'(by omega)) = upAt P (i + 1) := by
  rw [hc.get (P.length - 1 - i) (by omega), upAt]
  by_cases e : P.length - 1 - i = 0
  · rw [dif_pos e, dif_neg (by omega)]
  · rw [dif_neg e, dif_pos (by omega)]
    simp only [show P.length - 1 - i - 1 = P.length - 1 - (i + 1) from by omega]
theorem upLess_step (K : Nat → Int) (key : Int) {P : List Nat} {i : Nat} (h : i < P.length) :
    upLess K key P (i + 1) = if K (P[P.length - 1 - i]'(by omega)) < key then upLess K key P i ++ [K (P[P.length - 1 - i]'(by omega))] else upLess K key P i := by
  unfold upLess
  rw [List.take_succ_eq_append_getElem (by simpa using h), List.filter_append, List.map_append, List.getElem_reverse]
  split
  · next e => simp [e]
  · next e => simp [e]
theorem upAt_0 {P : List Nat} {m : Nat} (h : P.getLast? = some m) : upAt P 0 = m := by
  rw [List.getLast?_eq_getElem?] at h
  obtain ⟨hl, h⟩ := List.getElem?_eq_some_iff.1 h
  rw [upAt, dif_pos (by omega)]
  simp only [Nat.sub_zero, h]
theorem upLess_all (K : Nat → Int) (key : Int) (P : List Nat) : upLess K key P P.length = ((P.filter fun j => decide (K j < key)).map K).reverse := by
  rw [upLess, List.take_of_length_le (by simp), List.filter_reverse, List.map_reverse]
theorem path_lessUp {K : Nat → Int} {key : Int} : ∀ (M : MT IP) (off : Nat), (∀ i, i < M.size → K (off + i) = ((nd M).getD i (0, 0)).1) → (((ptM M off).path K key).filter fun j => decide (K j < key)).map K = lessUp M key
  | .nil, _, _ => rfl
  | .node a l r, off, h => by
    have hs := nd_len l
    have hp : K (off + l.size) = a.1 := by
      rw [h l.size (by simp [MT.size]; omega), nd, List.getD_eq_getElem?_getD, List.getElem?_append_right (by omega), hs, Nat.sub_self]
      rfl
    have hl := path_lessUp (K := K) (key := key) l off fun i hi => by
      rw [h i (by simp [MT.size]; omega), nd, List.getD_eq_getElem?_getD, List.getD_eq_getElem?_getD, List.getElem?_append_left (by omega)]
    have hr := path_lessUp (K := K) (key := key) r (off + l.size + 1) fun i hi => by
      rw [show off + l.size + 1 + i = off + (l.size + 1 + i) from by omega, h (l.size + 1 + i) (by simp [MT.size]; omega), nd, List.getD_eq_getElem?_getD, List.getD_eq_getElem?_getD, List.getElem?_append_right (by omega), hs, show l.size + 1 + i - l.size = i + 1 from by omega, List.getElem?_cons_succ]
    rw [ptM, PT.path, lessUp]
    by_cases e : a.1 < key
    · rw [if_pos e, if_pos (by rw [hp]; exact e), List.filter_cons_of_pos (by rw [hp]; simpa using e), List.map_cons, hp, hr]
    · rw [if_neg e, if_neg (by rw [hp]; exact e), List.filter_cons_of_neg (by rw [hp]; simpa using e), hl]
end Go.Proofs.YtfgbbmjnjppfnaaDoor
namespace Go.Proofs.YtfgbbmjnjppfnaaDoor
open Go.ChangeShapes Go.WideShapes Go.ChangeAt Go.RowKit
set_option linter.unusedVariables false
set_option linter.unusedSimpArgs false

def cO (k : Int) : O3 := (3, k, 0)
def pOO (k : Int) : O3 := (1, k, 0)
theorem fold_fst (ops : List O3) : ∀ (l : List IP) (a b : List An), (ops.foldl runS (l, a)).1 = (ops.foldl runS (l, b)).1 := by
  induction ops with
  | nil => intro l a b; rfl
  | cons o t ih => intro l a b; exact ih _ _ _
theorem below_first {p : IP} {t : List IP} (h : Rise (p :: t)) : below (p :: t) p.1 = 0 := below_at h 0 (by simp)
theorem has_first (p : IP) (t : List IP) (h : Rise (p :: t)) : hasKey (p :: t) p.1 = true := by
  rw [hasKey_iff _ h]
  have := below_first h
  exact ⟨by rw [this]; simp, by simp only [this]; rfl⟩
theorem cut_first {p : IP} {t : List IP} (h : mapRight (p :: t) = 0) : (doA (p :: t) 3 p.1 0).1 = t := by
  have hr := rise_of h
  have hin := mapRight_in _ h p (by simp)
  rw [doA_cut _ _ h hin, cutL, if_pos (has_first p t hr), below_first hr]
  simp
theorem right_tail {p : IP} {t : List IP} (h : mapRight (p :: t) = 0) : mapRight t = 0 := by
  obtain ⟨h1, h2, h3⟩ := (mapRight_iff _).1 h
  refine (mapRight_iff _).2 ⟨by simp at h1; omega, fun i j hi hj hij => ?_, fun x hx => h3 x (by simp [hx])⟩
  have := h2 (i + 1) (j + 1) (by simp; omega) (by simp; omega) (by omega)
  simpa using this
theorem cut_all : ∀ (l : List IP) (a : List An), mapRight l = 0 → (((l.map Prod.fst).map cO).foldl runS (l, a)).1 = []
  | [], _, _ => rfl
  | p :: t, a, h => by
    rw [List.map_cons, List.map_cons, List.foldl_cons]
    have e : runS (p :: t, a) (cO p.1) = (t, a ++ [(doA (p :: t) 3 p.1 0).2]) := by
      unfold runS cO
      simp only
      rw [cut_first h]
    rw [e]
    exact cut_all t _ (right_tail h)
theorem keys_right {ks : List Int} (h : krL ks = 0) : mapRight (ks.map fun k => (k, 0)) = 0 := by
  obtain ⟨h1, h2, h3⟩ := krL_in h
  refine (mapRight_iff _).2 ⟨by simpa using h1, fun i j hi hj hij => ?_, fun x hx => ?_⟩
  · simp only [List.getElem_map]
    exact pair_lt h2 hij (by simpa using hj)
  · obtain ⟨k, hk, rfl⟩ := List.mem_map.1 hx
    exact h3 k hk
theorem put_first {k : Int} {t : List IP} (h : mapRight t = 0) (hl : t.length < 200) (hk : 0 ≤ k ∧ k ≤ 1000000) (hlt : ∀ x ∈ t, k < x.1) : (doA t 1 k 0).1 = (k, 0) :: t := by
  have hb : below t k = 0 := by
    unfold below
    rw [List.filter_eq_nil_iff.2 (fun p hp => by have := hlt p hp; simp; omega)]
    rfl
  have hh : hasKey t k = false := by
    cases e : hasKey t k with
    | false => rfl
    | true =>
      obtain ⟨hlt2, e2⟩ := (hasKey_iff t (rise_of h) k).1 e
      have := hlt _ (List.getElem_mem hlt2)
      omega
  rw [doA_put _ _ h hk, putL, hh, if_neg (by simp), if_neg (by omega), hb]
  simp
theorem krF_tail {a : Int} {t : List Int} {la : Int} (h : krF la (a :: t) = 0) : krF a t = 0 ∧ la + 1 ≤ a ∧ a ≤ 1000000 := by
  unfold krF at h
  split at h
  · next hc => exact ⟨h, hc⟩
  · omega
theorem krF_more {t : List Int} {la lb : Int} (h : krF la t = 0) (hab : lb ≤ la) : krF lb t = 0 := by
  cases t with
  | nil => rfl
  | cons a t =>
    obtain ⟨h1, h2, h3⟩ := krF_tail h
    rw [krF, if_pos ⟨by omega, h3⟩]; exact h1
theorem put_all : ∀ (ks : List Int) (a : List An), krL ks = 0 → ((ks.reverse.map pOO).foldl runS ([], a)).1 = ks.map fun k => (k, 0)
  | [], _, _ => rfl
  | k :: t, a, h => by
    obtain ⟨h1, h2, h3⟩ := krL_in h
    have ht : krL t = 0 := by
      have hF : krF (-1) (k :: t) = 0 := by
        unfold krL at h
        split at h
        · omega
        · exact h
      obtain ⟨g1, g2, g3⟩ := krF_tail hF
      rw [krL, if_neg (by simp at h1; omega)]
      exact krF_more g1 (by omega)
    have ih := put_all t a ht
    rw [List.reverse_cons, List.map_append, List.foldl_append]
    obtain ⟨S, hS⟩ : ∃ S, S = (t.reverse.map pOO).foldl runS ([], a) := ⟨_, rfl⟩
    rw [← hS] at ih ⊢
    show (doA S.1 1 k 0).1 = _
    rw [ih, put_first (keys_right ht) (by simp at h1 ⊢; omega) (h3 k (by simp)) (fun x hx => ?_)]
    · rfl
    · obtain ⟨y, hy, rfl⟩ := List.mem_map.1 hx
      exact (List.pairwise_cons.1 h2).1 y hy
/-- Whatever was ahead, its keys cut, then other keys put from the last on: just these are there. -/
theorem anew (mo : List O3) (ks : List Int) (h : krL ks = 0) : (runL (mo ++ ((runL mo).1.map Prod.fst).map cO ++ ks.reverse.map pOO)).1.map Prod.fst = ks := by
  have hr := runL_right mo mo.length (Nat.le_refl _)
  rw [List.take_length] at hr
  have e : (runL (mo ++ ((runL mo).1.map Prod.fst).map cO ++ ks.reverse.map pOO)).1 = ks.map fun k => (k, 0) := by
    unfold runL
    rw [List.foldl_append, List.foldl_append]
    obtain ⟨S, hS⟩ : ∃ S, S = runL mo := ⟨_, rfl⟩
    have hS2 : mo.foldl runS ([], []) = S := hS.symm
    rw [← hS] at hr
    rw [hS2]
    have h1 := cut_all S.1 S.2 hr
    have e2 : runL mo = S := hS.symm
    obtain ⟨T, hT⟩ : ∃ T, T = ((S.1.map Prod.fst).map cO).foldl runS S := ⟨_, rfl⟩
    have hT1 : T.1 = [] := by rw [hT]; exact h1
    show (List.foldl runS (List.foldl runS S ((S.1.map Prod.fst).map cO)) (ks.reverse.map pOO)).1 = _
    rw [← hT]
    have e3 : T = ([], T.2) := by rw [← hT1]
    rw [e3]
    exact put_all ks T.2 h
  rw [e, List.map_map]
  simp [Function.comp_def]
end Go.Proofs.YtfgbbmjnjppfnaaDoor
namespace Go.Proofs.YtfgbbmjnjppfnaaDoor
open Go.ChangeShapes Go.WideShapes Go.ChangeAt Go.RowKit
set_option linter.unusedVariables false
set_option linter.unusedSimpArgs false

theorem put_last {k : Int} {t : List IP} (h : mapRight t = 0) (hl : t.length < 200) (hk : 0 ≤ k ∧ k ≤ 1000000) (hlt : ∀ x ∈ t, x.1 < k) : (doA t 1 k 0).1 = t ++ [(k, 0)] := by
  have hb : below t k = t.length := by
    unfold below
    rw [List.filter_eq_self.2 (fun p hp => by have := hlt p hp; simp; omega)]
  have hh : hasKey t k = false := by
    cases e : hasKey t k with
    | false => rfl
    | true =>
      obtain ⟨hlt2, e2⟩ := (hasKey_iff t (rise_of h) k).1 e
      have := hlt _ (List.getElem_mem hlt2)
      omega
  rw [doA_put _ _ h hk, putL, hh, if_neg (by simp), if_neg (by omega), hb]
  simp
theorem puts_in {ks : List Int} (h : krL ks = 0) : ∀ n, n ≤ ks.length → (((ks.take n).map pOO).foldl runS (([], []) : List IP × List An)).1 = (ks.take n).map fun k => (k, 0)
  | 0, _ => by simp
  | n + 1, hn => by
    obtain ⟨h1, h2, h3⟩ := krL_in h
    have ih := puts_in h n (by omega)
    rw [List.take_succ_eq_append_getElem (by omega), List.map_append, List.foldl_append]
    obtain ⟨S, hS⟩ : ∃ S, S = ((ks.take n).map pOO).foldl runS (([], []) : List IP × List An) := ⟨_, rfl⟩
    rw [← hS] at ih ⊢
    have hm : mapRight ((ks.take n).map fun k => ((k, 0) : IP)) = 0 := by
      have := keys_right h
      obtain ⟨g1, g2, g3⟩ := (mapRight_iff _).1 this
      refine (mapRight_iff _).2 ⟨by simp; omega, fun i j hi hj hij => ?_, fun x hx => ?_⟩
      · simp only [List.getElem_map, List.getElem_take]
        exact pair_lt h2 hij (by simp at hj; omega)
      · obtain ⟨k, hk, rfl⟩ := List.mem_map.1 hx
        exact h3 k (List.mem_of_mem_take hk)
    show (doA S.1 1 ks[n] 0).1 = _
    rw [ih, put_last hm (by simp; omega) (h3 _ (List.getElem_mem _)) (fun x hx => ?_), List.map_append]
    · rfl
    · obtain ⟨y, hy, rfl⟩ := List.mem_map.1 hx
      obtain ⟨i, hi, rfl⟩ := List.mem_iff_getElem.1 hy
      rw [List.getElem_take]
      exact pair_lt h2 (by simp at hi; omega) (by omega)
theorem puts_keys {ks : List Int} (h : krL ks = 0) : (runL (ks.map pOO)).1.map Prod.fst = ks := by
  have := puts_in h ks.length (Nat.le_refl _)
  rw [List.take_length] at this
  rw [runL, this, List.map_map]
  simp [Function.comp_def]
end Go.Proofs.YtfgbbmjnjppfnaaDoor
namespace Go.Proofs.YtfgbbmjnjppfnaaDoor
open Go.ChangeShapes Go.WideShapes Go.ChangeAt Go.RowKit
set_option linter.unusedVariables false
set_option linter.unusedSimpArgs false

/-- Is the spot in place j a neighbour of the key? -/
def candZ (l : List IP) (key : Int) (j : Nat) : Bool :=
  (decide (gk l j < key) && (decide (j + 1 = l.length) || decide (key < gk l (j + 1)))) || (decide (key < gk l j) && (decide (j = 0) || decide (gk l (j - 1) < key)))
theorem candZ_iff {l : List IP} {key : Int} {j : Nat} : candZ l key j = true ↔ nbr (gk l) key 0 l.length j := by
  unfold candZ nbr
  simp only [Bool.or_eq_true, Bool.and_eq_true, decide_eq_true_eq]
def wayZ (M : MT IP) (l : List IP) (key : Int) : List Nat := (ptM M 0).path (gk l) key
theorem way_law {M : MT IP} {ks : List Int} {l : List IP} {key : Int} (hM : ZI M ks) (hl : l = M.spotsBy Prod.fst 0) (hb : ∀ x ∈ ks, 0 ≤ x ∧ x ≤ 1000000) (hk : ¬ key ∈ ks) :
    l.length = ks.length ∧ (∀ j ∈ wayZ M l key, j < l.length) ∧ atF (candZ l key) (gv l) l.length = upAt (wayZ M l key) 0 ∧ Chain (fun j => gI ((ptM M 0).pars (-1)) j) (-1) (wayZ M l key) ∧
      upLess (gk l) key (wayZ M l key) (wayZ M l key).length = ((stAll ks key 12).1.reverse).map Prod.snd := by
  have hlen : l.length = M.size := by rw [hl, MT.spotsBy_len]
  have hlk : l.length = ks.length := by rw [hlen, hM.size]
  have hAt := ptM_at M 0
  have hps := ptM_size M 0
  have hkey : ∀ j, j < M.size → gk l j = ((nd M).getD j (0, 0)).1 := fun j hj => by
    have h1 := spotsBy_keys Prod.fst M 0
    have h2 : ∀ t : MT IP, keysM Prod.fst t = (nd t).map Prod.fst := by
      intro t
      induction t with
      | nil => rfl
      | node a l r ihl ihr => simp [keysM, nd, ihl, ihr]
    rw [h2, ← hl] at h1
    have h3 : (l.map Prod.fst)[j]? = ((nd M).map Prod.fst)[j]? := by rw [h1]
    rw [List.getElem?_map, List.getElem?_map] at h3
    rw [gk, List.getD_eq_getElem?_getD, List.getD_eq_getElem?_getD]
    have e1 : l[j]? = some l[j] := List.getElem?_eq_getElem (by omega)
    have e2 : (nd M)[j]? = some ((nd M)[j]'(by rw [nd_len]; exact hj)) := List.getElem?_eq_getElem (by rw [nd_len]; exact hj)
    rw [e1, e2] at h3 ⊢
    simpa using h3
  have hkk : ∀ j (h : j < ks.length), gk l j = ks[j] := fun j h => by
    rw [hkey j (by omega), hM.nd_, List.getD_eq_getElem?_getD]
    simp [h, zk]
  have hdep : ∀ j, j < M.size → gv l j = ((ptM M 0).deps 0).getD j 0 := fun j hj => by
    rw [ptM_deps Prod.fst, ← hl, gv, List.getD_eq_getElem?_getD, List.getD_eq_getElem?_getD, List.getElem?_map]
    have e1 : l[j]? = some l[j] := List.getElem?_eq_getElem (by omega)
    rw [e1]; rfl
  have hin : ∀ j ∈ wayZ M l key, j < l.length := fun j hj => by
    have := PT.path_in (gk l) key _ 0 hAt j hj
    omega
  have hne : ∀ j, 0 ≤ j → j < l.length → gk l j ≠ key := fun j _ hj e => by
    rw [hkk j (by omega)] at e
    exact hk (e ▸ List.getElem_mem _)
  have hK : ∀ i j, 0 ≤ i → i < j → j < l.length → gk l i < gk l j := fun i j _ hij hj => by
    rw [hkk i (by omega), hkk j (by omega)]
    exact pair_lt hM.up hij (by omega)
  refine ⟨hlk, hin, ?_, ?_, ?_⟩
  · cases hq : (wayZ M l key).getLast? with
    | none =>
      have hnil : wayZ M l key = [] := List.getLast?_eq_none_iff.1 hq
      rw [hnil, atF_none fun c hc => ?_]
      · rfl
      · cases hcc : candZ l key c with
        | false => rfl
        | true =>
          have := PT.nbr_path (ptM M 0) 0 l.length hAt (by omega) hK c (by omega) hc (candZ_iff.1 hcc)
          have h2 : c ∈ wayZ M l key := this
          rw [hnil] at h2
          cases h2
    | some m =>
      have hm := hin m (List.mem_of_getLast? hq)
      rw [upAt_0 hq]
      refine atF_last (P := wayZ M l key) (d := 0) (fun c hc hcc => PT.nbr_path (ptM M 0) 0 l.length hAt (by omega) hK c (by omega) hc (candZ_iff.1 hcc)) (fun i j hj => ?_) hq hm (candZ_iff.2 (PT.path_last (ptM M 0) 0 l.length hAt (by omega) hne m hq))
      have := PT.path_deps (gk l) key (ptM M 0) 0 0 hAt i j hj
      rw [Nat.sub_zero] at this
      rw [hdep j (by have := hin j (List.mem_of_getElem? hj); omega), this]
  · exact PT.path_chain (gk l) key (ptM M 0) 0 (-1) hAt
  · rw [upLess_all]
    have h1 := path_lessUp (K := gk l) (key := key) M 0 fun i hi => by rw [Nat.zero_add]; exact hkey i hi
    unfold wayZ
    rw [h1, lessUp_stops hM.nd_ hM.hp hM.up hb hk, List.map_reverse]
end Go.Proofs.YtfgbbmjnjppfnaaDoor
namespace Go.Proofs.YtfgbbmjnjppfnaaDoor
open Go.ChangeShapes Go.WideShapes Go.ChangeAt Go.RowKit
set_option linter.unusedVariables false
set_option linter.unusedSimpArgs false

theorem PT.path_len (K : Nat → Int) (key : Int) : ∀ t : PT, (t.path K key).length ≤ t.size
  | .nil => by simp [PT.path]
  | .node p l r => by
    have h1 := PT.path_len K key l
    have h2 := PT.path_len K key r
    simp only [PT.path, List.length_cons, PT.size]
    split <;> omega
theorem zskip_facts {ks : List Int} {key : Int} (h : krL ks = 0) (hk : ¬ key ∈ ks) : ∃ (l : List IP) (A : List An) (U : List Int) (P : List Nat), zipRun (ks.map pO) = (l, A, 0) ∧ parOf l = (U, 0) ∧ U.length = l.length ∧ l.length = ks.length ∧ (∀ j ∈ P, j < l.length) ∧
    atF (candZ l key) (gv l) l.length = upAt P 0 ∧ Chain (gI U) (-1) P ∧ upLess (gk l) key P P.length = ((stAll ks key 12).1.reverse).map Prod.snd ∧ P.length ≤ l.length := by
  obtain ⟨h1, h2, h3⟩ := krL_in h
  have hz := zip_inv_all (ks.map pO)
  rw [show ks.map pO = ks.map pOO from rfl, puts_keys h] at hz
  obtain ⟨M, hM⟩ : ∃ M, M = zrT (opsA (ks.map pOO)) := ⟨_, rfl⟩
  rw [← hM] at hz
  have hsz : M.size = ks.length := hz.size
  obtain ⟨l, hl⟩ : ∃ l, l = M.spotsBy Prod.fst 0 := ⟨_, rfl⟩
  obtain ⟨g1, g2, g3, g4, g5⟩ := way_law hz hl h3 hk
  have hkk : keysM Prod.fst M = ks := by
    have : ∀ t : MT IP, keysM Prod.fst t = (nd t).map Prod.fst := by
      intro t
      induction t with
      | nil => rfl
      | node a l r ihl ihr => simp [keysM, nd, ihl, ihr]
    rw [this, hz.nd_, List.map_map]; simp [Function.comp_def, zk]
  have hp := spotsBy_right Prod.fst M (by omega) (by rw [hkk]; exact hz.up) (by rw [hkk]; exact h3)
  have hU : ((ptM M 0).pars (-1)).length = l.length := by rw [PT.pars_len, ptM_size, hl, MT.spotsBy_len]
  refine ⟨l, (runL (ks.map pOO)).2, _, wayZ M l key, ?_, by rw [hl]; exact hp, hU, g1, g2, g3, g4, g5, ?_⟩
  · rw [zipRun, if_neg (by simp; omega), hl, hM]; rfl
  · have := PT.path_len (gk l) key (ptM M 0)
    rw [ptM_size] at this
    unfold wayZ; omega
end Go.Proofs.YtfgbbmjnjppfnaaDoor
namespace Go.Proofs.YtfgbbmjnjppfnaaDoor
open Go.ChangeShapes Go.WideShapes Go.ChangeAt Go.RowKit
set_option linter.unusedVariables false
set_option linter.unusedSimpArgs false

/-- A tower: its block, the block of its links, how high it is, its key and value. The first one has no key. -/
structure Tw where
  b : Nat
  g : Nat
  h : Nat
  p : IP
def tw (ts : List Tw) (m : Nat) : Tw := ts.getD m ⟨0, 0, 0, (0, 0)⟩
def njF (H : Nat → Nat) (r : Nat) : Nat → Nat → Nat
  | 0, m => m
  | k + 1, m => if r < H m then m else njF H r k (m + 1)
theorem njF_facts (H : Nat → Nat) (r : Nat) : ∀ k m, m ≤ njF H r k m ∧ njF H r k m ≤ m + k ∧ (∀ x, m ≤ x → x < njF H r k m → H x ≤ r) ∧ (njF H r k m < m + k → r < H (njF H r k m))
  | 0, m => ⟨Nat.le_refl _, Nat.le_refl _, fun x h1 h2 => by unfold njF at h2; omega, fun h => by unfold njF at h; omega⟩
  | k + 1, m => by
    unfold njF
    split
    · next h => exact ⟨Nat.le_refl _, by omega, fun x h1 h2 => by omega, fun _ => h⟩
    · next h =>
      obtain ⟨h1, h2, h3, h4⟩ := njF_facts H r k (m + 1)
      refine ⟨by omega, by omega, fun x hx hx2 => ?_, fun hx => h4 (by omega)⟩
      by_cases e : x = m
      · subst e; omega
      · exact h3 x (by omega) hx2
/-- The next tower behind a place that has a row; the list's length if there is none. -/
def nj (ts : List Tw) (i r : Nat) : Nat := njF (fun m => (tw ts m).h) r (ts.length - (i + 1)) (i + 1)
theorem nj_facts (ts : List Tw) (i r : Nat) (hi : i < ts.length) : i < nj ts i r ∧ nj ts i r ≤ ts.length ∧ (∀ x, i < x → x < nj ts i r → (tw ts x).h ≤ r) ∧ (nj ts i r < ts.length → r < (tw ts (nj ts i r)).h) := by
  obtain ⟨h1, h2, h3, h4⟩ := njF_facts (fun m => (tw ts m).h) r (ts.length - (i + 1)) (i + 1)
  exact ⟨h1, by unfold nj; omega, fun x hx hx2 => h3 x hx hx2, fun h => h4 (by unfold nj at h; omega)⟩
theorem nj_eq {ts : List Tw} {i r n : Nat} (hi : i < n) (hn : n ≤ ts.length) (h1 : ∀ x, i < x → x < n → (tw ts x).h ≤ r) (h2 : n < ts.length → r < (tw ts n).h) : nj ts i r = n := by
  obtain ⟨f1, f2, f3, f4⟩ := nj_facts ts i r (by omega)
  rcases Nat.lt_trichotomy (nj ts i r) n with h | h | h
  · have := h1 _ f1 h
    have := f4 (by omega)
    omega
  · exact h
  · have := f3 n hi h
    have := h2 (by omega)
    omega
def lnk (ts : List Tw) (i r : Nat) : Option Addr × Nat := (if nj ts i r < ts.length then some ⟨(tw ts (nj ts i r)).b, 0, none⟩ else none, min (nj ts i r) (ts.length - 1) - i)
/-- The last tower that has a row and is less than a key. -/
def IsP (ts : List Tw) (key : Int) (r i : Nat) : Prop := i < ts.length ∧ r < (tw ts i).h ∧ (i = 0 ∨ (tw ts i).p.1 < key) ∧ ∀ m, i < m → m < ts.length → r < (tw ts m).h → key ≤ (tw ts m).p.1
def pFn (ts : List Tw) (key : Int) (r : Nat) : Nat → Nat
  | 0 => 0
  | n + 1 => if r < (tw ts n).h ∧ (tw ts n).p.1 < key then n else pFn ts key r n
def pF (ts : List Tw) (key : Int) (r : Nat) : Nat := pFn ts key r ts.length
theorem IsP.eq {ts : List Tw} {key : Int} {r i : Nat} (h : IsP ts key r i) (hlo : (tw ts 0).p.1 < key ∨ True) : pF ts key r = i := by
  obtain ⟨h1, h2, h3, h4⟩ := h
  have : ∀ n, n ≤ ts.length → i < n → pFn ts key r n = i := by
    intro n
    induction n with
    | zero => intro _ h; omega
    | succ n ih =>
      intro hn hi
      unfold pFn
      by_cases e : i = n
      · subst e
        rcases h3 with rfl | h3
        · split
          · rfl
          · rfl
        · rw [if_pos ⟨h2, h3⟩]
      · rw [if_neg (fun hh => by have := h4 n (by omega) (by omega) hh.1; omega)]
        exact ih (by omega) (by omega)
  exact this ts.length (Nat.le_refl _) h1

/-! A tower put in. -/
def insT (ts : List Tw) (c : Nat) (t : Tw) : List Tw := ts.take c ++ t :: ts.drop c
theorem insT_len {ts : List Tw} {c : Nat} {t : Tw} (hc : c ≤ ts.length) : (insT ts c t).length = ts.length + 1 := by simp [insT]; omega
theorem tw_ins {ts : List Tw} {c : Nat} {t : Tw} (hc : c ≤ ts.length) (m : Nat) : tw (insT ts c t) m = if m < c then tw ts m else if m = c then t else tw ts (m - 1) := by
  unfold tw insT
  simp only [List.getD_eq_getElem?_getD]
  by_cases h1 : m < c
  · rw [if_pos h1, List.getElem?_append_left (by simp; omega), List.getElem?_take_of_lt h1]
  · rw [if_neg h1, List.getElem?_append_right (by simp; omega), List.length_take, Nat.min_eq_left hc]
    by_cases h2 : m = c
    · subst h2; simp
    · rw [if_neg h2, show m - c = (m - 1 - c) + 1 from by omega, List.getElem?_cons_succ, List.getElem?_drop]
      congr 2; omega
section
variable {ts : List Tw} {c : Nat} {t : Tw} {key : Int}
theorem nj_ins_gt (hc : c ≤ ts.length) (h0 : 0 < c) {j r : Nat} (hj : c < j) (hj2 : j ≤ ts.length) : nj (insT ts c t) j r = nj ts (j - 1) r + 1 := by
  obtain ⟨f1, f2, f3, f4⟩ := nj_facts ts (j - 1) r (by omega)
  refine nj_eq (by omega) (by rw [insT_len hc]; omega) (fun x h1 h2 => ?_) (fun h => ?_)
  · rw [tw_ins hc, if_neg (by omega), if_neg (by omega)]
    exact f3 (x - 1) (by omega) (by omega)
  · rw [insT_len hc] at h
    rw [tw_ins hc, if_neg (by omega), if_neg (by omega), Nat.add_sub_cancel]
    exact f4 (by omega)
theorem nj_ins_at (hc : c ≤ ts.length) (h0 : 0 < c) {p r : Nat} (hp : p < c) (hb : ∀ x, p < x → x < c → (tw ts x).h ≤ r) : nj (insT ts c t) c r = nj ts p r + 1 := by
  obtain ⟨f1, f2, f3, f4⟩ := nj_facts ts p r (by omega)
  have hge : c ≤ nj ts p r := by
    by_cases h : nj ts p r < c
    · have := hb _ f1 h
      have := f4 (by omega)
      omega
    · omega
  refine nj_eq (by omega) (by rw [insT_len hc]; omega) (fun x h1 h2 => ?_) (fun h => ?_)
  · rw [tw_ins hc, if_neg (by omega), if_neg (by omega)]
    exact f3 (x - 1) (by omega) (by omega)
  · rw [insT_len hc] at h
    rw [tw_ins hc, if_neg (by omega), if_neg (by omega), Nat.add_sub_cancel]
    exact f4 (by omega)
theorem nj_ins_lt (hc : c ≤ ts.length) {j r q : Nat} (hj : j < q) (hq : q < c) (hqr : r < (tw ts q).h) : nj (insT ts c t) j r = nj ts j r ∧ nj ts j r ≤ q := by
  obtain ⟨f1, f2, f3, f4⟩ := nj_facts ts j r (by omega)
  have hle : nj ts j r ≤ q := by
    by_cases h : q < nj ts j r
    · have := f3 q hj h; omega
    · omega
  refine ⟨nj_eq f1 (by rw [insT_len hc]; omega) (fun x h1 h2 => ?_) (fun h => ?_), hle⟩
  · rw [tw_ins hc, if_pos (by omega)]; exact f3 x h1 h2
  · rw [tw_ins hc, if_pos (by omega)]; exact f4 (by omega)
theorem nj_ins_high (hc : c ≤ ts.length) {p r : Nat} (hp : p < c) (hb : ∀ x, p < x → x < c → (tw ts x).h ≤ r) (hr : r < t.h) : nj (insT ts c t) p r = c := by
  refine nj_eq hp (by rw [insT_len hc]; omega) (fun x h1 h2 => ?_) (fun h => ?_)
  · rw [tw_ins hc, if_pos h2]; exact hb x h1 h2
  · rw [tw_ins hc, if_neg (by omega), if_pos rfl]; exact hr
theorem nj_ins_low (hc : c ≤ ts.length) {p r : Nat} (hp : p < c) (hb : ∀ x, p < x → x < c → (tw ts x).h ≤ r) (hr : t.h ≤ r) : nj (insT ts c t) p r = nj ts p r + 1 ∧ c ≤ nj ts p r := by
  obtain ⟨f1, f2, f3, f4⟩ := nj_facts ts p r (by omega)
  have hge : c ≤ nj ts p r := by
    by_cases h : nj ts p r < c
    · have := hb _ f1 h
      have := f4 (by omega)
      omega
    · omega
  refine ⟨nj_eq (by omega) (by rw [insT_len hc]; omega) (fun x h1 h2 => ?_) (fun h => ?_), hge⟩
  · rw [tw_ins hc]
    by_cases e1 : x < c
    · rw [if_pos e1]; exact hb x h1 e1
    · rw [if_neg e1]
      by_cases e2 : x = c
      · rw [if_pos e2]; exact hr
      · rw [if_neg e2]; exact f3 (x - 1) (by omega) (by omega)
  · rw [insT_len hc] at h
    rw [tw_ins hc, if_neg (by omega), if_neg (by omega), Nat.add_sub_cancel]
    exact f4 (by omega)
theorem lnk_ins_gt (hc : c ≤ ts.length) (h0 : 0 < c) {j r : Nat} (hj : c < j) (hj2 : j ≤ ts.length) : lnk (insT ts c t) j r = lnk ts (j - 1) r := by
  obtain ⟨f1, f2, f3, f4⟩ := nj_facts ts (j - 1) r (by omega)
  have et : tw (insT ts c t) (nj ts (j - 1) r + 1) = tw ts (nj ts (j - 1) r) := by rw [tw_ins hc, if_neg (by omega), if_neg (by omega), Nat.add_sub_cancel]
  unfold lnk
  rw [nj_ins_gt hc h0 hj hj2, insT_len hc, et]
  refine Prod.ext ?_ ?_
  · simp only [Nat.add_lt_add_iff_right]
  · simp only; omega
theorem lnk_ins_lt (hc : c ≤ ts.length) {j r q : Nat} (hj : j < q) (hq : q < c) (hqr : r < (tw ts q).h) : lnk (insT ts c t) j r = lnk ts j r := by
  obtain ⟨e, hle⟩ := nj_ins_lt (t := t) hc hj hq hqr
  have et : tw (insT ts c t) (nj ts j r) = tw ts (nj ts j r) := by rw [tw_ins hc, if_pos (show nj ts j r < c by omega)]
  unfold lnk
  rw [e, insT_len hc, et]
  refine Prod.ext ?_ ?_
  · simp only; rw [if_pos (by omega), if_pos (by omega)]
  · simp only; omega
theorem lnk_ins_at (hc : c ≤ ts.length) (h0 : 0 < c) {p r : Nat} (hp : p < c) (hb : ∀ x, p < x → x < c → (tw ts x).h ≤ r) : lnk (insT ts c t) c r = ((lnk ts p r).1, p + (lnk ts p r).2 + 1 - c) := by
  obtain ⟨f1, f2, f3, f4⟩ := nj_facts ts p r (by omega)
  have hge : c ≤ nj ts p r := by
    by_cases h : nj ts p r < c
    · have := hb _ f1 h
      have := f4 (by omega)
      omega
    · omega
  have et : tw (insT ts c t) (nj ts p r + 1) = tw ts (nj ts p r) := by rw [tw_ins hc, if_neg (by omega), if_neg (by omega), Nat.add_sub_cancel]
  unfold lnk
  rw [nj_ins_at hc h0 hp hb, insT_len hc, et]
  refine Prod.ext ?_ ?_
  · simp only [Nat.add_lt_add_iff_right]
  · simp only; omega
theorem lnk_ins_high (hc : c ≤ ts.length) {p r : Nat} (hp : p < c) (hb : ∀ x, p < x → x < c → (tw ts x).h ≤ r) (hr : r < t.h) : lnk (insT ts c t) p r = (some ⟨t.b, 0, none⟩, c - p) := by
  have et : tw (insT ts c t) c = t := by rw [tw_ins hc, if_neg (by omega), if_pos rfl]
  unfold lnk
  rw [nj_ins_high hc hp hb hr, insT_len hc, et]
  refine Prod.ext ?_ ?_
  · simp only; rw [if_pos (by omega)]
  · simp only; omega
theorem lnk_ins_low (hc : c ≤ ts.length) {p r : Nat} (hp : p < c) (hb : ∀ x, p < x → x < c → (tw ts x).h ≤ r) (hr : t.h ≤ r) : lnk (insT ts c t) p r = ((lnk ts p r).1, (lnk ts p r).2 + 1) := by
  obtain ⟨e, hge⟩ := nj_ins_low (t := t) hc hp hb hr
  obtain ⟨f1, f2, f3, f4⟩ := nj_facts ts p r (by omega)
  have et : tw (insT ts c t) (nj ts p r + 1) = tw ts (nj ts p r) := by rw [tw_ins hc, if_neg (by omega), if_neg (by omega), Nat.add_sub_cancel]
  unfold lnk
  rw [e, insT_len hc, et]
  refine Prod.ext ?_ ?_
  · simp only [Nat.add_lt_add_iff_right]
  · simp only; omega
theorem lnk_wide (ts : List Tw) {i : Nat} (r : Nat) (hi : i < ts.length) : (lnk ts i r).2 ≤ ts.length ∧ i + (lnk ts i r).2 ≤ ts.length - 1 ∧ (nj ts i r < ts.length → i + (lnk ts i r).2 = nj ts i r) := by
  obtain ⟨f1, f2, f3, f4⟩ := nj_facts ts i r hi
  unfold lnk
  refine ⟨?_, ?_, fun h => ?_⟩ <;> simp only <;> omega
end
end Go.Proofs.YtfgbbmjnjppfnaaDoor
namespace Go.Proofs.YtfgbbmjnjppfnaaDoor
open Go.ChangeShapes Go.WideShapes Go.ChangeAt Go.RowKit
set_option linter.unusedVariables false
set_option linter.unusedSimpArgs false

def lkC (f : Nat → Option Addr × Nat) (h : Nat) : List Value := (List.range h).flatMap fun r => [.pointer (f r).1, .int .i64 ((f r).2 : Nat)]
theorem lkC_succ (f : Nat → Option Addr × Nat) (h : Nat) : lkC f (h + 1) = lkC f h ++ [.pointer (f h).1, .int .i64 ((f h).2 : Nat)] := by
  unfold lkC; rw [List.range_succ, List.flatMap_append]; simp
theorem lkC_len (f : Nat → Option Addr × Nat) : ∀ h, (lkC f h).length = h * 2
  | 0 => rfl
  | h + 1 => by rw [lkC_succ, List.length_append, lkC_len f h]; simp; omega
theorem lkC_at (f : Nat → Option Addr × Nat) : ∀ (h r : Nat), r < h → (lkC f h)[r * 2]? = some (.pointer (f r).1) ∧ (lkC f h)[r * 2 + 1]? = some (.int .i64 ((f r).2 : Nat))
  | 0, r, hr => by omega
  | h + 1, r, hr => by
    rw [lkC_succ]
    by_cases e : r = h
    · subst e
      rw [List.getElem?_append_right (by rw [lkC_len]; omega), List.getElem?_append_right (by rw [lkC_len]; omega), lkC_len]
      simp
    · obtain ⟨h1, h2⟩ := lkC_at f h r (by omega)
      rw [List.getElem?_append_left (by rw [lkC_len]; omega), List.getElem?_append_left (by rw [lkC_len]; omega)]
      exact ⟨h1, h2⟩
theorem lkC_congr {f f' : Nat → Option Addr × Nat} : ∀ {h : Nat}, (∀ r, r < h → f r = f' r) → lkC f h = lkC f' h
  | 0, _ => rfl
  | h + 1, e => by rw [lkC_succ, lkC_succ, lkC_congr (fun r hr => e r (by omega)), e h (by omega)]
def upd1 (f : Nat → Option Addr × Nat) (r : Nat) (x : Option Addr × Nat) : Nat → Option Addr × Nat := fun q => if q = r then x else f q
theorem lkC_set (f : Nat → Option Addr × Nat) (p : Option Addr) (n : Nat) : ∀ (h r : Nat), r < h → ((lkC f h).set (r * 2) (.pointer p)).set (r * 2 + 1) (.int .i64 (n : Nat)) = lkC (upd1 f r (p, n)) h
  | 0, r, hr => by omega
  | h + 1, r, hr => by
    rw [lkC_succ, lkC_succ]
    by_cases e : r = h
    · subst e
      have e1 : lkC (upd1 f r (p, n)) r = lkC f r := lkC_congr fun q hq => by rw [upd1, if_neg (by omega)]
      rw [e1, List.set_append_right _ _ (by rw [lkC_len]; omega), List.set_append_right _ _ (by rw [lkC_len]; omega), lkC_len]
      simp [upd1]
    · rw [List.set_append_left _ _ (by rw [lkC_len]; omega), List.set_append_left _ _ (by rw [List.length_set, lkC_len]; omega), lkC_set f p n h r (by omega)]
      rw [show upd1 f r (p, n) h = f h by rw [upd1, if_neg (by omega)]]
theorem lkC_setW (f : Nat → Option Addr × Nat) (n : Nat) : ∀ (h r : Nat), r < h → (lkC f h).set (r * 2 + 1) (.int .i64 (n : Nat)) = lkC (upd1 f r ((f r).1, n)) h
  | 0, r, hr => by omega
  | h + 1, r, hr => by
    rw [lkC_succ, lkC_succ]
    by_cases e : r = h
    · subst e
      have e1 : lkC (upd1 f r ((f r).1, n)) r = lkC f r := lkC_congr fun q hq => by rw [upd1, if_neg (by omega)]
      rw [e1, List.set_append_right _ _ (by rw [lkC_len]; omega), lkC_len]
      simp [upd1]
    · rw [List.set_append_left _ _ (by rw [lkC_len]; omega), lkC_setW f n h r (by omega)]
      rw [show upd1 f r ((f r).1, n) h = f h by rw [upd1, if_neg (by omega)]]
def twC (t : Tw) : List Value := [.int .i64 t.p.1, .int .i64 t.p.2, .slice (some ⟨t.g, 0, none⟩) t.h t.h]
def upd (F : Nat → Nat → Option Addr × Nat) (i r : Nat) (x : Option Addr × Nat) : Nat → Nat → Option Addr × Nat := fun j => if j = i then upd1 (F i) r x else F j

abbrev tT : TypeId := 109
abbrev tL : TypeId := 137
abbrev tS : TypeId := 135
theorem tT_ne_tL : tT ≠ tL := by decide
theorem tT_ne_tS : tT ≠ tS := by decide
theorem tL_ne_tS : tL ≠ tS := by decide
structure SKF (w : World) (F : Nat → Nat → Option Addr × Nat) (ts : List Tw) (B : Nat) : Prop where
  tow : ∀ i, i < ts.length → BC w (tw ts i).b tT (twC (tw ts i))
  lkb : ∀ i, i < ts.length → BC w (tw ts i).g tL (lkC (F i) (tw ts i).h)
  gdj : ∀ i j, i < ts.length → j < ts.length → (tw ts i).g = (tw ts j).g → i = j
  bdj : ∀ i j, i < ts.length → j < ts.length → (tw ts i).b = (tw ts j).b → i = j
  own : ∀ i, i < ts.length → B ≤ (tw ts i).b ∧ B ≤ (tw ts i).g
section
variable {w w' : World} {F F' : Nat → Nat → Option Addr × Nat} {ts : List Tw} {B : Nat}
theorem SKF.keep (h : SKF w F ts B) (hk : ∀ i t cs, (t = tT ∨ t = tL) → B ≤ i → BC w i t cs → BC w' i t cs) : SKF w' F ts B :=
  ⟨fun i hi => hk _ _ _ (.inl rfl) (h.own i hi).1 (h.tow i hi), fun i hi => hk _ _ _ (.inr rfl) (h.own i hi).2 (h.lkb i hi), h.gdj, h.bdj, h.own⟩
theorem SKF.kp (h : SKF w F ts B) (hk : Kp w w') : SKF w' F ts B := h.keep fun _ _ _ _ _ hb => hb.kp hk
theorem SKF.congr (h : SKF w F ts B) (e : ∀ i r, i < ts.length → r < (tw ts i).h → F i r = F' i r) : SKF w F' ts B :=
  ⟨h.tow, fun i hi => by rw [← lkC_congr (fun r hr => e i r hi hr)]; exact h.lkb i hi, h.gdj, h.bdj, h.own⟩
theorem SKF.far (h : SKF w F ts B) {p : Addr} {u : Value} (hp : ∀ t cs, BC w p.block t cs → t ≠ tT ∧ t ≠ tL) : SKF (w.setCell p u) F ts B :=
  h.keep fun i t cs ht _ hb => hb.far (fun e => by subst e; have := hp t cs hb; rcases ht with rfl | rfl; exact this.1 rfl; exact this.2 rfl)
theorem SKF.set2 (h : SKF w F ts B) {i r : Nat} (hi : i < ts.length) (hr : r < (tw ts i).h) (p : Option Addr) (n : Nat) :
    SKF ((w.setCell ⟨(tw ts i).g, r * 2, none⟩ (.pointer p)).setCell ⟨(tw ts i).g, r * 2 + 1, none⟩ (.int .i64 (n : Nat))) (upd F i r (p, n)) ts B := by
  refine ⟨fun j hj => ?_, fun j hj => ?_, h.gdj, h.bdj, h.own⟩
  · exact ((h.tow j hj).far ((h.tow j hj).ne (h.lkb i hi) tT_ne_tL)).far ((h.tow j hj).ne (h.lkb i hi) tT_ne_tL)
  · by_cases e : j = i
    · subst e
      have := ((h.lkb j hj).set (j := r * 2) (u := .pointer p)).set (j := r * 2 + 1) (u := .int .i64 (n : Nat))
      rw [lkC_set _ _ _ _ _ hr] at this
      rw [upd, if_pos rfl]; exact this
    · have hne : (tw ts j).g ≠ (tw ts i).g := fun he => e (h.gdj j i hj hi he)
      rw [upd, if_neg e]
      exact ((h.lkb j hj).far hne).far hne
theorem SKF.setW (h : SKF w F ts B) {i r : Nat} (hi : i < ts.length) (hr : r < (tw ts i).h) (n : Nat) :
    SKF (w.setCell ⟨(tw ts i).g, r * 2 + 1, none⟩ (.int .i64 (n : Nat))) (upd F i r ((F i r).1, n)) ts B := by
  refine ⟨fun j hj => ?_, fun j hj => ?_, h.gdj, h.bdj, h.own⟩
  · exact (h.tow j hj).far ((h.tow j hj).ne (h.lkb i hi) tT_ne_tL)
  · by_cases e : j = i
    · subst e
      have := (h.lkb j hj).set (j := r * 2 + 1) (u := .int .i64 (n : Nat))
      rw [lkC_setW _ _ _ _ hr] at this
      rw [upd, if_pos rfl]; exact this
    · have hne : (tw ts j).g ≠ (tw ts i).g := fun he => e (h.gdj j i hj hi he)
      rw [upd, if_neg e]
      exact (h.lkb j hj).far hne
theorem SKF.link (h : SKF w F ts B) {i r : Nat} (hi : i < ts.length) (hr : r < (tw ts i).h) : w.cell? ⟨(tw ts i).g, r * 2, none⟩ = some (.pointer (F i r).1) ∧ w.cell? ⟨(tw ts i).g, r * 2 + 1, none⟩ = some (.int .i64 ((F i r).2 : Nat)) := by
  obtain ⟨h1, h2⟩ := lkC_at (F i) _ r hr
  exact ⟨((h.lkb i hi).cell _).trans h1, ((h.lkb i hi).cell _).trans h2⟩
theorem SKF.tower (h : SKF w F ts B) {i : Nat} (hi : i < ts.length) : w.cell? ⟨(tw ts i).b, 0, none⟩ = some (.int .i64 (tw ts i).p.1) ∧ w.cell? ⟨(tw ts i).b, 1, none⟩ = some (.int .i64 (tw ts i).p.2) ∧ w.cell? ⟨(tw ts i).b, 2, none⟩ = some (.slice (some ⟨(tw ts i).g, 0, none⟩) (tw ts i).h (tw ts i).h) :=
  ⟨(h.tow i hi).cell 0, (h.tow i hi).cell 1, (h.tow i hi).cell 2⟩
end
/-- A stack: towers with their links, the first without a key, the others in order, each as high as its key says. -/
structure SK (w : World) (s : Nat) (ts : List Tw) (B : Nat) : Prop where
  f : SKF w (lnk ts) ts B
  stk : BC w s tS [.pointer (some ⟨(tw ts 0).b, 0, none⟩), .int .i64 0, .int .i64 ((ts.length - 1 : Nat) : Int)]
  hs : B ≤ s
  pos : 0 < ts.length
  len : ts.length ≤ 201
  head : (tw ts 0).h = 12
  hts : ∀ i, 0 < i → i < ts.length → ((tw ts i).h : Int) = hgtF (tw ts i).p.1 ∧ 0 < (tw ts i).h ∧ (tw ts i).h ≤ 12
  up : ∀ i j, 0 < i → i < j → j < ts.length → (tw ts i).p.1 < (tw ts j).p.1
section
variable {w w' : World} {s : Nat} {ts : List Tw} {B : Nat}
theorem SK.keep (h : SK w s ts B) (hk : ∀ i t cs, (t = tT ∨ t = tL ∨ t = tS) → B ≤ i → BC w i t cs → BC w' i t cs) : SK w' s ts B :=
  ⟨h.f.keep fun i t cs ht hi hb => hk i t cs (by rcases ht with h | h; exact .inl h; exact .inr (.inl h)) hi hb, hk _ _ _ (.inr (.inr rfl)) h.hs h.stk, h.hs, h.pos, h.len, h.head, h.hts, h.up⟩
theorem SK.kp (h : SK w s ts B) (hk : Kp w w') : SK w' s ts B := h.keep fun _ _ _ _ _ hb => hb.kp hk
theorem SK.h12 (h : SK w s ts B) {i : Nat} (hi : i < ts.length) : 0 < (tw ts i).h ∧ (tw ts i).h ≤ 12 := by
  by_cases e : i = 0
  · subst e; rw [h.head]; omega
  · have := h.hts i (by omega) hi; omega
end
end Go.Proofs.YtfgbbmjnjppfnaaDoor
