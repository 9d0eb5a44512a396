/-
  Plain laws: what shape.Turn answers is a right tree of the same keys; turned back by who stood above it is as it was. No program. Conditions: none.
-/
import Derived.Test.YtcpponjknmkfaaaRotLaw
namespace Go.Proofs.Ytcpponjknmkfaaa
open Go.ChangeShapes Go.WideShapes Go.ChangeAt Go.RowKit
set_option linter.unusedVariables false
set_option linter.unusedSimpArgs false

theorem Chain.head {U : List Int} {x : Int} {a : Nat} {s : List Nat} (h : Chain U x (a :: s)) : x = a := by cases h; rfl
theorem adj_in (t : PT) (a p k : Nat) : -1 ≤ adj t a p k ∧ adj t a p k ≤ 1 := by
  unfold adj
  split
  · omega
  · split
    · omega
    · split
      · omega
      · split <;> omega
theorem turnD_adj (t : PT) (hAt : t.At 0) (a p k : Nat) (hk : k < t.size) (d : Int) : turnD (t.pars (-1)) a p k d = d + adj t a p k := by
  have hUl := PT.pars_len t (-1)
  have hc := Chain.cons k (t.anc k) (by omega) (PT.chain0 t hAt k hk)
  have hs : (k :: t.anc k).length ≤ (t.pars (-1)).length + 1 := by have := PT.anc_len t k; simp only [List.length_cons]; omega
  unfold turnD adj inB
  rw [inU_chain hc hs a, inU_chain hc hs p]
  split
  · omega
  · split
    · omega
    · split
      · omega
      · split <;> omega
theorem turnL_keys (l : List IP) (U : List Int) (a p : Nat) : (turnL l U a p).map Prod.fst = l.map Prod.fst := by
  apply List.ext_getElem
  · simp [turnL_len]
  · intro i h1 h2
    simp only [List.length_map] at h1 h2
    simp only [List.getElem_map]
    rw [turnL_at l U a p i h2]
/-- The list of a right tree. -/
structure Tr (l : List IP) (t : PT) : Prop where
  right : mapRight l = 0
  at0 : t.At 0
  size : t.size = l.length
  dep : ∀ k (h : k < l.length), l[k].2 = ((t.anc k).length : Int)
theorem Tr.of {l : List IP} (h : (parOf l).2 = 0) : ∃ t, Tr l t ∧ ptR l 0 l.length 0 = some t ∧ parOf l = (t.pars (-1), 0) := by
  obtain ⟨h1, h2, t, ht, hp⟩ := parOf_len l h
  obtain ⟨h3, h4, h5⟩ := ptR_to l 0 l.length 0 t (by omega) ht
  exact ⟨t, ⟨h2, h3, by omega, fun k hk => gv_anc l t h3 (by omega) h5 k hk⟩, ht, hp⟩
theorem Tr.par {l : List IP} {t : PT} (h : Tr l t) : ptR l 0 l.length 0 = some t ∧ parOf l = (t.pars (-1), 0) := by
  have hd : ∀ j, j < l.length → some (gv l j) = (t.deps 0)[j]? := fun j hj => by
    rw [PT.anc_dep t 0 0 h.at0 j (by rw [h.size]; exact hj), gv_eq l j hj, h.dep j hj, Nat.zero_add]; simp
  refine ⟨ptR_of l t 0 l.length 0 h.at0 (by rw [h.size]; omega) (fun j hj => by rw [Nat.zero_add]; exact hd j (by rw [← h.size]; exact hj)), ?_⟩
  exact parOf_tree l t h.right h.at0 h.size hd
theorem Tr.turn {l : List IP} {t : PT} (h : Tr l t) {a p : Nat} (ha : a < l.length) (hp : (t.anc a).head? = some p) : Tr (turnL l (t.pars (-1)) a p) (t.rot a) ∧ p < l.length ∧ ((t.rot a).anc p).head? = some a ∧ (t.rot a).rot p = t := by
  obtain ⟨i1, i2, i3, i4, i5, i6⟩ := PT.rot_at t 0 a p h.at0 (by omega) (by rw [h.size]; omega) hp
  refine ⟨⟨by rw [mapRight_keys _ l (turnL_keys l _ a p)]; exact h.right, i1, by rw [i2, h.size, turnL_len], fun k hk => ?_⟩, by have := h.size; omega, i4, i5⟩
  rw [turnL_len] at hk
  rw [turnL_at l _ a p k hk]
  simp only
  rw [turnD_adj t h.at0 a p k (by rw [h.size]; exact hk), h.dep k hk, i6 k (by omega) (by rw [h.size]; omega)]
theorem Tr.up {l : List IP} {t : PT} (h : Tr l t) {a p : Nat} (ha : a < l.length) (hp : (t.anc a).head? = some p) : (t.pars (-1)).getD a (-1) = p := by
  have hUl := PT.pars_len t (-1)
  have hs := h.size
  have hc := PT.chain0 t h.at0 a (by omega)
  cases hh : t.anc a with
  | nil => rw [hh] at hp; simp at hp
  | cons b s =>
    rw [hh] at hp hc
    simp at hp
    subst hp
    have := hc.head
    simp [List.getD_eq_getElem?_getD, List.getElem?_eq_getElem (show a < (t.pars (-1)).length by omega), this]
theorem Tr.up' {l : List IP} {t : PT} (h : Tr l t) {a : Nat} {x : Int} (ha : a < l.length) (hx : (t.pars (-1)).getD a (-1) = x) (h0 : x ≠ -1) : ∃ p : Nat, x = p ∧ (t.anc a).head? = some p := by
  have hUl := PT.pars_len t (-1)
  have hs := h.size
  have hc := PT.chain0 t h.at0 a (by omega)
  simp only [List.getD_eq_getElem?_getD, List.getElem?_eq_getElem (show a < (t.pars (-1)).length by omega), Option.getD_some] at hx
  rw [hx] at hc
  cases hh : t.anc a with
  | nil => rw [hh] at hc; cases hc; exact absurd rfl h0
  | cons b s => rw [hh] at hc; exact ⟨b, hc.head, rfl⟩
theorem idxOf_key {l : List IP} (h : mapRight l = 0) (m : List IP) (hm : m.map Prod.fst = l.map Prod.fst) (k : Nat) (hk : k < l.length) : idxOf m l[k].1 = k := by
  have hlen : m.length = l.length := by have := congrArg List.length hm; simpa using this
  have he : ∀ j (h1 : j < m.length) (h2 : j < l.length), m[j].1 = l[j].1 := fun j h1 h2 => by
    have := List.getElem_of_eq hm (show j < (m.map Prod.fst).length by simpa using h1)
    simpa using this
  refine idxOf_at m _ k (by omega) (fun j h1 hj => ?_) (he k (by omega) hk)
  rw [he j h1 (by omega)]
  have := mapRight_rise l h j k (by omega) hk hj
  omega
/-- What a turn that goes through answers. -/
theorem turnOf_ok (l : List IP) (key : Int) (h : (turnOf l key).2 = 0) : ∃ t a p, Tr l t ∧ parOf l = (t.pars (-1), 0) ∧ ∃ ha : a < l.length, idxOf l key = a ∧ l[a].1 = key ∧ (t.anc a).head? = some p ∧ (t.pars (-1)).getD a (-1) = p ∧ turnOf l key = (turnL l (t.pars (-1)) a p, 0) := by
  unfold turnOf at h
  by_cases h0 : (parOf l).2 = 0
  · obtain ⟨t, ht, _, hpe⟩ := Tr.of h0
    rw [if_neg (by simp [h0]), hpe] at h
    simp only at h
    rcases idxOf_cases l key with hi | ⟨a, ha, hi, hk⟩
    · rw [if_pos (.inl hi)] at h; simp at h
    · by_cases hup : (t.pars (-1)).getD (idxOf l key).toNat (-1) = -1
      · rw [if_pos (.inr hup)] at h; simp at h
      · have hup' : (t.pars (-1)).getD a (-1) ≠ -1 := by rw [hi, Int.toNat_natCast] at hup; exact hup
        obtain ⟨p, hp1, hp2⟩ := ht.up' ha rfl hup'
        refine ⟨t, a, p, ht, hpe, ha, hi, hk, hp2, hp1, ?_⟩
        rw [turnOf, if_neg (by simp [h0]), hpe]
        simp only
        rw [if_neg (by rintro (h | h); omega; exact hup h), hi, Int.toNat_natCast, hp1]; simp
  · rw [if_pos h0] at h; exact absurd h h0
theorem turnOf_bad (l : List IP) (key : Int) (h : (turnOf l key).2 ≠ 0) : (turnOf l key).1 = [] := by
  unfold turnOf at h ⊢
  split
  · rfl
  · split
    · rfl
    · rename_i a b
      rw [if_neg a, if_neg b] at h
      simp at h
theorem turnOf_do {l : List IP} {t : PT} (h : Tr l t) {a p : Nat} (ha : a < l.length) (hp : (t.anc a).head? = some p) {key : Int} (hk : l[a].1 = key) : turnOf l key = (turnL l (t.pars (-1)) a p, 0) := by
  have hi : idxOf l key = a := by rw [← hk]; exact idxOf_key h.right l rfl a ha
  have hup := h.up ha hp
  rw [turnOf, h.par.2]
  simp only
  rw [if_neg (by simp), hi, Int.toNat_natCast, hup, if_neg (by omega)]; simp
theorem turn_back {l : List IP} {t : PT} (h : Tr l t) {a p : Nat} (ha : a < l.length) (hp : (t.anc a).head? = some p) (hpl : p < l.length) : turnOf (turnL l (t.pars (-1)) a p) l[p].1 = (l, 0) := by
  obtain ⟨ht, _, h2, h3⟩ := h.turn ha hp
  have hsl := turnL_len l (t.pars (-1)) a p
  have hd := turnOf_do ht (a := p) (by omega) h2 (key := l[p].1) (by rw [turnL_at l _ a p p hpl])
  rw [hd]
  congr 1
  obtain ⟨ht2, _, _, _⟩ := ht.turn (a := p) (by omega) h2
  rw [h3] at ht2
  have hl2 := turnL_len (turnL l (t.pars (-1)) a p) ((t.rot a).pars (-1)) p a
  apply List.ext_getElem
  · omega
  · intro k k1 k2
    have e1 := ht2.dep k k1
    have e2 := h.dep k k2
    refine Prod.ext ?_ (by rw [e1, e2])
    rw [turnL_at _ _ p a k (by omega)]
    simp only
    rw [turnL_at l _ a p k k2]
end Go.Proofs.Ytcpponjknmkfaaa
