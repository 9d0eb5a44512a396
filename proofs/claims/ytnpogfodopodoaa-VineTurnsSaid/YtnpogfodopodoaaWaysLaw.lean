/-
  Plain laws: of all left ones the highest comes up: the right edge is longer by one; where no left one is, each stands below the one ahead. No program. Conditions: none.
-/
import Derived.Test.YtnpogfodopodoaaTurnLaw
namespace Go.Proofs.Ytnpogfodopodoaa
open Go.ChangeShapes Go.WideShapes Go.ChangeAt Go.RowKit
set_option linter.unusedVariables false
set_option linter.unusedSimpArgs false

def PT.spine : PT → Nat
  | .nil => 0
  | .node _ _ r => 1 + r.spine
theorem PT.spine_le : ∀ t : PT, t.spine ≤ t.size
  | .nil => Nat.le_refl _
  | .node _ l r => by have := PT.spine_le r; simp only [spine, size]; omega
theorem PT.rot_spine : ∀ (t : PT) (off a p : Nat), t.At off → off ≤ a → a < off + t.size → (t.anc a).head? = some p → a < p →
    (∀ k, off ≤ k → k < off + t.size → ∀ q, (t.anc k).head? = some q → k < q → (t.anc a).length ≤ (t.anc k).length) → (t.rot a).spine = t.spine + 1
  | .nil, off, a, p, _, h1, h2, _, _, _ => by simp [PT.size] at h2; omega
  | .node q l r, off, a, p, hAt, h1, h2, hh, hap, hmin => by
    obtain ⟨hq, hl, hr⟩ := hAt
    simp only [PT.size] at h2 hmin
    have hanc : ∀ k, (PT.node q l r).anc k = if k < q then l.anc k ++ [q] else if k = q then [] else r.anc k ++ [q] := fun k => rfl
    cases l with
    | nil =>
      simp only [PT.size] at hq h2 hmin
      have haq : ¬ a < q := by omega
      have haq2 : a ≠ q := by
        rintro rfl
        rw [hanc, if_neg (by omega), if_pos rfl] at hh
        simp at hh
      rw [hanc, if_neg haq, if_neg haq2] at hh
      rcases head_append _ _ _ hh with ⟨hn, rfl⟩ | ⟨hn, hp⟩
      · omega
      · rw [PT.rot_r q a .nil r haq hn]
        have ih := PT.rot_spine r (q + 1) a p hr (by omega) (by omega) hp hap (fun k k1 k2 q' hq' hkq => by
          have h3 := hmin k (by omega) (by omega) q' (by rw [hanc, if_neg (by omega), if_neg (by omega)]; exact head_append' _ _ _ hq') hkq
          rw [hanc, hanc, if_neg haq, if_neg haq2, if_neg (by omega), if_neg (by omega)] at h3
          simpa using h3)
        simp only [PT.spine]
        omega
    | node c x y =>
      have hc := hl.1
      simp only [PT.size] at hq h2 hmin
      have h3 := hmin c (by omega) (by omega) q (by rw [hanc, if_pos (by omega)]; simp [PT.anc]) (by omega)
      rw [hanc c, if_pos (by omega)] at h3
      have h4 : ((PT.node c x y).anc c ++ [q]).length = 1 := by simp [PT.anc]
      rw [h4] at h3
      by_cases haq : a < q
      · rw [hanc, if_pos haq] at h3 hh
        have h5 : (PT.node c x y).anc a = [] := by simpa using h3
        obtain ⟨x', y', e⟩ := PT.anc_nil (.node c x y) off a hl h1 (by simp only [PT.size]; omega) h5
        injection e with e1 e2 e3
        subst e1
        rw [PT.rot_l1 q c x y r haq]
        simp only [PT.spine]; omega
      · have haq2 : a ≠ q := by
          rintro rfl
          rw [hanc, if_neg (by omega), if_pos rfl] at hh
          simp at hh
        rw [hanc, if_neg haq, if_neg haq2] at h3 hh
        have h5 : r.anc a = [] := by simpa using h3
        rw [h5] at hh
        simp at hh
        omega
theorem PT.no_left : ∀ (t : PT) (off : Nat), t.At off → (∀ k, off ≤ k → k < off + t.size → ∀ q, (t.anc k).head? = some q → ¬ k < q) → ∀ k, off ≤ k → k < off + t.size → (t.anc k).length = k - off
  | .nil, off, _, _, k, h1, h2 => by simp [PT.size] at h2; omega
  | .node q l r, off, ⟨hq, hl, hr⟩, h, k, h1, h2 => by
    have hanc : ∀ k, (PT.node q l r).anc k = if k < q then l.anc k ++ [q] else if k = q then [] else r.anc k ++ [q] := fun k => rfl
    simp only [PT.size] at h h2
    cases l with
    | nil =>
      simp only [PT.size] at hq h h2
      rw [hanc, if_neg (by omega)]
      by_cases hk : k = q
      · rw [if_pos hk]; simp; omega
      · rw [if_neg hk]
        have ih := PT.no_left r (q + 1) hr (fun k k1 k2 q' hq' => h k (by omega) (by omega) q' (by rw [hanc, if_neg (by omega), if_neg (by omega)]; exact head_append' _ _ _ hq')) k (by omega) (by omega)
        simp; omega
    | node c x y =>
      have hc := hl.1
      simp only [PT.size] at hq h
      exact absurd (show c < q by omega) (h c (by omega) (by omega) q (by rw [hanc, if_pos (by omega)]; simp [PT.anc]))

/-- What the search among the left ones has met: none, or the first of the highest. -/
def LS (s : List IP) (U : List Int) (k : Nat) (x : Int) : Prop :=
  (x = -1 ∧ ∀ j (h : j < U.length), j < k → ¬ (j : Int) < U[j]) ∨ ∃ (a : Nat) (ha : a < U.length) (hs : a < s.length), x = a ∧ a < k ∧ (a : Int) < U[a] ∧ ∀ j (h : j < U.length) (h2 : j < s.length), j < k → (j : Int) < U[j] → s[a].2 ≤ s[j].2
theorem left_iff {s : List IP} {t : PT} (h : Tr s t) {U : List Int} (hU : U = t.pars (-1)) (j : Nat) (hj : j < U.length) (hjs : j < s.length) : (j : Int) < U[j] ↔ ∃ q, (t.anc j).head? = some q ∧ j < q := by
  subst hU
  constructor
  · intro hlt
    obtain ⟨p, hp1, hp2⟩ := h.up' hjs (x := (t.pars (-1))[j]) (by simp [List.getD_eq_getElem?_getD, List.getElem?_eq_getElem hj]) (by omega)
    exact ⟨p, hp2, by omega⟩
  · rintro ⟨q, hq, hlt⟩
    have := h.up hjs hq
    simp only [List.getD_eq_getElem?_getD, List.getElem?_eq_getElem hj, Option.getD_some] at this
    omega
theorem ways_turn {s : List IP} {t : PT} (h : Tr s t) {U : List Int} (hU : U = t.pars (-1)) (hUs : U.length = s.length) (a : Nat) (ha : a < U.length) (hs : a < s.length) (hl : (a : Int) < U[a]) (hmin : ∀ j (h : j < U.length) (h2 : j < s.length), j < s.length → (j : Int) < U[j] → s[a].2 ≤ s[j].2) :
    ∃ s' t', turnOf s s[a].1 = (s', 0) ∧ Tr s' t' ∧ s'.length = s.length ∧ t'.spine = t.spine + 1 ∧ t'.size = s.length := by
  obtain ⟨p, hp, hap⟩ := (left_iff h hU a ha hs).1 hl
  obtain ⟨h1, _, _, _⟩ := h.turn hs hp
  have hd := turnOf_do h hs hp (key := s[a].1) rfl
  have hsp := PT.rot_spine t 0 a p h.at0 (by omega) (by rw [h.size]; omega) hp hap (fun k k1 k2 q hq hkq => by
    have hks : k < s.length := by rw [← h.size]; omega
    have := hmin k (by omega) hks hks ((left_iff h hU k (by omega) hks).2 ⟨q, hq, hkq⟩)
    rw [h.dep a hs, h.dep k hks] at this
    omega)
  exact ⟨_, _, hd, h1, turnL_len _ _ _ _, hsp, by rw [h1.size, turnL_len]⟩
theorem ways_end {s : List IP} {t : PT} (h : Tr s t) {U : List Int} (hU : U = t.pars (-1)) (hUs : U.length = s.length) (hno : ∀ j (h : j < U.length), j < s.length → ¬ (j : Int) < U[j]) : ∀ k (hk : k < s.length), s[k].2 = (k : Int) := by
  intro k hk
  have := PT.no_left t 0 h.at0 (fun k k1 k2 q hq hkq => by
    have hks : k < s.length := by rw [← h.size]; omega
    exact hno k (by omega) hks ((left_iff h hU k (by omega) hks).2 ⟨q, hq, hkq⟩)) k (by omega) (by rw [h.size]; omega)
  rw [h.dep k hk, this]; omega
end Go.Proofs.Ytnpogfodopodoaa
