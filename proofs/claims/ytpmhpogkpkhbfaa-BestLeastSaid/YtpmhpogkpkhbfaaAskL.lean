/-
  Plain law: what a tree asks, part by part (hedgref.Asked), is best.Cost's sum by the depths of both neighbours. No program. Conditions: the keys are 0, 1, and so on.
-/
import Derived.Test.YtpmhpogkpkhbfaaBCost
import Derived.Test.YtpmhpogkpkhbfaaTree
namespace Go.Proofs.Ytpmhpogkpkhbfaa
set_option linter.unusedVariables false
set_option linter.unusedSimpArgs false

def askF (h g : Nat → Int) : T → Nat → Int → Int
  | .nil, a, d => g a * d
  | .node k l r, a, d => h k.toNat * (d + 1) + askF h g l a (d + 1) + askF h g r (k.toNat + 1) (d + 1)
/-- The tree has the keys from a on, ahead of b; each lies as deep as D says. -/
def Dp (D : Nat → Int) : T → Nat → Nat → Int → Prop
  | .nil, a, b, _ => a = b
  | .node k l r, a, b, d => ∃ m : Nat, k = (m : Int) ∧ D m = d ∧ Dp D l a m (d + 1) ∧ Dp D r (m + 1) b (d + 1)
theorem Dp.le {D : Nat → Int} : ∀ {t : T} {a b : Nat} {d : Int}, Dp D t a b d → b = a + t.size
  | .nil, a, b, d, h => by have : a = b := h; simp [T.size]; omega
  | .node k l r, a, b, d, ⟨m, _, _, h1, h2⟩ => by
    have := h1.le; have := h2.le; simp only [T.size]; omega
theorem Dp.of {D : Nat → Int} : ∀ (t : T) (a : Nat) (d : Int), (∀ j (h : j < (t.spots d).length), (t.spots d)[j].1 = ((a + j : Nat) : Int) ∧ (t.spots d)[j].2 = D (a + j)) → Dp D t a (a + t.size) d
  | .nil, a, d, _ => rfl
  | .node k l r, a, d, h => by
    have hl := T.spots_len l (d + 1)
    have hr := T.spots_len r (d + 1)
    have e : (T.node k l r).spots d = l.spots (d + 1) ++ [(k, d)] ++ r.spots (d + 1) := rfl
    simp only [e] at h
    have hm := h l.size (by simp [hl])
    rw [List.getElem_append_left (by simp [hl]), List.getElem_append_right (by rw [hl]; omega)] at hm
    simp only [List.getElem_singleton] at hm
    refine ⟨a + l.size, hm.1, hm.2.symm, Dp.of l a (d + 1) (fun j hj => ?_), ?_⟩
    · have := h j (by simp; omega)
      rw [List.getElem_append_left (by simp; omega), List.getElem_append_left hj] at this
      exact this
    · have hb : a + (T.node k l r).size = a + l.size + 1 + r.size := by simp only [T.size]; omega
      rw [hb]
      refine Dp.of r (a + l.size + 1) (d + 1) (fun j hj => ?_)
      have := h (l.size + 1 + j) (by simp [hl]; omega)
      rw [List.getElem_append_right (by simp [hl])] at this
      simp only [List.length_append, hl, List.length_singleton] at this
      have e3 : l.size + 1 + j - (l.size + 1) = j := by omega
      simp only [e3] at this
      rw [show a + l.size + 1 + j = a + (l.size + 1 + j) by omega]
      exact this
theorem coG_base (l : List IP) (g : List Int) (a : Int) : ∀ k, coG l g a k = a + coG l g 0 k
  | 0 => by simp [coG]
  | k + 1 => by rw [coG, coG, coG_base l g a k]; omega
def loD (l : List IP) (a : Nat) : Int := if 0 < a then gv l (a - 1) + 1 else 0
def hiD (l : List IP) (b : Nat) : Int := if b < l.length then gv l b + 1 else 0
theorem coD_eq {l : List IP} (h0 : ∀ k, k < l.length → 0 ≤ gv l k) {k : Nat} {d : Int} (hk : k ≤ l.length) (h1 : loD l k ≤ d) (h2 : hiD l k ≤ d) (h3 : loD l k = d ∨ hiD l k = d) : coD l k = d := by
  unfold coD coD1
  unfold loD at h1 h3
  unfold hiD at h2 h3
  by_cases a : 0 < k
  · have b0 := h0 (k - 1) (by omega)
    rw [if_pos a] at h1 h3 ⊢
    by_cases b : k < l.length
    · have := h0 k b
      rw [if_pos b] at h2 h3 ⊢
      split <;> split <;> omega
    · rw [if_neg b] at h2 h3 ⊢
      split <;> omega
  · rw [if_neg a] at h1 h3 ⊢
    by_cases b : k < l.length
    · have := h0 k b
      rw [if_pos b] at h2 h3 ⊢
      split <;> omega
    · rw [if_neg b] at h2 h3 ⊢
      omega
theorem ask_sum {l : List IP} {h g : List Int} (h0 : ∀ k, k < l.length → 0 ≤ gv l k) : ∀ (t : T) (a b : Nat) (d : Int), Dp (gv l) t a b d → b ≤ l.length → loD l a ≤ d → hiD l b ≤ d → (loD l a = d ∨ hiD l b = d) →
    askF (gD h) (gD g) t a d = (coA l h b - coA l h a) + (coG l g 0 (b + 1) - coG l g 0 a)
  | .nil, a, b, d, hd, hb, h1, h2, h3 => by
    have : a = b := hd
    subst this
    rw [askF, coG, coD_eq h0 hb h1 h2 h3]
    omega
  | .node k tl tr, a, b, d, ⟨m, hk, hm, hl, hr⟩, hb, h1, h2, h3 => by
    have e1 := hl.le
    have e2 := hr.le
    subst hk
    have hi1 : hiD l m = d + 1 := by unfold hiD; rw [if_pos (by omega), hm]
    have lo1 : loD l (m + 1) = d + 1 := by unfold loD; rw [if_pos (by omega), Nat.add_sub_cancel, hm]
    rw [askF, Int.toNat_natCast, ask_sum h0 tl a m (d + 1) hl (by omega) (by omega) (by omega) (.inr hi1), ask_sum h0 tr (m + 1) b (d + 1) hr hb (by omega) (by omega) (.inl lo1), coA, hm]
    omega
theorem ask_cost {l : List IP} {h g : List Int} {t : T} (hs : t.spots 0 = l) (hk : ∀ k, k < l.length → gk l k = (k : Int)) (h0 : ∀ k, k < l.length → 0 ≤ gv l k) : askF (gD h) (gD g) t 0 0 = coG l g (coA l h l.length) (l.length + 1) := by
  have hsz : t.size = l.length := by rw [← T.spots_len t 0, hs]
  have hd : Dp (gv l) t 0 (0 + t.size) 0 := Dp.of t 0 0 (fun j hj => by
    have hjl : j < l.length := by rw [← hs]; exact hj
    have e : (t.spots 0)[j] = l[j] := by simp only [hs]
    rw [e]
    have h1 := hk j hjl
    refine ⟨?_, ?_⟩
    · rw [show gk l j = l[j].1 by simp [gk, hjl]] at h1
      rw [h1]; simp
    · simp [gv, hjl])
  rw [Nat.zero_add, hsz] at hd
  have := ask_sum (h := h) (g := g) h0 t 0 l.length 0 hd (Nat.le_refl _) (by simp [loD]) (by simp [hiD]) (.inl (by simp [loD]))
  rw [this, coG_base l g (coA l h l.length)]
  simp [coA, coG]
theorem askF_in {h g : Nat → Int} (hh : ∀ k, 0 ≤ h k ∧ h k ≤ 1000) (hg : ∀ k, 0 ≤ g k ∧ g k ≤ 1000) : ∀ (t : T) (a : Nat) (d : Int), 0 ≤ d → d + t.size ≤ 999 → 0 ≤ askF h g t a d ∧ askF h g t a d ≤ 1000000 * (2 * (t.size : Int) + 1)
  | .nil, a, d, h0, h1 => by
    have := mul_in (hg a).1 (hg a).2 h0 (show d ≤ 1000 by simp [T.size] at h1; omega)
    simp only [askF, T.size]; omega
  | .node k l r, a, d, h0, h1 => by
    simp only [T.size] at h1
    have a1 := mul_in (hh k.toNat).1 (hh k.toNat).2 (show 0 ≤ d + 1 by omega) (show d + 1 ≤ 1000 by omega)
    have a2 := askF_in hh hg l a (d + 1) (by omega) (by omega)
    have a3 := askF_in hh hg r (k.toNat + 1) (d + 1) (by omega) (by omega)
    simp only [askF, T.size]
    push_cast
    omega
end Go.Proofs.Ytpmhpogkpkhbfaa
