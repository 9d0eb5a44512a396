/-
  Plain laws of the vine chapter: the tree that is read, keys, how full an even tree is. No program. Conditions: none.
-/
import Derived.Test.YtnpogfodopodoaaVVine
import Derived.Test.YtnpogfodopodoaaVRef
import Derived.Test.YtnpogfodopodoaaTurnLaw
namespace Go.Proofs.Ytnpogfodopodoaa
open Go.ChangeShapes Go.WideShapes Go.ChangeAt Go.RowKit
set_option linter.unusedVariables false
set_option linter.unusedSimpArgs false

theorem getD_fst (l : List IP) (p : Nat) : (l.map Prod.fst).getD p 0 = gk l p := by
  unfold gk
  rw [List.getD_eq_getElem?_getD, List.getD_eq_getElem?_getD, List.getElem?_map]
  cases l[p]? <;> rfl
theorem toM_toT (l : List IP) : ∀ t : PT, toM (toT l t) = mtP (l.map Prod.fst) t
  | .nil => rfl
  | .node p a b => by rw [toT, toM, mtP, getD_fst, toM_toT l a, toM_toT l b]
theorem mtP_keys (ks : List Int) : ∀ (t : PT) (lo : Nat), t.At lo → lo + t.size ≤ ks.length → keysM id (mtP ks t) = (ks.drop lo).take t.size
  | .nil, lo, _, _ => by simp [mtP, keysM, PT.size]
  | .node p l r, lo, ⟨hp, hl, hr⟩, h => by
    simp only [PT.size] at h
    rw [mtP, keysM, mtP_keys ks l lo hl (by omega), mtP_keys ks r (p + 1) hr (by omega)]
    simp only [PT.size, id_eq]
    apply List.ext_getElem?
    intro j
    rw [List.append_assoc]
    rcases Nat.lt_trichotomy j l.size with hj | hj | hj
    · rw [List.getElem?_append_left (by simp; omega), List.getElem?_take, if_pos hj, List.getElem?_take, if_pos (by omega)]
    · rw [List.getElem?_append_right (by simp; omega)]
      rw [show j - (List.take l.size (List.drop lo ks)).length = 0 from by simp; omega, List.getElem?_take, if_pos (by omega), List.getElem?_drop, show lo + j = p from by omega]
      simp [List.getD_eq_getElem?_getD, List.getElem?_eq_getElem (show p < ks.length by omega)]
    · rw [List.getElem?_append_right (by simp; omega)]
      rw [show j - (List.take l.size (List.drop lo ks)).length = (j - l.size - 1) + 1 from by simp; omega]
      simp only [List.singleton_append, List.getElem?_cons_succ]
      by_cases hj2 : j < l.size + 1 + r.size
      · rw [List.getElem?_take, if_pos (by omega), List.getElem?_take, if_pos hj2, List.getElem?_drop, List.getElem?_drop]
        congr 1; omega
      · rw [List.getElem?_take, if_neg (by omega), List.getElem?_take, if_neg hj2]
theorem vine_facts {l : List IP} (h : (parOf l).2 = 0) : ∃ t, Tr l t ∧ vineT l = mtP (l.map Prod.fst) t ∧ toM (treeOf l 0).1 = vineT l ∧ keysM id (vineT l) = l.map Prod.fst ∧ (vineT l).size = l.length := by
  obtain ⟨t, ht, hpt, hpo⟩ := Tr.of h
  have e1 : vineT l = mtP (l.map Prod.fst) t := by rw [vineT, if_neg (by simp [h]), hpt]
  have e2 := (treeOf_whole l).2 t hpt
  refine ⟨t, ht, e1, by rw [e2, toM_toT, e1], ?_, by rw [e1, mtP_size, ht.size]⟩
  rw [e1, mtP_keys _ t 0 ht.at0 (by rw [List.length_map, ht.size]; omega), List.drop_zero, ht.size]
  rw [List.take_of_length_le (by simp)]
theorem up_facts {l : List IP} (h : (parOf l).2 = 0) : upL (toM (treeOf l 0).1) l.length = upE (vineT l) := by
  obtain ⟨t, _, _, h3, _, h5⟩ := vine_facts h
  rw [h3, upL, upE, h5]
/-! How full. -/
def QT : Nat → MT Int → Prop
  | 0, T => T = .nil
  | h + 1, T => (h = 0 ∧ T = .nil) ∨ ∃ a l r, T = .node a l r ∧ QT h l ∧ QT h r
def Sp : Nat → Nat → MT Int → Prop
  | 0, h, T => QT h T
  | c + 1, h, T => ∃ a l r, T = .node a l r ∧ QT h l ∧ Sp c h r
theorem press_sp : ∀ (k h : Nat) (T : MT Int), Sp (2 * k + 1) h T → Sp k (h + 1) (pressM k T)
  | 0, h, T, hs => by
    obtain ⟨a, l, r, rfl, h1, h2⟩ := hs
    exact .inr ⟨a, l, r, rfl, h1, h2⟩
  | k + 1, h, T, hs => by
    rw [show 2 * (k + 1) + 1 = (2 * k + 1) + 1 + 1 from by omega] at hs
    obtain ⟨a, l, r, rfl, h1, c, x, y, rfl, h2, h3⟩ := hs
    exact ⟨c, .node a l x, pressM k y, rfl, .inr ⟨a, l, x, rfl, h1, h2⟩, press_sp k h y h3⟩
theorem vine_sp : ∀ (m : Nat) (ks : List Int), ks.length = m → Sp m 1 (vineM ks)
  | 0, ks, h => by
    obtain rfl : ks = [] := List.eq_nil_of_length_eq_zero h
    exact .inl ⟨rfl, rfl⟩
  | m + 1, [], h => by simp at h
  | m + 1, k :: ks, h => ⟨k, .nil, vineM ks, rfl, .inl ⟨rfl, rfl⟩, vine_sp m ks (by simpa using h)⟩
theorem first_sp : ∀ (K m : Nat) (ks : List Int), ks.length = m + K → K ≤ m → Sp m 1 (pressM K (vineM ks))
  | 0, m, ks, h, _ => vine_sp m ks (by omega)
  | K + 1, m + 1, a :: c :: ks, h, h2 => ⟨c, .node a .nil .nil, pressM K (vineM ks), rfl, .inr ⟨a, .nil, .nil, rfl, rfl, rfl⟩, first_sp K m ks (by simp at h; omega) (by omega)⟩
  | K + 1, 0, _, _, h2 => by omega
  | K + 1, m + 1, [], h, _ => by simp at h
  | K + 1, m + 1, [_], h, _ => by simp at h; omega
theorem evenS_sp : ∀ (j h : Nat) (T : MT Int), Sp (2 ^ j - 1) h T → QT (h + j) (evenS j T)
  | 0, h, T, hs => by simpa [evenS, Sp] using hs
  | j + 1, h, T, hs => by
    have hp := Nat.pow_pos (n := j) (show 0 < 2 by omega)
    have e : 2 ^ (j + 1) - 1 = 2 * (2 ^ j - 1) + 1 := by rw [Nat.pow_succ]; omega
    rw [e] at hs
    have := evenS_sp j (h + 1) _ (press_sp (2 ^ j - 1) h T hs)
    rw [evenS, show h + (j + 1) = h + 1 + j from by omega]
    exact this
theorem even_qt (ks : List Int) : QT (lgE ks.length + 1) (evenT ks) := by
  obtain ⟨h1, h2⟩ := lgE_spec ks.length
  rw [Nat.pow_succ] at h2
  have := first_sp (ks.length + 1 - 2 ^ lgE ks.length) (2 ^ lgE ks.length - 1) ks (by have := Nat.pow_pos (n := lgE ks.length) (show 0 < 2 by omega); omega) (by omega)
  have := evenS_sp (lgE ks.length) 1 _ this
  rw [evenT, Nat.add_comm]
  exact this
def heiM : MT Int → Nat
  | .nil => 0
  | .node _ l r => max (heiM l) (heiM r) + 1
theorem qt_hei : ∀ (h : Nat) (T : MT Int), QT h T → heiM T ≤ h ∧ T.size + 1 ≤ 2 ^ h ∧ (∀ H, T.size + 1 ≤ 2 ^ H → heiM T ≤ H) ∧ (0 < h → 2 ^ (h - 1) ≤ T.size + 1)
  | 0, T, hq => by
    obtain rfl : T = .nil := hq
    simp [heiM, MT.size]
  | h + 1, T, hq => by
    rcases hq with ⟨rfl, rfl⟩ | ⟨a, l, r, rfl, h1, h2⟩
    · refine ⟨by simp [heiM], by simp [MT.size], fun H _ => by simp [heiM], by simp [MT.size]⟩
    · obtain ⟨a1, a2, a3, a4⟩ := qt_hei h l h1
      obtain ⟨b1, b2, b3, b4⟩ := qt_hei h r h2
      simp only [heiM, MT.size]
      have hlow : 2 ^ h ≤ l.size + 1 + r.size + 1 := by
        cases h with
        | zero => simp
        | succ n =>
          have := a4 (by omega)
          have := b4 (by omega)
          simp only [Nat.add_sub_cancel] at *
          rw [Nat.pow_succ]; omega
      refine ⟨by omega, by rw [Nat.pow_succ]; omega, fun H hH => ?_, fun _ => by simpa using hlow⟩
      cases H with
      | zero => simp at hH
      | succ H =>
        rw [Nat.pow_succ] at hH
        rcases Nat.lt_or_ge h (H + 1) with hh | hh
        · omega
        · have hpow : 2 ^ (H + 1) ≤ 2 ^ h := Nat.pow_le_pow_right (by omega) hh
          have e1 : 2 ^ (H + 1) = 2 ^ H * 2 := Nat.pow_succ 2 H
          -- the whole has just so many: both sides have room
          rcases Nat.lt_or_ge (l.size + 1) (2 ^ H + 1) with hl | hl
          · rcases Nat.lt_or_ge (r.size + 1) (2 ^ H + 1) with hr | hr
            · have := a3 H (by omega); have := b3 H (by omega); omega
            · cases h with
              | zero => omega
              | succ n =>
                have := a4 (by omega)
                simp only [Nat.add_sub_cancel] at this
                have : 2 ^ H ≤ 2 ^ n := Nat.pow_le_pow_right (by omega) (by omega)
                omega
          · cases h with
            | zero => omega
            | succ n =>
              have := b4 (by omega)
              simp only [Nat.add_sub_cancel] at this
              have : 2 ^ H ≤ 2 ^ n := Nat.pow_le_pow_right (by omega) (by omega)
              omega
/-- How many stand in a row. -/
def cntD : MT Int → Nat → Nat
  | .nil, _ => 0
  | .node _ _ _, 0 => 1
  | .node _ l r, d + 1 => cntD l d + cntD r d
theorem qt_cnt : ∀ (h : Nat) (T : MT Int), QT h T → ∀ d, d + 1 < h → cntD T d = 2 ^ d
  | 0, _, _, d, hd => by omega
  | h + 1, T, hq, d, hd => by
    rcases hq with ⟨rfl, rfl⟩ | ⟨a, l, r, rfl, h1, h2⟩
    · omega
    · cases d with
      | zero => rfl
      | succ d => rw [cntD, qt_cnt h l h1 d (by omega), qt_cnt h r h2 d (by omega), Nat.pow_succ]; omega
end Go.Proofs.Ytnpogfodopodoaa
