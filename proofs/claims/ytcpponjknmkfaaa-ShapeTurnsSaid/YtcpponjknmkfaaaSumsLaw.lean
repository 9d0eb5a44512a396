/-
  Plain laws: how deep a place stands is how many stand above it; how many there may be of so many rows. No program. Conditions: none.
-/
import Derived.Test.YtcpponjknmkfaaaOrder
import Derived.Test.YtcpponjknmkfaaaAnc
namespace Go.Proofs.Ytcpponjknmkfaaa
open Go.ChangeShapes Go.WideShapes Go.ChangeAt Go.RowKit
set_option linter.unusedVariables false
set_option linter.unusedSimpArgs false

theorem PT.anc_dep : ∀ (t : PT) (off : Nat) (d : Int), t.At off → ∀ k, k < t.size → (t.deps d)[k]? = some (d + ((t.anc (off + k)).length : Int))
  | .nil, _, _, _, k, h => by simp [PT.size] at h
  | .node p l r, off, d, ⟨hp, hl, hr⟩, k, h => by
    simp only [PT.size] at h
    rw [PT.deps_node]
    unfold PT.anc
    by_cases h1 : k < l.size
    · rw [if_pos h1, if_pos (by omega), PT.anc_dep l off (d + 1) hl k h1]
      simp; omega
    · rw [if_neg h1]
      by_cases h2 : k = l.size
      · rw [if_pos h2, if_neg (by omega), if_pos (by omega)]; simp
      · rw [if_neg h2, if_neg (by omega), if_neg (by omega), PT.anc_dep r (p + 1) (d + 1) hr _ (by omega)]
        rw [show p + 1 + (k - (l.size + 1)) = off + k from by omega]
        simp; omega
theorem PT.rows : ∀ (t : PT) (d : Int) (H : Nat), (∀ e ∈ t.deps d, e < d + H) → t.size + 1 ≤ 2 ^ H
  | .nil, _, H, _ => by simp [PT.size]; exact Nat.one_le_two_pow
  | .node p l r, d, H, h => by
    cases H with
    | zero => have := h d (by simp [deps]); omega
    | succ H =>
      have hl := PT.rows l (d + 1) H fun e he => by have := h e (by simp [deps, he]); omega
      have hr := PT.rows r (d + 1) H fun e he => by have := h e (by simp [deps, he]); omega
      simp only [PT.size]
      rw [Nat.pow_succ]; omega
theorem gv_anc (l : List IP) (t : PT) (hAt : t.At 0) (hts : t.size = l.length) (hd : ∀ j, j < t.size → some (gv l (0 + j)) = (t.deps 0)[j]?) (k : Nat) (hk : k < l.length) : l[k].2 = ((t.anc k).length : Int) := by
  have h1 := hd k (by omega)
  rw [PT.anc_dep t 0 0 hAt k (by omega), Nat.zero_add, gv_eq l k hk] at h1
  have := Option.some.inj h1
  omega
theorem mostL_ge (l : List IP) : ∀ p ∈ l, p.2 ≤ mostL l := by
  have : ∀ (l : List IP) (m : Int), m ≤ l.foldl (fun m p => max m p.2) m ∧ ∀ p ∈ l, p.2 ≤ l.foldl (fun m p => max m p.2) m := by
    intro l
    induction l with
    | nil => intro m; exact ⟨Int.le_refl _, by simp⟩
    | cons q t ih =>
      intro m
      obtain ⟨h1, h2⟩ := ih (max m q.2)
      refine ⟨Int.le_trans (Int.le_max_left _ _) h1, fun p hp => ?_⟩
      rcases List.mem_cons.1 hp with rfl | hp
      · exact Int.le_trans (Int.le_max_right _ _) h1
      · exact h2 p hp
  exact (this l (-1)).2
theorem mostL_in (l : List IP) : mostL l = -1 ∨ ∃ p ∈ l, mostL l = p.2 := by
  have : ∀ (l : List IP) (m : Int), l.foldl (fun m p => max m p.2) m = m ∨ ∃ p ∈ l, l.foldl (fun m p => max m p.2) m = p.2 := by
    intro l
    induction l with
    | nil => intro m; exact .inl rfl
    | cons q t ih =>
      intro m
      rcases ih (max m q.2) with h | ⟨p, hp, h⟩
      · rw [List.foldl_cons, h]
        rcases Int.le_total m q.2 with h1 | h1
        · exact .inr ⟨q, by simp, Int.max_eq_right h1⟩
        · exact .inl (Int.max_eq_left h1)
      · exact .inr ⟨p, by simp [hp], by rw [List.foldl_cons, h]⟩
  exact this l (-1)
/-- What ShapeSums asks of the rows. -/
theorem sums_rows (l : List IP) (h : (parOf l).2 = 0) : mostL l < l.length ∧ ((l.length = 0 ∧ mostL l = -1) ∨ (0 ≤ mostL l ∧ (l.length : Int) < 2 ^ (min (mostL l + 1) 20).toNat)) := by
  obtain ⟨h1, h2, t, ht, _⟩ := parOf_len l h
  obtain ⟨h3, h4, h5⟩ := ptR_to l 0 l.length 0 t (by omega) ht
  have hts : t.size = l.length := by omega
  have hlt : ∀ p ∈ l, p.2 < l.length := fun p hp => by
    obtain ⟨k, hk, rfl⟩ := List.getElem_of_mem hp
    have := h5 k (by omega)
    rw [Nat.zero_add, gv_eq l k hk] at this
    have := PT.deps_lt t 0 _ (List.mem_of_getElem? this.symm)
    omega
  cases hl : l with
  | nil => subst hl; exact ⟨by simp [mostL], .inl ⟨rfl, rfl⟩⟩
  | cons q u =>
    rw [← hl]
    have hq : q ∈ l := by rw [hl]; simp
    have hge : 0 ≤ mostL l := by
      obtain ⟨k, hk, rfl⟩ := List.getElem_of_mem hq
      have := (gv_bound l h k hk).1
      have := mostL_ge l _ (List.getElem_mem hk)
      omega
    obtain ⟨p, hp, hpe⟩ : ∃ p ∈ l, mostL l = p.2 := by
      rcases mostL_in l with h | h
      · omega
      · exact h
    have hm := hlt p hp
    refine ⟨by omega, .inr ⟨hge, ?_⟩⟩
    have hrows := PT.rows t 0 (mostL l + 1).toNat (fun e he => by
      obtain ⟨j, hj, rfl⟩ := List.getElem_of_mem he
      rw [PT.deps_len] at hj
      have h6 := h5 j (by omega)
      rw [Nat.zero_add, gv_eq l j (by omega), List.getElem?_eq_getElem (by rw [PT.deps_len]; exact hj)] at h6
      have := mostL_ge l _ (List.getElem_mem (show j < l.length by omega))
      rw [Option.some.inj h6] at this
      omega)
    have hpow : ∀ a b : Nat, a ≤ b → (2 : Nat) ^ a ≤ 2 ^ b := fun a b h => Nat.pow_le_pow_right (by omega) h
    rcases Int.le_total (mostL l + 1) 20 with h20 | h20
    · rw [Int.min_eq_left h20]
      have : ((l.length + 1 : Nat) : Int) ≤ ((2 ^ (mostL l + 1).toNat : Nat) : Int) := by rw [← hts]; exact Int.ofNat_le.2 hrows
      rw [Int.natCast_pow] at this
      have e : ((2 : Nat) : Int) = 2 := rfl
      rw [e] at this
      omega
    · rw [Int.min_eq_right h20]
      have : (2 : Int) ^ (20 : Int).toNat = 1048576 := by decide
      rw [this]; omega
end Go.Proofs.Ytcpponjknmkfaaa
