/-
  Plain laws for ShapeTurns: what is found, turned; how many trees there are. No program. Conditions: none.
-/
import Derived.Test.YtcpponjknmkfaaaTurnedL
import Derived.Test.YtcpponjknmkfaaaAllUse
namespace Go.Proofs.Ytcpponjknmkfaaa
set_option linter.unusedVariables false
set_option linter.unusedSimpArgs false

def foundK (l : List IP) (key : Int) : Nat → Bool
  | 0 => false
  | k + 1 => foundK l key k || (gk l k == key && decide (0 < gv l k))
theorem foundK_true {l : List IP} {key : Int} : ∀ k, k ≤ l.length → (foundK l key k = true ↔ ∃ a, a < k ∧ gk l a = key ∧ 0 < gv l a)
  | 0, _ => by simp [foundK]
  | k + 1, hk => by
    rw [foundK, Bool.or_eq_true, foundK_true k (by omega)]
    simp only [Bool.and_eq_true, beq_iff_eq, decide_eq_true_eq]
    constructor
    · rintro (⟨a, h1, h2⟩ | h)
      · exact ⟨a, by omega, h2⟩
      · exact ⟨k, by omega, h⟩
    · rintro ⟨a, h1, h2⟩
      by_cases e : a = k
      · subst e; exact .inr h2
      · exact .inl ⟨a, by omega, h2⟩
theorem turn_found {l : List IP} (hp : (parOf l).2 = 0) {key : Int} (h : foundK l key l.length = true) : turnOf l key = ((turnTT (treeOf l 0).1 key).spots 0, 0) := by
  obtain ⟨a, ha, hk, hd⟩ := (foundK_true l.length (Nat.le_refl _)).1 h
  obtain ⟨t, ht, _, _⟩ := Tr.of hp
  have hdep := ht.dep a ha
  rw [gv_eq l a ha] at hd
  rw [gk_eq l a ha] at hk
  cases hc : t.anc a with
  | nil => rw [hc] at hdep; simp at hdep; omega
  | cons p s =>
    have hpp : (t.anc a).head? = some p := by rw [hc]; rfl
    have h2 := turned_spots ht ha hpp
    rw [turnOf_do ht ha hpp hk, ← hk, h2]
theorem turn_none {l : List IP} (hp : (parOf l).2 = 0) {key : Int} (h : foundK l key l.length = false) : turnOf l key = ([], 4) := by
  obtain ⟨t, ht, _, hpar⟩ := Tr.of hp
  by_cases h0 : (turnOf l key).2 = 0
  · exfalso
    obtain ⟨t', a, p, ht', _, ha, _, hk, hpp, _, _⟩ := turnOf_ok l key h0
    have hdep := ht'.dep a ha
    have : foundK l key l.length = true := by
      refine (foundK_true l.length (Nat.le_refl _)).2 ⟨a, ha, by rw [gk_eq l a ha]; exact hk, ?_⟩
      rw [gv_eq l a ha, hdep]
      cases hc : t'.anc a with
      | nil => rw [hc] at hpp; cases hpp
      | cons x s => simp
    rw [this] at h; cases h
  · have e := turnOf_bad l key h0
    unfold turnOf at h0 e ⊢
    rw [if_neg (fun h => h hp)] at h0 e ⊢
    split
    · rfl
    · rename_i hc
      rw [if_neg hc] at h0
      exact absurd rfl h0
/-- How many trees there are, of so many nodes. -/
def CAT : List Int := [1, 1, 2, 5, 14, 42, 132, 429]
def catS (n : Nat) : Nat → Int
  | 0 => 0
  | i + 1 => catS n i + CAT.getD i 0 * CAT.getD (n - 1 - i) 0
theorem catS_all : ∀ n, n ≤ 7 → 1 ≤ n → catS n n = CAT.getD n 0 := by decide +kernel
theorem catS_le : ∀ n, n ≤ 7 → ∀ i, i ≤ 7 → 0 ≤ catS n i ∧ catS n i ≤ 100000 := by decide +kernel
theorem cat_le : ∀ i, i ≤ 7 → 0 ≤ CAT.getD i 0 ∧ CAT.getD i 0 ≤ 429 := by decide +kernel
theorem cat_mul : ∀ i, i ≤ 7 → ∀ j, j ≤ 7 → 0 ≤ CAT.getD i 0 * CAT.getD j 0 ∧ CAT.getD i 0 * CAT.getD j 0 ≤ 200000 := by decide +kernel
theorem cat_cat : ∀ n, n ≤ 7 → (catF n n : Int) = CAT.getD n 0 := by decide +kernel
theorem CAT_len : CAT.length = 8 := rfl
theorem CAT_step : ∀ n, n ≤ 7 → CAT.take n ++ [CAT.getD n 0] = CAT.take (n + 1) := by decide +kernel
theorem CAT_at {n k : Nat} (hn : n ≤ 8) (h : k < (CAT.take n).length) : (CAT.take n)[k] = CAT.getD k 0 := by
  have h2 : k < CAT.length := by simp at h; rw [CAT_len]; simp [CAT_len] at h; omega
  rw [List.getElem_take]
  simp [List.getD_eq_getElem?_getD, List.getElem?_eq_getElem h2]
end Go.Proofs.Ytcpponjknmkfaaa
