/-
  Plain laws of trees that ask least: Knuth's law by the quadrangle law. No program. Conditions: how often each is asked is not below nought.
-/
import Derived.Test.YtpmhpogkpkhbfaaBase
namespace Go.Proofs.Ytpmhpogkpkhbfaa
set_option linter.unusedVariables false
set_option linter.unusedSimpArgs false

/-- The first least of f from low on, of m. -/
def scanN (f : Nat → Int) (t0 : Int) (low : Nat) : Nat → Int × Int
  | 0 => (-1, t0)
  | m + 1 => if (scanN f t0 low m).1 < 0 ∨ f (low + m) < (scanN f t0 low m).1 then (f (low + m), ((low + m : Nat) : Int)) else scanN f t0 low m
theorem scanN_spec (f : Nat → Int) (t0 : Int) (low : Nat) : ∀ m, 0 < m → (∀ r, low ≤ r → r < low + m → 0 ≤ f r) →
    ∃ r, low ≤ r ∧ r < low + m ∧ scanN f t0 low m = (f r, (r : Int)) ∧ (∀ x, low ≤ x → x < low + m → f r ≤ f x) ∧ ∀ x, low ≤ x → x < r → f r < f x
  | 0, h, _ => by omega
  | m + 1, _, hp => by
    by_cases hm : m = 0
    · subst hm
      refine ⟨low, by omega, by omega, ?_, fun x h1 h2 => ?_, fun x h1 h2 => by omega⟩
      · simp [scanN]
      · obtain rfl : x = low := by omega
        exact Int.le_refl _
    · obtain ⟨r, h1, h2, h3, h4, h5⟩ := scanN_spec f t0 low m (by omega) (fun r a b => hp r a (by omega))
      have h0 := hp r h1 (by omega)
      rw [scanN, h3]
      simp only
      by_cases hc : f (low + m) < f r
      · refine ⟨low + m, by omega, by omega, by rw [if_pos (.inr hc)], fun x a b => ?_, fun x a b => ?_⟩
        · rcases Nat.lt_or_ge x (low + m) with h | h
          · have := h4 x a h; omega
          · obtain rfl : x = low + m := by omega
            exact Int.le_refl _
        · have := h4 x a (by omega); omega
      · refine ⟨r, h1, by omega, by rw [if_neg (by omega)], fun x a b => ?_, h5⟩
        rcases Nat.lt_or_ge x (low + m) with h | h
        · exact h4 x a h
        · obtain rfl : x = low + m := by omega
          omega
theorem scanN_congr {f f' : Nat → Int} (t0 : Int) (low : Nat) : ∀ m, (∀ r, low ≤ r → r < low + m → f r = f' r) → scanN f t0 low m = scanN f' t0 low m
  | 0, _ => rfl
  | m + 1, h => by
    rw [scanN, scanN, scanN_congr t0 low m (fun r a b => h r a (by omega)), h (low + m) (by omega) (by omega)]

section
variable (h g : Nat → Int)
def pfx : Nat → Int
  | 0 => 0
  | m + 1 => pfx m + h m + g (m + 1)
def wgt (i j : Nat) : Int := g i + pfx h g j - pfx h g i
def ctL : Nat → Nat → Nat → Int
  | 0, _, _ => 0
  | L + 1, i, j => if j = i + L + 1 then wgt h g i j + (scanN (fun r => ctL L i r + ctL L (r + 1) j) 0 i (L + 1)).1 else ctL L i j
/-- The least cost of a part; its least top. -/
def bc (i j : Nat) : Int := ctL h g (j - i) i j
def bt (i j : Nat) : Int := (scanN (fun r => bc h g i r + bc h g (r + 1) j) 0 i (j - i)).2
end
variable {h g : Nat → Int}
theorem pfx_mono (hh : ∀ k, 0 ≤ h k) (hg : ∀ k, 0 ≤ g k) : ∀ {i j : Nat}, i ≤ j → pfx h g i ≤ pfx h g j := by
  intro i j hij
  induction j with
  | zero => obtain rfl : i = 0 := by omega
            exact Int.le_refl _
  | succ j ih =>
    rcases Nat.lt_or_ge i (j + 1) with h1 | h1
    · have := ih (by omega); have := hh j; have := hg (j + 1); simp only [pfx]; omega
    · obtain rfl : i = j + 1 := by omega
      exact Int.le_refl _
theorem wgt_self (i : Nat) : wgt h g i i = g i := by simp only [wgt]; omega
theorem wgt_succ (i j : Nat) : wgt h g i (j + 1) = wgt h g i j + h j + g (j + 1) := by simp only [wgt, pfx]; omega
theorem wgt_qe (i i' j j' : Nat) : wgt h g i j + wgt h g i' j' = wgt h g i' j + wgt h g i j' := by simp only [wgt]; omega
theorem wgt_right (hh : ∀ k, 0 ≤ h k) (hg : ∀ k, 0 ≤ g k) (i : Nat) {j j' : Nat} (hj : j ≤ j') : wgt h g i j ≤ wgt h g i j' := by
  have := pfx_mono hh hg hj
  simp only [wgt]; omega
theorem wgt_left (hh : ∀ k, 0 ≤ h k) (hg : ∀ k, 0 ≤ g k) {i i' : Nat} (j : Nat) (hi : i ≤ i') : wgt h g i' j ≤ wgt h g i j := by
  rcases Nat.lt_or_ge i i' with h1 | h1
  · obtain ⟨m, rfl⟩ : ∃ m, i' = m + 1 := ⟨i' - 1, by omega⟩
    have h2 := pfx_mono hh hg (i := i) (j := m) (by omega)
    have h3 := hh m
    have h4 := hg i
    simp only [wgt, pfx]; omega
  · obtain rfl : i = i' := by omega
    exact Int.le_refl _
theorem wgt_pos (hh : ∀ k, 0 ≤ h k) (hg : ∀ k, 0 ≤ g k) {i j : Nat} (hij : i ≤ j) : 0 ≤ wgt h g i j := by
  have := wgt_right hh hg i hij
  have h2 := hg i
  rw [wgt_self] at this; omega
theorem ctL_low : ∀ (L i j : Nat), j ≤ i + L → ctL h g L i j = bc h g i j
  | 0, i, j, hj => by rw [bc, show j - i = 0 by omega]
  | L + 1, i, j, hj => by
    by_cases e : j = i + L + 1
    · rw [bc, show j - i = L + 1 by omega]
    · rw [ctL, if_neg e, ctL_low L i j (by omega)]
theorem bc_self (i : Nat) : bc h g i i = 0 := by rw [bc, Nat.sub_self]; rfl
theorem bc_eq {i j : Nat} (hij : i < j) : bc h g i j = wgt h g i j + (scanN (fun r => bc h g i r + bc h g (r + 1) j) 0 i (j - i)).1 := by
  obtain ⟨L, hL⟩ : ∃ L, j = i + L + 1 := ⟨j - i - 1, by omega⟩
  have e : j - i = L + 1 := by omega
  rw [bc, e, ctL, if_pos hL]
  congr 2
  exact scanN_congr 0 i (L + 1) (fun r a b => by rw [ctL_low L i r (by omega), ctL_low L (r + 1) j (by omega)])
theorem bc_pos (hh : ∀ k, 0 ≤ h k) (hg : ∀ k, 0 ≤ g k) : ∀ (n i j : Nat), j - i ≤ n → 0 ≤ bc h g i j
  | 0, i, j, hn => by rw [bc, show j - i = 0 by omega]; exact Int.le_refl _
  | n + 1, i, j, hn => by
    by_cases hij : i < j
    · have hp : ∀ r, i ≤ r → r < i + (j - i) → 0 ≤ bc h g i r + bc h g (r + 1) j := fun r a b => by
        have := bc_pos hh hg n i r (by omega)
        have := bc_pos hh hg n (r + 1) j (by omega)
        omega
      obtain ⟨r, h1, h2, h3, _⟩ := scanN_spec (fun r => bc h g i r + bc h g (r + 1) j) 0 i (j - i) (by omega) hp
      rw [bc_eq hij, h3]
      have := hp r h1 h2
      have := wgt_pos hh hg (i := i) (j := j) (by omega)
      simp only; omega
    · rw [bc, show j - i = 0 by omega]; exact Int.le_refl _
/-- The least top: it costs least; those ahead of it cost more. -/
theorem bt_spec (hh : ∀ k, 0 ≤ h k) (hg : ∀ k, 0 ≤ g k) {i j : Nat} (hij : i < j) : ∃ r, i ≤ r ∧ r < j ∧ bt h g i j = (r : Int) ∧ bc h g i j = wgt h g i j + bc h g i r + bc h g (r + 1) j ∧
    (∀ x, i ≤ x → x < j → bc h g i j ≤ wgt h g i j + bc h g i x + bc h g (x + 1) j) ∧ ∀ x, i ≤ x → x < r → bc h g i j < wgt h g i j + bc h g i x + bc h g (x + 1) j := by
  have hp : ∀ r, i ≤ r → r < i + (j - i) → 0 ≤ bc h g i r + bc h g (r + 1) j := fun r a b => by
    have := bc_pos hh hg _ i r (Nat.le_refl _)
    have := bc_pos hh hg _ (r + 1) j (Nat.le_refl _)
    omega
  obtain ⟨r, h1, h2, h3, h4, h5⟩ := scanN_spec (fun r => bc h g i r + bc h g (r + 1) j) 0 i (j - i) (by omega) hp
  have he := bc_eq (h := h) (g := g) hij
  rw [h3] at he
  simp only at he h4 h5
  refine ⟨r, h1, by omega, by rw [bt, h3], by omega, fun x a b => ?_, fun x a b => ?_⟩
  · have := h4 x a (by omega); omega
  · have := h5 x a b; omega
/-- The quadrangle law. -/
theorem bc_qi (hh : ∀ k, 0 ≤ h k) (hg : ∀ k, 0 ≤ g k) : ∀ (n i i' j j' : Nat), j' - i ≤ n → i ≤ i' → i' ≤ j → j ≤ j' → bc h g i j + bc h g i' j' ≤ bc h g i' j + bc h g i j' := by
  intro n
  induction n with
  | zero =>
    intro i i' j j' hn h1 h2 h3
    obtain rfl : i = i' := by omega
    omega
  | succ n ih =>
    intro i i' j j' hn h1 h2 h3
    by_cases e1 : i = i'
    · subst e1; omega
    by_cases e2 : j = j'
    · subst e2; omega
    by_cases e3 : i' = j
    · subst e3
      rw [bc_self]
      obtain ⟨r, a, b, _, he, _⟩ := bt_spec hh hg (i := i) (j := j') (by omega)
      by_cases hr : r < i'
      · obtain ⟨_, _, _, _, _, hle, _⟩ := bt_spec hh hg (i := i) (j := i') (by omega)
        have q1 := hle r a hr
        have q2 := ih (r + 1) i' i' j' (by omega) (by omega) (Nat.le_refl _) h3
        rw [bc_self] at q2
        have q3 := wgt_right hh hg i (j := i') (j' := j') h3
        omega
      · obtain ⟨_, _, _, _, _, hle, _⟩ := bt_spec hh hg (i := i') (j := j') (by omega)
        have q1 := hle r (by omega) b
        have q2 := ih i i' i' r (by omega) h1 (Nat.le_refl _) (by omega)
        rw [bc_self] at q2
        have q3 := wgt_left hh hg (i := i) (i' := i') j' h1
        omega
    · obtain ⟨y, ya, yb, _, ye, _⟩ := bt_spec hh hg (i := i') (j := j) (by omega)
      obtain ⟨z, za, zb, _, ze, _⟩ := bt_spec hh hg (i := i) (j := j') (by omega)
      obtain ⟨_, _, _, _, _, l1, _⟩ := bt_spec hh hg (i := i) (j := j) (by omega)
      obtain ⟨_, _, _, _, _, l2, _⟩ := bt_spec hh hg (i := i') (j := j') (by omega)
      have hw := wgt_qe (h := h) (g := g) i i' j j'
      by_cases hzy : z ≤ y
      · have q1 := l1 z za (by omega)
        have q2 := l2 y ya (by omega)
        have q3 := ih (z + 1) (y + 1) j j' (by omega) (by omega) (by omega) h3
        omega
      · have q1 := l1 y (by omega) yb
        have q2 := l2 z (by omega) zb
        have q3 := ih i i' y z (by omega) h1 ya (by omega)
        omega
/-- Knuth's law: the least top is between those of both shorter parts. -/
theorem bt_between (hh : ∀ k, 0 ≤ h k) (hg : ∀ k, 0 ≤ g k) {i j : Nat} (hij : i + 1 < j) : bt h g i (j - 1) ≤ bt h g i j ∧ bt h g i j ≤ bt h g (i + 1) j := by
  obtain ⟨r, ra, rb, rt, re, rl, rs⟩ := bt_spec hh hg (i := i) (j := j) (by omega)
  obtain ⟨a, aa, ab, at_, ae, al, as_⟩ := bt_spec hh hg (i := i) (j := j - 1) (by omega)
  obtain ⟨b, ba, bb, bt', be, bl, bs⟩ := bt_spec hh hg (i := i + 1) (j := j) (by omega)
  rw [rt, at_, bt']
  constructor
  · rcases Nat.lt_or_ge r a with hr | hr
    · have q1 := as_ r ra hr
      have q2 := bc_qi hh hg _ (r + 1) (a + 1) (j - 1) j (Nat.le_refl _) (by omega) (by omega) (by omega)
      have q3 := rl a aa (by omega)
      omega
    · omega
  · rcases Nat.lt_or_ge b r with hr | hr
    · have q1 := bl r (by omega) rb
      have q2 := bc_qi hh hg _ i (i + 1) b r (Nat.le_refl _) (by omega) ba (by omega)
      have q3 := rs b (by omega) hr
      omega
    · omega
/-- What a search between them finds is the least of all. -/
theorem scan_between (hh : ∀ k, 0 ≤ h k) (hg : ∀ k, 0 ≤ g k) {i j low high : Nat} (hij : i < j) (t0 : Int) (hl : i ≤ low) (hl2 : (low : Int) ≤ bt h g i j) (hh2 : bt h g i j ≤ (high : Int)) (hhj : high < j) :
    (scanN (fun r => bc h g i r + bc h g (r + 1) j) t0 low (high + 1 - low)).1 + wgt h g i j = bc h g i j ∧ (scanN (fun r => bc h g i r + bc h g (r + 1) j) t0 low (high + 1 - low)).2 = bt h g i j := by
  obtain ⟨r, ra, rb, rt, re, rl, rs⟩ := bt_spec hh hg hij
  rw [rt] at hl2 hh2 ⊢
  have hp : ∀ x, low ≤ x → x < low + (high + 1 - low) → 0 ≤ bc h g i x + bc h g (x + 1) j := fun x a b => by
    have := bc_pos hh hg _ i x (Nat.le_refl _)
    have := bc_pos hh hg _ (x + 1) j (Nat.le_refl _)
    omega
  obtain ⟨s, s1, s2, s3, s4, s5⟩ := scanN_spec (fun r => bc h g i r + bc h g (r + 1) j) t0 low (high + 1 - low) (by omega) hp
  rw [s3]
  simp only at s4 s5 ⊢
  have e1 := rl s (by omega) (by omega)
  have e2 := s4 r (by omega) (by omega)
  have : s = r := by
    rcases Nat.lt_trichotomy s r with h1 | h1 | h1
    · have := rs s (by omega) h1; omega
    · exact h1
    · have := s5 r (by omega) h1; omega
  subst this
  omega
end Go.Proofs.Ytpmhpogkpkhbfaa
