/-
  Plain laws of trees that ask least: turned round, asked for more often, all so many times as often. No program. Conditions: how often each is asked is not below nought.
-/
import Derived.Test.YtpmhpogkpkhbfaaKLaw
namespace Go.Proofs.Ytpmhpogkpkhbfaa
set_option linter.unusedVariables false
set_option linter.unusedSimpArgs false

theorem wgt_pred {h g : Nat → Int} (i j : Nat) : wgt h g i j = wgt h g (i + 1) j + h i + g i := by simp only [wgt, pfx]; omega
/-- All the other way round. -/
def Turned (h g h' g' : Nat → Int) (n : Nat) : Prop := (∀ k, k < n → h' k = h (n - 1 - k)) ∧ ∀ k, k ≤ n → g' k = g (n - k)
theorem Turned.symm {h g h' g' : Nat → Int} {n : Nat} (t : Turned h g h' g' n) : Turned h' g' h g n :=
  ⟨fun k hk => by rw [t.1 (n - 1 - k) (by omega), show n - 1 - (n - 1 - k) = k by omega], fun k hk => by rw [t.2 (n - k) (by omega), show n - (n - k) = k by omega]⟩
theorem Turned.wgt {h g h' g' : Nat → Int} {n : Nat} (t : Turned h g h' g' n) (i : Nat) : ∀ d, i + d ≤ n → wgt h' g' i (i + d) = wgt h g (n - (i + d)) (n - i)
  | 0, hd => by rw [Nat.add_zero, wgt_self, wgt_self, t.2 i (by omega)]
  | d + 1, hd => by
    have e := wgt_pred (h := h) (g := g) (n - (i + (d + 1))) (n - i)
    rw [show n - (i + (d + 1)) + 1 = n - (i + d) by omega] at e
    rw [show i + (d + 1) = i + d + 1 by omega, wgt_succ, Turned.wgt t i d (by omega), t.1 (i + d) (by omega), t.2 (i + d + 1) (by omega)]
    rw [show n - (i + (d + 1)) = n - (i + d + 1) by omega] at e
    rw [e, show n - 1 - (i + d) = n - (i + d + 1) by omega]
theorem Turned.le {h g h' g' : Nat → Int} {n : Nat} (t : Turned h g h' g' n) (hh : ∀ k, 0 ≤ h k) (hg : ∀ k, 0 ≤ g k) (hh' : ∀ k, 0 ≤ h' k) (hg' : ∀ k, 0 ≤ g' k) : ∀ (m i j : Nat), j - i ≤ m → i ≤ j → j ≤ n → bc h' g' i j ≤ bc h g (n - j) (n - i) := by
  intro m
  induction m with
  | zero =>
    intro i j h1 h2 h3
    obtain rfl : i = j := by omega
    rw [bc_self, bc_self]; exact Int.le_refl _
  | succ m ih =>
    intro i j h1 h2 h3
    by_cases hij : i < j
    · obtain ⟨r, ra, rb, _, re, _, _⟩ := bt_spec hh hg (i := n - j) (j := n - i) (by omega)
      obtain ⟨_, _, _, _, _, hl, _⟩ := bt_spec hh' hg' hij
      have q := hl (n - 1 - r) (by omega) (by omega)
      have q1 := ih i (n - 1 - r) (by omega) (by omega) (by omega)
      have q2 := ih (n - 1 - r + 1) j (by omega) (by omega) h3
      have q3 := t.wgt i (j - i) (by omega)
      rw [show i + (j - i) = j by omega] at q3
      rw [show n - (n - 1 - r) = r + 1 by omega] at q1
      rw [show n - (n - 1 - r + 1) = r by omega] at q2
      omega
    · obtain rfl : i = j := by omega
      rw [bc_self, bc_self]; exact Int.le_refl _
theorem Turned.bc {h g h' g' : Nat → Int} {n : Nat} (t : Turned h g h' g' n) (hh : ∀ k, 0 ≤ h k) (hg : ∀ k, 0 ≤ g k) (hh' : ∀ k, 0 ≤ h' k) (hg' : ∀ k, 0 ≤ g' k) : bc h' g' 0 n = bc h g 0 n := by
  have h1 := t.le hh hg hh' hg' n 0 n (by omega) (by omega) (by omega)
  have h2 := t.symm.le hh' hg' hh hg n 0 n (by omega) (by omega) (by omega)
  rw [Nat.sub_self, Nat.sub_zero] at h1 h2
  omega
/-- One is asked for more often. -/
theorem pfx_more {h h' g : Nat → Int} {k0 : Nat} {m : Int} (e : ∀ k, h' k = h k + if k = k0 then m else 0) : ∀ j, pfx h' g j = pfx h g j + if k0 < j then m else 0
  | 0 => by simp [pfx]
  | j + 1 => by
    rw [pfx, pfx, pfx_more e j, e j]
    split <;> split <;> split <;> omega
theorem wgt_more {h h' g : Nat → Int} {k0 : Nat} {m : Int} (hm : 0 ≤ m) (e : ∀ k, h' k = h k + if k = k0 then m else 0) {i j : Nat} (hij : i ≤ j) : wgt h g i j ≤ wgt h' g i j ∧ wgt h' g i j ≤ wgt h g i j + m := by
  simp only [wgt, pfx_more e]
  split <;> split <;> omega
theorem bc_more {h h' g : Nat → Int} {k0 : Nat} {m : Int} (hm : 0 ≤ m) (e : ∀ k, h' k = h k + if k = k0 then m else 0) (hh : ∀ k, 0 ≤ h k) (hg : ∀ k, 0 ≤ g k) : ∀ (n i j : Nat), j - i ≤ n → i ≤ j → bc h g i j ≤ bc h' g i j ∧ bc h' g i j ≤ bc h g i j + m * ((j - i : Nat) : Int) := by
  have hh' : ∀ k, 0 ≤ h' k := fun k => by rw [e k]; have := hh k; split <;> omega
  intro n
  induction n with
  | zero =>
    intro i j h1 h2
    obtain rfl : i = j := by omega
    rw [bc_self, bc_self, Nat.sub_self]; simp
  | succ n ih =>
    intro i j h1 h2
    by_cases hij : i < j
    · obtain ⟨r, ra, rb, _, re, rl, _⟩ := bt_spec hh hg hij
      obtain ⟨s, sa, sb, _, se, sl, _⟩ := bt_spec hh' hg hij
      obtain ⟨w1, w2⟩ := wgt_more (g := g) hm e h2
      constructor
      · have q := rl s sa sb
        have q1 := (ih i s (by omega) sa).1
        have q2 := (ih (s + 1) j (by omega) (by omega)).1
        omega
      · have q := sl r ra rb
        have q1 := (ih i r (by omega) ra).2
        have q2 := (ih (r + 1) j (by omega) (by omega)).2
        have q3 : m * ((j - i : Nat) : Int) = m * ((r - i : Nat) : Int) + m * ((j - (r + 1) : Nat) : Int) + m := by
          rw [← Int.mul_add]
          have : ((j - i : Nat) : Int) = ((r - i : Nat) : Int) + ((j - (r + 1) : Nat) : Int) + 1 := by omega
          rw [this, Int.mul_add, Int.mul_one]
        omega
    · obtain rfl : i = j := by omega
      rw [bc_self, bc_self, Nat.sub_self]; simp
/-- All so many times as often. -/
theorem pfx_times {h g h' g' : Nat → Int} {t : Int} (eh : ∀ k, h' k = h k * t) (eg : ∀ k, g' k = g k * t) : ∀ j, pfx h' g' j = pfx h g j * t
  | 0 => by simp [pfx]
  | j + 1 => by rw [pfx, pfx, pfx_times eh eg j, eh, eg, Int.add_mul, Int.add_mul]
theorem wgt_times {h g h' g' : Nat → Int} {t : Int} (eh : ∀ k, h' k = h k * t) (eg : ∀ k, g' k = g k * t) (i j : Nat) : wgt h' g' i j = wgt h g i j * t := by
  simp only [wgt, pfx_times eh eg, eg]
  rw [Int.sub_mul, Int.add_mul]
theorem bc_times {h g h' g' : Nat → Int} {t : Int} (ht : 0 ≤ t) (eh : ∀ k, h' k = h k * t) (eg : ∀ k, g' k = g k * t) (hh : ∀ k, 0 ≤ h k) (hg : ∀ k, 0 ≤ g k) : ∀ (n i j : Nat), j - i ≤ n → i ≤ j → bc h' g' i j = bc h g i j * t := by
  have hh' : ∀ k, 0 ≤ h' k := fun k => by rw [eh k]; exact Int.mul_nonneg (hh k) ht
  have hg' : ∀ k, 0 ≤ g' k := fun k => by rw [eg k]; exact Int.mul_nonneg (hg k) ht
  intro n
  induction n with
  | zero =>
    intro i j h1 h2
    obtain rfl : i = j := by omega
    rw [bc_self, bc_self]; simp
  | succ n ih =>
    intro i j h1 h2
    by_cases hij : i < j
    · obtain ⟨r, ra, rb, _, re, rl, _⟩ := bt_spec hh hg hij
      obtain ⟨s, sa, sb, _, se, sl, _⟩ := bt_spec hh' hg' hij
      have hw := wgt_times eh eg i j
      have q1 := sl r ra rb
      rw [ih i r (by omega) ra, ih (r + 1) j (by omega) (by omega), hw, ← Int.add_mul, ← Int.add_mul, ← re] at q1
      have q2 := rl s sa sb
      rw [ih i s (by omega) sa, ih (s + 1) j (by omega) (by omega), hw, ← Int.add_mul, ← Int.add_mul] at se
      have q3 := Int.mul_le_mul_of_nonneg_right q2 ht
      omega
    · obtain rfl : i = j := by omega
      rw [bc_self, bc_self]; simp
end Go.Proofs.Ytpmhpogkpkhbfaa
