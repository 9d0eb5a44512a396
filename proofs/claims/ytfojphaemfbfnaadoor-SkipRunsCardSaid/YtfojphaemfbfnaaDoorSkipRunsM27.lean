/-
  The heights by bits, plainly: what exchanged, timesTwo and bit make of a number (exN, mulN, bitN), and that the loop of hedgref.HeightOf ends at skip.Height's answer. No conditions.
-/
import Derived.Test.YtfojphaemfbfnaaDoorSkipRunsM4
import Derived.Laws.Bits64b

namespace Go.Proofs.YtfojphaemfbfnaaDoor
open Go.ChangeShapes Go.WideShapes Go.ChangeAt Go.RowKit
set_option linter.unusedVariables false
set_option linter.unusedSimpArgs false

theorem xor_bit (x n k : Nat) : (x ^^^ x / 2 ^ n) / 2 ^ k % 2 = (x / 2 ^ k % 2 + x / 2 ^ (k + n) % 2) % 2 := by
  have h := Nat.testBit_xor x (x / 2 ^ n) k
  rw [Nat.testBit_div_two_pow] at h
  simp only [Nat.testBit_eq_decide_div_mod_eq] at h
  try rw [Nat.add_comm n k] at h
  have e1 := Nat.mod_two_eq_zero_or_one ((x ^^^ x / 2 ^ n) / 2 ^ k)
  have e2 := Nat.mod_two_eq_zero_or_one (x / 2 ^ k)
  have e3 := Nat.mod_two_eq_zero_or_one (x / 2 ^ (k + n))
  rcases e1 with e1 | e1 <;> rcases e2 with e2 | e2 <;> rcases e3 with e3 | e3 <;> rw [e1, e2, e3] at h ⊢ <;> simp at h ⊢
def bitN (x n : Nat) : Nat := if 63 < n then 0 else x / 2 ^ n % 2
theorem bitN_lt {x : Nat} (hx : x < 2 ^ 64) (n : Nat) : bitN x n = x / 2 ^ n % 2 := by
  unfold bitN
  split
  · next h =>
    rw [Nat.div_eq_of_lt (Nat.lt_of_lt_of_le hx (Nat.pow_le_pow_right (by omega) (by omega)))]
  · rfl
theorem bitN_le (x n : Nat) : bitN x n ≤ 1 := by unfold bitN; split <;> omega
def exN (x n : Nat) : Nat := x ^^^ x / 2 ^ n
theorem exN_lt {x : Nat} (hx : x < 2 ^ 64) (n : Nat) : exN x n < 2 ^ 64 := Nat.xor_lt_two_pow hx (Nat.lt_of_le_of_lt (Nat.div_le_self _ _) hx)
theorem half_step (y k : Nat) : y / 2 ^ k = 2 * (y / 2 ^ (k + 1)) + y / 2 ^ k % 2 := by
  rw [Nat.pow_succ, ← Nat.div_div_eq_div_mul]; omega
theorem exN_step {x : Nat} (hx : x < 2 ^ 64) (n k : Nat) : exN x n / 2 ^ k = 2 * (exN x n / 2 ^ (k + 1)) + (bitN x k + bitN x (k + n)) % 2 := by
  rw [half_step, bitN_lt hx, bitN_lt hx, exN, xor_bit]
theorem mul_step (a b k : Nat) : (b / 2 ^ k) * a % 2 ^ 64 = (2 * ((b / 2 ^ (k + 1)) * a % 2 ^ 64) % 2 ^ 64 + (b / 2 ^ k % 2) * a) % 2 ^ 64 := by
  conv => lhs; rw [half_step b k, Nat.add_mul, Nat.mul_assoc]
  rw [Nat.add_mod, Nat.mul_mod 2, Nat.add_mod _ (b / 2 ^ k % 2 * a)]
  simp [Nat.mul_mod]

theorem and_compl (n x : Nat) (h : x < 2 ^ n) : x &&& (2 ^ n - (x + 1)) = 0 := by
  apply Nat.eq_of_testBit_eq
  intro i
  rw [Nat.testBit_and, Nat.testBit_two_pow_sub_succ h]
  simp
  intro h1 h2
  exact h1
theorem and_odd (m m' : Nat) (h : m &&& m' = 0) : (2 * m + 1) &&& (2 * m' + 1) = 1 := by
  apply Nat.eq_of_testBit_eq
  intro i
  rw [Nat.testBit_and]
  cases i with
  | zero => simp
  | succ i =>
    have h1 : (2 * m + 1).testBit (i + 1) = m.testBit i := by
      rw [Nat.testBit_succ]; congr 1; omega
    have h2 : (2 * m' + 1).testBit (i + 1) = m'.testBit i := by
      rw [Nat.testBit_succ]; congr 1; omega
    have h3 : (1 : Nat).testBit (i + 1) = false := by rw [Nat.testBit_succ]; simp
    rw [h1, h2, h3, ← Nat.testBit_and, h, Nat.zero_testBit]
theorem and_neg (t m : Nat) (h : 2 ^ t * (2 * m + 1) < 2 ^ 64) : (2 ^ t * (2 * m + 1)) &&& (2 ^ 64 - 2 ^ t * (2 * m + 1)) = 2 ^ t := by
  have ht : t < 64 := by
    refine (Nat.pow_lt_pow_iff_right (a := 2) (by omega)).mp (Nat.lt_of_le_of_lt ?_ h)
    exact Nat.le_mul_of_pos_right _ (by omega)
  obtain ⟨u, hu⟩ : ∃ u, 64 = t + 1 + u := ⟨63 - t, by omega⟩
  have e : 2 ^ 64 = 2 ^ t * (2 * 2 ^ u) := by rw [hu, Nat.pow_add, Nat.pow_succ, Nat.mul_assoc]
  have hm : m < 2 ^ u := by
    rw [e] at h
    have := Nat.lt_of_mul_lt_mul_left h
    omega
  have e2 : 2 ^ 64 - 2 ^ t * (2 * m + 1) = 2 ^ t * (2 * (2 ^ u - (m + 1)) + 1) := by
    rw [e, ← Nat.mul_sub]; congr 1; omega
  rw [e2]
  have hs := Nat.shiftLeft_and_distrib (a := 2 * m + 1) (b := 2 * (2 ^ u - (m + 1)) + 1) (i := t)
  simp only [Nat.shiftLeft_eq] at hs
  rw [Nat.mul_comm (2 ^ t), Nat.mul_comm (2 ^ t), ← hs, and_odd _ _ (and_compl u m hm), Nat.one_mul]
def dbOk (t : Nat) : Bool := dbTab.getD (2 ^ t * 285870213051353865 % 18446744073709551616 / 288230376151711744) 0 == (t : Int)
theorem db_all' : ∀ t : Nat, t < 64 → dbOk t = true
  | 0, _ => by decide +kernel
  | 1, _ => by decide +kernel
  | 2, _ => by decide +kernel
  | 3, _ => by decide +kernel
  | 4, _ => by decide +kernel
  | 5, _ => by decide +kernel
  | 6, _ => by decide +kernel
  | 7, _ => by decide +kernel
  | 8, _ => by decide +kernel
  | 9, _ => by decide +kernel
  | 10, _ => by decide +kernel
  | 11, _ => by decide +kernel
  | 12, _ => by decide +kernel
  | 13, _ => by decide +kernel
  | 14, _ => by decide +kernel
  | 15, _ => by decide +kernel
  | 16, _ => by decide +kernel
  | 17, _ => by decide +kernel
  | 18, _ => by decide +kernel
  | 19, _ => by decide +kernel
  | 20, _ => by decide +kernel
  | 21, _ => by decide +kernel
  | 22, _ => by decide +kernel
  | 23, _ => by decide +kernel
  | 24, _ => by decide +kernel
  | 25, _ => by decide +kernel
  | 26, _ => by decide +kernel
  | 27, _ => by decide +kernel
  | 28, _ => by decide +kernel
  | 29, _ => by decide +kernel
  | 30, _ => by decide +kernel
  | 31, _ => by decide +kernel
  | 32, _ => by decide +kernel
  | 33, _ => by decide +kernel
  | 34, _ => by decide +kernel
  | 35, _ => by decide +kernel
  | 36, _ => by decide +kernel
  | 37, _ => by decide +kernel
  | 38, _ => by decide +kernel
  | 39, _ => by decide +kernel
  | 40, _ => by decide +kernel
  | 41, _ => by decide +kernel
  | 42, _ => by decide +kernel
  | 43, _ => by decide +kernel
  | 44, _ => by decide +kernel
  | 45, _ => by decide +kernel
  | 46, _ => by decide +kernel
  | 47, _ => by decide +kernel
  | 48, _ => by decide +kernel
  | 49, _ => by decide +kernel
  | 50, _ => by decide +kernel
  | 51, _ => by decide +kernel
  | 52, _ => by decide +kernel
  | 53, _ => by decide +kernel
  | 54, _ => by decide +kernel
  | 55, _ => by decide +kernel
  | 56, _ => by decide +kernel
  | 57, _ => by decide +kernel
  | 58, _ => by decide +kernel
  | 59, _ => by decide +kernel
  | 60, _ => by decide +kernel
  | 61, _ => by decide +kernel
  | 62, _ => by decide +kernel
  | 63, _ => by decide +kernel
  | n + 64, h => absurd h (by omega)
theorem db_all (t : Nat) (h : t < 64) : dbTab.getD (2 ^ t * 285870213051353865 % 18446744073709551616 / 288230376151711744) 0 = (t : Int) := by
  have := db_all' t h
  simpa [dbOk] using this
theorem tzF_odd (t m : Nat) (h : 2 ^ t * (2 * m + 1) < 2 ^ 64) : tzF ((2 ^ t * (2 * m + 1) : Nat) : Int) = t := by
  obtain ⟨x, hx⟩ : ∃ x, x = 2 ^ t * (2 * m + 1) := ⟨_, rfl⟩
  have ha := and_neg t m h
  have ht : t < 64 := by
    refine (Nat.pow_lt_pow_iff_right (a := 2) (by omega)).mp (Nat.lt_of_le_of_lt ?_ h)
    exact Nat.le_mul_of_pos_right _ (by omega)
  have hp : 0 < x := by rw [hx]; exact Nat.mul_pos (Nat.pow_pos (by omega)) (by omega)
  rw [← hx] at ha h ⊢
  have hn : IntKind.u64.wrap (-(x : Int)) = ((2 ^ 64 - x : Nat) : Int) := by
    rw [IntKind.wrap_u64]; omega
  have hi : tzI x = ((2 ^ t * 285870213051353865 % 18446744073709551616 / 288230376151711744 : Nat) : Int) := by
    unfold tzI
    rw [hn, bits_and_u64_nat _ _ (by omega) (by omega), ha, IntKind.wrap_u64]
    obtain ⟨q, hq⟩ : ∃ q, q = 2 ^ t := ⟨_, rfl⟩
    rw [← hq]
    omega
  have hd := db_all t ht
  obtain ⟨i, hI⟩ : ∃ i, i = 2 ^ t * 285870213051353865 % 18446744073709551616 / 288230376151711744 := ⟨_, rfl⟩
  rw [← hI] at hi hd
  rw [tzF, if_neg (by omega), hi, Int.toNat_natCast]
  exact hd
theorem odd_part : ∀ (n x : Nat), x < n → 0 < x → ∃ t m, x = 2 ^ t * (2 * m + 1)
  | 0, x, h, _ => by omega
  | n + 1, x, h, h0 => by
    by_cases h2 : x % 2 = 1
    · exact ⟨0, x / 2, by simp; omega⟩
    · obtain ⟨t, m, e⟩ := odd_part n (x / 2) (by omega) (by omega)
      exact ⟨t + 1, m, by rw [Nat.pow_succ, Nat.mul_comm _ 2, Nat.mul_assoc, ← e]; omega⟩
theorem pow_bit (t m j : Nat) (h : j < t) : 2 ^ t * (2 * m + 1) / 2 ^ j % 2 = 0 := by
  obtain ⟨u, rfl⟩ : ∃ u, t = j + (u + 1) := ⟨t - j - 1, by omega⟩
  rw [Nat.pow_add, Nat.mul_assoc, Nat.mul_div_cancel_left _ (Nat.pow_pos (by omega)), Nat.pow_succ, Nat.mul_assoc, Nat.mul_comm, Nat.mul_assoc]
  exact Nat.mul_mod_right 2 _ 
theorem pow_bit_t (t m : Nat) : 2 ^ t * (2 * m + 1) / 2 ^ t % 2 = 1 := by
  rw [Nat.mul_div_cancel_left _ (Nat.pow_pos (by omega))]; omega
/-- The loop's end: h bits are 0, and the next is 1, or h is 11. -/
theorem hgt_end (x h : Nat) (hx : x < 2 ^ 64) (h0 : ∀ j, j < h → bitN x j = 0) (h1 : h = 11 ∨ (h < 11 ∧ bitN x h ≠ 0)) : (if 12 < tzF (x : Int) + 1 then 12 else tzF (x : Int) + 1) = (h : Int) + 1 := by
  by_cases hz : x = 0
  · subst hz
    rcases h1 with rfl | ⟨_, h1⟩
    · rfl
    · exact absurd (by simp [bitN]) h1
  · obtain ⟨t, m, e⟩ := odd_part (x + 1) x (by omega) (by omega)
    have ht : tzF (x : Int) = t := by rw [e]; exact tzF_odd t m (by omega)
    rw [ht]
    have k1 : h ≤ t := by
      refine Nat.le_of_not_lt fun hlt => ?_
      have := h0 t hlt
      rw [bitN_lt hx, e, pow_bit_t] at this
      omega
    rcases h1 with rfl | ⟨h2, h1⟩
    · split <;> omega
    · have k2 : t ≤ h := by
        refine Nat.le_of_not_lt fun hlt => h1 ?_
        rw [bitN_lt hx, e, pow_bit t m h hlt]
      split <;> omega
def mulN (a b : Nat) : Nat := a * b % 2 ^ 64
theorem mulN_lt (a b : Nat) : mulN a b < 2 ^ 64 := Nat.mod_lt _ (by omega)
def mixN (x : Nat) : Nat := exN (mulN (exN (mulN (exN x 30) 13787848793156543929) 27) 10723151780598845931) 31
theorem mixN_lt (x : Nat) : mixN x < 2 ^ 64 := exN_lt (mulN_lt _ _) _
theorem ex_bits (x s : Nat) (hx : x < 2 ^ 64) (p : Nat) (hp : p = 2 ^ s) : bits .xor .u64 (x : Int) ((x : Int) / (p : Int)) = ((exN x s : Nat) : Int) := by
  rw [xorShift_u64 x p (by omega), exN, hp]
theorem mul_bits (x c : Nat) : IntKind.u64.wrap ((x : Int) * (c : Int)) = ((mulN x c : Nat) : Int) := by
  rw [IntKind.wrap_u64, mulN, Int.natCast_emod, Int.natCast_mul]; rfl
theorem mixF_nat (x : Nat) (hx : x < 2 ^ 64) : mixF (x : Int) = ((mixN x : Nat) : Int) := by
  have e1 : x1 (x : Int) = ((exN x 30 : Nat) : Int) := ex_bits x 30 hx 1073741824 (by decide)
  have e2 : x2 (x : Int) = ((mulN (exN x 30) 13787848793156543929 : Nat) : Int) := by
    rw [x2, e1]; exact mul_bits _ 13787848793156543929
  have e3 : x3 (x : Int) = ((exN (mulN (exN x 30) 13787848793156543929) 27 : Nat) : Int) := by
    rw [x3, e2]; exact ex_bits _ 27 (mulN_lt _ _) 134217728 (by decide)
  have e4 : x4 (x : Int) = ((mulN (exN (mulN (exN x 30) 13787848793156543929) 27) 10723151780598845931 : Nat) : Int) := by
    rw [x4, e3]; exact mul_bits _ 10723151780598845931
  rw [mixF, e4]
  exact ex_bits _ 31 (mulN_lt _ _) 2147483648 (by decide)
end Go.Proofs.YtfojphaemfbfnaaDoor
