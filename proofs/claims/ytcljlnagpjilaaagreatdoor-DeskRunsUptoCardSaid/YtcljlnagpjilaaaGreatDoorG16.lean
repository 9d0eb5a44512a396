/-
  The heights by bits, plainly: what exchanged, timesTwo and bit make of a number (exN, mulN
  hedgref.HeightOf with bit, exchanged, timesTwo: HeightOf answers what skip.Height answers 
  hedgref.SameRows, RowsOf: what they answer
  Keys that are right: few, rising, in bounds
  hedgref.Stops: what it answers
-/
import Derived.Test.YtcljlnagpjilaaaGreatDoorG1
import Derived.Laws.Bits64b
import Derived.Test.YtcljlnagpjilaaaGreatDoorG15
import Derived.Test.YtcljlnagpjilaaaGreatDoorG10

set_option linter.unusedVariables false
set_option linter.unusedSimpArgs false
set_option maxRecDepth 100000
set_option maxHeartbeats 8000000
namespace Go.Proofs.YtcljlnagpjilaaaGreatDoor
open Go.ChangeShapes Go.WideShapes Go.ChangeAt Go.RowKit
theorem xor_bit (x n k : Nat) : (x ^^^ x / 2 ^ n) / 2 ^ k % 2 = (x / 2 ^ k % 2 + x / 2 ^ (k + n) % 2) % 2 := by
 have h := Nat.testBit_xor x (x / 2 ^ n) k
 rw [Nat.testBit_div_two_pow] at h
 simp only [Nat.testBit_eq_decide_div_mod_eq] at h
 try rw [Nat.add_comm n k] at h
 have e1 := Nat.mod_two_eq_zero_or_one ((x ^^^ x / 2 ^ n) / 2 ^ k)
 have e2 := Nat.mod_two_eq_zero_or_one (x / 2 ^ k)
 have e3 := Nat.mod_two_eq_zero_or_one (x / 2 ^ (k + n))
 rcases e1 with e1 | e1 <;> rcases e2 with e2 | e2 <;> rcases e3 with e3 | e3 <;> rw [e1, e2, e3] at h ⊢ <;> simp at h ⊢
def bitN (x n : Nat) : Nat := if 63 < n then 0 else x / 2 ^ n % 2
theorem bitN_lt {x : Nat} (hx : x < 2 ^ 64) (n : Nat) : bitN x n = x / 2 ^ n % 2 := by
 unfold bitN
 split
 ·next h =>
  rw [Nat.div_eq_of_lt (Nat.lt_of_lt_of_le hx (Nat.pow_le_pow_right (by omega) (by omega)))]
 ·rfl
theorem bitN_le (x n : Nat) : bitN x n <= 1 := by unfold bitN; split <;> omega
def exN (x n : Nat) : Nat := x ^^^ x / 2 ^ n
theorem exN_lt {x : Nat} (hx : x < 2 ^ 64) (n : Nat) : exN x n < 2 ^ 64 := Nat.xor_lt_two_pow hx (Nat.lt_of_le_of_lt (Nat.div_le_self _ _) hx)
theorem half_step (y k : Nat) : y / 2 ^ k = 2 * (y / 2 ^ (k + 1)) + y / 2 ^ k % 2 := by
 rw [Nat.pow_succ, <- Nat.div_div_eq_div_mul]; omega
theorem exN_step {x : Nat} (hx : x < 2 ^ 64) (n k : Nat) : exN x n / 2 ^ k = 2 * (exN x n / 2 ^ (k + 1)) + (bitN x k + bitN x (k + n)) % 2 := by
 rw [half_step, bitN_lt hx, bitN_lt hx, exN, xor_bit]
theorem mul_step (a b k : Nat) : (b / 2 ^ k) * a % 2 ^ 64 = (2 * ((b / 2 ^ (k + 1)) * a % 2 ^ 64) % 2 ^ 64 + (b / 2 ^ k % 2) * a) % 2 ^ 64 := by
 conv => lhs; rw [half_step b k, Nat.add_mul, Nat.mul_assoc]
 rw [Nat.add_mod, Nat.mul_mod 2, Nat.add_mod _ (b / 2 ^ k % 2 * a)]
 simp [Nat.mul_mod]
theorem and_compl (n x : Nat) (h : x < 2 ^ n) : x &&& (2 ^ n - (x + 1)) = 0 := by
 apply Nat.eq_of_testBit_eq
 intro i
 rw [Nat.testBit_and, Nat.testBit_two_pow_sub_succ h]
 simp
 intro h1 h2
 exact h1
theorem and_odd (m m' : Nat) (h : m &&& m' = 0) : (2 * m + 1) &&& (2 * m' + 1) = 1 := by
 apply Nat.eq_of_testBit_eq
 intro i
 rw [Nat.testBit_and]
 cases i with
 | zero => simp
 | succ i =>
  have h1 : (2 * m + 1).testBit (i + 1) = m.testBit i := by
   rw [Nat.testBit_succ]; congr 1; omega
  have h2 : (2 * m' + 1).testBit (i + 1) = m'.testBit i := by
   rw [Nat.testBit_succ]; congr 1; omega
  have h3 : (1 : Nat).testBit (i + 1) = false := by rw [Nat.testBit_succ]; simp
  rw [h1, h2, h3, <- Nat.testBit_and, h, Nat.zero_testBit]
theorem and_neg (t m : Nat) (h : 2 ^ t * (2 * m + 1) < 2 ^ 64) : (2 ^ t * (2 * m + 1)) &&& (2 ^ 64 - 2 ^ t * (2 * m + 1)) = 2 ^ t := by
 have ht : t < 64 := by
  refine (Nat.pow_lt_pow_iff_right (a := 2) (by omega)).mp (Nat.lt_of_le_of_lt ?_ h)
  exact Nat.le_mul_of_pos_right _ (by omega)
 obtain ⟨u, hu⟩ : ∃ u, 64 = t + 1 + u := ⟨63 - t, by omega⟩
 have e : 2 ^ 64 = 2 ^ t * (2 * 2 ^ u) := by rw [hu, Nat.pow_add, Nat.pow_succ, Nat.mul_assoc]
 have hm : m < 2 ^ u := by
  rw [e] at h
  have := Nat.lt_of_mul_lt_mul_left h
  omega
 have e2 : 2 ^ 64 - 2 ^ t * (2 * m + 1) = 2 ^ t * (2 * (2 ^ u - (m + 1)) + 1) := by
  rw [e, <- Nat.mul_sub]; congr 1; omega
 rw [e2]
 have hs := Nat.shiftLeft_and_distrib (a := 2 * m + 1) (b := 2 * (2 ^ u - (m + 1)) + 1) (i := t)
 simp only [Nat.shiftLeft_eq] at hs
 rw [Nat.mul_comm (2 ^ t), Nat.mul_comm (2 ^ t), <- hs, and_odd _ _ (and_compl u m hm), Nat.one_mul]
def dbOk (t : Nat) : Bool := dbTab.getD (2 ^ t * 285870213051353865 % 18446744073709551616 / 288230376151711744) 0 == (t : Int)
theorem db_all' : ∀ t : Nat, t < 64 -> dbOk t = true
 | 0, _ => by decide +kernel
 | 1, _ => by decide +kernel
 | 2, _ => by decide +kernel
 | 3, _ => by decide +kernel
 | 4, _ => by decide +kernel
 | 5, _ => by decide +kernel
 | 6, _ => by decide +kernel
 | 7, _ => by decide +kernel
 | 8, _ => by decide +kernel
 | 9, _ => by decide +kernel
 | 10, _ => by decide +kernel
 | 11, _ => by decide +kernel
 | 12, _ => by decide +kernel
 | 13, _ => by decide +kernel
 | 14, _ => by decide +kernel
 | 15, _ => by decide +kernel
 | 16, _ => by decide +kernel
 | 17, _ => by decide +kernel
 | 18, _ => by decide +kernel
 | 19, _ => by decide +kernel
 | 20, _ => by decide +kernel
 | 21, _ => by decide +kernel
 | 22, _ => by decide +kernel
 | 23, _ => by decide +kernel
 | 24, _ => by decide +kernel
 | 25, _ => by decide +kernel
 | 26, _ => by decide +kernel
 | 27, _ => by decide +kernel
 | 28, _ => by decide +kernel
 | 29, _ => by decide +kernel
 | 30, _ => by decide +kernel
 | 31, _ => by decide +kernel
 | 32, _ => by decide +kernel
 | 33, _ => by decide +kernel
 | 34, _ => by decide +kernel
 | 35, _ => by decide +kernel
 | 36, _ => by decide +kernel
 | 37, _ => by decide +kernel
 | 38, _ => by decide +kernel
 | 39, _ => by decide +kernel
 | 40, _ => by decide +kernel
 | 41, _ => by decide +kernel
 | 42, _ => by decide +kernel
 | 43, _ => by decide +kernel
 | 44, _ => by decide +kernel
 | 45, _ => by decide +kernel
 | 46, _ => by decide +kernel
 | 47, _ => by decide +kernel
 | 48, _ => by decide +kernel
 | 49, _ => by decide +kernel
 | 50, _ => by decide +kernel
 | 51, _ => by decide +kernel
 | 52, _ => by decide +kernel
 | 53, _ => by decide +kernel
 | 54, _ => by decide +kernel
 | 55, _ => by decide +kernel
 | 56, _ => by decide +kernel
 | 57, _ => by decide +kernel
 | 58, _ => by decide +kernel
 | 59, _ => by decide +kernel
 | 60, _ => by decide +kernel
 | 61, _ => by decide +kernel
 | 62, _ => by decide +kernel
 | 63, _ => by decide +kernel
 | n + 64, h => absurd h (by omega)
theorem db_all (t : Nat) (h : t < 64) : dbTab.getD (2 ^ t * 285870213051353865 % 18446744073709551616 / 288230376151711744) 0 = (t : Int) := by
 have := db_all' t h
 simpa [dbOk] using this
theorem tzF_odd (t m : Nat) (h : 2 ^ t * (2 * m + 1) < 2 ^ 64) : tzF ((2 ^ t * (2 * m + 1) : Nat) : Int) = t := by
 obtain ⟨x, hx⟩ : ∃ x, x = 2 ^ t * (2 * m + 1) := ⟨_, rfl⟩
 have ha := and_neg t m h
 have ht : t < 64 := by
  refine (Nat.pow_lt_pow_iff_right (a := 2) (by omega)).mp (Nat.lt_of_le_of_lt ?_ h)
  exact Nat.le_mul_of_pos_right _ (by omega)
 have hp : 0 < x := by rw [hx]; exact Nat.mul_pos (Nat.pow_pos (by omega)) (by omega)
 rw [<- hx] at ha h ⊢
 have hn : IntKind.u64.wrap (-(x : Int)) = ((2 ^ 64 - x : Nat) : Int) := by
  rw [IntKind.wrap_u64]; omega
 have hi : tzI x = ((2 ^ t * 285870213051353865 % 18446744073709551616 / 288230376151711744 : Nat) : Int) := by
  unfold tzI
  rw [hn, bits_and_u64_nat _ _ (by omega) (by omega), ha, IntKind.wrap_u64]
  obtain ⟨q, hq⟩ : ∃ q, q = 2 ^ t := ⟨_, rfl⟩
  rw [<- hq]
  omega
 have hd := db_all t ht
 obtain ⟨i, hI⟩ : ∃ i, i = 2 ^ t * 285870213051353865 % 18446744073709551616 / 288230376151711744 := ⟨_, rfl⟩
 rw [<- hI] at hi hd
 rw [tzF, if_neg (by omega), hi, Int.toNat_natCast]
 exact hd
theorem odd_part : ∀ (n x : Nat), x < n -> 0 < x -> ∃ t m, x = 2 ^ t * (2 * m + 1)
 | 0, x, h, _ => by omega
 | n + 1, x, h, h0 => by
  by_cases h2 : x % 2 = 1
  ·exact ⟨0, x / 2, by simp; omega⟩
  ·obtain ⟨t, m, e⟩ := odd_part n (x / 2) (by omega) (by omega)
   exact ⟨t + 1, m, by rw [Nat.pow_succ, Nat.mul_comm _ 2, Nat.mul_assoc, <- e]; omega⟩
theorem pow_bit (t m j : Nat) (h : j < t) : 2 ^ t * (2 * m + 1) / 2 ^ j % 2 = 0 := by
 obtain ⟨u, rfl⟩ : ∃ u, t = j + (u + 1) := ⟨t - j - 1, by omega⟩
 rw [Nat.pow_add, Nat.mul_assoc, Nat.mul_div_cancel_left _ (Nat.pow_pos (by omega)), Nat.pow_succ, Nat.mul_assoc, Nat.mul_comm, Nat.mul_assoc]
 exact Nat.mul_mod_right 2 _
theorem pow_bit_t (t m : Nat) : 2 ^ t * (2 * m + 1) / 2 ^ t % 2 = 1 := by
 rw [Nat.mul_div_cancel_left _ (Nat.pow_pos (by omega))]; omega
theorem hgt_end (x h : Nat) (hx : x < 2 ^ 64) (h0 : ∀ j, j < h -> bitN x j = 0) (h1 : h = 11 ∨ (h < 11 /\ bitN x h ≠ 0)) : (if 12 < tzF (x : Int) + 1 then 12 else tzF (x : Int) + 1) = (h : Int) + 1 := by
 by_cases hz : x = 0
 ·subst hz
  rcases h1 with rfl | ⟨_, h1⟩
  ·rfl
  ·exact absurd (by simp [bitN]) h1
 ·obtain ⟨t, m, e⟩ := odd_part (x + 1) x (by omega) (by omega)
  have ht : tzF (x : Int) = t := by rw [e]; exact tzF_odd t m (by omega)
  rw [ht]
  have k1 : h <= t := by
   refine Nat.le_of_not_lt fun hlt => ?_
   have := h0 t hlt
   rw [bitN_lt hx, e, pow_bit_t] at this
   omega
  rcases h1 with rfl | ⟨h2, h1⟩
  ·split <;> omega
  ·have k2 : t <= h := by
    refine Nat.le_of_not_lt fun hlt => h1 ?_
    rw [bitN_lt hx, e, pow_bit t m h hlt]
   split <;> omega
def mulN (a b : Nat) : Nat := a * b % 2 ^ 64
theorem mulN_lt (a b : Nat) : mulN a b < 2 ^ 64 := Nat.mod_lt _ (by omega)
def mixN (x : Nat) : Nat := exN (mulN (exN (mulN (exN x 30) 13787848793156543929) 27) 10723151780598845931) 31
theorem mixN_lt (x : Nat) : mixN x < 2 ^ 64 := exN_lt (mulN_lt _ _) _
theorem ex_bits (x s : Nat) (hx : x < 2 ^ 64) (p : Nat) (hp : p = 2 ^ s) : bits .xor .u64 (x : Int) ((x : Int) / (p : Int)) = ((exN x s : Nat) : Int) := by
 rw [xorShift_u64 x p (by omega), exN, hp]
theorem mul_bits (x c : Nat) : IntKind.u64.wrap ((x : Int) * (c : Int)) = ((mulN x c : Nat) : Int) := by
 rw [IntKind.wrap_u64, mulN, Int.natCast_emod, Int.natCast_mul]; rfl
theorem mixF_nat (x : Nat) (hx : x < 2 ^ 64) : mixF (x : Int) = ((mixN x : Nat) : Int) := by
 have e1 : x1 (x : Int) = ((exN x 30 : Nat) : Int) := ex_bits x 30 hx 1073741824 (by decide)
 have e2 : x2 (x : Int) = ((mulN (exN x 30) 13787848793156543929 : Nat) : Int) := by
  rw [x2, e1]; exact mul_bits _ 13787848793156543929
 have e3 : x3 (x : Int) = ((exN (mulN (exN x 30) 13787848793156543929) 27 : Nat) : Int) := by
  rw [x3, e2]; exact ex_bits _ 27 (mulN_lt _ _) 134217728 (by decide)
 have e4 : x4 (x : Int) = ((mulN (exN (mulN (exN x 30) 13787848793156543929) 27) 10723151780598845931 : Nat) : Int) := by
  rw [x4, e3]; exact mul_bits _ 10723151780598845931
 rw [mixF, e4]
 exact ex_bits _ 31 (mulN_lt _ _) 2147483648 (by decide)
theorem bit_any (x n : Nat) (hx : x < 2 ^ 64) (hn : n <= 1000) (w : World) : Calls Tryz.prog 144 #[.int .u64 x, .int .i64 n] w fun e w' => e = .returned (.int .u64 (bitN x n : Nat)) /\ w = w' := by
 by_cases h : 63 < n
 ·have H : Hid (bitN x n = 0) := hide (by rw [bitN, if_pos h])
  have g : ((63 : Int) < (n : Int)) := by omega
  clear hx h
  go_enter Tryz.func144, Tryz.ntmps144
  go_wp2
  go_ret
  exact ⟨by rw [H.out]; rfl, rfl⟩
 ·have H : Hid (bitN x n = x / 2 ^ n % 2) := hide (by rw [bitN, if_neg h])
  obtain ⟨q, hq⟩ : ∃ q, q = x / 2 ^ n := ⟨_, rfl⟩
  rw [<- hq] at H
  have hq1 : (x : Int) / 2 ^ n = (q : Int) := by rw [hq, Int.natCast_ediv, Int.natCast_pow]; rfl
  have hql : q < 2 ^ 64 := by rw [hq]; exact Nat.lt_of_le_of_lt (Nat.div_le_self _ _) hx
  have hq2 : IntKind.u64.wrap ((q : Int).tmod 2) = ((q % 2 : Nat) : Int) := by
   rw [IntKind.wrap_u64, Int.tmod_eq_emod_of_nonneg (by omega)]; omega
  have g : ¬((63 : Int) < (n : Int)) := by omega
  have g0 : (0 : Int) <= (n : Int) := by omega
  have g1 : (n : Int) <= 64 := by omega
  clear hx h hq
  go_enter Tryz.func144, Tryz.ntmps144
  go_wp2
  go_ret
  exact ⟨by rw [H.out]; rfl, rfl⟩
def ExRel (x n : Nat) (w : World) (ov kv : Value) (wr : World) : Prop := ∃ j : Nat, j <= 64 /\ kv = .int .i64 ((j : Int) - 1) /\ ov = .int .u64 ((exN x n / 2 ^ j : Nat) : Int) /\ w = wr
theorem exchanged_any (x n : Nat) (hx : x < 2 ^ 64) (hn : n <= 64) (w : World) : Calls Tryz.prog 143 #[.int .u64 x, .int .i64 n] w fun e w' => e = .returned (.int .u64 (exN x n : Nat)) /\ w = w' := by
 have HB := hide (fun k W (h : k <= 1000) => bit_any x k hx h W)
 have HX := hide hx
 clear hx
 go_enter Tryz.func143, Tryz.ntmps143
 go_wp2
 go_loopw [5, 6] (ExRel x n w) (fun _ k _ => (intOf k + 1).toNat)
 case atStart => exact ⟨64, by omega, rfl, by rw [Nat.div_eq_of_lt (exN_lt HX.out n)]; rfl, rfl⟩
 case round =>
  obtain ⟨j, hj, rfl, rfl, rfl⟩ := hrel
  cases j with
  | zero =>
   go_wp2
   go_ret
   exact ⟨by simp, rfl⟩
  | succ m =>
   have e0 : ((m + 1 : Nat) : Int) - 1 = (m : Int) := by omega
   rw [e0]
   have HS := hide (exN_step HX.out n m)
   have hL := bitN_le x m
   have hM := bitN_le x (m + n)
   have hO : exN x n / 2 ^ (m + 1) < 2 ^ 63 := by
    have := exN_lt HX.out n
    refine Nat.div_lt_of_lt_mul (Nat.lt_of_lt_of_le this ?_)
    have h2 : 1 <= 2 ^ m := Nat.pow_pos (by omega)
    rw [Nat.pow_succ]
    omega
   have HB1 := hide (fun W => HB.out m W (by omega))
   have HB2 := hide (fun W => HB.out (m + n) W (by omega))
   obtain ⟨o, ho⟩ : ∃ o, o = exN x n / 2 ^ (m + 1) := ⟨_, rfl⟩
   obtain ⟨p, hp⟩ : ∃ p, p = bitN x m := ⟨_, rfl⟩
   obtain ⟨q, hq⟩ : ∃ q, q = bitN x (m + n) := ⟨_, rfl⟩
   rw [<- ho] at HS hO ⊢
   rw [<- hp] at HB1 HS hL
   rw [<- hq] at HB2 HS hM
   clear ho hp hq
   have s0 : IntKind.i64.wrap ((m : Int) + (n : Int)) = ((m + n : Nat) : Int) := by rw [IntWalk.i64_in _ (by omega)]; omega
   have s1 : IntKind.u64.wrap (2 * (o : Int)) = ((2 * o : Nat) : Int) := by rw [IntKind.wrap_u64]; omega
   have s2 : IntKind.u64.wrap ((p : Int) + (q : Int)) = ((p + q : Nat) : Int) := by rw [IntKind.wrap_u64]; omega
   have s3 : IntKind.u64.wrap (((p + q : Nat) : Int).tmod 2) = (((p + q) % 2 : Nat) : Int) := by rw [IntKind.wrap_u64, Int.tmod_eq_emod_of_nonneg (by omega)]; omega
   have s4 : IntKind.u64.wrap (((2 * o : Nat) : Int) + (((p + q) % 2 : Nat) : Int)) = ((2 * o + (p + q) % 2 : Nat) : Int) := by rw [IntKind.wrap_u64]; omega
   have s5 : IntKind.i64.wrap ((m : Int) - 1) = (m : Int) - 1 := IntWalk.i64_in _ (by omega)
   obtain ⟨S, hS⟩ : ∃ S, S = m + n := ⟨_, rfl⟩
   obtain ⟨R, hR⟩ : ∃ R, R = p + q := ⟨_, rfl⟩
   obtain ⟨D, hD⟩ : ∃ D, D = 2 * o := ⟨_, rfl⟩
   rw [<- hS] at s0 HB2
   rw [<- hR] at s2 s3 s4 HS
   rw [<- hD] at s1 s4 HS
   obtain ⟨C, hC⟩ : ∃ C, C = R % 2 := ⟨_, rfl⟩
   rw [<- hC] at s3 s4 HS
   have g0 : (0 : Int) <= (m : Int) := by omega
   have s6 : IntKind.u64.wrap ((D : Int) + (R : Int) % 2) = ((D + C : Nat) : Int) := by rw [<- s4, hC]; rfl
   clear hS hR hD hC
   go_wp2_with fail
   with_reducible refine (HB1.out _).mono ?_
   rintro e w1 ⟨rfl, rfl⟩
   go_wp2_with fail
   with_reducible refine (HB2.out _).mono ?_
   rintro e w1 ⟨rfl, rfl⟩
   go_wp2
   go_roundw
   case rel => exact ⟨m, by omega, rfl, by rw [HS.out, Int.natCast_add], rfl⟩
   case measure => (simp [intOf] <;> omega)
theorem exchanged_at (x n : Nat) (N : Int) (hN : N = (n : Int)) (hx : x < 2 ^ 64) (hn : n <= 64) (w : World) : Calls Tryz.prog 143 #[.int .u64 x, .int .i64 N] w fun e w' => e = .returned (.int .u64 (exN x n : Nat)) /\ w = w' := by
 rw [hN]; exact exchanged_any x n hx hn w
def TwRel (a b : Nat) (w : World) (ov kv : Value) (wr : World) : Prop := ∃ j : Nat, j <= 64 /\ kv = .int .i64 ((j : Int) - 1) /\ ov = .int .u64 ((b / 2 ^ j * a % 2 ^ 64 : Nat) : Int) /\ w = wr
theorem timesTwo_any (a b : Nat) (ha : a < 2 ^ 64) (hb : b < 2 ^ 64) (w : World) : Calls Tryz.prog 142 #[.int .u64 a, .int .u64 b] w fun e w' => e = .returned (.int .u64 (mulN a b : Nat)) /\ w = w' := by
 have HB := hide (fun k W (h : k <= 1000) => bit_any b k hb h W)
 have HX := hide hb
 have HA := hide ha
 clear ha hb
 go_enter Tryz.func142, Tryz.ntmps142
 go_wp2
 go_loopw [5, 6] (TwRel a b w) (fun _ k _ => (intOf k + 1).toNat)
 case atStart => exact ⟨64, by omega, rfl, by rw [Nat.div_eq_of_lt HX.out]; simp, rfl⟩
 case round =>
  obtain ⟨j, hj, rfl, rfl, rfl⟩ := hrel
  cases j with
  | zero =>
   go_wp2
   go_ret
   exact ⟨by rw [mulN, Nat.mul_comm]; simp, rfl⟩
  | succ m =>
   have e0 : ((m + 1 : Nat) : Int) - 1 = (m : Int) := by omega
   rw [e0]
   have HS := hide (mul_step a b m)
   have HL := hide (bitN_lt HX.out m)
   have hL := bitN_le b m
   have HB1 := hide (fun W => HB.out m W (by omega))
   have hO : b / 2 ^ (m + 1) * a % 2 ^ 64 < 2 ^ 64 := Nat.mod_lt _ (by omega)
   have hA := HA.out
   obtain ⟨o, ho⟩ : ∃ o, o = b / 2 ^ (m + 1) * a % 2 ^ 64 := ⟨_, rfl⟩
   obtain ⟨p, hp⟩ : ∃ p, p = bitN b m := ⟨_, rfl⟩
   rw [<- ho] at HS hO ⊢
   rw [<- hp] at HB1 HL hL
   rw [<- HL.out] at HS
   clear ho hp HL
   have s1 : IntKind.u64.wrap ((o : Int) + (o : Int)) = ((2 * o % 2 ^ 64 : Nat) : Int) := by rw [IntKind.wrap_u64]; omega
   have s5 : IntKind.i64.wrap ((m : Int) - 1) = (m : Int) - 1 := IntWalk.i64_in _ (by omega)
   have s4 : IntKind.u64.wrap (((2 * o % 2 ^ 64 : Nat) : Int) + (a : Int)) = (((2 * o % 2 ^ 64 + a) % 2 ^ 64 : Nat) : Int) := by rw [IntKind.wrap_u64]; omega
   obtain ⟨D, hD⟩ : ∃ D, D = 2 * o % 2 ^ 64 := ⟨_, rfl⟩
   have hDl : D < 2 ^ 64 := by rw [hD]; exact Nat.mod_lt _ (by omega)
   rw [<- hD] at s1 s4 HS
   obtain ⟨E, hE⟩ : ∃ E, E = (D + a) % 2 ^ 64 := ⟨_, rfl⟩
   rw [<- hE] at s4
   have g0 : (0 : Int) <= (m : Int) := by omega
   have hp01 : p = 0 ∨ p = 1 := by omega
   have HE := hide hE
   have HDl := hide hDl
   clear hD hE hDl
   go_wp2_with fail
   with_reducible refine (HB1.out _).mono ?_
   rintro e w1 ⟨rfl, rfl⟩
   rcases hp01 with rfl | rfl
   ·go_wp2
    go_roundw
    case rel => exact ⟨m, by omega, rfl, by rw [HS.out, Nat.zero_mul, Nat.add_zero, Nat.mod_eq_of_lt HDl.out], rfl⟩
    case measure => (simp [intOf] <;> omega)
   ·go_wp2
    go_roundw
    case rel => exact ⟨m, by omega, rfl, by rw [HS.out, Nat.one_mul, HE.out], rfl⟩
    case measure => (simp [intOf] <;> omega)
theorem timesTwo_at (a b : Nat) (B : Int) (hB : B = (b : Int)) (ha : a < 2 ^ 64) (hb : b < 2 ^ 64) (w : World) : Calls Tryz.prog 142 #[.int .u64 a, .int .u64 B] w fun e w' => e = .returned (.int .u64 (mulN a b : Nat)) /\ w = w' := by
 rw [hB]; exact timesTwo_any a b ha hb w
def HoRel (x : Nat) (w : World) (hv : Value) (wr : World) : Prop := ∃ h : Nat, h <= 11 /\ hv = .int .i64 ((h : Int) + 1) /\ (∀ j, j < h -> bitN x j = 0) /\ w = wr
theorem heightR_any (key : Int) (w : World) : Calls Tryz.prog 91 #[.int .i64 key] w fun e w' => e = .returned (.int .i64 (hgtF key)) /\ w = w' := by
 obtain ⟨k0, hk0⟩ : ∃ k : Nat, IntKind.u64.wrap key = (k : Int) := ⟨(IntKind.u64.wrap key).toNat, by rw [IntKind.wrap_u64]; omega⟩
 have hkl : k0 < 2 ^ 64 := by rw [IntKind.wrap_u64] at hk0; omega
 have HX1 := hide (fun W => exchanged_at k0 30 30 rfl hkl (by omega) W)
 have HX2 := hide (fun W => timesTwo_at (exN k0 30) 13787848793156543929 13787848793156543929 rfl (exN_lt hkl _) (by omega) W)
 have HX3 := hide (fun W => exchanged_at (mulN (exN k0 30) 13787848793156543929) 27 27 rfl (mulN_lt _ _) (by omega) W)
 have HX4 := hide (fun W => timesTwo_at (exN (mulN (exN k0 30) 13787848793156543929) 27) 10723151780598845931 10723151780598845931 rfl (exN_lt (mulN_lt _ _) _) (by omega) W)
 have HX5 := hide (fun W => exchanged_at (mulN (exN (mulN (exN k0 30) 13787848793156543929) 27) 10723151780598845931) 31 31 rfl (mulN_lt _ _) (by omega) W)
 have HF : Hid (hgtF key = if 12 < tzF ((mixN k0 : Nat) : Int) + 1 then 12 else tzF ((mixN k0 : Nat) : Int) + 1) := hide (by rw [hgtF, hk0, mixF_nat k0 hkl])
 have HML := hide (mixN_lt k0)
 obtain ⟨a1, h1⟩ : ∃ a, a = exN k0 30 := ⟨_, rfl⟩
 rw [<- h1] at HX1 HX2 HX3 HX4 HX5
 obtain ⟨a2, h2⟩ : ∃ a, a = mulN a1 13787848793156543929 := ⟨_, rfl⟩
 rw [<- h2] at HX2 HX3 HX4 HX5
 obtain ⟨a3, h3⟩ : ∃ a, a = exN a2 27 := ⟨_, rfl⟩
 rw [<- h3] at HX3 HX4 HX5
 obtain ⟨a4, h4⟩ : ∃ a, a = mulN a3 10723151780598845931 := ⟨_, rfl⟩
 rw [<- h4] at HX4 HX5
 obtain ⟨x, h5⟩ : ∃ a, a = mixN k0 := ⟨_, rfl⟩
 have h6 : exN a4 31 = x := by rw [h5, mixN, h4, h3, h2, h1]
 rw [h6] at HX5
 rw [<- h5] at HF HML
 have HB := hide (fun k W (h : k <= 1000) => bit_any x k HML.out h W)
 clear h1 h2 h3 h4 h5 h6 hkl
 go_enter Tryz.func91, Tryz.ntmps91
 go_wp2_with fail
 with_reducible refine (HX1.out _).mono ?_
 rintro e w1 ⟨rfl, rfl⟩
 go_wp2_with fail
 with_reducible refine (HX2.out _).mono ?_
 rintro e w1 ⟨rfl, rfl⟩
 go_wp2_with fail
 with_reducible refine (HX3.out _).mono ?_
 rintro e w1 ⟨rfl, rfl⟩
 go_wp2_with fail
 with_reducible refine (HX4.out _).mono ?_
 rintro e w1 ⟨rfl, rfl⟩
 go_wp2_with fail
 with_reducible refine (HX5.out _).mono ?_
 rintro e w1 ⟨rfl, rfl⟩
 go_wp2
 go_loopw [4] (HoRel x w) (fun h _ => (12 - intOf h).toNat)
 case atStart => exact ⟨0, by omega, rfl, fun j h => by omega, rfl⟩
 case round =>
  obtain ⟨h, hh, rfl, hz, rfl⟩ := hrel
  have HZ := hide hz
  clear hz
  by_cases he : h = 11
  ·subst he
   go_wp2
   go_ret
   exact ⟨by rw [HF.out, hgt_end x 11 HML.out HZ.out (Or.inl rfl)]; rfl, rfl⟩
  ·have hlt : ((h : Int) + 1 < 12) := by omega
   have s0 : IntKind.i64.wrap ((h : Int) + 1 - 1) = (h : Int) := by rw [IntWalk.i64_in _ (by omega)]; omega
   have s1 : IntKind.i64.wrap ((h : Int) + 1 + 1) = ((h + 1 : Nat) : Int) + 1 := by rw [IntWalk.i64_in _ (by omega)]; omega
   have HB1 := hide (fun W => HB.out h W (by omega))
   obtain ⟨p, hp⟩ : ∃ p, p = bitN x h := ⟨_, rfl⟩
   rw [<- hp] at HB1
   go_wp2_with fail
   with_reducible refine (HB1.out _).mono ?_
   rintro e w1 ⟨rfl, rfl⟩
   by_cases hp0 : p = 0
   ·subst hp0
    go_wp2
    go_roundw
    case rel => exact ⟨h + 1, by omega, rfl, fun j hj => (Nat.lt_succ_iff_lt_or_eq.mp hj).elim (HZ.out j) (fun h1 => by rw [h1]; exact hp.symm), rfl⟩
    case measure => (simp [intOf] <;> omega)
   ·have g0 : ((p : Int) == 0) = false := by simpa using hp0
    go_wp2
    go_ret
    exact ⟨by rw [HF.out, hgt_end x h HML.out HZ.out (Or.inr ⟨by omega, by rw [<- hp]; exact hp0⟩)]; rfl, rfl⟩
def RoRel (ks : List Int) (w : World) (ov kv : Value) (wr : World) : Prop :=
 ∃ r : Nat, r <= 12 /\ kv = .int .i64 (r : Int) /\ OWS wr w.heap.size 69 3 eInt ov ((List.range r).map (rowK ks)) /\ (∀ q, q < r -> rowK ks q ≠ []) /\ Kp w wr
def RiRel (ks : List Int) (r : Nat) (w : World) (lv iv : Value) (wr : World) : Prop :=
 ∃ k : Nat, k <= ks.length /\ iv = .int .i64 (k : Int) /\ OW wr w.heap.size 3 eInt lv (rowK (ks.take k) r) /\ Kp w wr
theorem rowsOf_any (ks : List Int) (v : Value) (w : World) (hr : RD w eInt v ks) (hn : ks.length <= 1000) : Calls Tryz.prog 52 #[v] w (fun e w' => ∃ u, e = .returned u /\ RDS w' eInt u (rowsN ks 12) /\ Kp w w') := by
 obtain ⟨A, c, rfl, hc, hm⟩ := hr.shape
 have HR := hide hr
 clear hr
 go_enter Tryz.func52, Tryz.ntmps52
 go_wp2
 go_loopw [3, 4] (RoRel ks w) (fun _ k _ => 13 - (intOf k).toNat)
 case atStart => exact ⟨0, by omega, rfl, OWS.nil, fun q h => by omega, Kp.refl _⟩
 case round =>
  obtain ⟨r, hr, rfl, hows, hne, hkp⟩ := hrel
  have HOWS := hide hows
  have HKP := hide hkp
  have HNE := hide hne
  have HREL : Hid (RiRel ks r wr (.slice none 0 0) (.int .i64 0) wr) := hide ⟨0, by omega, rfl, OW.nil, Kp.refl _⟩
  clear hows hkp hne
  go_wp2
  obtain ⟨w1, hw1⟩ : ∃ w1, w1 = wr := ⟨_, rfl⟩
  have HRS := hide hw1
  go_loopw [5, 12] (RiRel ks r w1) (fun _ k _ => ks.length - (intOf k).toNat)
  case atStart => rw [hw1]; exact HREL.out
  case round =>
   clear HREL
   obtain ⟨k, hk, rfl, hol, hkp1⟩ := hrel
   have HK1 := hide hkp1
   have HOL := hide hol
   have HHI := hide hol.hi
   have hnl : (rowK (ks.take k) r).length <= 1000 := Nat.le_trans (rowK_len _ _) (by simp; omega)
   by_cases hlt : k < ks.length
   ·obtain ⟨b, o, rfl, _, c0⟩ := (HR.out.kp (HKP.out.trans (by rw [<- HRS.out]; exact hkp1))).int hlt
    have htk := rowK_take ks r k hlt
    obtain ⟨y, hy⟩ : ∃ y, y = ks[k] := ⟨_, rfl⟩
    rw [<- hy] at c0 htk
    have HHG := hide (fun W => heightR_any y W)
    obtain ⟨ht, hht⟩ : ∃ ht, ht = hgtF y := ⟨_, rfl⟩
    rw [<- hht] at HHG htk
    by_cases hgo : (r : Int) < ht
    ·rw [if_pos hgo] at htk
     have HTK := hide htk
     have d1 : decide ((r : Int) < ht) = true := decide_eq_true hgo
     have HM1 : Hid (((rowK (ks.take k) r).length + [y].length) * 8 <= 140737488355328) := hide (by simp; omega)
     have HM2 : Hid ((rowK (ks.take k) r).length + [y].length <= maxLen) := hide (by simp [maxLen]; omega)
     clear hol hnl hy hkp1 htk hgo hht
     go_wp2_with fail
     with_reducible refine (HHG.out _).mono ?_
     rintro e w5 ⟨rfl, rfl⟩
     go_wp2_with (at_builtin; (with_reducible refine list_app (B := w1.heap.size) (l := (rowK (ks.take k) r)) (m := [y]) row_int u5 ?_ (.tmp 20) (.tmp 22) ?_ ?_ ?_ ?_ HM1.out HM2.out ?_ ?_); (with_reducible rfl); (with_reducible rfl); rfl; (exact HOL.out.alloc _); (show RD _ _ (.slice (some ⟨_, 0, none⟩) 1 1) _; (exact RD.auto)); (have := HK1.out.size; simp; omega); intro v3 w3 ho3 hg3 hat3)
     go_roundw
     case rel => exact ⟨k + 1, by omega, by go_num, by rw [HTK.out]; exact ho3, Kp.app hg3 HK1.out.alloc HHI.out⟩
     case measure => simp [intOf] <;> omega
    ·rw [if_neg hgo, List.append_nil] at htk
     have HTK := hide htk
     have d1 : decide ((r : Int) < ht) = false := decide_eq_false hgo
     clear hol hnl hy hkp1 htk hgo hht
     go_wp2_with fail
     with_reducible refine (HHG.out _).mono ?_
     rintro e w5 ⟨rfl, rfl⟩
     go_wp2
     go_roundw
     case rel => exact ⟨k + 1, by omega, by go_num, by rw [HTK.out]; exact HOL.out, HK1.out⟩
     case measure => simp [intOf] <;> omega
   ·have htk : ks.take k = ks := List.take_of_length_le (by omega)
    rw [htk] at HOL hnl
    obtain ⟨A5, c5, hv5, _, _⟩ := HOL.out.rd.shape
    subst hv5
    obtain ⟨N5, hN5⟩ : ∃ N5, N5 = (rowK ks r).length := ⟨_, rfl⟩
    rw [<- hN5] at HOL HHI ⊢
    have HN5 := hide hN5
    have hRS := HRS.out
    have HKW := hide (HKP.out.trans (by rw [<- hRS]; exact hkp1))
    have HOWS2 := hide (HOWS.out.kp (by rw [<- hRS]; exact hkp1))
    have hsz0 : w.heap.size <= w1.heap.size := by rw [hRS]; exact HKP.out.size
    have HSZ0 := hide hsz0
    clear hol hkp1 HOWS hw1 hRS hsz0 htk
    by_cases he : N5 = 0
    ·have hrs : Hid (rowsN ks 12 = (List.range r).map (rowK ks)) := hide (rowsN_is (List.eq_nil_of_length_eq_zero (by omega)) HNE.out)
     have d1 : ((N5 : Int) == 0) = true := by simp [he]
     clear hN5 he hnl
     go_wp2
     go_ret
     exact ⟨_, rfl, by rw [hrs.out]; exact HOWS2.out.rds (by rw [List.length_map, List.length_range]; unfold maxLen; omega), HKW.out⟩
    ·have hrow : rowK ks r ≠ [] := fun e => by rw [e] at hN5; exact he hN5
     have hr12 : r < 12 := by
      by_cases e : r = 12
      ·exact absurd (by rw [e]; exact rowK_12 ks) hrow
      ·omega
     have HRW := hide hrow
     have d1 : ((N5 : Int) == 0) = false := by simp [he]
     obtain ⟨vs, hv, hvl, hin⟩ := HOWS2.out
     have hvl2 : vs.length = r := by rw [hvl]; simp
     obtain ⟨A3, c3, hu3, _, _⟩ := hv.rd.shape
     subst hu3
     have hhi3 := hv.hi
     have HV := hide hv
     have HVL := hide hvl
     have HIN := hide hin
     have HM1 : Hid ((vs.length + [(⟨.slice A5 N5 c5, slice_one A5 N5 c5⟩ : V1)].length) * 24 <= 140737488355328) := hide (by simp; omega)
     have HM2 : Hid (vs.length + [(⟨.slice A5 N5 c5, slice_one A5 N5 c5⟩ : V1)].length <= maxLen) := hide (by simp [maxLen]; omega)
     have HHI3 := hide hhi3
     have s8 : IntKind.i64.wrap ((r : Int) + 1) = ((r + 1 : Nat) : Int) := by rw [IntWalk.i64_in _ (by omega)]; omega
     clear hN5 he hnl hv hvl hin hhi3 hrow hvl2
     go_wp2_with (at_builtin; (with_reducible refine list_app (B := w.heap.size) (l := vs) (m := [(⟨.slice A5 N5 c5, slice_one A5 N5 c5⟩ : V1)]) row_ints (.slice A3 vs.length c3) ?_ (.tmp 29) (.tmp 31) ?_ ?_ ?_ ?_ HM1.out HM2.out ?_ ?_); (with_reducible rfl); (with_reducible rfl); rfl; (exact HV.out.alloc _); (show RD _ _ (.slice (some ⟨_, 0, none⟩) 1 1) _; exact RD.new1e _ (by simp) rfl); (have := HKW.out.size; simp; omega); intro v3 w3 ho3 hg3 hat3)
     go_roundw
     case rel =>
      have kka : Kp wr (wr.alloc (.cells #[.slice A5 N5 c5] 69)) := (Kp.refl _).alloc
      have h1 := OWS.app (u := ⟨.slice A5 N5 c5, slice_one A5 N5 c5⟩) (l := rowK ks r) (HV.out.kp kka) HVL.out (fun k a b => (HIN.out k a b).kp kka) (by decide) ((HOL.out.more HSZ0.out).kp kka) ho3 hg3
      exact ⟨r + 1, by omega, rfl, by rw [List.range_succ, List.map_append]; exact h1, fun q hq => (by
       by_cases e : q = r
       ·rw [e]; exact HRW.out
       ·exact HNE.out q (by omega)), Kp.app hg3 HKW.out.alloc HHI3.out⟩
     case measure => simp [intOf] <;> omega
theorem krF_pair : ∀ (l : List Int) (la : Int), krF la l = 0 -> l.Pairwise (· < ·) /\ ∀ x ∈ l, la < x /\ x <= 1000000
 | [], _, _ => ⟨List.Pairwise.nil, fun x hx => by cases hx⟩
 | y :: t, la, h => by
  unfold krF at h
  split at h
  ·next hc =>
   obtain ⟨h1, h2⟩ := krF_pair t y h
   refine ⟨List.Pairwise.cons (fun x hx => (h2 x hx).1) h1, fun x hx => ?_⟩
   rcases List.mem_cons.1 hx with rfl | hx
   ·omega
   ·have := h2 x hx; omega
  ·omega
theorem krL_in {l : List Int} (h : krL l = 0) : l.length <= 200 /\ l.Pairwise (· < ·) /\ ∀ x ∈ l, 0 <= x /\ x <= 1000000 := by
 unfold krL at h
 split at h
 ·omega
 ·next hl =>
  obtain ⟨h1, h2⟩ := krF_pair l (-1) h
  exact ⟨by omega, h1, fun x hx => by have := h2 x hx; omega⟩
def stL (l : List Int) (key la : Int) : List Int := l.filter fun k => decide (la + 1 <= k /\ k <= key - 1)
def lastOr (l : List Int) (la : Int) : Int := l.getLast?.getD la
theorem lastOr_nil (la : Int) : lastOr [] la = la := rfl
theorem lastOr_snoc (l : List Int) (y la : Int) : lastOr (l ++ [y]) la = y := by simp [lastOr]
theorem lastOr_mem (l : List Int) (la : Int) : (l = [] /\ lastOr l la = la) ∨ lastOr l la ∈ l := by
 rcases List.eq_nil_or_concat l with rfl | ⟨l', y, rfl⟩
 ·exact .inl ⟨rfl, rfl⟩
 ·right
  rw [List.concat_eq_append, lastOr_snoc]; simp
theorem stL_take (l : List Int) (key la : Int) (k : Nat) (h : k < l.length) : stL (l.take (k + 1)) key la = stL (l.take k) key la ++ if la + 1 <= l[k] /\ l[k] <= key - 1 then [l[k]] else [] := by
 unfold stL
 rw [List.take_succ_eq_append_getElem h, List.filter_append]
 congr 1
 by_cases e : la + 1 <= l[k] /\ l[k] <= key - 1
 ·rw [if_pos e, List.filter_cons, if_pos (by simp only [decide_eq_true_eq]; exact e), List.filter_nil]
 ·rw [if_neg e, List.filter_cons, if_neg (by simp only [decide_eq_true_eq]; exact e), List.filter_nil]
theorem pair_lt {l : List Int} (hp : l.Pairwise (· < ·)) {j k : Nat} (hjk : j < k) (hk : k < l.length) : l[j] < l[k] := List.pairwise_iff_getElem.1 hp j k (by omega) hk hjk
theorem last_in (l : List Int) (key la : Int) (k : Nat) : (lastOr (stL (l.take k) key la) la = la) ∨ (lastOr (stL (l.take k) key la) la ∈ l.take k /\ la < lastOr (stL (l.take k) key la) la) := by
 rcases lastOr_mem (stL (l.take k) key la) la with ⟨_, h⟩ | h
 ·exact .inl h
 ·right
  unfold stL at h
  rw [List.mem_filter] at h
  unfold stL
  refine ⟨h.1, ?_⟩
  have := h.2
  simp only [decide_eq_true_eq] at this
  omega
theorem last_ok {l : List Int} (hp : l.Pairwise (· < ·)) (key la : Int) (k : Nat) (h : k < l.length) : (lastOr (stL (l.take k) key la) la + 1 <= l[k] /\ l[k] <= key - 1) ↔ (la + 1 <= l[k] /\ l[k] <= key - 1) := by
 rcases last_in l key la k with h1 | ⟨h1, h2⟩
 ·rw [h1]
 ·obtain ⟨j, hj, e⟩ := List.getElem_of_mem h1
  rw [List.getElem_take] at e
  have hj2 : j < k := by simp at hj; omega
  have := pair_lt hp hj2 h
  omega
def stRow (ks : List Int) (key la : Int) (r : Nat) : List Int := stL (rowK ks r) key la
def stAll (ks : List Int) (key : Int) : Nat -> List IP × Int
 | 0 => ([], -1)
 | n + 1 => ((stAll ks key n).1 ++ (stRow ks key (stAll ks key n).2 (11 - n)).map (fun k => (((11 - n : Nat) : Int), k)), lastOr (stRow ks key (stAll ks key n).2 (11 - n)) (stAll ks key n).2)
theorem rowK_pair {ks : List Int} (h : ks.Pairwise (· < ·)) (r : Nat) : (rowK ks r).Pairwise (· < ·) := List.Pairwise.filter _ h
theorem rowK_mem {ks : List Int} {r : Nat} {x : Int} (h : x ∈ rowK ks r) : x ∈ ks := (List.mem_filter.1 h).1
theorem stAll_empty {ks : List Int} {R : Nat} (h : ∀ q, R <= q -> rowK ks q = []) (key : Int) : ∀ n, n <= 12 - R -> stAll ks key n = ([], -1)
 | 0, _ => rfl
 | n + 1, hn => by
  rw [stAll, stAll_empty h key n (by omega)]
  unfold stRow
  rw [h (11 - n) (by omega)]; rfl
theorem stAll_in {ks : List Int} (hb : ∀ x ∈ ks, 0 <= x /\ x <= 1000000) (key : Int) : ∀ n, -1 <= (stAll ks key n).2 /\ (stAll ks key n).2 <= 1000000 /\ (stAll ks key n).1.length <= n * ks.length
 | 0 => by simp [stAll]
 | n + 1 => by
  obtain ⟨h1, h2, h3⟩ := stAll_in hb key n
  rw [stAll]
  simp only
  refine ⟨?_, ?_, ?_⟩
  ·rcases lastOr_mem (stRow ks key (stAll ks key n).2 (11 - n)) (stAll ks key n).2 with ⟨_, h⟩ | h
   ·rw [h]; exact h1
   ·have := hb _ (rowK_mem (List.mem_filter.1 h).1); omega
  ·rcases lastOr_mem (stRow ks key (stAll ks key n).2 (11 - n)) (stAll ks key n).2 with ⟨_, h⟩ | h
   ·rw [h]; exact h2
   ·have := hb _ (rowK_mem (List.mem_filter.1 h).1); omega
  ·rw [List.length_append, List.length_map]
   have h4 : (stRow ks key (stAll ks key n).2 (11 - n)).length <= ks.length := Nat.le_trans (List.length_filter_le _ _) (rowK_len _ _)
   rw [Nat.add_mul]; omega
theorem row_stop : Row Tryz.prog 93 96 ePair 16 := row_of (z := .agg #[.int .i64 0, .int .i64 0]) (n := 2) (by kernel_rfl) Tryz.underlying93 rfl rfl (by decide)
def StRel (ks : List Int) (key : Int) (w : World) (R : Nat) (ov lv kv : Value) (wr : World) : Prop :=
 ∃ j : Nat, j <= R /\ kv = .int .i64 ((j : Int) - 1) /\ OW wr w.heap.size 96 ePair ov (stAll ks key (12 - j)).1 /\ lv = .int .i64 (stAll ks key (12 - j)).2 /\ Kp w wr
def SksRel (l : List Int) (key la : Int) (acc : List IP) (r : Nat) (w : World) (ov lv iv : Value) (wr : World) : Prop :=
 ∃ k : Nat, k <= l.length /\ iv = .int .i64 (k : Int) /\ OW wr w.heap.size 96 ePair ov (acc ++ (stL (l.take k) key la).map (fun x => ((r : Int), x))) /\ lv = .int .i64 (lastOr (stL (l.take k) key la) la) /\ Kp w wr
theorem stopsR_any (ks : List Int) (key : Int) (v : Value) (w : World) (hr : RD w eInt v ks) (hkr : krL ks = 0) (hk0 : 0 <= key) (hk1 : key <= 1000000) : Calls Tryz.prog 55 #[v, .int .i64 key] w (RetRD ePair (stAll ks key 12).1 w) := by
 obtain ⟨hlen, hpair, hbnd⟩ := krL_in hkr
 obtain ⟨R, hR1, hR2, hR3, hR4⟩ := rowsN_range ks
 have HRO := hide (rowsOf_any ks v w hr (by omega))
 rw [hR2] at HRO
 have HPAIR := hide hpair
 have HBND := hide hbnd
 have HEMP := hide (stAll_empty hR3 key (12 - R) (Nat.le_refl _))
 have HIN := hide (fun n => stAll_in hbnd key n)
 have sR : IntKind.i64.wrap ((R : Int) - 1) = (R : Int) - 1 := IntWalk.i64_in _ (by omega)
 have sK : IntKind.i64.wrap (key - 1) = key - 1 := IntWalk.i64_in _ (by omega)
 clear hr hkr hpair hbnd hR2 hR3 hR4
 go_enter Tryz.func55, Tryz.ntmps55
 go_wp2_with fail
 with_reducible refine HRO.out.mono ?_
 rintro e w1 ⟨u, rfl, hrds, kk1⟩
 obtain ⟨A, c, hu, hc, hm⟩ := hrds.shape
 rw [List.length_map, List.length_range] at hu hc
 subst hu
 have HRDS := hide hrds
 have HREL : Hid (StRel ks key w1 R (.slice none 0 0) (.int .i64 (-1)) (.int .i64 ((R : Int) - 1)) w1) := hide ⟨R, Nat.le_refl _, rfl, by rw [HEMP.out]; exact OW.nil, by rw [HEMP.out], Kp.refl _⟩
 clear hrds
 go_wp2
 go_loopw [5, 6, 8] (StRel ks key w1 R) (fun _ _ k _ => (intOf k + 1).toNat)
 case atStart => exact HREL.out
 case round =>
  clear HREL
  obtain ⟨j, hj, rfl, hout, rfl, hkp⟩ := hrel
  have HOUT := hide hout
  have HKP := hide hkp
  clear hout
  cases j with
  | zero =>
   go_wp2
   go_ret
   exact ⟨_, rfl, HOUT.out.rd, (kk1.trans HKP.out).bel⟩
  | succ r =>
   have e0 : ((r + 1 : Nat) : Int) - 1 = (r : Int) := by omega
   rw [e0]
   obtain ⟨b, o, ux, rfl, _, cx1, rx⟩ := HRDS.out.at_ (k := r) (by simp; omega)
   have cx := hkp.cell cx1
   have erow : ((List.range R).map (rowK ks))[r]'(by simp; omega) = rowK ks r := by simp
   rw [erow] at rx
   obtain ⟨l, hl⟩ : ∃ l, l = rowK ks r := ⟨_, rfl⟩
   rw [<- hl] at rx
   obtain ⟨Ax, cxx, hux, hcx, hmx⟩ := rx.shape
   subst hux
   have HRX := hide rx
   have hlp : l.Pairwise (· < ·) := by rw [hl]; exact rowK_pair HPAIR.out r
   have hlb : ∀ x ∈ l, 0 <= x /\ x <= 1000000 := fun x hx => HBND.out x (rowK_mem (by rw [<- hl]; exact hx))
   have hll : l.length <= 200 := by rw [hl]; exact Nat.le_trans (rowK_len _ _) hlen
   obtain ⟨la, hla⟩ : ∃ la, la = (stAll ks key (12 - (r + 1))).2 := ⟨_, rfl⟩
   obtain ⟨acc, hacc⟩ : ∃ acc, acc = (stAll ks key (12 - (r + 1))).1 := ⟨_, rfl⟩
   rw [<- hla]
   rw [<- hacc] at HOUT
   obtain ⟨i1, i2, i3⟩ := HIN.out (12 - (r + 1))
   rw [<- hla] at i1 i2
   rw [<- hacc] at i3
   have hal : acc.length <= 2400 := Nat.le_trans i3 (Nat.le_trans (Nat.mul_le_mul (show 12 - (r + 1) <= 12 by omega) hlen) (by omega))
   have HNXT : Hid (stAll ks key (12 - r) = (acc ++ (stL l key la).map (fun x => ((r : Int), x)), lastOr (stL l key la) la)) := hide (by
    rw [show 12 - r = (12 - (r + 1)) + 1 from by omega, stAll, <- hla, <- hacc, show 11 - (12 - (r + 1)) = r from by omega]
    unfold stRow
    rw [<- hl])
   have HLP := hide hlp
   have HLB := hide hlb
   have j0 : (0 : Int) <= (r : Int) := by omega
   have j1 : (r : Int) < (R : Int) := by omega
   have HREL : Hid (SksRel l key la acc r w1 _ (.int .i64 la) (.int .i64 0) wr) := hide ⟨0, by omega, rfl, by rw [List.take_zero]; simpa [stL] using HOUT.out, by rw [List.take_zero]; rfl, hkp⟩
   have HJ := hide hj
   clear rx erow hl hla hacc i3 hlp hlb HOUT hj cx1
   go_wp2
   go_loopw [5, 6, 25] (SksRel l key la acc r w1) (fun _ _ k _ => l.length - (intOf k).toNat)
   case atStart => exact HREL.out
   case round =>
    clear HREL cx
    obtain ⟨k, hk, rfl, hout, rfl, hkp2⟩ := hrel
    have HOUT := hide hout
    have HK2 := hide hkp2
    have HHI := hide hout.hi
    obtain ⟨A5, N5, c5, hv5⟩ : ∃ A N c, u5 = .slice A N c := by
     obtain ⟨A, c, e, _⟩ := hout.rd
     exact ⟨A, _, c, e⟩
    subst hv5
    have hlin := last_in l key la k
    obtain ⟨la2, hla2⟩ : ∃ la2, la2 = lastOr (stL (l.take k) key la) la := ⟨_, rfl⟩
    rw [<- hla2] at hlin ⊢
    have hb2 : -1 <= la2 /\ la2 <= 1000000 := by
     rcases hlin with h | ⟨h, _⟩
     ·omega
     ·have := HLB.out _ (List.mem_of_mem_take h); omega
    have s2 : IntKind.i64.wrap (la2 + 1) = la2 + 1 := IntWalk.i64_in _ (by omega)
    have hsl : (stL (l.take k) key la).length <= 200 := Nat.le_trans (List.length_filter_le _ _) (by simp; omega)
    have HLA2 := hide hla2
    clear hout hlin hla2
    by_cases hlt : k < l.length
    ·obtain ⟨b3, o3, hAx, _, c0⟩ := (HRX.out.kp HK2.out).int hlt
     subst hAx
     have hok := last_ok HLP.out key la k hlt
     have htk := stL_take l key la k hlt
     rw [<- HLA2.out] at hok
     obtain ⟨y, hy⟩ : ∃ y, y = l[k] := ⟨_, rfl⟩
     rw [<- hy] at c0 hok htk
     by_cases hgo : la2 + 1 <= y /\ y <= key - 1
     ·rw [if_pos (hok.1 hgo)] at htk
      have HTK := hide htk
      have HBT := hide ((btw_iff y (la2 + 1) (key - 1)).2 hgo)
      have hxl : (acc ++ (stL (l.take k) key la).map (fun x => ((r : Int), x))).length <= 2600 := by simp; omega
      obtain ⟨X, hX⟩ : ∃ X, X = acc ++ (stL (l.take k) key la).map (fun x => ((r : Int), x)) := ⟨_, rfl⟩
      rw [<- hX] at HOUT hxl
      have HXE := hide hX
      have HM1 : Hid ((X.length + [(((r : Int), y) : IP)].length) * 16 <= 140737488355328) := hide (by simp; omega)
      have HM2 : Hid (X.length + [(((r : Int), y) : IP)].length <= maxLen) := hide (by simp [maxLen]; omega)
      clear hok htk hgo hy hX hxl hsl
      go_wp2_with fail
      with_reducible refine (between_to _ _ _ true _ HBT.out).mono ?_
      rintro e w' ⟨rfl, rfl⟩
      go_wp2_with (at_builtin; (with_reducible refine list_app (B := w1.heap.size) (l := X) (m := [(((r : Int), y) : IP)]) row_stop (.slice A5 N5 c5) ?_ (.tmp 35) (.tmp 39) ?_ ?_ ?_ ?_ HM1.out HM2.out ?_ ?_); (with_reducible rfl); (with_reducible rfl); rfl; (exact HOUT.out.alloc _); (show RD _ _ (.slice (some ⟨_, 0, none⟩) 1 1) _; (exact RD.auto)); (have := HK2.out.size; simp; omega); intro v3 w3 ho3 hg3 hat3)
      go_roundw
      case rel => exact ⟨k + 1, by omega, by go_num, by rw [HTK.out, List.map_append, <- List.append_assoc, <- HXE.out]; exact ho3, by rw [HTK.out, lastOr_snoc], Kp.app hg3 HK2.out.alloc HHI.out⟩
      case measure => simp [intOf] <;> omega
     ·rw [if_neg (fun h => hgo (hok.2 h)), List.append_nil] at htk
      have HTK := hide htk
      have HBT := hide ((btw_f_iff y (la2 + 1) (key - 1)).2 hgo)
      clear hok htk hgo hy hsl
      go_wp2_with (go_at_call 85; ((with_reducible refine (between_to _ _ _ false _ HBT.out).mono ?_); rintro e w' ⟨rfl, rfl⟩))
      go_roundw
      case rel => exact ⟨k + 1, by omega, by go_num, by rw [HTK.out]; exact HOUT.out, by rw [HTK.out, <- HLA2.out], HK2.out⟩
      case measure => simp [intOf] <;> omega
    ·have htk : l.take k = l := List.take_of_length_le (by omega)
     rw [htk] at HOUT HLA2
     have s5 : IntKind.i64.wrap ((r : Int) - 1) = (r : Int) - 1 := IntWalk.i64_in _ (by omega)
     clear hsl htk
     go_wp2
     go_roundw
     case rel => exact ⟨r, by have := HJ.out; omega, rfl, by rw [HNXT.out]; exact HOUT.out, by rw [HNXT.out, <- HLA2.out], HK2.out⟩
     case measure => simp [intOf] <;> omega
end Go.Proofs.YtcljlnagpjilaaaGreatDoor
