/-
  hedgref.DeepestOf, builtAnew: what they answer
-/
import Derived.Test.YtcljlnagpjilaaaGreatDoorG37
import Derived.Lib.MinMax

set_option linter.unusedVariables false
set_option linter.unusedSimpArgs false
set_option maxRecDepth 100000
set_option maxHeartbeats 8000000
namespace Go.Proofs.YtcljlnagpjilaaaGreatDoor
open Go.ChangeShapes Go.WideShapes Go.ChangeAt Go.RowKit
def PwRel (b n : Nat) (w : World) (pv iv : Value) (wr : World) : Prop := ∃ i P : Nat, i <= n /\ P = b ^ i /\ pv = .int .i64 (P : Int) /\ iv = .int .i64 (i : Int) /\ w = wr
theorem pow_top (b i : Nat) (hb : b <= 3) (hi : i <= 30) : b ^ i <= 205891132094649 := by
 have h1 : b ^ i <= 3 ^ i := Nat.pow_le_pow_left hb i
 have h2 : 3 ^ i <= 3 ^ 30 := Nat.pow_le_pow_right (by omega) hi
 have h3 : (3 : Nat) ^ 30 = 205891132094649 := by decide +kernel
 omega
theorem power_any (b n : Nat) (hb : b <= 3) (hn : n <= 30) (w : World) : Calls Tryz.prog 146 #[.int .i64 (b : Int), .int .i64 (n : Int)] w (fun e w' => e = .returned (.int .i64 ((b ^ n : Nat) : Int)) /\ w = w') := by
 obtain ⟨N, hN⟩ : ∃ N, N = b ^ n := ⟨_, rfl⟩
 rw [<- hN]
 have HN := hide hN
 clear hN
 go_enter Tryz.func146, Tryz.ntmps146
 go_wp2
 go_loopw [5, 7] (PwRel b n w) (fun _ iv _ => n - (intOf iv).toNat)
 case atStart => exact ⟨0, 1, by omega, by simp, rfl, rfl, rfl⟩
 case round =>
  obtain ⟨i, P, hi, hP, rfl, rfl, rfl⟩ := hrel
  have hPb := pow_top b i hb (by omega)
  rw [<- hP] at hPb
  have HP := hide hP
  clear hP
  by_cases hlt : i < n
  ·obtain ⟨Q, hQ⟩ : ∃ Q, Q = P * b := ⟨_, rfl⟩
   have hQb : Q <= 205891132094649 * 3 := by rw [hQ]; exact Nat.mul_le_mul hPb hb
   have v1 : IntKind.i64.wrap ((P : Int) * (b : Int)) = (Q : Int) := by rw [<- Int.natCast_mul, <- hQ]; exact IntWalk.i64_in _ (by omega)
   have v2 : IntKind.i64.wrap ((i : Int) + 1) = ((i + 1 : Nat) : Int) := by rw [IntWalk.i64_in _ (by omega)]; omega
   have HQ := hide hQ
   have d1 : (i : Int) < (n : Int) := by omega
   clear hQ
   go_wp2
   go_roundw
   case rel => exact ⟨i + 1, Q, by omega, by rw [HQ.out, HP.out, Nat.pow_succ], rfl, rfl, rfl⟩
   case measure => simp [intOf]; omega
  ·obtain rfl : i = n := by omega
   have HE : Hid (P = N) := hide (HP.out.trans HN.out.symm)
   go_wp2
   go_ret
   exact ⟨by rw [HE.out]; rfl, rfl⟩
theorem deep_iff (m i : Nat) (hm : 0 < m) (hmm : m <= 1000) : 3 ^ i <= m * 2 ^ i ↔ i <= deepF m := by
 constructor
 ·exact deepF_ge m i hm hmm
 ·intro h
  rcases Nat.lt_or_ge (m * 2 ^ i) (3 ^ i) with h1 | h1
  ·have h2 := pow_mono_le m i (deepF m) h h1
   have := (deepF_spec m hm hmm).1
   omega
  ·exact h1
def DoRel (m : Nat) (w : World) (dv nv : Value) (wr : World) : Prop := ∃ i : Nat, 1 <= i /\ i <= 31 /\ dv = .int .i64 ((min (i - 1) (deepF m) : Nat) : Int) /\ nv = .int .i64 (i : Int) /\ w = wr
theorem deepestOf_any (m : Nat) (hm : m <= 1000) (w : World) : Calls Tryz.prog 97 #[.int .i64 (m : Int)] w (fun e w' => e = .returned (.int .i64 (deepF m : Int)) /\ w = w') := by
 have HLT := hide (deepF_lt m hm)
 have HIF := hide (fun i (h : 0 < m) => deep_iff m i h hm)
 have HZ : Hid (m = 0 -> deepF m = 0) := hide (fun h => by rw [h]; exact deepF_zero)
 go_enter Tryz.func97, Tryz.ntmps97
 go_wp2
 go_loopw [4, 5] (DoRel m w) (fun _ nv _ => 31 - (intOf nv).toNat)
 case atStart => exact ⟨1, by omega, by omega, by simp, rfl, rfl⟩
 case round =>
  obtain ⟨i, hi1, hi2, rfl, rfl, rfl⟩ := hrel
  by_cases hlt : i <= 30
  ·have d1 : (i : Int) <= 30 := by omega
   have v9 : IntKind.i64.wrap ((i : Int) + 1) = ((i + 1 : Nat) : Int) := by rw [IntWalk.i64_in _ (by omega)]; omega
   rcases Nat.eq_zero_or_pos m with hm0 | hm0
   ·have hD : deepF m = 0 := HZ.out hm0
    have HD : Hid (min (i - 1) (deepF m) = min (i + 1 - 1) (deepF m)) := hide (by rw [hD]; simp)
    subst hm0
    clear hD
    go_wp2
    go_roundw
    case rel => exact ⟨i + 1, by omega, by omega, by rw [HD.out], rfl, rfl⟩
    case measure => simp [intOf]; omega
   ·have d2 : (0 : Int) < (m : Int) := by omega
    have hA := pow_top 3 i (by omega) hlt
    have hB : 2 ^ i <= 2 ^ 30 := Nat.pow_le_pow_right (by omega) hlt
    have hB2 : (2 : Nat) ^ 30 = 1073741824 := by decide +kernel
    rw [hB2] at hB
    have hif := HIF.out i hm0
    have HP3 : Hid (∀ W, Calls Tryz.prog 146 #[.int .i64 3, .int .i64 (i : Int)] W (fun e w' => e = .returned (.int .i64 ((3 ^ i : Nat) : Int)) /\ W = w')) := hide (fun W => power_any 3 i (by omega) hlt W)
    have HP2 : Hid (∀ W, Calls Tryz.prog 146 #[.int .i64 2, .int .i64 (i : Int)] W (fun e w' => e = .returned (.int .i64 ((2 ^ i : Nat) : Int)) /\ W = w')) := hide (fun W => power_any 2 i (by omega) hlt W)
    obtain ⟨A, hAe⟩ : ∃ A, A = 3 ^ i := ⟨_, rfl⟩
    obtain ⟨B, hBe⟩ : ∃ B, B = 2 ^ i := ⟨_, rfl⟩
    rw [<- hAe] at HP3 hA hif
    rw [<- hBe] at HP2 hB hif
    obtain ⟨MB, hMB⟩ : ∃ MB, MB = m * B := ⟨_, rfl⟩
    have hMBb : MB <= 1000 * 1073741824 := by rw [hMB]; exact Nat.mul_le_mul hm hB
    rw [<- hMB] at hif
    have v1 : IntKind.i64.wrap ((m : Int) * (B : Int)) = (MB : Int) := by rw [<- Int.natCast_mul, <- hMB]; exact IntWalk.i64_in _ (by omega)
    clear hAe hBe hMB hB2
    by_cases hc : A <= MB
    ·have hle := hif.1 hc
     have HD : Hid (((i : Nat) : Int) = ((min (i + 1 - 1) (deepF m) : Nat) : Int)) := hide (by rw [Nat.add_sub_cancel, Nat.min_eq_left hle])
     have d3 : decide (A <= MB) = true := decide_eq_true hc
     have d3' : (A : Int) <= (MB : Int) := by omega
     clear hif hle
     go_wp2_with fail
     with_reducible refine (HP3.out _).mono ?_
     rintro e w1 ⟨rfl, rfl⟩
     go_wp2_with fail
     with_reducible refine (HP2.out _).mono ?_
     rintro e w1 ⟨rfl, rfl⟩
     go_wp2
     go_roundw
     case rel => exact ⟨i + 1, by omega, by omega, by rw [<- HD.out], rfl, rfl⟩
     case measure => simp [intOf]; omega
    ·have hle : ¬ i <= deepF m := fun h => hc (hif.2 h)
     have HD : Hid (min (i - 1) (deepF m) = min (i + 1 - 1) (deepF m)) := hide (by omega)
     have d3 : decide (A <= MB) = false := decide_eq_false hc
     have d3' : ¬ (A : Int) <= (MB : Int) := by omega
     clear hif hle
     go_wp2_with fail
     with_reducible refine (HP3.out _).mono ?_
     rintro e w1 ⟨rfl, rfl⟩
     go_wp2_with fail
     with_reducible refine (HP2.out _).mono ?_
     rintro e w1 ⟨rfl, rfl⟩
     go_wp2
     go_roundw
     case rel => exact ⟨i + 1, by omega, by omega, by rw [HD.out], rfl, rfl⟩
     case measure => simp [intOf]; omega
  ·obtain rfl : i = 31 := by omega
   have HD : Hid (min (31 - 1) (deepF m) = deepF m) := hide (by have := HLT.out; omega)
   rw [HD.out]
   go_wp2
   go_ret
   exact ⟨rfl, rfl⟩
end Go.Proofs.YtcljlnagpjilaaaGreatDoor
