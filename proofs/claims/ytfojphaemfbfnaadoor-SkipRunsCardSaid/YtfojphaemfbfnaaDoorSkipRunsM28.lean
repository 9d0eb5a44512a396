/-
  hedgref.HeightOf with bit, exchanged, timesTwo: HeightOf answers what skip.Height answers (hgtF). No conditions but that the numbers are of 64 bits.
-/
import Derived.Test.YtfojphaemfbfnaaDoorSkipRunsM27

namespace Go.Proofs.YtfojphaemfbfnaaDoor
open Go.ChangeShapes Go.WideShapes Go.ChangeAt Go.RowKit
set_option linter.unusedVariables false
set_option linter.unusedSimpArgs false

set_option maxRecDepth 100000 in
theorem bit_any (x n : Nat) (hx : x < 2 ^ 64) (hn : n ≤ 1000) (w : World) : Calls Tryd.prog 38 #[.int .u64 x, .int .i64 n] w fun e w' => e = .returned (.int .u64 (bitN x n : Nat)) ∧ w = w' := by
  by_cases h : 63 < n
  · have H : Hid (bitN x n = 0) := hide (by rw [bitN, if_pos h])
    have g : ((63 : Int) < (n : Int)) := by omega
    clear hx h
    go_enter Tryd.func38, Tryd.ntmps38
    go_wp2
    go_ret
    exact ⟨by rw [H.out]; rfl, rfl⟩
  · have H : Hid (bitN x n = x / 2 ^ n % 2) := hide (by rw [bitN, if_neg h])
    obtain ⟨q, hq⟩ : ∃ q, q = x / 2 ^ n := ⟨_, rfl⟩
    rw [← hq] at H
    have hq1 : (x : Int) / 2 ^ n = (q : Int) := by rw [hq, Int.natCast_ediv, Int.natCast_pow]; rfl
    have hql : q < 2 ^ 64 := by rw [hq]; exact Nat.lt_of_le_of_lt (Nat.div_le_self _ _) hx
    have hq2 : IntKind.u64.wrap ((q : Int).tmod 2) = ((q % 2 : Nat) : Int) := by
      rw [IntKind.wrap_u64, Int.tmod_eq_emod_of_nonneg (by omega)]; omega
    have g : ¬((63 : Int) < (n : Int)) := by omega
    have g0 : (0 : Int) ≤ (n : Int) := by omega
    have g1 : (n : Int) ≤ 64 := by omega
    clear hx h hq
    go_enter Tryd.func38, Tryd.ntmps38
    go_wp2
    go_ret
    exact ⟨by rw [H.out]; rfl, rfl⟩

def ExRel (x n : Nat) (w : World) (ov kv : Value) (wr : World) : Prop := ∃ j : Nat, j ≤ 64 ∧ kv = .int .i64 ((j : Int) - 1) ∧ ov = .int .u64 ((exN x n / 2 ^ j : Nat) : Int) ∧ w = wr
set_option maxRecDepth 100000 in
set_option maxHeartbeats 400000 in
theorem exchanged_any (x n : Nat) (hx : x < 2 ^ 64) (hn : n ≤ 64) (w : World) : Calls Tryd.prog 37 #[.int .u64 x, .int .i64 n] w fun e w' => e = .returned (.int .u64 (exN x n : Nat)) ∧ w = w' := by
  have HB := hide (fun k W (h : k ≤ 1000) => bit_any x k hx h W)
  have HX := hide hx
  clear hx
  go_enter Tryd.func37, Tryd.ntmps37
  go_wp2
  go_loopw [5, 6] (ExRel x n w) (fun _ k _ => (intOf k + 1).toNat)
  case atStart => exact ⟨64, by omega, rfl, by rw [Nat.div_eq_of_lt (exN_lt HX.out n)]; rfl, rfl⟩
  case round =>
    obtain ⟨j, hj, rfl, rfl, rfl⟩ := hrel
    cases j with
    | zero =>
      go_wp2
      go_ret
      exact ⟨by simp, rfl⟩
    | succ m =>
      have e0 : ((m + 1 : Nat) : Int) - 1 = (m : Int) := by omega
      rw [e0]
      have HS := hide (exN_step HX.out n m)
      have hL := bitN_le x m
      have hM := bitN_le x (m + n)
      have hO : exN x n / 2 ^ (m + 1) < 2 ^ 63 := by
        have := exN_lt HX.out n
        refine Nat.div_lt_of_lt_mul (Nat.lt_of_lt_of_le this ?_)
        have h2 : 1 ≤ 2 ^ m := Nat.pow_pos (by omega)
        rw [Nat.pow_succ]
        omega
      have HB1 := hide (fun W => HB.out m W (by omega))
      have HB2 := hide (fun W => HB.out (m + n) W (by omega))
      obtain ⟨o, ho⟩ : ∃ o, o = exN x n / 2 ^ (m + 1) := ⟨_, rfl⟩
      obtain ⟨p, hp⟩ : ∃ p, p = bitN x m := ⟨_, rfl⟩
      obtain ⟨q, hq⟩ : ∃ q, q = bitN x (m + n) := ⟨_, rfl⟩
      rw [← ho] at HS hO ⊢
      rw [← hp] at HB1 HS hL
      rw [← hq] at HB2 HS hM
      clear ho hp hq
      have s0 : IntKind.i64.wrap ((m : Int) + (n : Int)) = ((m + n : Nat) : Int) := by rw [IntWalk.i64_in _ (by omega)]; omega
      have s1 : IntKind.u64.wrap (2 * (o : Int)) = ((2 * o : Nat) : Int) := by rw [IntKind.wrap_u64]; omega
      have s2 : IntKind.u64.wrap ((p : Int) + (q : Int)) = ((p + q : Nat) : Int) := by rw [IntKind.wrap_u64]; omega
      have s3 : IntKind.u64.wrap (((p + q : Nat) : Int).tmod 2) = (((p + q) % 2 : Nat) : Int) := by rw [IntKind.wrap_u64, Int.tmod_eq_emod_of_nonneg (by omega)]; omega
      have s4 : IntKind.u64.wrap (((2 * o : Nat) : Int) + (((p + q) % 2 : Nat) : Int)) = ((2 * o + (p + q) % 2 : Nat) : Int) := by rw [IntKind.wrap_u64]; omega
      have s5 : IntKind.i64.wrap ((m : Int) - 1) = (m : Int) - 1 := IntWalk.i64_in _ (by omega)
      obtain ⟨S, hS⟩ : ∃ S, S = m + n := ⟨_, rfl⟩
      obtain ⟨R, hR⟩ : ∃ R, R = p + q := ⟨_, rfl⟩
      obtain ⟨D, hD⟩ : ∃ D, D = 2 * o := ⟨_, rfl⟩
      rw [← hS] at s0 HB2
      rw [← hR] at s2 s3 s4 HS
      rw [← hD] at s1 s4 HS
      obtain ⟨C, hC⟩ : ∃ C, C = R % 2 := ⟨_, rfl⟩
      rw [← hC] at s3 s4 HS
      have g0 : (0 : Int) ≤ (m : Int) := by omega
      have s6 : IntKind.u64.wrap ((D : Int) + (R : Int) % 2) = ((D + C : Nat) : Int) := by rw [← s4, hC]; rfl
      clear hS hR hD hC
      go_wp2_with fail
      with_reducible refine (HB1.out _).mono ?_
      rintro e w1 ⟨rfl, rfl⟩
      go_wp2_with fail
      with_reducible refine (HB2.out _).mono ?_
      rintro e w1 ⟨rfl, rfl⟩
      go_wp2
      go_roundw
      case rel => exact ⟨m, by omega, rfl, by rw [HS.out, Int.natCast_add], rfl⟩
      case measure => (simp [intOf] <;> omega)

theorem exchanged_at (x n : Nat) (N : Int) (hN : N = (n : Int)) (hx : x < 2 ^ 64) (hn : n ≤ 64) (w : World) : Calls Tryd.prog 37 #[.int .u64 x, .int .i64 N] w fun e w' => e = .returned (.int .u64 (exN x n : Nat)) ∧ w = w' := by
  rw [hN]; exact exchanged_any x n hx hn w

def TwRel (a b : Nat) (w : World) (ov kv : Value) (wr : World) : Prop := ∃ j : Nat, j ≤ 64 ∧ kv = .int .i64 ((j : Int) - 1) ∧ ov = .int .u64 ((b / 2 ^ j * a % 2 ^ 64 : Nat) : Int) ∧ w = wr
set_option maxRecDepth 100000 in
set_option maxHeartbeats 400000 in
theorem timesTwo_any (a b : Nat) (ha : a < 2 ^ 64) (hb : b < 2 ^ 64) (w : World) : Calls Tryd.prog 36 #[.int .u64 a, .int .u64 b] w fun e w' => e = .returned (.int .u64 (mulN a b : Nat)) ∧ w = w' := by
  have HB := hide (fun k W (h : k ≤ 1000) => bit_any b k hb h W)
  have HX := hide hb
  have HA := hide ha
  clear ha hb
  go_enter Tryd.func36, Tryd.ntmps36
  go_wp2
  go_loopw [5, 6] (TwRel a b w) (fun _ k _ => (intOf k + 1).toNat)
  case atStart => exact ⟨64, by omega, rfl, by rw [Nat.div_eq_of_lt HX.out]; simp, rfl⟩
  case round =>
    obtain ⟨j, hj, rfl, rfl, rfl⟩ := hrel
    cases j with
    | zero =>
      go_wp2
      go_ret
      exact ⟨by rw [mulN, Nat.mul_comm]; simp, rfl⟩
    | succ m =>
      have e0 : ((m + 1 : Nat) : Int) - 1 = (m : Int) := by omega
      rw [e0]
      have HS := hide (mul_step a b m)
      have HL := hide (bitN_lt HX.out m)
      have hL := bitN_le b m
      have HB1 := hide (fun W => HB.out m W (by omega))
      have hO : b / 2 ^ (m + 1) * a % 2 ^ 64 < 2 ^ 64 := Nat.mod_lt _ (by omega)
      have hA := HA.out
      obtain ⟨o, ho⟩ : ∃ o, o = b / 2 ^ (m + 1) * a % 2 ^ 64 := ⟨_, rfl⟩
      obtain ⟨p, hp⟩ : ∃ p, p = bitN b m := ⟨_, rfl⟩
      rw [← ho] at HS hO ⊢
      rw [← hp] at HB1 HL hL
      rw [← HL.out] at HS
      clear ho hp HL
      have s1 : IntKind.u64.wrap ((o : Int) + (o : Int)) = ((2 * o % 2 ^ 64 : Nat) : Int) := by rw [IntKind.wrap_u64]; omega
      have s5 : IntKind.i64.wrap ((m : Int) - 1) = (m : Int) - 1 := IntWalk.i64_in _ (by omega)
      have s4 : IntKind.u64.wrap (((2 * o % 2 ^ 64 : Nat) : Int) + (a : Int)) = (((2 * o % 2 ^ 64 + a) % 2 ^ 64 : Nat) : Int) := by rw [IntKind.wrap_u64]; omega
      obtain ⟨D, hD⟩ : ∃ D, D = 2 * o % 2 ^ 64 := ⟨_, rfl⟩
      have hDl : D < 2 ^ 64 := by rw [hD]; exact Nat.mod_lt _ (by omega)
      rw [← hD] at s1 s4 HS
      obtain ⟨E, hE⟩ : ∃ E, E = (D + a) % 2 ^ 64 := ⟨_, rfl⟩
      rw [← hE] at s4
      have g0 : (0 : Int) ≤ (m : Int) := by omega
      have hp01 : p = 0 ∨ p = 1 := by omega
      have HE := hide hE
      have HDl := hide hDl
      clear hD hE hDl
      go_wp2_with fail
      with_reducible refine (HB1.out _).mono ?_
      rintro e w1 ⟨rfl, rfl⟩
      rcases hp01 with rfl | rfl
      · go_wp2
        go_roundw
        case rel => exact ⟨m, by omega, rfl, by rw [HS.out, Nat.zero_mul, Nat.add_zero, Nat.mod_eq_of_lt HDl.out], rfl⟩
        case measure => (simp [intOf] <;> omega)
      · go_wp2
        go_roundw
        case rel => exact ⟨m, by omega, rfl, by rw [HS.out, Nat.one_mul, HE.out], rfl⟩
        case measure => (simp [intOf] <;> omega)

theorem timesTwo_at (a b : Nat) (B : Int) (hB : B = (b : Int)) (ha : a < 2 ^ 64) (hb : b < 2 ^ 64) (w : World) : Calls Tryd.prog 36 #[.int .u64 a, .int .u64 B] w fun e w' => e = .returned (.int .u64 (mulN a b : Nat)) ∧ w = w' := by
  rw [hB]; exact timesTwo_any a b ha hb w

def HoRel (x : Nat) (w : World) (hv : Value) (wr : World) : Prop := ∃ h : Nat, h ≤ 11 ∧ hv = .int .i64 ((h : Int) + 1) ∧ (∀ j, j < h → bitN x j = 0) ∧ w = wr
set_option maxRecDepth 100000 in
set_option maxHeartbeats 400000 in
theorem heightR_any (key : Int) (w : World) : Calls Tryd.prog 12 #[.int .i64 key] w fun e w' => e = .returned (.int .i64 (hgtF key)) ∧ w = w' := by
  obtain ⟨k0, hk0⟩ : ∃ k : Nat, IntKind.u64.wrap key = (k : Int) := ⟨(IntKind.u64.wrap key).toNat, by rw [IntKind.wrap_u64]; omega⟩
  have hkl : k0 < 2 ^ 64 := by rw [IntKind.wrap_u64] at hk0; omega
  have HX1 := hide (fun W => exchanged_at k0 30 30 rfl hkl (by omega) W)
  have HX2 := hide (fun W => timesTwo_at (exN k0 30) 13787848793156543929 13787848793156543929 rfl (exN_lt hkl _) (by omega) W)
  have HX3 := hide (fun W => exchanged_at (mulN (exN k0 30) 13787848793156543929) 27 27 rfl (mulN_lt _ _) (by omega) W)
  have HX4 := hide (fun W => timesTwo_at (exN (mulN (exN k0 30) 13787848793156543929) 27) 10723151780598845931 10723151780598845931 rfl (exN_lt (mulN_lt _ _) _) (by omega) W)
  have HX5 := hide (fun W => exchanged_at (mulN (exN (mulN (exN k0 30) 13787848793156543929) 27) 10723151780598845931) 31 31 rfl (mulN_lt _ _) (by omega) W)
  have HF : Hid (hgtF key = if 12 < tzF ((mixN k0 : Nat) : Int) + 1 then 12 else tzF ((mixN k0 : Nat) : Int) + 1) := hide (by rw [hgtF, hk0, mixF_nat k0 hkl])
  have HML := hide (mixN_lt k0)
  obtain ⟨a1, h1⟩ : ∃ a, a = exN k0 30 := ⟨_, rfl⟩
  rw [← h1] at HX1 HX2 HX3 HX4 HX5
  obtain ⟨a2, h2⟩ : ∃ a, a = mulN a1 13787848793156543929 := ⟨_, rfl⟩
  rw [← h2] at HX2 HX3 HX4 HX5
  obtain ⟨a3, h3⟩ : ∃ a, a = exN a2 27 := ⟨_, rfl⟩
  rw [← h3] at HX3 HX4 HX5
  obtain ⟨a4, h4⟩ : ∃ a, a = mulN a3 10723151780598845931 := ⟨_, rfl⟩
  rw [← h4] at HX4 HX5
  obtain ⟨x, h5⟩ : ∃ a, a = mixN k0 := ⟨_, rfl⟩
  have h6 : exN a4 31 = x := by rw [h5, mixN, h4, h3, h2, h1]
  rw [h6] at HX5
  rw [← h5] at HF HML
  have HB := hide (fun k W (h : k ≤ 1000) => bit_any x k HML.out h W)
  clear h1 h2 h3 h4 h5 h6 hkl
  go_enter Tryd.func12, Tryd.ntmps12
  go_wp2_with fail
  with_reducible refine (HX1.out _).mono ?_
  rintro e w1 ⟨rfl, rfl⟩
  go_wp2_with fail
  with_reducible refine (HX2.out _).mono ?_
  rintro e w1 ⟨rfl, rfl⟩
  go_wp2_with fail
  with_reducible refine (HX3.out _).mono ?_
  rintro e w1 ⟨rfl, rfl⟩
  go_wp2_with fail
  with_reducible refine (HX4.out _).mono ?_
  rintro e w1 ⟨rfl, rfl⟩
  go_wp2_with fail
  with_reducible refine (HX5.out _).mono ?_
  rintro e w1 ⟨rfl, rfl⟩
  go_wp2
  go_loopw [4] (HoRel x w) (fun h _ => (12 - intOf h).toNat)
  case atStart => exact ⟨0, by omega, rfl, fun j h => by omega, rfl⟩
  case round =>
    obtain ⟨h, hh, rfl, hz, rfl⟩ := hrel
    have HZ := hide hz
    clear hz
    by_cases he : h = 11
    · subst he
      go_wp2
      go_ret
      exact ⟨by rw [HF.out, hgt_end x 11 HML.out HZ.out (Or.inl rfl)]; rfl, rfl⟩
    · have hlt : ((h : Int) + 1 < 12) := by omega
      have s0 : IntKind.i64.wrap ((h : Int) + 1 - 1) = (h : Int) := by rw [IntWalk.i64_in _ (by omega)]; omega
      have s1 : IntKind.i64.wrap ((h : Int) + 1 + 1) = ((h + 1 : Nat) : Int) + 1 := by rw [IntWalk.i64_in _ (by omega)]; omega
      have HB1 := hide (fun W => HB.out h W (by omega))
      obtain ⟨p, hp⟩ : ∃ p, p = bitN x h := ⟨_, rfl⟩
      rw [← hp] at HB1
      go_wp2_with fail
      with_reducible refine (HB1.out _).mono ?_
      rintro e w1 ⟨rfl, rfl⟩
      by_cases hp0 : p = 0
      · subst hp0
        go_wp2
        go_roundw
        case rel => exact ⟨h + 1, by omega, rfl, fun j hj => (Nat.lt_succ_iff_lt_or_eq.mp hj).elim (HZ.out j) (fun h1 => by rw [h1]; exact hp.symm), rfl⟩
        case measure => (simp [intOf] <;> omega)
      · have g0 : ((p : Int) == 0) = false := by simpa using hp0
        go_wp2
        go_ret
        exact ⟨by rw [HF.out, hgt_end x h HML.out HZ.out (Or.inr ⟨by omega, by rw [← hp]; exact hp0⟩)]; rfl, rfl⟩
end Go.Proofs.YtfojphaemfbfnaaDoor
