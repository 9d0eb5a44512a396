/-
  hedgref.HeightOf with bit, exchanged, timesTwo: HeightOf answers what skip.Height answers (hgtF). No conditions but that the numbers are of 64 bits.
  hedgref.SameRows, RowsOf: what they answer. Conditions: the lists read as they are named (RD, RDS) and are not longer than a thousand.
-/
import Derived.Test.YtfojphaemfbfnaaDoorG17
import Derived.Test.YtfojphaemfbfnaaDoorG16
import Derived.Test.YtfojphaemfbfnaaDoorG10

namespace Go.Proofs.YtfojphaemfbfnaaDoor
open Go.ChangeShapes Go.WideShapes Go.ChangeAt Go.RowKit
set_option linter.unusedVariables false
set_option linter.unusedSimpArgs false

set_option maxRecDepth 100000 in
theorem bit_any (x n : Nat) (hx : x < 2 ^ 64) (hn : n ≤ 1000) (w : World) : Calls Tryd.prog 38 #[.int .u64 x, .int .i64 n] w fun e w' => e = .returned (.int .u64 (bitN x n : Nat)) ∧ w = w' := by
  by_cases h : 63 < n
  · have H : Hid (bitN x n = 0) := hide (by rw [bitN, if_pos h])
    have g : ((63 : Int) < (n : Int)) := by omega
    clear hx h
    go_enter Tryd.func38, Tryd.ntmps38
    go_wp2
    go_ret
    exact ⟨by rw [H.out]; rfl, rfl⟩
  · have H : Hid (bitN x n = x / 2 ^ n % 2) := hide (by rw [bitN, if_neg h])
    obtain ⟨q, hq⟩ : ∃ q, q = x / 2 ^ n := ⟨_, rfl⟩
    rw [← hq] at H
    have hq1 : (x : Int) / 2 ^ n = (q : Int) := by rw [hq, Int.natCast_ediv, Int.natCast_pow]; rfl
    have hql : q < 2 ^ 64 := by rw [hq]; exact Nat.lt_of_le_of_lt (Nat.div_le_self _ _) hx
    have hq2 : IntKind.u64.wrap ((q : Int).tmod 2) = ((q % 2 : Nat) : Int) := by
      rw [IntKind.wrap_u64, Int.tmod_eq_emod_of_nonneg (by omega)]; omega
    have g : ¬((63 : Int) < (n : Int)) := by omega
    have g0 : (0 : Int) ≤ (n : Int) := by omega
    have g1 : (n : Int) ≤ 64 := by omega
    clear hx h hq
    go_enter Tryd.func38, Tryd.ntmps38
    go_wp2
    go_ret
    exact ⟨by rw [H.out]; rfl, rfl⟩

def ExRel (x n : Nat) (w : World) (ov kv : Value) (wr : World) : Prop := ∃ j : Nat, j ≤ 64 ∧ kv = .int .i64 ((j : Int) - 1) ∧ ov = .int .u64 ((exN x n / 2 ^ j : Nat) : Int) ∧ w = wr
set_option maxRecDepth 100000 in
set_option maxHeartbeats 400000 in
theorem exchanged_any (x n : Nat) (hx : x < 2 ^ 64) (hn : n ≤ 64) (w : World) : Calls Tryd.prog 37 #[.int .u64 x, .int .i64 n] w fun e w' => e = .returned (.int .u64 (exN x n : Nat)) ∧ w = w' := by
  have HB := hide (fun k W (h : k ≤ 1000) => bit_any x k hx h W)
  have HX := hide hx
  clear hx
  go_enter Tryd.func37, Tryd.ntmps37
  go_wp2
  go_loopw [5, 6] (ExRel x n w) (fun _ k _ => (intOf k + 1).toNat)
  case atStart => exact ⟨64, by omega, rfl, by rw [Nat.div_eq_of_lt (exN_lt HX.out n)]; rfl, rfl⟩
  case round =>
    obtain ⟨j, hj, rfl, rfl, rfl⟩ := hrel
    cases j with
    | zero =>
      go_wp2
      go_ret
      exact ⟨by simp, rfl⟩
    | succ m =>
      have e0 : ((m + 1 : Nat) : Int) - 1 = (m : Int) := by omega
      rw [e0]
      have HS := hide (exN_step HX.out n m)
      have hL := bitN_le x m
      have hM := bitN_le x (m + n)
      have hO : exN x n / 2 ^ (m + 1) < 2 ^ 63 := by
        have := exN_lt HX.out n
        refine Nat.div_lt_of_lt_mul (Nat.lt_of_lt_of_le this ?_)
        have h2 : 1 ≤ 2 ^ m := Nat.pow_pos (by omega)
        rw [Nat.pow_succ]
        omega
      have HB1 := hide (fun W => HB.out m W (by omega))
      have HB2 := hide (fun W => HB.out (m + n) W (by omega))
      obtain ⟨o, ho⟩ : ∃ o, o = exN x n / 2 ^ (m + 1) := ⟨_, rfl⟩
      obtain ⟨p, hp⟩ : ∃ p, p = bitN x m := ⟨_, rfl⟩
      obtain ⟨q, hq⟩ : ∃ q, q = bitN x (m + n) := ⟨_, rfl⟩
      rw [← ho] at HS hO ⊢
      rw [← hp] at HB1 HS hL
      rw [← hq] at HB2 HS hM
      clear ho hp hq
      have s0 : IntKind.i64.wrap ((m : Int) + (n : Int)) = ((m + n : Nat) : Int) := by rw [IntWalk.i64_in _ (by omega)]; omega
      have s1 : IntKind.u64.wrap (2 * (o : Int)) = ((2 * o : Nat) : Int) := by rw [IntKind.wrap_u64]; omega
      have s2 : IntKind.u64.wrap ((p : Int) + (q : Int)) = ((p + q : Nat) : Int) := by rw [IntKind.wrap_u64]; omega
      have s3 : IntKind.u64.wrap (((p + q : Nat) : Int).tmod 2) = (((p + q) % 2 : Nat) : Int) := by rw [IntKind.wrap_u64, Int.tmod_eq_emod_of_nonneg (by omega)]; omega
      have s4 : IntKind.u64.wrap (((2 * o : Nat) : Int) + (((p + q) % 2 : Nat) : Int)) = ((2 * o + (p + q) % 2 : Nat) : Int) := by rw [IntKind.wrap_u64]; omega
      have s5 : IntKind.i64.wrap ((m : Int) - 1) = (m : Int) - 1 := IntWalk.i64_in _ (by omega)
      obtain ⟨S, hS⟩ : ∃ S, S = m + n := ⟨_, rfl⟩
      obtain ⟨R, hR⟩ : ∃ R, R = p + q := ⟨_, rfl⟩
      obtain ⟨D, hD⟩ : ∃ D, D = 2 * o := ⟨_, rfl⟩
      rw [← hS] at s0 HB2
      rw [← hR] at s2 s3 s4 HS
      rw [← hD] at s1 s4 HS
      obtain ⟨C, hC⟩ : ∃ C, C = R % 2 := ⟨_, rfl⟩
      rw [← hC] at s3 s4 HS
      have g0 : (0 : Int) ≤ (m : Int) := by omega
      have s6 : IntKind.u64.wrap ((D : Int) + (R : Int) % 2) = ((D + C : Nat) : Int) := by rw [← s4, hC]; rfl
      clear hS hR hD hC
      go_wp2_with fail
      with_reducible refine (HB1.out _).mono ?_
      rintro e w1 ⟨rfl, rfl⟩
      go_wp2_with fail
      with_reducible refine (HB2.out _).mono ?_
      rintro e w1 ⟨rfl, rfl⟩
      go_wp2
      go_roundw
      case rel => exact ⟨m, by omega, rfl, by rw [HS.out, Int.natCast_add], rfl⟩
      case measure => (simp [intOf] <;> omega)

theorem exchanged_at (x n : Nat) (N : Int) (hN : N = (n : Int)) (hx : x < 2 ^ 64) (hn : n ≤ 64) (w : World) : Calls Tryd.prog 37 #[.int .u64 x, .int .i64 N] w fun e w' => e = .returned (.int .u64 (exN x n : Nat)) ∧ w = w' := by
  rw [hN]; exact exchanged_any x n hx hn w

def TwRel (a b : Nat) (w : World) (ov kv : Value) (wr : World) : Prop := ∃ j : Nat, j ≤ 64 ∧ kv = .int .i64 ((j : Int) - 1) ∧ ov = .int .u64 ((b / 2 ^ j * a % 2 ^ 64 : Nat) : Int) ∧ w = wr
set_option maxRecDepth 100000 in
set_option maxHeartbeats 400000 in
theorem timesTwo_any (a b : Nat) (ha : a < 2 ^ 64) (hb : b < 2 ^ 64) (w : World) : Calls Tryd.prog 36 #[.int .u64 a, .int .u64 b] w fun e w' => e = .returned (.int .u64 (mulN a b : Nat)) ∧ w = w' := by
  have HB := hide (fun k W (h : k ≤ 1000) => bit_any b k hb h W)
  have HX := hide hb
  have HA := hide ha
  clear ha hb
  go_enter Tryd.func36, Tryd.ntmps36
  go_wp2
  go_loopw [5, 6] (TwRel a b w) (fun _ k _ => (intOf k + 1).toNat)
  case atStart => exact ⟨64, by omega, rfl, by rw [Nat.div_eq_of_lt HX.out]; simp, rfl⟩
  case round =>
    obtain ⟨j, hj, rfl, rfl, rfl⟩ := hrel
    cases j with
    | zero =>
      go_wp2
      go_ret
      exact ⟨by rw [mulN, Nat.mul_comm]; simp, rfl⟩
    | succ m =>
      have e0 : ((m + 1 : Nat) : Int) - 1 = (m : Int) := by omega
      rw [e0]
      have HS := hide (mul_step a b m)
      have HL := hide (bitN_lt HX.out m)
      have hL := bitN_le b m
      have HB1 := hide (fun W => HB.out m W (by omega))
      have hO : b / 2 ^ (m + 1) * a % 2 ^ 64 < 2 ^ 64 := Nat.mod_lt _ (by omega)
      have hA := HA.out
      obtain ⟨o, ho⟩ : ∃ o, o = b / 2 ^ (m + 1) * a % 2 ^ 64 := ⟨_, rfl⟩
      obtain ⟨p, hp⟩ : ∃ p, p = bitN b m := ⟨_, rfl⟩
      rw [← ho] at HS hO ⊢
      rw [← hp] at HB1 HL hL
      rw [← HL.out] at HS
      clear ho hp HL
      have s1 : IntKind.u64.wrap ((o : Int) + (o : Int)) = ((2 * o % 2 ^ 64 : Nat) : Int) := by rw [IntKind.wrap_u64]; omega
      have s5 : IntKind.i64.wrap ((m : Int) - 1) = (m : Int) - 1 := IntWalk.i64_in _ (by omega)
      have s4 : IntKind.u64.wrap (((2 * o % 2 ^ 64 : Nat) : Int) + (a : Int)) = (((2 * o % 2 ^ 64 + a) % 2 ^ 64 : Nat) : Int) := by rw [IntKind.wrap_u64]; omega
      obtain ⟨D, hD⟩ : ∃ D, D = 2 * o % 2 ^ 64 := ⟨_, rfl⟩
      have hDl : D < 2 ^ 64 := by rw [hD]; exact Nat.mod_lt _ (by omega)
      rw [← hD] at s1 s4 HS
      obtain ⟨E, hE⟩ : ∃ E, E = (D + a) % 2 ^ 64 := ⟨_, rfl⟩
      rw [← hE] at s4
      have g0 : (0 : Int) ≤ (m : Int) := by omega
      have hp01 : p = 0 ∨ p = 1 := by omega
      have HE := hide hE
      have HDl := hide hDl
      clear hD hE hDl
      go_wp2_with fail
      with_reducible refine (HB1.out _).mono ?_
      rintro e w1 ⟨rfl, rfl⟩
      rcases hp01 with rfl | rfl
      · go_wp2
        go_roundw
        case rel => exact ⟨m, by omega, rfl, by rw [HS.out, Nat.zero_mul, Nat.add_zero, Nat.mod_eq_of_lt HDl.out], rfl⟩
        case measure => (simp [intOf] <;> omega)
      · go_wp2
        go_roundw
        case rel => exact ⟨m, by omega, rfl, by rw [HS.out, Nat.one_mul, HE.out], rfl⟩
        case measure => (simp [intOf] <;> omega)

theorem timesTwo_at (a b : Nat) (B : Int) (hB : B = (b : Int)) (ha : a < 2 ^ 64) (hb : b < 2 ^ 64) (w : World) : Calls Tryd.prog 36 #[.int .u64 a, .int .u64 B] w fun e w' => e = .returned (.int .u64 (mulN a b : Nat)) ∧ w = w' := by
  rw [hB]; exact timesTwo_any a b ha hb w

def HoRel (x : Nat) (w : World) (hv : Value) (wr : World) : Prop := ∃ h : Nat, h ≤ 11 ∧ hv = .int .i64 ((h : Int) + 1) ∧ (∀ j, j < h → bitN x j = 0) ∧ w = wr
set_option maxRecDepth 100000 in
set_option maxHeartbeats 400000 in
theorem heightR_any (key : Int) (w : World) : Calls Tryd.prog 12 #[.int .i64 key] w fun e w' => e = .returned (.int .i64 (hgtF key)) ∧ w = w' := by
  obtain ⟨k0, hk0⟩ : ∃ k : Nat, IntKind.u64.wrap key = (k : Int) := ⟨(IntKind.u64.wrap key).toNat, by rw [IntKind.wrap_u64]; omega⟩
  have hkl : k0 < 2 ^ 64 := by rw [IntKind.wrap_u64] at hk0; omega
  have HX1 := hide (fun W => exchanged_at k0 30 30 rfl hkl (by omega) W)
  have HX2 := hide (fun W => timesTwo_at (exN k0 30) 13787848793156543929 13787848793156543929 rfl (exN_lt hkl _) (by omega) W)
  have HX3 := hide (fun W => exchanged_at (mulN (exN k0 30) 13787848793156543929) 27 27 rfl (mulN_lt _ _) (by omega) W)
  have HX4 := hide (fun W => timesTwo_at (exN (mulN (exN k0 30) 13787848793156543929) 27) 10723151780598845931 10723151780598845931 rfl (exN_lt (mulN_lt _ _) _) (by omega) W)
  have HX5 := hide (fun W => exchanged_at (mulN (exN (mulN (exN k0 30) 13787848793156543929) 27) 10723151780598845931) 31 31 rfl (mulN_lt _ _) (by omega) W)
  have HF : Hid (hgtF key = if 12 < tzF ((mixN k0 : Nat) : Int) + 1 then 12 else tzF ((mixN k0 : Nat) : Int) + 1) := hide (by rw [hgtF, hk0, mixF_nat k0 hkl])
  have HML := hide (mixN_lt k0)
  obtain ⟨a1, h1⟩ : ∃ a, a = exN k0 30 := ⟨_, rfl⟩
  rw [← h1] at HX1 HX2 HX3 HX4 HX5
  obtain ⟨a2, h2⟩ : ∃ a, a = mulN a1 13787848793156543929 := ⟨_, rfl⟩
  rw [← h2] at HX2 HX3 HX4 HX5
  obtain ⟨a3, h3⟩ : ∃ a, a = exN a2 27 := ⟨_, rfl⟩
  rw [← h3] at HX3 HX4 HX5
  obtain ⟨a4, h4⟩ : ∃ a, a = mulN a3 10723151780598845931 := ⟨_, rfl⟩
  rw [← h4] at HX4 HX5
  obtain ⟨x, h5⟩ : ∃ a, a = mixN k0 := ⟨_, rfl⟩
  have h6 : exN a4 31 = x := by rw [h5, mixN, h4, h3, h2, h1]
  rw [h6] at HX5
  rw [← h5] at HF HML
  have HB := hide (fun k W (h : k ≤ 1000) => bit_any x k HML.out h W)
  clear h1 h2 h3 h4 h5 h6 hkl
  go_enter Tryd.func12, Tryd.ntmps12
  go_wp2_with fail
  with_reducible refine (HX1.out _).mono ?_
  rintro e w1 ⟨rfl, rfl⟩
  go_wp2_with fail
  with_reducible refine (HX2.out _).mono ?_
  rintro e w1 ⟨rfl, rfl⟩
  go_wp2_with fail
  with_reducible refine (HX3.out _).mono ?_
  rintro e w1 ⟨rfl, rfl⟩
  go_wp2_with fail
  with_reducible refine (HX4.out _).mono ?_
  rintro e w1 ⟨rfl, rfl⟩
  go_wp2_with fail
  with_reducible refine (HX5.out _).mono ?_
  rintro e w1 ⟨rfl, rfl⟩
  go_wp2
  go_loopw [4] (HoRel x w) (fun h _ => (12 - intOf h).toNat)
  case atStart => exact ⟨0, by omega, rfl, fun j h => by omega, rfl⟩
  case round =>
    obtain ⟨h, hh, rfl, hz, rfl⟩ := hrel
    have HZ := hide hz
    clear hz
    by_cases he : h = 11
    · subst he
      go_wp2
      go_ret
      exact ⟨by rw [HF.out, hgt_end x 11 HML.out HZ.out (Or.inl rfl)]; rfl, rfl⟩
    · have hlt : ((h : Int) + 1 < 12) := by omega
      have s0 : IntKind.i64.wrap ((h : Int) + 1 - 1) = (h : Int) := by rw [IntWalk.i64_in _ (by omega)]; omega
      have s1 : IntKind.i64.wrap ((h : Int) + 1 + 1) = ((h + 1 : Nat) : Int) + 1 := by rw [IntWalk.i64_in _ (by omega)]; omega
      have HB1 := hide (fun W => HB.out h W (by omega))
      obtain ⟨p, hp⟩ : ∃ p, p = bitN x h := ⟨_, rfl⟩
      rw [← hp] at HB1
      go_wp2_with fail
      with_reducible refine (HB1.out _).mono ?_
      rintro e w1 ⟨rfl, rfl⟩
      by_cases hp0 : p = 0
      · subst hp0
        go_wp2
        go_roundw
        case rel => exact ⟨h + 1, by omega, rfl, fun j hj => (Nat.lt_succ_iff_lt_or_eq.mp hj).elim (HZ.out j) (fun h1 => by rw [h1]; exact hp.symm), rfl⟩
        case measure => (simp [intOf] <;> omega)
      · have g0 : ((p : Int) == 0) = false := by simpa using hp0
        go_wp2
        go_ret
        exact ⟨by rw [HF.out, hgt_end x h HML.out HZ.out (Or.inr ⟨by omega, by rw [← hp]; exact hp0⟩)]; rfl, rfl⟩
end Go.Proofs.YtfojphaemfbfnaaDoor
namespace Go.Proofs.YtfojphaemfbfnaaDoor
open Go.ChangeShapes Go.WideShapes Go.ChangeAt Go.RowKit
set_option linter.unusedVariables false
set_option linter.unusedSimpArgs false

theorem eqLL {α : Type} {l m : List (List α)} (hl : l.length = m.length) (h : ∀ j (h1 : j < l.length) (h2 : j < m.length), l[j] = m[j]) : l = m := List.ext_getElem hl h
def SmrRel (l m : List (List Int)) (w : World) (i : Value) (wr : World) : Prop := ∃ k : Nat, k ≤ l.length ∧ i = .int .i64 (k : Int) ∧ (∀ j (h1 : j < l.length) (h2 : j < m.length), j < k → l[j] = m[j]) ∧ Kp w wr
set_option maxHeartbeats 2000000 in
theorem sameRows_any (l m : List (List Int)) (v u : Value) (w : World) (hl : RDS w eInt v l) (hm : RDS w eInt u m) (hn : l.length ≤ 1000) :
    Calls Tryd.prog 14 #[v, u] w (Ret (.bool (decide (l = m))) w) := by
  obtain ⟨A, c, rfl, hc, hc'⟩ := hl.shape
  obtain ⟨A2, c2, rfl, hc2, hc2'⟩ := hm.shape
  have HL := hide hl
  have HM := hide hm
  clear hl hm
  by_cases hlen : l.length = m.length
  · have hb : ((l.length : Int) != (m.length : Int)) = false := by simp; omega
    have HLEN := hide hlen
    clear hlen
    go_enter Tryd.func14, Tryd.ntmps14
    go_wp2
    go_loopw [13] (SmrRel l m w) (fun i _ => l.length - (intOf i).toNat)
    case atStart => exact ⟨0, by omega, rfl, fun _ _ _ h => by omega, Kp.refl _⟩
    case round =>
      obtain ⟨k, hk, rfl, hall, hkp⟩ := hrel
      have HALL := hide hall
      have HKP := hide hkp
      clear hall
      by_cases hlt : k < l.length
      · have hlt2 : k < m.length := by have := HLEN.out; omega
        obtain ⟨b, o, x, rfl, _, cx, rx⟩ := (HL.out.kp hkp).at_ hlt
        obtain ⟨b2, o2, y, rfl, _, cy, ry⟩ := (HM.out.kp hkp).at_ hlt2
        obtain ⟨q, hq⟩ : ∃ q, q = decide (l[k] = m[k]) := ⟨_, rfl⟩
        have HC := hide (fun W (h : Kp wr W) => sameInts_any l[k] m[k] x y W (rx.kp h) (ry.kp h))
        rw [← hq] at HC
        have HQ := hide hq
        have i0 : (0 : Int) ≤ (k : Int) := by omega
        have i1 : (k : Int) < (l.length : Int) := by omega
        have i2 : (k : Int) < (m.length : Int) := by omega
        have KS : Hid (∀ W, Kp wr W → W.cell? ⟨b, o + k, none⟩ = some x ∧ W.cell? ⟨b2, o2 + k, none⟩ = some y ∧ Kp wr W) := hide (fun W h => ⟨h.cell cx, h.cell cy, h⟩)
        clear hkp rx ry hq
        cases q with
        | true =>
          have hkk : Hid (l[k] = m[k]) := hide (of_decide_eq_true HQ.out.symm)
          go_wp2_with fail
          go_region_held3 (fun w' => w'.cell? ⟨b, o + k, none⟩ = some x ∧ w'.cell? ⟨b2, o2 + k, none⟩ = some y ∧ Kp wr w')
            ((refine KS.out _ ?_; (focus ((repeat (first | (with_reducible assumption) | (with_reducible exact Kp.refl _) | (with_reducible apply Kp.drew) | (with_reducible apply Kp.drewN) | ((with_reducible apply Kp.setR); (focus (first | (with_reducible assumption) | (simp; done) | (simp; omega)))) | (with_reducible apply Kp.alloc) | ((with_reducible apply Kp.call); (with_reducible assumption)) | ((with_reducible apply Kp.app); (with_reducible assumption)))); done))))
            ((go_at_call 39; (with_reducible refine (HC.out _ ?_).mono ?_); (go_split_ands; (focus ((repeat (first | (with_reducible assumption) | (with_reducible exact Kp.refl _) | (with_reducible apply Kp.drew) | (with_reducible apply Kp.drewN) | ((with_reducible apply Kp.setR); (focus (first | (with_reducible assumption) | (simp; done) | (simp; omega)))) | (with_reducible apply Kp.alloc) | ((with_reducible apply Kp.call); (with_reducible assumption)) | ((with_reducible apply Kp.app); (with_reducible assumption)))); done))); rintro e w5 ⟨rfl, hb5⟩))
          go_wp2
          rename_i hHeld
          have kk5 : Kp wr w5 := hHeld.2.2
          exact ⟨⟨k + 1, by omega, by go_num, fun j a b hj => (by
            rcases Nat.lt_or_ge j k with h' | h'
            · exact HALL.out j a b h'
            · obtain rfl : j = k := by omega
              exact hkk.out), HKP.out.trans kk5⟩, by simp [intOf]; omega⟩
        | false =>
          have hf : decide (l = m) = false := decide_eq_false (fun e => by
            have h1 := of_decide_eq_false HQ.out.symm
            subst e
            exact h1 rfl)
          have HFF := hide hf
          clear hf
          go_wp2_with fail
          go_region_held3 (fun w' => w'.cell? ⟨b, o + k, none⟩ = some x ∧ w'.cell? ⟨b2, o2 + k, none⟩ = some y ∧ Kp wr w')
            ((refine KS.out _ ?_; (focus ((repeat (first | (with_reducible assumption) | (with_reducible exact Kp.refl _) | (with_reducible apply Kp.drew) | (with_reducible apply Kp.drewN) | ((with_reducible apply Kp.setR); (focus (first | (with_reducible assumption) | (simp; done) | (simp; omega)))) | (with_reducible apply Kp.alloc) | ((with_reducible apply Kp.call); (with_reducible assumption)) | ((with_reducible apply Kp.app); (with_reducible assumption)))); done))))
            ((go_at_call 39; (with_reducible refine (HC.out _ ?_).mono ?_); (go_split_ands; (focus ((repeat (first | (with_reducible assumption) | (with_reducible exact Kp.refl _) | (with_reducible apply Kp.drew) | (with_reducible apply Kp.drewN) | ((with_reducible apply Kp.setR); (focus (first | (with_reducible assumption) | (simp; done) | (simp; omega)))) | (with_reducible apply Kp.alloc) | ((with_reducible apply Kp.call); (with_reducible assumption)) | ((with_reducible apply Kp.app); (with_reducible assumption)))); done))); rintro e w5 ⟨rfl, hb5⟩))
          go_wp2
          go_ret
          rename_i hHeld
          exact ⟨by rw [HFF.out]; rfl, (HKP.out.trans hHeld.2.2).bel⟩
      · have ht : decide (l = m) = true := decide_eq_true (eqLL HLEN.out fun j a b => HALL.out j a b (by omega))
        have HTT := hide ht
        clear ht
        go_wp2
        go_ret
        exact ⟨by rw [HTT.out]; rfl, hkp.bel⟩
  · have hb : ((l.length : Int) != (m.length : Int)) = true := by simp; omega
    have h1 : decide (l = m) = false := decide_eq_false (fun e => hlen (by rw [e]))
    rw [h1]
    clear hlen h1
    go_enter Tryd.func14, Tryd.ntmps14
    go_wp2
    go_ret
    exact Ret.mk (Below.refl _ _)
def RoRel (ks : List Int) (w : World) (ov kv : Value) (wr : World) : Prop :=
  ∃ r : Nat, r ≤ 12 ∧ kv = .int .i64 (r : Int) ∧ OWS wr w.heap.size 22 3 eInt ov ((List.range r).map (rowK ks)) ∧ (∀ q, q < r → rowK ks q ≠ []) ∧ Kp w wr
def RiRel (ks : List Int) (r : Nat) (w : World) (lv iv : Value) (wr : World) : Prop :=
  ∃ k : Nat, k ≤ ks.length ∧ iv = .int .i64 (k : Int) ∧ OW wr w.heap.size 3 eInt lv (rowK (ks.take k) r) ∧ Kp w wr
set_option maxRecDepth 100000 in
set_option maxHeartbeats 4000000 in
theorem rowsOf_any (ks : List Int) (v : Value) (w : World) (hr : RD w eInt v ks) (hn : ks.length ≤ 1000) : Calls Tryd.prog 15 #[v] w (fun e w' => ∃ u, e = .returned u ∧ RDS w' eInt u (rowsN ks 12) ∧ Kp w w') := by
  obtain ⟨A, c, rfl, hc, hm⟩ := hr.shape
  have HR := hide hr
  clear hr
  go_enter Tryd.func15, Tryd.ntmps15
  go_wp2
  go_loopw [3, 4] (RoRel ks w) (fun _ k _ => 13 - (intOf k).toNat)
  case atStart => exact ⟨0, by omega, rfl, OWS.nil, fun q h => by omega, Kp.refl _⟩
  case round =>
    obtain ⟨r, hr, rfl, hows, hne, hkp⟩ := hrel
    have HOWS := hide hows
    have HKP := hide hkp
    have HNE := hide hne
    have HREL : Hid (RiRel ks r wr (.slice none 0 0) (.int .i64 0) wr) := hide ⟨0, by omega, rfl, OW.nil, Kp.refl _⟩
    clear hows hkp hne
    go_wp2
    obtain ⟨w1, hw1⟩ : ∃ w1, w1 = wr := ⟨_, rfl⟩
    have HRS := hide hw1
    go_loopw [5, 12] (RiRel ks r w1) (fun _ k _ => ks.length - (intOf k).toNat)
    case atStart => rw [hw1]; exact HREL.out
    case round =>
      clear HREL
      obtain ⟨k, hk, rfl, hol, hkp1⟩ := hrel
      have HK1 := hide hkp1
      have HOL := hide hol
      have HHI := hide hol.hi
      have hnl : (rowK (ks.take k) r).length ≤ 1000 := Nat.le_trans (rowK_len _ _) (by simp; omega)
      by_cases hlt : k < ks.length
      · obtain ⟨b, o, rfl, _, c0⟩ := (HR.out.kp (HKP.out.trans (by rw [← HRS.out]; exact hkp1))).int hlt
        have htk := rowK_take ks r k hlt
        obtain ⟨y, hy⟩ : ∃ y, y = ks[k] := ⟨_, rfl⟩
        rw [← hy] at c0 htk
        have HHG := hide (fun W => heightR_any y W)
        obtain ⟨ht, hht⟩ : ∃ ht, ht = hgtF y := ⟨_, rfl⟩
        rw [← hht] at HHG htk
        by_cases hgo : (r : Int) < ht
        · rw [if_pos hgo] at htk
          have HTK := hide htk
          have d1 : decide ((r : Int) < ht) = true := decide_eq_true hgo
          have HM1 : Hid (((rowK (ks.take k) r).length + [y].length) * 8 ≤ 140737488355328) := hide (by simp; omega)
          have HM2 : Hid ((rowK (ks.take k) r).length + [y].length ≤ maxLen) := hide (by simp [maxLen]; omega)
          clear hol hnl hy hkp1 htk hgo hht
          go_wp2_with fail
          with_reducible refine (HHG.out _).mono ?_
          rintro e w5 ⟨rfl, rfl⟩
          go_wp2_with (at_builtin; (with_reducible refine list_app (B := w1.heap.size) (l := (rowK (ks.take k) r)) (m := [y]) row_int u5 ?_ (.tmp 20) (.tmp 22) ?_ ?_ ?_ ?_ HM1.out HM2.out ?_ ?_); (with_reducible rfl); (with_reducible rfl); rfl; (exact HOL.out.alloc _); (show RD _ _ (.slice (some ⟨_, 0, none⟩) 1 1) _; (focus ((repeat (first | (with_reducible assumption) | exact RD.new1 _ rfl | (refine RD.new1e _ ?_ rfl; simp; done) | (with_reducible apply RD.alloc) | (with_reducible apply RD.drew) | (with_reducible apply RD.drewN) | ((with_reducible apply RD.belowR); (with_reducible assumption)))); done))); (have := HK1.out.size; simp; omega); intro v3 w3 ho3 hg3 hat3)
          go_roundw
          case rel => exact ⟨k + 1, by omega, by go_num, by rw [HTK.out]; exact ho3, Kp.app hg3 HK1.out.alloc HHI.out⟩
          case measure => simp [intOf] <;> omega
        · rw [if_neg hgo, List.append_nil] at htk
          have HTK := hide htk
          have d1 : decide ((r : Int) < ht) = false := decide_eq_false hgo
          clear hol hnl hy hkp1 htk hgo hht
          go_wp2_with fail
          with_reducible refine (HHG.out _).mono ?_
          rintro e w5 ⟨rfl, rfl⟩
          go_wp2
          go_roundw
          case rel => exact ⟨k + 1, by omega, by go_num, by rw [HTK.out]; exact HOL.out, HK1.out⟩
          case measure => simp [intOf] <;> omega
      · have htk : ks.take k = ks := List.take_of_length_le (by omega)
        rw [htk] at HOL hnl
        obtain ⟨A5, c5, hv5, _, _⟩ := HOL.out.rd.shape
        subst hv5
        obtain ⟨N5, hN5⟩ : ∃ N5, N5 = (rowK ks r).length := ⟨_, rfl⟩
        rw [← hN5] at HOL HHI ⊢
        have HN5 := hide hN5
        have hRS := HRS.out
        have HKW := hide (HKP.out.trans (by rw [← hRS]; exact hkp1))
        have HOWS2 := hide (HOWS.out.kp (by rw [← hRS]; exact hkp1))
        have hsz0 : w.heap.size ≤ w1.heap.size := by rw [hRS]; exact HKP.out.size
        have HSZ0 := hide hsz0
        clear hol hkp1 HOWS hw1 hRS hsz0 htk
        by_cases he : N5 = 0
        · have hrs : Hid (rowsN ks 12 = (List.range r).map (rowK ks)) := hide (rowsN_is (List.eq_nil_of_length_eq_zero (by omega)) HNE.out)
          have d1 : ((N5 : Int) == 0) = true := by simp [he]
          clear hN5 he hnl
          go_wp2
          go_ret
          exact ⟨_, rfl, by rw [hrs.out]; exact HOWS2.out.rds (by rw [List.length_map, List.length_range]; unfold maxLen; omega), HKW.out⟩
        · have hrow : rowK ks r ≠ [] := fun e => by rw [e] at hN5; exact he hN5
          have hr12 : r < 12 := by
            by_cases e : r = 12
            · exact absurd (by rw [e]; exact rowK_12 ks) hrow
            · omega
          have HRW := hide hrow
          have d1 : ((N5 : Int) == 0) = false := by simp [he]
          obtain ⟨vs, hv, hvl, hin⟩ := HOWS2.out
          have hvl2 : vs.length = r := by rw [hvl]; simp
          obtain ⟨A3, c3, hu3, _, _⟩ := hv.rd.shape
          subst hu3
          have hhi3 := hv.hi
          have HV := hide hv
          have HVL := hide hvl
          have HIN := hide hin
          have HM1 : Hid ((vs.length + [(⟨.slice A5 N5 c5, slice_one A5 N5 c5⟩ : V1)].length) * 24 ≤ 140737488355328) := hide (by simp; omega)
          have HM2 : Hid (vs.length + [(⟨.slice A5 N5 c5, slice_one A5 N5 c5⟩ : V1)].length ≤ maxLen) := hide (by simp [maxLen]; omega)
          have HHI3 := hide hhi3
          have s8 : IntKind.i64.wrap ((r : Int) + 1) = ((r + 1 : Nat) : Int) := by rw [IntWalk.i64_in _ (by omega)]; omega
          clear hN5 he hnl hv hvl hin hhi3 hrow hvl2
          go_wp2_with (at_builtin; (with_reducible refine list_app (B := w.heap.size) (l := vs) (m := [(⟨.slice A5 N5 c5, slice_one A5 N5 c5⟩ : V1)]) row_ints (.slice A3 vs.length c3) ?_ (.tmp 29) (.tmp 31) ?_ ?_ ?_ ?_ HM1.out HM2.out ?_ ?_); (with_reducible rfl); (with_reducible rfl); rfl; (exact HV.out.alloc _); (show RD _ _ (.slice (some ⟨_, 0, none⟩) 1 1) _; exact RD.new1e _ (by simp) rfl); (have := HKW.out.size; simp; omega); intro v3 w3 ho3 hg3 hat3)
          go_roundw
          case rel =>
            have kka : Kp wr (wr.alloc (.cells #[.slice A5 N5 c5] 22)) := (Kp.refl _).alloc
            have h1 := OWS.app (u := ⟨.slice A5 N5 c5, slice_one A5 N5 c5⟩) (l := rowK ks r) (HV.out.kp kka) HVL.out (fun k a b => (HIN.out k a b).kp kka) (by decide) ((HOL.out.more HSZ0.out).kp kka) ho3 hg3
            exact ⟨r + 1, by omega, rfl, by rw [List.range_succ, List.map_append]; exact h1, fun q hq => (by
              by_cases e : q = r
              · rw [e]; exact HRW.out
              · exact HNE.out q (by omega)), Kp.app hg3 HKW.out.alloc HHI3.out⟩
          case measure => simp [intOf] <;> omega
end Go.Proofs.YtfojphaemfbfnaaDoor
