/-
  hedgkeep.ShapeCatalan: the walk: it answers true. Conditions: none.
-/
import Derived.Test.YtcpponjknmkfaaaAllUse
import Derived.Test.YtcpponjknmkfaaaShapeLives
import Derived.Test.YtcpponjknmkfaaaSame
namespace Go.Proofs.Ytcpponjknmkfaaa
open Go.ChangeShapes Go.WideShapes Go.ChangeAt Go.RowKit
set_option linter.unusedVariables false
set_option linter.unusedSimpArgs false

def overN (n : Nat) : Nat → Nat
  | 0 => 1
  | k + 1 => overN n k * (2 * n - k) / (k + 1)
theorem overN_le : ∀ n, n ≤ 7 → ∀ k, k ≤ 7 → overN n k ≤ 10000 := by decide +kernel
theorem overN_cat : ∀ n, n ≤ 7 → overN n n / (n + 1) = catF n n := by decide +kernel
def Sc1Rel (n : Nat) (w : World) (ov iv : Value) (wr : World) : Prop := ∃ k : Nat, k ≤ n ∧ iv = .int .i64 (k : Int) ∧ ov = .int .i64 (overN n k : Int) ∧ w = wr
def Sc2Rel (ls : List (List IP)) (w : World) (iv : Value) (wr : World) : Prop := ∃ k : Nat, k ≤ ls.length ∧ iv = .int .i64 (k : Int) ∧ Kp w wr
set_option maxRecDepth 100000 in
set_option maxHeartbeats 8000000 in
theorem shapeCatalan_walk (n : Int) (w : World) (hn : -9223372036854775808 ≤ n ∧ n ≤ 9223372036854775807) : Calls Try.prog 9 #[.int .i64 n] w (Ret (.bool true) w) := by
  have HA := hide (all_any n w hn)
  clear hn
  go_enter Try.func9, Try.ntmps9
  go_wp2_with fail
  with_reducible refine HA.out.mono ?_
  rintro e w1 ⟨k1, ⟨h0, h7, v1, ls, rfl, hls, hall⟩ | ⟨hbad, rfl⟩⟩
  · obtain ⟨m, hm⟩ : ∃ m : Nat, n = (m : Int) := ⟨n.toNat, by omega⟩
    subst hm
    rw [Int.toNat_natCast] at hall
    have hm7 : m ≤ 7 := by omega
    have HK1 := hide k1
    have HLS := hide hls
    have HALL := hide hall
    obtain ⟨A1, c1, rfl, hc1, hm1⟩ := hls.shape
    clear hls hall k1 h0 h7
    go_wp2_with fail
    with_reducible refine (shapeLives_any _).mono ?_
    rintro e w2 ⟨rfl, hb2⟩
    have HK2 := hide (HK1.out.trans (Kp.of hb2))
    have HLS2 := hide (HLS.out.kp (Kp.of hb2))
    clear hb2
    go_wp2_with fail
    go_loopw [5, 27] (Sc1Rel m w2) (fun _ k _ => m - (intOf k).toNat)
    case atStart => exact ⟨0, by omega, rfl, rfl, rfl⟩
    case round =>
      obtain ⟨k, hk, rfl, rfl, rfl⟩ := hrel
      by_cases hlt : k < m
      · have d1 : decide (k < m) = true := by simp [hlt]
        have hle := overN_le m hm7 k (by omega)
        have HST : Hid (overN m (k + 1) = overN m k * (2 * m - k) / (k + 1)) := hide rfl
        obtain ⟨X, hX⟩ : ∃ X, X = overN m k := ⟨_, rfl⟩
        rw [← hX] at hle HST ⊢
        obtain ⟨d, hd⟩ : ∃ d : Nat, d = 2 * m - k := ⟨_, rfl⟩
        have s1 : IntKind.i64.wrap (2 * (m : Int)) = ((2 * m : Nat) : Int) := by rw [IntWalk.i64_in _ (by omega)]; omega
        obtain ⟨m2, hm2⟩ : ∃ m2 : Nat, m2 = 2 * m := ⟨_, rfl⟩
        rw [← hm2] at s1 hd
        have s2 : IntKind.i64.wrap ((m2 : Int) - (k : Int)) = (d : Int) := by rw [IntWalk.i64_in _ (by omega)]; omega
        have hXd : X * d ≤ 10000 * 14 := Nat.mul_le_mul hle (by omega)
        obtain ⟨Y, hY⟩ : ∃ Y : Nat, Y = X * d := ⟨_, rfl⟩
        have s3 : IntKind.i64.wrap ((X : Int) * (d : Int)) = (Y : Int) := by rw [IntWalk.i64_in _ (by rw [← Int.natCast_mul]; omega), hY, Int.natCast_mul]
        obtain ⟨k1, hk1⟩ : ∃ k1 : Nat, k1 = k + 1 := ⟨_, rfl⟩
        have s4 : IntKind.i64.wrap ((k : Int) + 1) = (k1 : Int) := by rw [IntWalk.i64_in _ (by omega)]; omega
        have hq : (Y : Int).tdiv (k1 : Int) = ((Y / k1 : Nat) : Int) := rfl
        obtain ⟨Z, hZ⟩ : ∃ Z : Nat, Z = Y / k1 := ⟨_, rfl⟩
        rw [← hZ] at hq
        have hk0 : ((k1 : Int) == 0) = false := beq_eq_false_iff_ne.2 (by omega)
        have hkz : ¬ k1 = 0 := by omega
        have hkm : ((k1 : Int) == -1) = false := beq_eq_false_iff_ne.2 (by omega)
        have HZ : Hid (overN m k1 = Z) := hide (by rw [hk1, HST.out, ← hm2, ← hd, ← hY, hZ, hk1])
        have hZl : Z ≤ 140000 := by rw [hZ]; exact Nat.le_trans (Nat.div_le_self _ _) (by omega)
        have s5 : IntKind.i64.wrap (Z : Int) = (Z : Int) := IntWalk.i64_in _ (by omega)
        have HK1' := hide hk1
        clear hX hd hm2 hY hk1 hZ hle hXd
        go_wp2
        go_roundw
        all_goals have hk1 := HK1'.out
        case rel => exact ⟨k1, by omega, rfl, by rw [HZ.out], rfl⟩
        case measure => simp [intOf]; omega
      · obtain rfl : k = m := by omega
        have d1 : decide (k < k) = false := by simp
        have HOC := hide (overN_cat k hm7)
        have hle := overN_le k hm7 k hm7
        obtain ⟨X, hX⟩ : ∃ X, X = overN k k := ⟨_, rfl⟩
        rw [← hX] at HOC hle ⊢
        have HLEN := hide (allOf_len HALL.out)
        have hcl := catF_le k hm7 k hm7
        have hll : ls.length ≤ 1000 := by rw [HLEN.out]; exact hcl
        obtain ⟨W0, rfl⟩ : ∃ x, x = w2 := ⟨_, rfl⟩
        clear hX hcl
        go_wp2_with fail
        go_loopw [42] (Sc2Rel ls W0) (fun j _ => ls.length - (intOf j).toNat)
        case atStart => exact ⟨0, by omega, rfl, Kp.refl _⟩
        case round =>
          obtain ⟨j, hj, rfl, hkp⟩ := hrel
          have HKP := hide hkp
          by_cases hlt2 : j < ls.length
          · have d2 : decide (j < ls.length) = true := by simp [hlt2]
            obtain ⟨b, o, x, rfl, _, cx, hx⟩ := (HLS2.out.kp hkp).at_ (k := j) hlt2
            obtain ⟨j1, hj1⟩ : ∃ j1 : Nat, j1 = j + 1 := ⟨_, rfl⟩
            have s6 : IntKind.i64.wrap ((j : Int) + 1) = (j1 : Int) := by rw [IntWalk.i64_in _ (by omega)]; omega
            have HJ1 := hide hj1
            by_cases hj0 : j = 0
            · subst hj0
              rw [Nat.add_zero] at cx
              clear hj1 hx hkp
              go_wp2
              go_roundw
              all_goals have hj1 := HJ1.out
              case rel => exact ⟨j1, by omega, by rw [hj1]; rfl, HKP.out⟩
              case measure => simp [intOf]; omega
            · obtain ⟨q, hq⟩ : ∃ q, j = q + 1 := ⟨j - 1, by omega⟩
              have hql : q < ls.length := by omega
              obtain ⟨_, _, y, e1, _, cy, hy⟩ := (HLS2.out.kp hkp).at_ (k := q) hql
              injection e1 with e1
              injection e1 with e2 e3
              subst e2 e3
              have hne : decide (ls[q] = ls[j]) = false := by
                have h9 := List.pairwise_iff_getElem.1 HALL.out.2 q j hql hlt2 (by omega)
                simp only [decide_eq_false_iff_not]
                intro e
                rw [e, cmpD_self] at h9
                omega
              have HEQ := hide (eqSpots_to ls[q] ls[j] false y x wr hy hx hne)
              have s7 : IntKind.i64.wrap ((j : Int) - 1) = (q : Int) := by rw [IntWalk.i64_in _ (by omega)]; omega
              have d3 : decide (0 < j) = true := by simp; omega
              clear hj1 hx hy hkp hne hq
              go_wp2_with fail
              with_reducible refine HEQ.out.mono ?_
              rintro e w5 ⟨rfl, hb5⟩
              have HK5 := hide (HKP.out.trans (Kp.of hb5))
              clear hb5 HEQ
              go_wp2
              go_roundw
              all_goals have hj1 := HJ1.out
              case rel => exact ⟨j1, by omega, rfl, HK5.out⟩
              case measure => simp [intOf]; omega
          · have d2 : decide (j < ls.length) = false := by simp [hlt2]
            have s1 : IntKind.i64.wrap ((k : Int) + 1) = ((k + 1 : Nat) : Int) := by rw [IntWalk.i64_in _ (by omega)]; omega
            have hk0 : (((k + 1 : Nat) : Int) == 0) = false := beq_eq_false_iff_ne.2 (by omega)
            have hq : (X : Int).tdiv ((k + 1 : Nat) : Int) = ((X / (k + 1) : Nat) : Int) := rfl
            rw [HOC.out, ← HLEN.out] at hq
            have s5 : IntKind.i64.wrap (ls.length : Int) = (ls.length : Int) := IntWalk.i64_in _ (by omega)
            obtain ⟨k1, hk1⟩ : ∃ k1 : Nat, k1 = k + 1 := ⟨_, rfl⟩
            rw [← hk1] at s1 hk0 hq
            have hkz : ¬ k1 = 0 := by omega
            have hkm : ((k1 : Int) == -1) = false := beq_eq_false_iff_ne.2 (by omega)
            have d3 : ((ls.length : Int) == (ls.length : Int)) = true := by simp
            clear hkp hk1
            go_wp2
            go_ret
            exact ⟨rfl, (HK2.out.trans HKP.out).bel⟩
  · have HK1 := hide k1
    clear k1 hbad
    go_wp2_with fail
    with_reducible refine (shapeLives_any _).mono ?_
    rintro e w2 ⟨rfl, hb2⟩
    have HK2 := hide (HK1.out.trans (Kp.of hb2))
    clear hb2
    go_wp2_with fail
    with_reducible refine (shapeLives_any _).mono ?_
    rintro e w3 ⟨rfl, hb3⟩
    have HK3 := hide (HK2.out.trans (Kp.of hb3))
    clear hb3
    go_wp2
    go_ret
    exact ⟨rfl, HK3.out.bel⟩
end Go.Proofs.Ytcpponjknmkfaaa
