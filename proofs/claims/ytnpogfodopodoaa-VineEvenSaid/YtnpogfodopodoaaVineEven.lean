/-
  hedgkeep.VineEven: the walk: it answers true. Conditions: the list reads as l (RD).
-/
import Derived.Test.YtnpogfodopodoaaVLives
import Derived.Test.YtnpogfodopodoaaSpKeys
import Derived.Test.YtnpogfodopodoaaSame
namespace Go.Proofs.Ytnpogfodopodoaa
open Go.ChangeShapes Go.WideShapes Go.ChangeAt Go.RowKit
set_option linter.unusedVariables false
set_option linter.unusedSimpArgs false

/-- What stands of the even tree of a right list. -/
theorem even_facts {l : List IP} (h : (parOf l).2 = 0) : ∃ (E : List IP) (U H : Nat), evenOf l = (E, (U : Int), 0) ∧ (parOf E).2 = 0 ∧ E.map Prod.fst = l.map Prod.fst ∧ E.length = l.length ∧ l.length ≤ 200 ∧ sumOf E = ((H : Int) - 1, allL E, 0) ∧ U ≤ 2 * l.length ∧
    l.length + 1 ≤ 2 ^ H ∧ (∀ k, k < H → 2 ^ k < l.length + 1) ∧ H ≤ 8 := by
  obtain ⟨t, ht, _, _, hk, hsz⟩ := vine_facts h
  obtain ⟨h1, h2, h3, h4⟩ := even_right h
  have hlen := mapRight_len l ht.right
  have q := (qt_hei _ _ (even_qt (l.map Prod.fst))).2.2.1
  have s := size_hei (evenT (l.map Prod.fst))
  rw [h3] at q s
  have hq8 : heiM (evenT (l.map Prod.fst)) ≤ 8 := q 8 (by omega)
  have hm := mostL_spots (evenT (l.map Prod.fst)) 0 (by omega)
  refine ⟨_, upE (vineT l), heiM (evenT (l.map Prod.fst)), ?_, h1, h2, ?_, hlen, ?_, ?_, s, fun k hk => ?_, hq8⟩
  · rw [evenOf, if_neg (by simp [h]), hk]
  · have := congrArg List.length h2
    simpa using this
  · rw [h4, hm]
    congr 1
    split <;> omega
  · have := up_le (vineT l); omega
  · apply Decidable.byContradiction
    intro hn
    have := q k (by omega)
    omega
def LowRel (H : Nat) (w : World) (lv : Value) (wr : World) : Prop := ∃ (k : Nat) (y : Int), lv = .int .i64 y ∧ y + 1 = k ∧ k ≤ H ∧ Kp w wr

set_option maxRecDepth 100000 in
set_option maxHeartbeats 8000000 in
theorem vineEven_walk (l : List IP) (v : Value) (w : World) (hr : RD w ePair v l) : Calls Try.prog 5 #[v] w (Ret (.bool true) w) := by
  obtain ⟨A, c, rfl, hc, hm⟩ := hr.shape
  have HR := hide hr
  clear hr
  have HEL := hide (fun W v h => vineEven_any l v W h)
  by_cases h0 : (parOf l).2 = 0
  · obtain ⟨E, U, H, hev, hE0, hEk, hEl, hlen, hso, hup, hH1, hH2, hH8⟩ := even_facts h0
    have HSU := hide (fun W v h => sum_any E v W h)
    rw [hev] at HEL
    rw [hso] at HSU
    obtain ⟨AL, hAL⟩ : ∃ a, a = allL E := ⟨_, rfl⟩
    rw [← hAL] at HSU
    have HK1 := hide (fun W v h => spotKeys_any E v W h (by omega))
    have HK2 := hide (fun W v h => spotKeys_any l v W h (by omega))
    rw [hEk] at HK1
    have HH1 := hide hH1
    have HH2 := hide hH2
    obtain ⟨M, hM⟩ : ∃ M, M = (H : Int) - 1 := ⟨_, rfl⟩
    rw [← hM] at HSU
    have HM := hide hM
    have hml : IntKind.i64.wrap (2 * (l.length : Int)) = 2 * (l.length : Int) := IntWalk.i64_in _ (by omega)
    have hup2 : decide ((U : Int) ≤ 2 * (l.length : Int)) = true := by simp; omega
    clear h0 hev hE0 hEk hEl hso hup hH1 hH2 hAL hM
    go_enter Try.func5, Try.ntmps5
    go_wp2_with fail
    with_reducible refine (HEL.out _ _ HR.out).mono ?_
    rintro e w1 ⟨v1, rfl, hr1, kk1⟩
    obtain ⟨A1, c1, rfl, _, _⟩ := hr1.shape
    have HR1 := hide hr1
    clear hr1
    go_wp2_with fail
    with_reducible refine (vineLives_any _).mono ?_
    rintro e w2 ⟨rfl, hb2⟩
    have kk2 := Kp.of hb2
    clear hb2
    go_wp2_with fail
    with_reducible refine (HSU.out _ _ (HR1.out.kp kk2)).mono ?_
    rintro e w3 ⟨rfl, hb3⟩
    have kk3 := Kp.of hb3
    clear hb3
    go_wp2
    go_loopw [9] (LowRel H w3) (fun m _ => (H : Int).toNat - (intOf m + 1).toNat)
    case atStart => exact ⟨0, -1, rfl, by omega, by omega, Kp.refl _⟩
    case round =>
      obtain ⟨k, y, rfl, hy, hk, hkp⟩ := hrel
      obtain ⟨Q, hQ⟩ : ∃ Q : Int, Q = y + 1 := ⟨_, rfl⟩
      have hy0 : -1 ≤ y := by omega
      have hy8 : y ≤ 8 := by omega
      have hw1 : IntKind.i64.wrap (y + 1) = Q := by rw [IntWalk.i64_in _ (by omega), hQ]
      have hQ0 : 0 ≤ Q := by omega
      have hQ1 : Q ≤ 8 := by omega
      obtain ⟨P, hP⟩ : ∃ P : Int, wrap64 (2 ^ Q.toNat) = P := ⟨_, rfl⟩
      have hPk : P = ((2 ^ k : Nat) : Int) ∧ 1 ≤ P ∧ P ≤ 256 := by
        have h1 : Q.toNat = k := by omega
        have h2 : (2 : Nat) ^ k ≤ 2 ^ 8 := Nat.pow_le_pow_right (by omega) (by omega)
        have h3 : 1 ≤ (2 : Nat) ^ k := Nat.pow_pos (by omega)
        have h4 : (2 : Int) ^ k = ((2 ^ k : Nat) : Int) := by rw [Int.natCast_pow]; rfl
        rw [h1, h4, IntWalk.wrap64_in _ (by omega)] at hP
        omega
      obtain ⟨hPk, g1, g2⟩ := hPk
      have HQ := hide hQ
      have HY := hide hy
      by_cases hlt : k < H
      · have h9 := HH2.out k hlt
        have d1 : decide (P - 1 < (l.length : Int)) = true := by simp; omega
        clear hQ hy hPk h9
        go_wp2
        go_roundw
        case rel => exact ⟨k + 1, Q, rfl, by have := HQ.out; have := HY.out; omega, by omega, hkp⟩
        case measure => have := HQ.out; have := HY.out; simp [intOf]; omega
      · have h9 := HH1.out
        have d1 : decide (P - 1 < (l.length : Int)) = false := by
          have : k = H := by omega
          subst this
          simp; omega
        have hyM : y = M := by have := HM.out; omega
        subst hyM
        clear hQ hy hPk h9
        go_wp2_with fail
        with_reducible refine (HK1.out _ _ (HR1.out.kp (kk2.trans (kk3.trans hkp)))).mono ?_
        rintro e w4 ⟨v4, rfl, ho4, hb4⟩
        have kk4 := Kp.of hb4
        have HR4 := hide ho4.rd
        clear ho4 hb4
        go_wp2_with fail
        with_reducible refine (HK2.out _ _ (HR.out.kp (kk1.trans (kk2.trans (kk3.trans (hkp.trans kk4)))))).mono ?_
        rintro e w5 ⟨v5, rfl, ho5, hb5⟩
        have kk5 := Kp.of hb5
        have HR5 := hide ho5.rd
        clear ho5 hb5
        go_wp2_with fail
        with_reducible refine (sameInts_to (l.map Prod.fst) (l.map Prod.fst) true _ _ _ (HR4.out.kp kk5) HR5.out (by simp)).mono ?_
        rintro e w6 ⟨rfl, hb6⟩
        have kk6 := Kp.of hb6
        clear hb6
        go_wp2
        go_ret
        exact ⟨by simp, (kk1.trans (kk2.trans (kk3.trans (hkp.trans (kk4.trans (kk5.trans kk6)))))).bel⟩
  · obtain ⟨y, hy⟩ : ∃ y, y = (parOf l).2 := ⟨_, rfl⟩
    have ev : evenOf l = ([], 0, y) := by rw [evenOf, if_pos h0, hy]
    rw [ev] at HEL
    rw [← hy] at h0
    have b0 : (y != 0) = true := by simpa using h0
    clear ev hy h0
    go_enter Try.func5, Try.ntmps5
    go_wp2_with fail
    with_reducible refine (HEL.out _ _ HR.out).mono ?_
    rintro e w1 ⟨v1, rfl, hr1, kk1⟩
    obtain ⟨A1, c1, rfl, _, _⟩ := hr1.shape
    clear hr1
    go_wp2_with fail
    with_reducible refine (vineLives_any _).mono ?_
    rintro e w2 ⟨rfl, hb2⟩
    have kk2 := Kp.of hb2
    clear hb2
    go_wp2_with fail
    with_reducible refine (vineLives_any _).mono ?_
    rintro e w3 ⟨rfl, hb3⟩
    have kk3 := Kp.of hb3
    clear hb3
    go_wp2
    go_ret
    exact ⟨by simp, (kk1.trans (kk2.trans kk3)).bel⟩
end Go.Proofs.Ytnpogfodopodoaa
