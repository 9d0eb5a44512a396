/-
  hedgkeep.BestLeast: the walk: it answers true. Conditions: the lists read as ints (RD).
-/
import Derived.Test.YtpmhpogkpkhbfaaBLeastL
import Derived.Test.YtpmhpogkpkhbfaaBLives
namespace Go.Proofs.Ytpmhpogkpkhbfaa
open Go.ChangeShapes Go.WideShapes Go.ChangeAt Go.RowKit
set_option linter.unusedVariables false
set_option linter.unusedSimpArgs false

def BlRel (ls : List (List IP)) (w : World) (iv : Value) (wr : World) : Prop := ∃ k : Nat, k ≤ ls.length ∧ iv = .int .i64 (k : Int) ∧ Kp w wr
set_option maxRecDepth 100000 in
set_option maxHeartbeats 8000000 in
theorem bestLeast_walk (hits gaps : List Int) (v u : Value) (w : World) (hr : RD w eInt v hits) (hu : RD w eInt u gaps) : Calls Try.prog 7 #[v, u] w (Ret (.bool true) w) := by
  have H1 := hide (bTree_any hits gaps v u w hr hu)
  have HC := hide (fun l t W (k : Kp w W) (h : RD W ePair t l) => cost_any l hits gaps t v u W h (hr.kp k) (hu.kp k))
  obtain ⟨A1, c1, rfl, _, _⟩ := hr.shape
  obtain ⟨A2, c2, rfl, _, _⟩ := hu.shape
  clear hr hu
  by_cases he : brR hits gaps = 0
  · have hb := best_cost he
    have hbl := (brR_ok he).1
    have HAC := hide (fun hn ls h t ht => all_cost he (hits := hits) (gaps := gaps) hn (ls := ls) h (t := t) ht)
    have het : (trB hits gaps).2.2 = 0 := by rw [trB, if_pos he]
    obtain ⟨⟨S, N, E⟩, hT⟩ : ∃ x, x = trB hits gaps := ⟨_, rfl⟩
    rw [← hT] at H1 hb HAC het
    simp only at hb het HAC
    subst het
    have HB := hide hb
    have HBL := hide hbl
    clear hb he hT hbl
    go_enter Try.func7, Try.ntmps7
    go_wp2_with fail
    with_reducible refine H1.out.mono ?_
    rintro e w1 ⟨v1, rfl, hr1, k1⟩
    have HR1 := hide hr1
    have HK1 := hide k1
    obtain ⟨A3, c3, rfl, _, _⟩ := hr1.shape
    clear hr1 k1
    go_wp2_with fail
    with_reducible refine (bestLives_any _).mono ?_
    rintro e w2 ⟨rfl, hb2⟩
    have kk2 := Kp.of hb2
    have HK2 := hide (HK1.out.trans kk2)
    have HCC := hide (HC.out S _ w2 HK2.out (HR1.out.kp kk2))
    rw [HB.out] at HCC
    clear hb2 kk2
    have d0 : (N != N) = false := by simp
    go_wp2_with fail
    with_reducible refine HCC.out.mono ?_
    rintro e w3 ⟨rfl, k3⟩
    have HK3 := hide (HK2.out.trans k3)
    clear k3 HCC
    by_cases h6 : hits.length > 6
    · have d1 : decide ((6 : Int) < (hits.length : Int)) = true := decide_eq_true (by omega)
      clear h6
      go_wp2
      go_ret
      exact ⟨rfl, HK3.out.bel⟩
    · have d1 : decide ((6 : Int) < (hits.length : Int)) = false := decide_eq_false (by omega)
      have h7 : hits.length ≤ 7 := by omega
      have HA := hide (fun W => all_any (hits.length : Int) W (by omega))
      clear h6
      go_wp2_with fail
      with_reducible refine (HA.out _).mono ?_
      rintro e w4 ⟨k4, ⟨_, _, v4, ls, rfl, hls, hall⟩ | ⟨hbad, rfl⟩⟩
      · have HK4 := hide (HK3.out.trans k4)
        rw [Int.toNat_natCast] at hall
        have hln := allOf_len hall
        have hc1 := catF_le hits.length h7 hits.length h7
        have HL := hide (HAC.out h7 ls hall)
        have HLS := hide hls
        obtain ⟨A4, c4, rfl, hc4, hm4⟩ := hls.shape
        clear hls hall k4 d1
        go_wp2
        go_loopw [60] (BlRel ls w4) (fun k _ => ls.length - (intOf k).toNat)
        case atStart => exact ⟨0, by omega, rfl, Kp.refl _⟩
        case round =>
          obtain ⟨k, hk, rfl, hkp⟩ := hrel
          have HKP := hide hkp
          by_cases hlt : k < ls.length
          · have d1 : decide (k < ls.length) = true := by simp [hlt]
            obtain ⟨b, o, x, rfl, _, cx, hx⟩ := (HLS.out.kp hkp).at_ (k := k) hlt
            obtain ⟨c, hc1, hc2⟩ := HL.out ls[k] (List.getElem_mem hlt)
            have HX := hide (HC.out ls[k] x wr (HK4.out.trans hkp) hx)
            rw [hc1] at HX
            obtain ⟨A5, c5, rfl, _, _⟩ := hx.shape
            obtain ⟨m, hm⟩ : ∃ m, m = (ls[k]).length := ⟨_, rfl⟩
            rw [← hm] at HX cx
            have d2 : decide (c < N) = false := decide_eq_false (by omega)
            clear hx hc1 hc2 hkp hm
            go_wp2_with fail
            with_reducible refine HX.out.mono ?_
            rintro e w5 ⟨rfl, k5⟩
            have HK5 := hide (HKP.out.trans k5)
            clear k5 cx
            go_wp2
            go_roundw
            case rel => exact ⟨k + 1, by omega, by go_num, HK5.out⟩
            case measure => simp [intOf]; omega
          · have d1 : decide (k < ls.length) = false := by simp [hlt]
            clear hkp
            go_wp2
            go_ret
            exact ⟨rfl, (HK4.out.trans HKP.out).bel⟩
      · omega
  · have e2 : trB hits gaps = ([], 0, brR hits gaps) := by rw [trB, if_neg he]
    rw [e2] at H1
    obtain ⟨E, hE⟩ : ∃ x, x = brR hits gaps := ⟨_, rfl⟩
    rw [← hE] at H1 he
    have d1 : (E != 0) = true := by simpa using he
    clear e2 hE he
    go_enter Try.func7, Try.ntmps7
    go_wp2_with fail
    with_reducible refine H1.out.mono ?_
    rintro e w1 ⟨v1, rfl, hr1, k1⟩
    have HK1 := hide k1
    obtain ⟨A3, c3, rfl, _, _⟩ := hr1.shape
    clear hr1 k1
    go_wp2_with fail
    with_reducible refine (bestLives_any _).mono ?_
    rintro e w2 ⟨rfl, hb2⟩
    have HK2 := hide (HK1.out.trans (Kp.of hb2))
    clear hb2
    go_wp2_with fail
    with_reducible refine (bestLives_any _).mono ?_
    rintro e w3 ⟨rfl, hb3⟩
    have HK3 := hide (HK2.out.trans (Kp.of hb3))
    clear hb3
    go_wp2
    go_ret
    exact ⟨rfl, HK3.out.bel⟩
end Go.Proofs.Ytpmhpogkpkhbfaa
