/-
  hedgkeep.ShapeSums: the walk: it answers true. Conditions: the list reads as l (RD).
-/
import Derived.Test.YtcpponjknmkfaaaSumsLaw
import Derived.Test.YtcpponjknmkfaaaSpotsR
import Derived.Test.YtcpponjknmkfaaaShapeLives
namespace Go.Proofs.Ytcpponjknmkfaaa
open Go.ChangeShapes Go.WideShapes Go.ChangeAt Go.RowKit
set_option linter.unusedVariables false
set_option linter.unusedSimpArgs false

theorem shapeParents_any (l : List IP) (v : Value) (w : World) (hr : RD w ePair v l) : Calls Try.prog 10 #[v] w (Ret2 eInt (parOf l) w) := by
  have HC := hide (fun w h => read_any l v w h)
  have HR := hide hr
  clear hr
  go_enter Try.func10, Try.ntmps10
  go_wp2_with fail
  refine (HC.out _ HR.out).mono ?_
  rintro e w1 ⟨v1, rfl, hr1, hb1⟩
  obtain ⟨A1, c1, rfl, _, _⟩ := hr1.shape
  have HR1 := hide hr1
  clear hr1
  go_wp2
  go_ret2
  exact ⟨_, rfl, HR1.out, hb1⟩

def SsRel (l : List IP) (w : World) (bv iv : Value) (wr : World) : Prop := ∃ (k : Nat) (y : Int), k ≤ l.length ∧ iv = .int .i64 k ∧ bv = .int .i64 y ∧ y = allL (l.take k) ∧ w = wr
def SiRel (l : List IP) (U : List Int) (k : Nat) (w : World) (bv xv : Value) (wr : World) : Prop := ∃ x s y, xv = .int .i64 x ∧ Chain U x s ∧ s.length ≤ U.length + 1 ∧ bv = .int .i64 y ∧ y = allL (l.take (k + 1)) - (s.length : Int) ∧ w = wr
theorem allL_bound (l : List IP) (h : ∀ k (hk : k < l.length), 0 ≤ l[k].2 ∧ l[k].2 < 200) : ∀ k, k ≤ l.length → 0 ≤ allL (l.take k) ∧ allL (l.take k) ≤ 200 * (k : Int) := by
  intro k
  induction k with
  | zero => intro _; simp [allL]
  | succ k ih =>
    intro hk
    have := ih (by omega)
    have := h k (by omega)
    rw [allL_snoc l k (by omega)]
    omega

set_option maxRecDepth 100000 in
set_option maxHeartbeats 8000000 in
theorem shapeSums_walk (l : List IP) (v : Value) (w : World) (hr : RD w ePair v l) : Calls Try.prog 7 #[v] w (Ret (.bool true) w) := by
  obtain ⟨A, c, rfl, hc, hm⟩ := hr.shape
  have HR := hide hr
  clear hr
  have HSU := hide (fun W v h => sum_any l v W h)
  have HPA := hide (fun W v h => shapeParents_any l v W h)
  have HSR := hide (fun W v h => spotsRight_any l v W h)
  by_cases h0 : (parOf l).2 = 0
  · obtain ⟨hlen, _, t, ht, hpe⟩ := parOf_len l h0
    obtain ⟨hAt, hts, hdd⟩ := ptR_to l 0 l.length 0 t (by omega) ht
    have hUl := PT.pars_len t (-1)
    obtain ⟨U, hU⟩ : ∃ U, U = t.pars (-1) := ⟨_, rfl⟩
    have hso : sumOf l = (mostL l, allL l, 0) := by rw [sumOf, if_neg (by simp [h0])]
    obtain ⟨r1, r2⟩ := sums_rows l h0
    have hab := allL_bound l (gv_bound l h0)
    rw [hso] at HSU
    rw [hpe] at HPA HSR
    rw [← hU] at HPA
    have HCH : Hid (∀ k (hk : k < U.length), Chain U U[k] (t.anc k)) := hide (by
      subst hU
      exact fun k hk => PT.chain0 t hAt k (by rw [← hUl]; exact hk))
    have hul : U.length = l.length := by rw [hU, hUl]; omega
    have HAN := hide (fun k hk => gv_anc l t hAt (by omega) hdd k hk)
    have HAL := hide (PT.anc_len t)
    have HAB := hide hab
    have HTS : Hid (t.size = l.length) := hide (by omega)
    obtain ⟨M, hM⟩ : ∃ M, M = mostL l := ⟨_, rfl⟩
    rw [← hM] at HSU r1 r2
    obtain ⟨AL, hAL⟩ : ∃ M, M = allL l := ⟨_, rfl⟩
    rw [← hAL] at HSU
    have HAL2 : Hid (allL l = AL) := hide hAL.symm
    clear hAL
    have HUL := hide hul
    clear h0 hpe ht hU hUl hts hso hab hM hul hdd
    go_enter Try.func7, Try.ntmps7
    go_wp2_with fail
    with_reducible refine (HSU.out _ _ HR.out).mono ?_
    rintro e w1 ⟨rfl, hb1⟩
    have kk1 := Kp.of hb1
    clear hb1
    go_wp2_with fail
    with_reducible refine ((HPA).out _ _ ((HR.out.kp kk1))).mono ?_
    rintro e w2 ⟨v2, rfl, hr2, hb2⟩
    have kk2 := Kp.of hb2
    have HR2 := hide hr2
    clear hr2 hb2
    obtain ⟨A2, c2, rfl, _, hm2⟩ := HR2.out.shape
    go_wp2_with fail
    with_reducible refine (shapeLives_any _).mono ?_
    rintro e w3 ⟨rfl, hb3⟩
    have kk3 := Kp.of hb3
    clear hb3
    go_wp2_with fail
    refine (ok_any [0, 0] _ _ (RD.block (l := [0, 0]) (heap_alloc_new w3 _) rfl (by simp [maxLen]))).mono ?_
    rintro e w4 ⟨rfl, hw4⟩
    have kk4 : Kp w3 w4 := by rw [← hw4]; exact (Kp.refl w3).alloc
    have hok : okL [0, 0] = true := rfl
    have HU4 := hide (HR2.out.kp (kk3.trans kk4))
    have KW := hide (kk1.trans (kk2.trans (kk3.trans kk4)))
    clear hw4 kk1 kk2 kk3 kk4
    go_wp2
    go_loopw [8, 40] (SsRel l w4) (fun _ i _ => l.length - (intOf i).toNat)
    case atStart => exact ⟨0, 0, by omega, rfl, rfl, by simp [allL], rfl⟩
    case round =>
      obtain ⟨k, y, hk, rfl, rfl, hy, rfl⟩ := hrel
      have HY := hide hy
      clear hy
      by_cases hlt : k < l.length
      · have hkU : k < U.length := by rw [HUL.out]; exact hlt
        have dk : decide (k < U.length) = true := by simp [hkU]
        obtain ⟨b, o, rfl, _, c0⟩ := HU4.out.int hkU
        go_wp2
        go_loopw [8, 10] (SiRel l U k w4) (fun _ x _ => upN U (U.length + 1) (intOf x))
        case atStart =>
          refine ⟨U[k], t.anc k, y, rfl, HCH.out k hkU, by have := HAL.out k; have := HTS.out; have := HUL.out; omega, rfl, ?_, rfl⟩
          rw [HY.out, allL_snoc l k hlt, HAN.out k hlt]; omega
        case round =>
          obtain ⟨x, s, y2, rfl, hx, hsl, rfl, hy2, rfl⟩ := hrel
          have HY2 := hide hy2
          have HX := hide hx
          clear hy2
          cases hx with
          | nil =>
            go_wp2
            go_roundw
            case rel => exact ⟨k + 1, y2, by omega, by go_num, rfl, by rw [HY2.out]; simp, rfl⟩
            case measure => simp [intOf]; omega
          | cons b2 s2 hb2 hch2 =>
            have bb : (b2 : Int) < (U.length : Int) := by omega
            obtain ⟨b', o', e1, _, c1⟩ := HU4.out.int hb2
            injection e1 with e1
            injection e1 with e2 e3
            subst e2 e3
            have HX2 := hide hch2
            have hm1 : Hid (upN U (U.length + 1) (b2 : Int) = s2.length + 1) := hide (by have := HX.out.upN (U.length + 1) hsl; simpa using this)
            have hm2 : Hid (upN U (U.length + 1) U[b2] = s2.length) := hide (HX2.out.upN (U.length + 1) (by simp at hsl; omega))
            simp only [List.length_cons] at hsl
            have hbd : -1000 ≤ y2 ∧ y2 ≤ 1000000 := by
              have h1 := HY2.out
              have h2 := HAB.out (k + 1) (by omega)
              have h3 := HUL.out
              simp only [List.length_cons] at h1
              omega
            obtain ⟨hb1, hb2'⟩ := hbd
            clear hch2
            go_wp2
            go_roundw
            case rel => exact ⟨_, s2, y2 + 1, rfl, HX2.out, by omega, rfl, by rw [HY2.out]; simp only [List.length_cons]; omega, rfl⟩
            case measure =>
              show upN U (U.length + 1) (intOf (.int .i64 U[b2])) < upN U (U.length + 1) (intOf (.int .i64 (b2 : Int)))
              simp only [intOf]
              rw [hm1.out, hm2.out]; omega
      · have dk : decide (k < U.length) = false := by have := HUL.out; simp; omega
        have hkl : y = AL := by rw [HY.out, List.take_of_length_le (by omega), HAL2.out]
        subst hkl
        rcases r2 with ⟨hn, hM⟩ | ⟨hM, hpow⟩
        · subst hM
          have d0 : ((l.length : Int) == 0) = true := by rw [hn]; rfl
          clear hn
          go_wp2_with fail
          with_reducible refine (HSR.out _ _ (HR.out.kp KW.out)).mono ?_
          rintro e w5 ⟨rfl, hb5⟩
          go_wp2
          go_ret
          exact ⟨rfl, (KW.out.trans hb5).bel⟩
        · have t2 : decide (M < 0) = false := by simp; omega
          obtain ⟨Q, hQ⟩ : ∃ Q, (if (20 : Int) < M + 1 then (20 : Int) else M + 1) = Q := ⟨_, rfl⟩
          have hQm : min (M + 1) 20 = Q := by rw [← hQ, Int.min_def]; split <;> split <;> omega
          have hQ0 : 0 ≤ Q := by rw [← hQ]; split <;> omega
          have hQ1 : Q ≤ 20 := by rw [← hQ]; split <;> omega
          rw [hQm] at hpow
          have hp : (2 : Int) ^ Q.toNat ≤ 1048576 := by
            have h1 : (2 : Nat) ^ Q.toNat ≤ 2 ^ 20 := Nat.pow_le_pow_right (by omega) (by omega)
            have h2 : (((2 : Nat) ^ Q.toNat : Nat) : Int) ≤ 1048576 := by have : (2 : Nat) ^ 20 = 1048576 := by decide
                                                                          omega
            rwa [Int.natCast_pow] at h2
          have hq : (l.length : Int) < wrap64 (2 ^ Q.toNat) := by
            rw [IntWalk.wrap64_in _ (by omega)]; exact hpow
          clear hpow hp hQm
          go_wp2_with fail
          with_reducible refine (HSR.out _ _ (HR.out.kp KW.out)).mono ?_
          rintro e w5 ⟨rfl, hb5⟩
          go_wp2
          go_ret
          exact ⟨rfl, (KW.out.trans hb5).bel⟩
  · obtain ⟨P, hP⟩ : ∃ P, P = parOf l := ⟨_, rfl⟩
    have hso : sumOf l = (0, 0, (parOf l).2) := by rw [sumOf, if_pos h0]
    rw [hso] at HSU
    rw [← hP] at HSU HPA h0
    obtain ⟨U, r⟩ := P
    simp only at h0 HSU HPA
    have hok : okL [r, r] = false := by simp [okL, h0]
    clear hP h0 hso
    go_enter Try.func7, Try.ntmps7
    go_wp2_with fail
    with_reducible refine (HSU.out _ _ HR.out).mono ?_
    rintro e w1 ⟨rfl, hb1⟩
    have kk1 := Kp.of hb1
    clear hb1
    go_wp2_with fail
    with_reducible refine ((HPA).out _ _ ((HR.out.kp kk1))).mono ?_
    rintro e w2 ⟨v2, rfl, hr2, hb2⟩
    have kk2 := Kp.of hb2
    have HR2 := hide hr2
    clear hr2 hb2
    go_wp2_with fail
    with_reducible refine (shapeLives_any _).mono ?_
    rintro e w3 ⟨rfl, hb3⟩
    have kk3 := Kp.of hb3
    clear hb3
    go_wp2_with fail
    refine (ok_any [r, r] _ _ (RD.block (l := [r, r]) (heap_alloc_new w3 _) rfl (by simp [maxLen]))).mono ?_
    rintro e w4 ⟨rfl, hw4⟩
    have kk4 : Kp w3 w4 := by rw [← hw4]; exact (Kp.refl w3).alloc
    clear hw4
    go_wp2_with fail
    with_reducible refine (shapeLives_any _).mono ?_
    rintro e w5 ⟨rfl, hb5⟩
    have kk5 := Kp.of hb5
    clear hb5
    go_wp2
    go_ret
    exact ⟨rfl, (kk1.trans (kk2.trans (kk3.trans (kk4.trans kk5)))).bel⟩
end Go.Proofs.Ytcpponjknmkfaaa
