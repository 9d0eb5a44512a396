/-
  hedgref.Evened: what it answers. Conditions: the list reads as l (RD), of 200 at most.
-/
import Derived.Test.YtnpogfodopodoaaVRef
namespace Go.Proofs.Ytnpogfodopodoaa
open Go.ChangeShapes Go.WideShapes Go.ChangeAt Go.RowKit
set_option linter.unusedVariables false
set_option linter.unusedSimpArgs false

theorem treeOf_size (n : Nat) : ∀ (l : List IP) (d : Int), l.length ≤ n → (treeOf l d).1.size ≤ l.length := by
  induction n with
  | zero =>
    intro l d h
    obtain rfl : l = [] := List.eq_nil_of_length_eq_zero (by omega)
    rw [treeOf_nil]; simp [T.size]
  | succ n ih =>
    intro l d h
    rw [treeOf]
    split
    · simp [T.size]
    · next hne =>
      simp only
      split
      · have ht := topS_in l 0 l.length (List.length_pos_iff.2 hne)
        have h1 := ih (l.take (topS l 0 l.length).1) (d + 1) (by simp; omega)
        have h2 := ih (l.drop ((topS l 0 l.length).1 + 1)) (d + 1) (by simp; omega)
        simp only [List.length_take, List.length_drop] at h1 h2
        simp only [T.size]; omega
      · simp [T.size]
set_option maxRecDepth 100000 in
set_option maxHeartbeats 8000000 in
theorem evened_any (l : List IP) (v : Value) (w : World) (hr : RD w ePair v l) (hl : l.length ≤ 200) : Calls Try.prog 12 #[v] w (EvPost l w) := by
  obtain ⟨A, c, rfl, hc, hm⟩ := hr.shape
  have HR := hide hr
  have HTO := hide (treeOf_any l.length l (.slice A l.length c) 0 w (Nat.le_refl _) (by omega) (by omega) (by omega) hr)
  have hsz := treeOf_size l.length l 0 (Nat.le_refl _)
  have hok := hide (show ∃ P, P = treeOf l 0 from ⟨_, rfl⟩)
  obtain ⟨⟨t0, ok0⟩, hP⟩ := hok.out
  have HT0 : Hid ((treeOf l 0).1 = t0) := hide (by rw [← hP])
  rw [← hP] at HTO hsz
  simp only at hsz
  have hms : (toM t0).size ≤ 200 := by rw [toM_size]; omega
  have htl := toldT_len (toM t0)
  obtain ⟨T0, hT0⟩ : ∃ T, T = toM t0 := ⟨_, rfl⟩
  rw [← hT0] at hms htl
  have HTT := hide hT0
  have HVK := hide (fun p W h => vineKeys_any T0 p W h (by omega))
  clear hr hP hT0 hok
  go_enter Try.func12, Try.ntmps12
  go_wp2_with fail
  with_reducible refine HTO.out.mono ?_
  rintro e w1 ⟨p1, rfl, ht1, hb1⟩
  have HT1 : Hid (TM w1 T0 p1) := hide (by rw [HTT.out]; unfold TM; rw [ofM_toM]; exact ht1)
  have kk1 := Kp.of hb1
  clear ht1 hb1
  go_wp2_with fail
  with_reducible refine (HVK.out _ _ HT1.out).mono ?_
  rintro e w2 ⟨v2, rfl, ho2, hb2⟩
  obtain ⟨A2, c2, rfl, hc2, _⟩ := ho2.rd.shape
  have kk2 := Kp.of hb2
  have KW := hide (kk1.trans kk2)
  obtain ⟨u0, hu0⟩ : ∃ u, u = (toldT T0).length := ⟨_, rfl⟩
  rw [← hu0] at hc2 htl ⊢
  have HU0 := hide hu0
  have hw0 : IntKind.i64.wrap ((l.length : Int) - 1) = (l.length : Int) - 1 := IntWalk.i64_in _ (by omega)
  clear ho2 hb2 kk1 kk2 hu0
  go_wp2
  go_loopw [7, 8] (Ev1Rel l w) (fun _ i _ => ((intOf i) + 1).toNat)
  case atStart => exact ⟨l.length, none, by omega, rfl, rfl, by rw [List.drop_of_length_le (by omega)]; exact TM.nil, KW.out⟩
  case round =>
    obtain ⟨k, p, hk, rfl, rfl, ht, hkp⟩ := hrel
    have HT := hide ht
    clear ht
    cases k with
    | succ k =>
      have hkl : k < l.length := by omega
      obtain ⟨b, o, rfl, _, x0, x1⟩ := (HR.out.kp hkp).pair hkl
      have hi : (((k + 1 : Nat) : Int) - 1) = (k : Int) := by omega
      have hw1 : IntKind.i64.wrap ((k : Int) - 1) = (k : Int) - 1 := IntWalk.i64_in _ (by omega)
      have hge : (0 : Int) ≤ (k : Int) := by omega
      have HD : Hid (vineM ((l.drop k).map Prod.fst) = .node l[k].1 .nil (vineM ((l.drop (k + 1)).map Prod.fst))) := hide (by rw [List.drop_eq_getElem_cons hkl]; rfl)
      rw [hi]
      go_wp2
      go_roundw
      case rel => exact ⟨k, _, by omega, rfl, rfl, by rw [HD.out]; exact TM.mk TM.nil HT.out _, hkp.alloc⟩
      case measure => simp [intOf] <;> omega
    | zero =>
      have HT' : Hid (TM wr (vineM (l.map Prod.fst)) p) := hide (by have h := HT.out; simpa using h)
      have HKP := hide hkp
      clear HT
      simp only [Int.natCast_zero]
      obtain ⟨ww, rfl⟩ : ∃ x, x = wr := ⟨_, rfl⟩
      go_wp2
      go_loopw [9] (Ev2Rel l.length ww) (fun m _ => l.length + 1 - (intOf m).toNat)
      case atStart => exact ⟨0, 0, rfl, rfl, by omega, rfl⟩
      case round =>
        obtain ⟨j, M, rfl, hM, hMl, rfl⟩ := hrel
        have hw1 : IntKind.i64.wrap (2 * (M : Int)) = 2 * (M : Int) := IntWalk.i64_in _ (by omega)
        have hw2 : IntKind.i64.wrap (2 * (M : Int) + 1) = 2 * (M : Int) + 1 := IntWalk.i64_in _ (by omega)
        have HM := hide hM
        clear hM
        by_cases hlt : 2 * M + 1 ≤ l.length
        · have d1 : decide (2 * (M : Int) + 1 ≤ (l.length : Int)) = true := by simp; omega
          go_wp2
          go_roundw
          case rel => exact ⟨j + 1, 2 * M + 1, by go_num, by rw [Nat.pow_succ, ← HM.out]; omega, by omega, rfl⟩
          case measure => simp [intOf]; omega
        · have d1 : decide (2 * (M : Int) + 1 ≤ (l.length : Int)) = false := by simp; omega
          have hlg : Hid (j = lgE l.length) := hide (lgE_eq (by rw [← HM.out]; omega) (by rw [Nat.pow_succ, ← HM.out]; omega))
          obtain ⟨K, hK⟩ : ∃ K, K = l.length - M := ⟨_, rfl⟩
          have hw6 : IntKind.i64.wrap ((l.length : Int) - (M : Int)) = (K : Int) := by rw [IntWalk.i64_in _ (by omega)]; omega
          have hw7 : IntKind.i64.wrap ((u0 : Int) + (K : Int)) = ((u0 + K : Nat) : Int) := by rw [IntWalk.i64_in _ (by omega)]; omega
          have HKE := hide hK
          obtain ⟨Tf, hTf⟩ : ∃ T, T = evenT (l.map Prod.fst) := ⟨_, rfl⟩
          have hpe : l.length + 1 - 2 ^ lgE l.length = K := by rw [← hlg.out, ← HM.out]; omega
          have HTF : Hid (evenS j (pressM K (vineM (l.map Prod.fst))) = Tf) := hide (by rw [hTf, evenT, List.length_map, hpe, ← hlg.out])
          have HUF : Hid (u0 + K + upS j = upL T0 l.length) := hide (by rw [upL, hpe, ← hlg.out, HU0.out])
          have hrs : rs (vineM (l.map Prod.fst)) = l.length := by rw [rs_vine, List.length_map]
          have HRS2 : Hid (M ≤ rs (pressM K (vineM (l.map Prod.fst)))) := hide (by have h := rs_press K (vineM (l.map Prod.fst)) (by omega); omega)
          have HUL : Hid (upL T0 l.length ≤ 100000) := hide (by rw [← HUF.out]; have := upS_le j; have := HM.out; omega)
          have HTFE := hide hTf
          have HPR := hide (pressed_any K (vineM (l.map Prod.fst)) p ww HT'.out (by omega) (by omega))
          have hKl : K ≤ 200 := by omega
          have hml : M ≤ 200 := by omega
          clear hpe hrs hTf hw1 hw2 hlt hK
          go_wp2_with fail
          with_reducible refine HPR.out.mono ?_
          rintro e w5 ⟨p5, rfl, ht5, hb5⟩
          have HS : Hid (Ev3Rel Tf (upL T0 l.length) w (.int .i64 ((u0 + K : Nat) : Int)) (.pointer p5) (.int .i64 (M : Int)) w5) := hide ⟨j, M, u0 + K, _, p5, rfl, rfl, rfl, HM.out, by omega, HTF.out, HRS2.out, HUF.out, ht5, HKP.out.trans hb5⟩
          clear ht5 hb5
          go_wp2
          go_loopw [6, 7, 9] (Ev3Rel Tf (upL T0 l.length) w) (fun _ _ m _ => (intOf m).toNat)
          case atStart => exact HS.out
          case round =>
            obtain ⟨i, M, u, T, p6, rfl, rfl, rfl, hM, hM1, hT, hrs, hu, ht6, hkp6⟩ := hrel
            by_cases hlt : 1 < M
            · obtain ⟨i, rfl⟩ : ∃ k, i = k + 1 := by
                cases i with
                | zero => simp at hM; omega
                | succ k => exact ⟨k, rfl⟩
              have hp2 : 2 ^ (i + 1) = 2 * 2 ^ i := by rw [Nat.pow_succ]; omega
              obtain ⟨M2, hM2⟩ : ∃ k, k = M / 2 := ⟨_, rfl⟩
              have hm2 : M2 + 1 = 2 ^ i := by omega
              have hd1 : Int.tdiv (M : Int) 2 = (M2 : Int) := by rw [Int.tdiv_eq_ediv_of_nonneg (by omega)]; omega
              have hd2 : (M : Int) / 2 = (M2 : Int) := by omega
              have hd3 : IntKind.i64.wrap (M2 : Int) = (M2 : Int) := IntWalk.i64_in _ (by omega)
              have HT : Hid (evenS i (pressM M2 T) = Tf) := hide (by rw [← hT, evenS, ← hm2]; rfl)
              have HU : Hid (u + M2 + upS i = upL T0 l.length) := hide (by rw [← hu, upS, ← hm2]; omega)
              have hul : u ≤ 100000 := by have := HUL.out; omega
              have HRS3 : Hid (M2 ≤ rs (pressM M2 T)) := hide (by have := rs_press M2 T (by omega); omega)
              have HPR := hide (pressed_any M2 T p6 wr ht6 (by omega) (by omega))
              have HM2 := hide hm2
              have hw8 : IntKind.i64.wrap ((u : Int) + (M2 : Int)) = ((u + M2 : Nat) : Int) := by rw [IntWalk.i64_in _ (by omega)]; omega
              have hlm : M2 < M := by omega
              have d3 : decide (1 < M) = true := by simp; omega
              clear hT hu hrs hM hp2 hm2 hM2 ht6
              go_wp2_with fail
              with_reducible refine HPR.out.mono ?_
              rintro e w7 ⟨p7, rfl, ht7, hb7⟩
              have HT7 := hide ht7
              have HK7 := hide (hkp6.trans hb7)
              clear ht7 hb7
              go_wp2
              go_roundw
              case rel => exact ⟨i, M2, u + M2, _, p7, rfl, rfl, rfl, HM2.out, by omega, HT.out, HRS3.out, HU.out, HT7.out, HK7.out⟩
              case measure => simp [intOf]; omega
            · have d3 : decide (1 < M) = false := by simp; omega
              obtain ⟨hTe, hUe⟩ := evenS_low (i := i) T (by omega)
              have hTT : T = Tf := by rw [← hTe, hT]
              have hUU : u = upL T0 l.length := by omega
              have HT6 := hide ht6
              have HF : Hid (upL (toM (treeOf l 0).1) l.length = u) := hide (by rw [HT0.out, ← HTT.out, hUU])
              have HF2 : Hid (evenT (l.map Prod.fst) = T) := hide (by rw [hTT, HTFE.out])
              clear hT hu hrs hM hTe hUe hTT hUU ht6
              go_wp2
              exact bodyPost_ret (v := .tuple #[.pointer p6, .int .i64 (u : Int)]) (by simp [results, Try.results12, go_sem]) rfl ⟨p6, by rw [HF.out], by rw [HF2.out]; exact HT6.out, hkp6.bel⟩
end Go.Proofs.Ytnpogfodopodoaa
