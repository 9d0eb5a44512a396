/-
  hedgkeep.HalfWalk: the walk: it answers true. Conditions: the list reads as ops (RD).
  hedgkeep.HalfWalk: THE STATEMENT: for every input it answers true. Conditions: none.
-/
import Derived.Test.YtmhabjjabdambaaG16
import Derived.Test.YtmhabjjabdambaaG2

namespace Go.Proofs.Ytmhabjjabdambaa
open Go.ChangeShapes Go.WideShapes Go.ChangeAt Go.RowKit
set_option linter.unusedVariables false
set_option linter.unusedSimpArgs false

def HwRel (ops : List O3) (S : List Int) (w : World) (ov iv : Value) (wr : World) : Prop :=
  ∃ (k : Nat), k ≤ S.length ∧ iv = .int .i64 (k : Int) ∧ OW wr w.heap.size 43 eOp ov (ops ++ asksOf (S.take k)) ∧ Kp w wr
def HwRel2 (n : Nat) (w : World) (iv : Value) (wr : World) : Prop := ∃ (k : Nat), k ≤ n ∧ iv = .int .i64 (k : Int) ∧ Kp w wr
theorem asks_snoc (S : List Int) (k : Nat) (h : k < S.length) : asksOf (S.take k) ++ askO S[k] = asksOf (S.take (k + 1)) := by
  rw [List.take_succ_eq_append_getElem h, asksOf, asksOf, List.flatMap_append]; simp
set_option maxRecDepth 100000 in
set_option maxHeartbeats 8000000 in
theorem halfWalk_walk (ops : List O3) (v : Value) (w : World) (hr : RD w eOp v ops) : Calls Try.prog 5 #[v] w (Ret (.bool true) w) := by
  obtain ⟨A, c, rfl, hc, hm⟩ := hr.shape
  have HRD0 := hide hr
  have HHR := hide (fun W v h => hRun_any ops v W h)
  clear hr
  by_cases hl3 : ops.length > 300
  · have e1 : hRun ops = ([], [], 2) := by rw [hRun, if_pos hl3]
    rw [e1] at HHR
    have d1 : decide ((100 : Int) < (ops.length : Int)) = true := by simp; omega
    clear e1 hl3
    go_enter Try.func5, Try.ntmps5
    go_wp2_with fail
    with_reducible refine (HHR.out _ _ HRD0.out).mono ?_
    rintro e w1 ⟨v1, u1, rfl, ho1, hu1, hb1⟩
    have HK1 := hide hb1
    have HRS := hide ho1.rd
    obtain ⟨A1, c1, rfl, _, _⟩ := ho1.rd.shape
    clear ho1 hb1 hu1
    go_wp2_with fail
    with_reducible refine (halfLives_any _).mono ?_
    rintro e w2 ⟨rfl, hb2⟩
    have HRS := hide (HRS.out.kp (Kp.of hb2))
    have HK2 := hide ((HK1.out).trans (Kp.of hb2))
    clear hb2
    go_wp2_with fail
    with_reducible refine (halfLives_any _).mono ?_
    rintro e w3 ⟨rfl, hb3⟩
    have HRS := hide (HRS.out.kp (Kp.of hb3))
    have HK3 := hide ((HK2.out).trans (Kp.of hb3))
    clear hb3
    go_wp2
    go_ret
    exact ⟨rfl, HK3.out.bel⟩
  · have e1 : hRun ops = ((hRunL ops).1, (hRunL ops).2, 0) := by rw [hRun, if_neg hl3]
    have hst := hRunL_st ops
    have hlw := walk_law ops
    have hla := fun k h => walk_ans ops (S := (hRunL ops).1) rfl k h
    obtain ⟨⟨S, An0⟩, hRL⟩ : ∃ R, R = hRunL ops := ⟨_, rfl⟩
    rw [← hRL] at e1 hst hlw hla
    simp only at hst hlw hla e1
    rw [e1] at HHR
    by_cases hl1 : ops.length > 100
    · have d1 : decide ((100 : Int) < (ops.length : Int)) = true := by simp; omega
      clear e1 hl3 hst hlw hla hRL hl1
      go_enter Try.func5, Try.ntmps5
      go_wp2_with fail
      with_reducible refine (HHR.out _ _ HRD0.out).mono ?_
      rintro e w1 ⟨v1, u1, rfl, ho1, hu1, hb1⟩
      have HK1 := hide hb1
      have HRS := hide ho1.rd
      obtain ⟨A1, c1, rfl, _, _⟩ := ho1.rd.shape
      clear ho1 hb1 hu1
      go_wp2_with fail
      with_reducible refine (halfLives_any _).mono ?_
      rintro e w2 ⟨rfl, hb2⟩
      have HRS := hide (HRS.out.kp (Kp.of hb2))
      have HK2 := hide ((HK1.out).trans (Kp.of hb2))
      clear hb2
      go_wp2_with fail
      with_reducible refine (halfLives_any _).mono ?_
      rintro e w3 ⟨rfl, hb3⟩
      have HRS := hide (HRS.out.kp (Kp.of hb3))
      have HK3 := hide ((HK2.out).trans (Kp.of hb3))
      clear hb3
      go_wp2
      go_ret
      exact ⟨rfl, HK3.out.bel⟩
    · have d1 : decide ((100 : Int) < (ops.length : Int)) = false := by simp; omega
      have hSl : S.length ≤ 100 := by have := hst.2; omega
      have hup := List.pairwise_iff_getElem.1 hst.1.1
      have HUP := hide hup
      have HLA := hide hla
      have e2 : hRun (ops ++ asksOf S) = (S, An0 ++ S.flatMap (toldO S), 0) := by
        rw [hRun, if_neg (by rw [List.length_append, asks_len]; omega), hlw]
      have HH2 := hide (fun W v h => hRun_any (ops ++ asksOf S) v W h)
      rw [e2] at HH2
      have HCL := hide (fun W v h => cloneOps_any ops v W h (by omega))
      have hal : ((An0 ++ S.flatMap (toldO S)).length : Int) = ((ops ++ asksOf S).length : Int) := by
        have := hRunL_ans (ops ++ asksOf S)
        rw [hlw] at this
        simp only at this
        rw [this]
      obtain ⟨AL, hAL⟩ : ∃ AL, AL = An0 ++ S.flatMap (toldO S) := ⟨_, rfl⟩
      rw [← hAL] at HH2 HLA hal
      have hln : AL.length = ops.length + 2 * S.length := by rw [List.length_append, asks_len] at hal; omega
      obtain ⟨NN, hNN⟩ : ∃ NN, NN = ops.length + 2 * S.length := ⟨_, rfl⟩
      have HLN := hide (hln.trans hNN.symm)
      have HNN := hide hNN
      have tl : (((NN : Nat) : Int) != ((NN : Nat) : Int)) = false := by simp
      clear e1 e2 hl3 hst hlw hla hRL hup hAL hal hln hNN
      go_enter Try.func5, Try.ntmps5
      go_wp2_with fail
      with_reducible refine (HHR.out _ _ HRD0.out).mono ?_
      rintro e w1 ⟨v1, u1, rfl, ho1, hu1, hb1⟩
      have HK1 := hide hb1
      have HRS := hide ho1.rd
      obtain ⟨A1, c1, rfl, _, _⟩ := ho1.rd.shape
      clear ho1 hb1 hu1
      go_wp2_with fail
      with_reducible refine (halfLives_any _).mono ?_
      rintro e w2 ⟨rfl, hb2⟩
      have HRS := hide (HRS.out.kp (Kp.of hb2))
      have HK2 := hide ((HK1.out).trans (Kp.of hb2))
      clear hb2
      go_wp2_with fail
      with_reducible refine (HCL.out _ _ (HRD0.out.kp HK2.out)).mono ?_
      rintro e w3 ⟨v3, rfl, ho3, hb3⟩
      have HK3 := hide (Kp.of hb3)
      have HO3 := hide ho3
      clear ho3 hb3
      have HBL := hide (fun (W : World) (y : Int) => (RD.block (l := askO y) (heap_alloc_new W (.cells #[.int .i64 4, .int .i64 y, .int .i64 0, .int .i64 5, .int .i64 y, .int .i64 0] 43)) rfl (by simp [askO, maxLen]) : RD _ eOp (.slice (some ⟨W.heap.size, 0, none⟩) 2 2) (askO y)))
      go_wp2
      go_loopw [6, 47] (HwRel ops S w2) (fun _ i _ => S.length - (intOf i).toNat)
      case atStart => exact ⟨0, by omega, rfl, by have := HO3.out; simpa [asksOf] using this, HK3.out⟩
      case round =>
        obtain ⟨k, hk, rfl, ho, hkp⟩ := hrel
        obtain ⟨A6, c6, hv6, hc6, hm6⟩ := ho.rd.shape
        have hln6 : (ops ++ asksOf (S.take k)).length = ops.length + 2 * k := by rw [List.length_append, asks_len]; simp; omega
        obtain ⟨m, hm⟩ : ∃ m, m = (ops ++ asksOf (S.take k)).length := ⟨_, rfl⟩
        rw [← hm] at hv6 hc6 hln6
        subst hv6
        have HO := hide ho
        have HKP := hide hkp
        clear ho hkp
        by_cases hlt : k < S.length
        · obtain ⟨b, o, rfl, _, x0⟩ := (HRS.out.kp HKP.out).int hlt
          obtain ⟨y, hy⟩ : ∃ y, y = S[k] := ⟨_, rfl⟩
          rw [← hy] at x0
          have HN : Hid (ops ++ asksOf (S.take k) ++ askO y = ops ++ asksOf (S.take (k + 1))) := hide (by rw [hy, List.append_assoc, asks_snoc S k hlt])
          have HM1 : Hid (((ops ++ asksOf (S.take k)).length + (askO y).length) * 24 ≤ 140737488355328) := hide (by rw [← hm, hln6]; simp [askO]; omega)
          have HM2 : Hid ((ops ++ asksOf (S.take k)).length + (askO y).length ≤ maxLen) := hide (by rw [← hm, hln6]; simp [askO, maxLen]; omega)
          clear hy hm hln6 hc6
          go_wp2_with (at_builtin; (with_reducible refine list_app (B := w2.heap.size) (l := (ops ++ asksOf (S.take k))) (m := askO y) row_op (.slice A6 m c6) ?_ (.tmp 51) (.tmp 56) ?_ ?_ ?_ ?_ HM1.out HM2.out ?_ ?_); (with_reducible rfl); (with_reducible rfl); rfl; (exact HO.out.alloc _); (exact HBL.out _ y); (have := HKP.out.size; simp; omega); intro v3 w3 ho3 hg3 hat3)
          go_roundw
          case rel => exact ⟨k + 1, by omega, by go_num, by rw [← HN.out]; exact ho3, Kp.app hg3 HKP.out.alloc HO.out.hi⟩
          case measure => simp [intOf] <;> omega
        · have hkS : k = S.length := by omega
          subst hkS
          have hkl : S.take S.length = S := List.take_of_length_le (by omega)
          rw [hkl] at HO
          have hm2 : NN = m := by rw [hln6, HNN.out]
          clear hm hln6
          subst hm2
          have HRS := hide (HRS.out.kp HKP.out)
          clear hkl
          go_wp2_with fail
          with_reducible refine (HH2.out _ _ HO.out.rd).mono ?_
          rintro e w4 ⟨v4, u4, rfl, ho4, hu4, hb4⟩
          have HK4 := hide (HK2.out.trans (HKP.out.trans hb4))
          have HRS := hide (HRS.out.kp hb4)
          obtain ⟨AU, cU, rfl, _, _⟩ := hu4.shape
          have HU := hide hu4
          rw [HLN.out]
          clear ho4 hb4 hu4
          go_wp2
          go_loopw [76] (HwRel2 S.length w4) (fun i _ => S.length - (intOf i).toNat)
          case atStart => exact ⟨0, by omega, rfl, Kp.refl _⟩
          case round =>
            obtain ⟨k, hk, rfl, hkp⟩ := hrel
            have HKW := hide hkp
            clear hkp
            by_cases hlt : k < S.length
            · obtain ⟨b, o, rfl, _, x0⟩ := (HRS.out.kp HKW.out).int hlt
              have hla := HLA.out k hlt
              obtain ⟨h1, g1⟩ := List.getElem?_eq_some_iff.1 hla.1
              obtain ⟨h2, g2⟩ := List.getElem?_eq_some_iff.1 hla.2
              obtain ⟨bu, ou, hAU, hbu, y0, y1, y2, y3⟩ := (HU.out.kp HKW.out).ans h1
              obtain ⟨bu', ou', hAU', _, z0, z1, z2, z3⟩ := (HU.out.kp HKW.out).ans h2
              subst hAU
              injection hAU' with e1
              injection e1 with e1 e2
              subst e1 e2
              rw [g1] at y0 y1 y2 y3
              rw [g2] at z0 z1 z2 z3
              obtain ⟨q, hq⟩ : ∃ q, q = S[k + 1]? := ⟨_, rfl⟩
              obtain ⟨p, hp⟩ : ∃ p, p = if k = 0 then none else S[k - 1]? := ⟨_, rfl⟩
              rw [← hq] at y0 y1 y2 y3
              rw [← hp] at z0 z1 z2 z3
              obtain ⟨y, hy⟩ : ∃ y, y = S[k] := ⟨_, rfl⟩
              rw [← hy] at x0
              have HY := hide hy
              clear hy
              obtain ⟨q1, q2, hq12⟩ : ∃ q1 q2, ansN q = ⟨0, q1, 0, q2⟩ := by cases q <;> exact ⟨_, _, rfl⟩
              obtain ⟨p1, p2, hp12⟩ : ∃ q1 q2, ansN p = ⟨0, q1, 0, q2⟩ := by cases p <;> exact ⟨_, _, rfl⟩
              rw [hq12] at y0 y1 y2 y3
              rw [hp12] at z0 z1 z2 z3
              simp only at y0 y1 y2 y3 z0 z1 z2 z3
              rw [HLN.out] at h1 h2
              obtain ⟨X1, hX1⟩ : ∃ X1 : Int, X1 = 2 * (k : Int) := ⟨_, rfl⟩
              obtain ⟨I1, hI1⟩ : ∃ I1, I1 = ops.length + 2 * k := ⟨_, rfl⟩
              obtain ⟨I2, hI2⟩ : ∃ I2, I2 = ops.length + 2 * k + 1 := ⟨_, rfl⟩
              rw [← hI1] at y0 y1 y2 y3 h1
              rw [← hI2] at z0 z1 z2 z3 h2
              have HQ := hide hq12
              have HP := hide hp12
              have HQQ := hide hq
              have HPP := hide hp
              have i0 : (0 : Int) ≤ (I1 : Int) := by omega
              have i1 : (I1 : Int) < (NN : Int) := by omega
              have i2 : (0 : Int) ≤ (I2 : Int) := by omega
              have i3 : (I2 : Int) < (NN : Int) := by omega
              have hk3 : ops.length ≤ 100 := by omega
              have j1 : IntKind.i64.wrap (2 * (k : Int)) = X1 := by rw [IntWalk.i64_in _ (by omega), hX1]
              have j2 : IntKind.i64.wrap ((ops.length : Int) + X1) = (I1 : Int) := by rw [IntWalk.i64_in _ (by omega)]; omega
              have j3 : IntKind.i64.wrap ((I1 : Int) + 1) = (I2 : Int) := by rw [IntWalk.i64_in _ (by omega)]; omega
              have KS : Hid (∀ W', Kp wr W' → (W'.cell? ⟨bu, ou + I1 * 4, none⟩ = some (.int .i64 0) ∧ W'.cell? ⟨bu, ou + I1 * 4 + 1, none⟩ = some (.int .i64 q1) ∧ W'.cell? ⟨bu, ou + I1 * 4 + 2, none⟩ = some (.int .i64 0) ∧ W'.cell? ⟨bu, ou + I1 * 4 + 3, none⟩ = some (.bool q2) ∧ W'.cell? ⟨bu, ou + I2 * 4, none⟩ = some (.int .i64 0) ∧ W'.cell? ⟨bu, ou + I2 * 4 + 1, none⟩ = some (.int .i64 p1) ∧ W'.cell? ⟨bu, ou + I2 * 4 + 2, none⟩ = some (.int .i64 0) ∧ W'.cell? ⟨bu, ou + I2 * 4 + 3, none⟩ = some (.bool p2) ∧ Kp wr W')) := hide fun W' h => ⟨h.cell y0, h.cell y1, h.cell y2, h.cell y3, h.cell z0, h.cell z1, h.cell z2, h.cell z3, h⟩
              have KD0 := Kp.refl wr
              have KD1 := KD0.drew
              clear hq12 hp12 hq hp hla g1 g2 h1 h2 hX1 hI1 hI2
              go_wp2_with fail
              go_region_held3 (fun w' => w'.cell? ⟨bu, ou + I1 * 4, none⟩ = some (.int .i64 0) ∧ w'.cell? ⟨bu, ou + I1 * 4 + 1, none⟩ = some (.int .i64 q1) ∧ w'.cell? ⟨bu, ou + I1 * 4 + 2, none⟩ = some (.int .i64 0) ∧ w'.cell? ⟨bu, ou + I1 * 4 + 3, none⟩ = some (.bool q2) ∧ w'.cell? ⟨bu, ou + I2 * 4, none⟩ = some (.int .i64 0) ∧ w'.cell? ⟨bu, ou + I2 * 4 + 1, none⟩ = some (.int .i64 p1) ∧ w'.cell? ⟨bu, ou + I2 * 4 + 2, none⟩ = some (.int .i64 0) ∧ w'.cell? ⟨bu, ou + I2 * 4 + 3, none⟩ = some (.bool p2) ∧ Kp wr w') ((go_split_ands; refine KS.out _ ?_; (focus ((repeat (first | (with_reducible assumption) | (with_reducible exact Kp.refl _) | (with_reducible apply Kp.drew) | (with_reducible apply Kp.drewN) | ((with_reducible apply Kp.setR); (focus (first | (with_reducible assumption) | (simp; done) | (simp; omega)))) | (with_reducible apply Kp.alloc) | ((with_reducible apply Kp.call); (with_reducible assumption)) | ((with_reducible apply Kp.app); (with_reducible assumption)))); done)))) (fail)
              all_goals
                first
                  | (go_wp2_with fail
                     generalize hW : World.drew _ = W
                     have kW : Kp wr W := by rw [← hW]; exact (Kp.refl wr).alloc.alloc.drew
                     refine (fun (a1 : W.cell? ⟨(wr.heap.size + 1), 1, none⟩ = some (.int .i64 q1)) (a3 : W.cell? ⟨(wr.heap.size + 1), 3, none⟩ = some (.bool q2)) (b1 : W.cell? ⟨wr.heap.size, 1, none⟩ = some (.int .i64 p1)) (b3 : W.cell? ⟨wr.heap.size, 3, none⟩ = some (.bool p2)) => ?_) ?_ ?_ ?_ ?_
                     rotate_left
                     · rw [← hW]; simp [go_sem]; done
                     · rw [← hW]; simp [go_sem]; done
                     · rw [← hW]; simp [go_sem]; done
                     · rw [← hW]; simp [go_sem]; done
                     have HKWW := hide (HKW.out.trans kW)
                     clear hW y0 y1 y2 y3 z0 z1 z2 z3 x0 KS KD0 KD1 j1 j2 j3 i0 i1 i2 i3
                     obtain ⟨K2, hK2⟩ : ∃ K2, K2 = k + 1 := ⟨_, rfl⟩
                     have j5 : IntKind.i64.wrap ((k : Int) + 1) = (K2 : Int) := by rw [IntWalk.i64_in _ (by omega)]; omega
                     have HK2' := hide hK2
                     have h2n : (0 : Int) ≤ (K2 : Int) := by omega
                     by_cases hk0 : k = 0
                     · have d0 : decide (0 < k) = false := by simp [hk0]
                       have hp := HP.out
                       rw [HPP.out, if_pos hk0] at hp
                       injection hp with _ e1 _ e2
                       subst e1 e2
                       clear hk0
                       by_cases hn : K2 < S.length
                       · have d5 : decide (K2 < S.length) = true := by simp; omega
                         have hp := HQ.out
                         rw [HQQ.out, List.getElem?_eq_getElem (by omega)] at hp
                         injection hp with _ e1 _ e2
                         subst e2
                         obtain ⟨b', o', hA', _, x2⟩ := (HRS.out.kp HKWW.out).int hn
                         injection hA' with hA'
                         injection hA' with e3 e4
                         subst e3 e4
                         have ep : S[K2] = q1 := by rw [← e1]; congr 1
                         rw [ep] at x2
                         have h2s : (K2 : Int) < (S.length : Int) := by omega
                         clear hn ep e1 hK2
                         go_wp2_with fail
                         go_quiet (fail)
                         go_wp2
                         go_roundw
                         case rel => exact ⟨k + 1, by omega, by have := HK2'.out; congr 1; omega, HKWW.out.drewN⟩
                         case measure => have := HK2'.out; simp [intOf] <;> omega
                       · have d5 : decide (K2 < S.length) = false := by simp; omega
                         have hp := HQ.out
                         rw [HQQ.out, List.getElem?_eq_none (by omega)] at hp
                         injection hp with _ e1 _ e2
                         subst e1 e2
                         clear hn hK2
                         go_wp2_with fail
                         go_quiet (fail)
                         go_wp2
                         go_roundw
                         case rel => exact ⟨k + 1, by omega, by have := HK2'.out; congr 1; omega, HKWW.out.drewN⟩
                         case measure => have := HK2'.out; simp [intOf] <;> omega
                     · have d0 : decide (0 < k) = true := by simp; omega
                       obtain ⟨K1, hK1⟩ : ∃ K1, K1 = k - 1 := ⟨_, rfl⟩
                       have hp := HP.out
                       rw [HPP.out, if_neg hk0, List.getElem?_eq_getElem (by omega)] at hp
                       injection hp with _ e1 _ e2
                       subst e2
                       have hlt1 : K1 < S.length := by omega
                       obtain ⟨b', o', hA', _, x1⟩ := (HRS.out.kp HKWW.out).int hlt1
                       injection hA' with hA'
                       injection hA' with e3 e4
                       subst e3 e4
                       have ep : S[K1] = p1 := by rw [← e1]; congr 1
                       rw [ep] at x1
                       have j4 : IntKind.i64.wrap ((k : Int) - 1) = (K1 : Int) := by rw [IntWalk.i64_in _ (by omega)]; omega
                       have h1n : (0 : Int) ≤ (K1 : Int) := by omega
                       have h1s : (K1 : Int) < (S.length : Int) := by omega
                       have hyp : decide (y ≤ p1) = false := by
                         have := HUP.out K1 k hlt1 hlt (by omega)
                         rw [ep, ← HY.out] at this
                         simp; omega
                       clear hk0 ep e1 hK1 hlt1
                       by_cases hn : K2 < S.length
                       · have d5 : decide (K2 < S.length) = true := by simp; omega
                         have hp := HQ.out
                         rw [HQQ.out, List.getElem?_eq_getElem (by omega)] at hp
                         injection hp with _ e1 _ e2
                         subst e2
                         obtain ⟨b', o', hA', _, x2⟩ := (HRS.out.kp HKWW.out).int hn
                         injection hA' with hA'
                         injection hA' with e3 e4
                         subst e3 e4
                         have ep : S[K2] = q1 := by rw [← e1]; congr 1
                         rw [ep] at x2
                         have h2s : (K2 : Int) < (S.length : Int) := by omega
                         clear hn ep e1 hK2
                         go_wp2_with fail
                         go_quiet (fail)
                         go_wp2
                         go_roundw
                         case rel => exact ⟨k + 1, by omega, by have := HK2'.out; congr 1; omega, HKWW.out.drewN⟩
                         case measure => have := HK2'.out; simp [intOf] <;> omega
                       · have d5 : decide (K2 < S.length) = false := by simp; omega
                         have hp := HQ.out
                         rw [HQQ.out, List.getElem?_eq_none (by omega)] at hp
                         injection hp with _ e1 _ e2
                         subst e1 e2
                         clear hn hK2
                         go_wp2_with fail
                         go_quiet (fail)
                         go_wp2
                         go_roundw
                         case rel => exact ⟨k + 1, by omega, by have := HK2'.out; congr 1; omega, HKWW.out.drewN⟩
                         case measure => have := HK2'.out; simp [intOf] <;> omega)
                  | (go_wp2_with fail
                     generalize hW : World.drew _ = W
                     have kW : Kp wr W := by rw [← hW]; exact (Kp.refl wr).alloc.alloc.drew
                     refine (fun (a1 : W.cell? ⟨wr.heap.size, 1, none⟩ = some (.int .i64 q1)) (a3 : W.cell? ⟨wr.heap.size, 3, none⟩ = some (.bool q2)) (b1 : W.cell? ⟨(wr.heap.size + 1), 1, none⟩ = some (.int .i64 p1)) (b3 : W.cell? ⟨(wr.heap.size + 1), 3, none⟩ = some (.bool p2)) => ?_) ?_ ?_ ?_ ?_
                     rotate_left
                     · rw [← hW]; simp [go_sem]; done
                     · rw [← hW]; simp [go_sem]; done
                     · rw [← hW]; simp [go_sem]; done
                     · rw [← hW]; simp [go_sem]; done
                     have HKWW := hide (HKW.out.trans kW)
                     clear hW y0 y1 y2 y3 z0 z1 z2 z3 x0 KS KD0 KD1 j1 j2 j3 i0 i1 i2 i3
                     obtain ⟨K2, hK2⟩ : ∃ K2, K2 = k + 1 := ⟨_, rfl⟩
                     have j5 : IntKind.i64.wrap ((k : Int) + 1) = (K2 : Int) := by rw [IntWalk.i64_in _ (by omega)]; omega
                     have HK2' := hide hK2
                     have h2n : (0 : Int) ≤ (K2 : Int) := by omega
                     by_cases hk0 : k = 0
                     · have d0 : decide (0 < k) = false := by simp [hk0]
                       have hp := HP.out
                       rw [HPP.out, if_pos hk0] at hp
                       injection hp with _ e1 _ e2
                       subst e1 e2
                       clear hk0
                       by_cases hn : K2 < S.length
                       · have d5 : decide (K2 < S.length) = true := by simp; omega
                         have hp := HQ.out
                         rw [HQQ.out, List.getElem?_eq_getElem (by omega)] at hp
                         injection hp with _ e1 _ e2
                         subst e2
                         obtain ⟨b', o', hA', _, x2⟩ := (HRS.out.kp HKWW.out).int hn
                         injection hA' with hA'
                         injection hA' with e3 e4
                         subst e3 e4
                         have ep : S[K2] = q1 := by rw [← e1]; congr 1
                         rw [ep] at x2
                         have h2s : (K2 : Int) < (S.length : Int) := by omega
                         clear hn ep e1 hK2
                         go_wp2_with fail
                         go_quiet (fail)
                         go_wp2
                         go_roundw
                         case rel => exact ⟨k + 1, by omega, by have := HK2'.out; congr 1; omega, HKWW.out.drewN⟩
                         case measure => have := HK2'.out; simp [intOf] <;> omega
                       · have d5 : decide (K2 < S.length) = false := by simp; omega
                         have hp := HQ.out
                         rw [HQQ.out, List.getElem?_eq_none (by omega)] at hp
                         injection hp with _ e1 _ e2
                         subst e1 e2
                         clear hn hK2
                         go_wp2_with fail
                         go_quiet (fail)
                         go_wp2
                         go_roundw
                         case rel => exact ⟨k + 1, by omega, by have := HK2'.out; congr 1; omega, HKWW.out.drewN⟩
                         case measure => have := HK2'.out; simp [intOf] <;> omega
                     · have d0 : decide (0 < k) = true := by simp; omega
                       obtain ⟨K1, hK1⟩ : ∃ K1, K1 = k - 1 := ⟨_, rfl⟩
                       have hp := HP.out
                       rw [HPP.out, if_neg hk0, List.getElem?_eq_getElem (by omega)] at hp
                       injection hp with _ e1 _ e2
                       subst e2
                       have hlt1 : K1 < S.length := by omega
                       obtain ⟨b', o', hA', _, x1⟩ := (HRS.out.kp HKWW.out).int hlt1
                       injection hA' with hA'
                       injection hA' with e3 e4
                       subst e3 e4
                       have ep : S[K1] = p1 := by rw [← e1]; congr 1
                       rw [ep] at x1
                       have j4 : IntKind.i64.wrap ((k : Int) - 1) = (K1 : Int) := by rw [IntWalk.i64_in _ (by omega)]; omega
                       have h1n : (0 : Int) ≤ (K1 : Int) := by omega
                       have h1s : (K1 : Int) < (S.length : Int) := by omega
                       have hyp : decide (y ≤ p1) = false := by
                         have := HUP.out K1 k hlt1 hlt (by omega)
                         rw [ep, ← HY.out] at this
                         simp; omega
                       clear hk0 ep e1 hK1 hlt1
                       by_cases hn : K2 < S.length
                       · have d5 : decide (K2 < S.length) = true := by simp; omega
                         have hp := HQ.out
                         rw [HQQ.out, List.getElem?_eq_getElem (by omega)] at hp
                         injection hp with _ e1 _ e2
                         subst e2
                         obtain ⟨b', o', hA', _, x2⟩ := (HRS.out.kp HKWW.out).int hn
                         injection hA' with hA'
                         injection hA' with e3 e4
                         subst e3 e4
                         have ep : S[K2] = q1 := by rw [← e1]; congr 1
                         rw [ep] at x2
                         have h2s : (K2 : Int) < (S.length : Int) := by omega
                         clear hn ep e1 hK2
                         go_wp2_with fail
                         go_quiet (fail)
                         go_wp2
                         go_roundw
                         case rel => exact ⟨k + 1, by omega, by have := HK2'.out; congr 1; omega, HKWW.out.drewN⟩
                         case measure => have := HK2'.out; simp [intOf] <;> omega
                       · have d5 : decide (K2 < S.length) = false := by simp; omega
                         have hp := HQ.out
                         rw [HQQ.out, List.getElem?_eq_none (by omega)] at hp
                         injection hp with _ e1 _ e2
                         subst e1 e2
                         clear hn hK2
                         go_wp2_with fail
                         go_quiet (fail)
                         go_wp2
                         go_roundw
                         case rel => exact ⟨k + 1, by omega, by have := HK2'.out; congr 1; omega, HKWW.out.drewN⟩
                         case measure => have := HK2'.out; simp [intOf] <;> omega)
            · go_wp2
              go_ret
              exact ⟨rfl, (HK4.out.trans HKW.out).bel⟩
end Go.Proofs.Ytmhabjjabdambaa
namespace Go.Proofs.Ytmhabjjabdambaa
open Go.ChangeShapes Go.WideShapes Go.ChangeAt Go.RowKit Go.Deep
set_option linter.unusedVariables false
set_option linter.unusedSimpArgs false

set_option maxRecDepth 100000 in
theorem halfWalk_lifted (os : Os) (started : os.Started) (H : Type) (enc : TypeId × Value → H) :
    ReturnsInHanded {} Try.checked os 5 .any (Rows.halfWalkSpec.pre6 enc Try.prog Try.f5 Rows.halfWalkRow.domain false) (Rows.halfWalkSpec.post enc Try.prog Try.f5 false true false false) := by
  refine returnsInHanded_of_change (C := Try.checked) own started (by kernel_rfl) Try.func5
    (ChangeSpec.witness6 (enc := enc) (C := Try.checked) false ⟨#[], #[.slice none 0 0], []⟩ 8 (by kernel_rfl) (by kernel_rfl) (by kernel_rfl) (by kernel_rfl)) ?_
  intro W base args ds gs before hval0 hW hcnd _
  have hval : ∀ (j : Nat) t v, Try.f5.params[j]? = some t → args[j]? = some v → Value.okWide Try.prog W .any base t v := hval0
  have hW' := hW
  obtain ⟨p, q, hA0, hV, rfl, hfz, hnd⟩ := hW
  have hA : DataW.TrodAll enc Try.prog W 0 (fun _ => true) true Try.f5.params.toList args.toList ds p := hA0
  rw [Try.params5] at hA hval
  obtain ⟨v0, vs0, d0, ds0, p0, q0, hargs, rfl, rfl, h0, r0⟩ := trodAll_cons hA
  obtain ⟨rfl, rfl, rfl⟩ := trodAll_nil r0
  obtain rfl : args = #[v0] := by cases args; simp_all
  obtain ⟨rfl, rfl⟩ := trodVars_none hV
  obtain ⟨a0, n0, c0, rfl⟩ := okWide_slice Try.underlying29 (hval 0 29 v0 rfl rfl)
  have lt0 : ∀ x ∈ p0, x.block < W.heap.size := by obtain ⟨m, hm⟩ := h0; exact DataW.trod_lt m _ _ _ hm
  obtain ⟨l0, w0⟩ := arg_ops h0
  clear hA0 hval0
  refine (halfWalk_walk l0 _ W w0).mono fun e W' ⟨he, bel⟩ => ?_
  subst he
  exact ⟨_, rfl, _, _, _, [], _, [], hW', trodAll_mk1 (shut_bool Try.underlying4 _), (trodAll_cons_mk (Below.trod laidOut (by kernel_rfl) (of_decide_eq_true (by kernel_rfl)) h0 bel lt0) trodAll_mk0), rfl, bel.frame _, fun h => by cases h⟩

set_option maxRecDepth 100000 in
set_option maxHeartbeats 8000000 in
theorem halfWalk_closed : joinedFacts Try.checked.prog 5 Try.f5 Rows.halfWalkSpec Rows.halfWalkRow = true := by
  unfold joinedFacts
  repeat' (with_reducible refine and_true_of ?_ ?_)
  all_goals (as_aux_lemma => kernel_rfl)
theorem halfWalk_over : Rows.halfWalkRow.holds Try.pinned (OpenSpec.ofChange Rows.halfWalkSpec) :=
  OpenClaim.holds_of_wide 5 Try.f5 rfl rfl rfl rfl rfl rfl rfl ⟨rfl, rfl, rfl, rfl, rfl⟩ rfl rfl rfl rfl rfl (by as_aux_lemma => kernel_rfl) Try.func5 halfWalk_closed
    (of_decide_eq_true (by as_aux_lemma => kernel_rfl)) (by as_aux_lemma => unfold Func.isWrapper; first | (rw [if_pos (by decide +kernel)]; kernel_rfl) | (rw [if_neg (by decide +kernel)]; exact ⟨rfl, rfl⟩))
    (fun os started H enc _ => halfWalk_lifted os started H enc)
theorem halfWalk_proved : Rows.HalfWalkSaid := halfWalk_over
#print axioms halfWalk_proved
end Go.Proofs.Ytmhabjjabdambaa
