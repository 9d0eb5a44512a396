/-
  hedgkeep.HalfCuts: the walk: it answers true. Conditions: the list reads as ops (RD).
  hedgkeep.HalfCuts: THE STATEMENT: for every input it answers true. Conditions: none.
-/
import Derived.Test.YtmhabjjabdambaaG16
import Derived.Test.YtmhabjjabdambaaG2

namespace Go.Proofs.Ytmhabjjabdambaa
open Go.ChangeShapes Go.WideShapes Go.ChangeAt Go.RowKit
set_option linter.unusedVariables false
set_option linter.unusedSimpArgs false

set_option maxRecDepth 100000 in
set_option maxHeartbeats 8000000 in
theorem halfCuts_walk (ops : List O3) (key : Int) (v : Value) (w : World) (hr : RD w eOp v ops) (hkey : -9223372036854775808 ≤ key ∧ key ≤ 9223372036854775807) : Calls Try.prog 6 #[v, .int .i64 key] w (Ret (.bool true) w) := by
  obtain ⟨A, c, rfl, hc, hm⟩ := hr.shape
  have HRD0 := hide hr
  have HHR := hide (fun W v h => hRun_any ops v W h)
  clear hr hkey
  by_cases hl3 : ops.length > 300
  · have e1 : hRun ops = ([], [], 2) := by rw [hRun, if_pos hl3]
    rw [e1] at HHR
    clear e1 hl3
    go_enter Try.func6, Try.ntmps6
    go_wp2_with fail
    with_reducible refine (HHR.out _ _ HRD0.out).mono ?_
    rintro e w1 ⟨v1, u1, rfl, ho1, hu1, kk1⟩
    have HRS := hide ho1.rd
    obtain ⟨A1, c1, rfl, _, _⟩ := ho1.rd.shape
    clear ho1 hu1
    go_wp2_with fail
    with_reducible refine (halfLives_any _).mono ?_
    rintro e w2 ⟨rfl, hb2⟩
    have kk2 := Kp.of hb2
    clear hb2
    go_wp2_with fail
    with_reducible refine (halfLives_any _).mono ?_
    rintro e w3 ⟨rfl, hb3⟩
    have kk3 := Kp.of hb3
    clear hb3
    go_wp2
    go_ret
    exact ⟨rfl, (kk1.trans (kk2.trans kk3)).bel⟩
  · have e1 : hRun ops = ((hRunL ops).1, (hRunL ops).2, 0) := by rw [hRun, if_neg hl3]
    rw [e1] at HHR
    by_cases hl1 : ops.length > 298
    · have d1 : decide ((298 : Int) < (ops.length : Int)) = true := by simp; omega
      clear e1 hl3 hl1
      go_enter Try.func6, Try.ntmps6
      go_wp2_with fail
      with_reducible refine (HHR.out _ _ HRD0.out).mono ?_
      rintro e w1 ⟨v1, u1, rfl, ho1, hu1, kk1⟩
      have HRS := hide ho1.rd
      obtain ⟨A1, c1, rfl, _, _⟩ := ho1.rd.shape
      clear ho1 hu1
      go_wp2_with fail
      with_reducible refine (halfLives_any _).mono ?_
      rintro e w2 ⟨rfl, hb2⟩
      have kk2 := Kp.of hb2
      clear hb2
      go_wp2_with fail
      with_reducible refine (halfLives_any _).mono ?_
      rintro e w3 ⟨rfl, hb3⟩
      have kk3 := Kp.of hb3
      clear hb3
      go_wp2
      go_ret
      exact ⟨rfl, (kk1.trans (kk2.trans kk3)).bel⟩
    · have d1 : decide ((298 : Int) < (ops.length : Int)) = false := by simp; omega
      by_cases hk0 : key < 0
      · have d2 : decide (key < 0) = true := decide_eq_true hk0
        clear e1 hl3 hl1 hk0
        go_enter Try.func6, Try.ntmps6
        go_wp2_with fail
        with_reducible refine (HHR.out _ _ HRD0.out).mono ?_
        rintro e w1 ⟨v1, u1, rfl, ho1, hu1, kk1⟩
        have HRS := hide ho1.rd
        obtain ⟨A1, c1, rfl, _, _⟩ := ho1.rd.shape
        clear ho1 hu1
        go_wp2_with fail
        with_reducible refine (halfLives_any _).mono ?_
        rintro e w2 ⟨rfl, hb2⟩
        have kk2 := Kp.of hb2
        clear hb2
        go_wp2_with fail
        with_reducible refine (halfLives_any _).mono ?_
        rintro e w3 ⟨rfl, hb3⟩
        have kk3 := Kp.of hb3
        clear hb3
        go_wp2
        go_ret
        exact ⟨rfl, (kk1.trans (kk2.trans kk3)).bel⟩
      · have d2 : decide (key < 0) = false := decide_eq_false hk0
        by_cases hk1 : 65535 < key
        · have d3 : decide (65535 < key) = true := decide_eq_true hk1
          clear e1 hl3 hl1 hk0 hk1
          go_enter Try.func6, Try.ntmps6
          go_wp2_with fail
          with_reducible refine (HHR.out _ _ HRD0.out).mono ?_
          rintro e w1 ⟨v1, u1, rfl, ho1, hu1, kk1⟩
          have HRS := hide ho1.rd
          obtain ⟨A1, c1, rfl, _, _⟩ := ho1.rd.shape
          clear ho1 hu1
          go_wp2_with fail
          with_reducible refine (halfLives_any _).mono ?_
          rintro e w2 ⟨rfl, hb2⟩
          have kk2 := Kp.of hb2
          clear hb2
          go_wp2_with fail
          with_reducible refine (halfLives_any _).mono ?_
          rintro e w3 ⟨rfl, hb3⟩
          have kk3 := Kp.of hb3
          clear hb3
          go_wp2
          go_ret
          exact ⟨rfl, (kk1.trans (kk2.trans kk3)).bel⟩
        · have d3 : decide (65535 < key) = false := decide_eq_false hk1
          have hst := (hRunL_st ops).1.1
          have hSl : (hRunL ops).1.length ≤ 300 := by have := (hRunL_st ops).2; omega
          have hal := hRunL_ans ops
          have c1 := cuts_one ops (key := key) (by omega)
          have c2 := cuts_two ops (key := key) (by omega)
          obtain ⟨⟨S, An0⟩, hRL⟩ : ∃ R, R = hRunL ops := ⟨_, rfl⟩
          rw [← hRL] at e1 hst c1 c2 hal HHR hSl
          simp only at hst c1 c2 e1 HHR hal hSl
          obtain ⟨is, his⟩ : ∃ is, is = decide (key ∈ S) := ⟨_, rfl⟩
          obtain ⟨NN, hNN⟩ : ∃ NN, NN = ops.length + 2 := ⟨_, rfl⟩
          obtain ⟨N1, hN1⟩ : ∃ NN, NN = ops.length + 1 := ⟨_, rfl⟩
          obtain ⟨N0, hN0⟩ : ∃ NN, NN = ops.length := ⟨_, rfl⟩
          obtain ⟨AL, hAL⟩ : ∃ AL : List An, AL = An0 ++ [⟨0, 0, 0, is⟩, ⟨0, 0, 0, true⟩] := ⟨_, rfl⟩
          have hALn : AL.length = NN := by rw [hAL]; simp [hal]; omega
          have a0 : AL[N0]? = some ⟨0, 0, 0, is⟩ := by rw [hAL, hN0, List.getElem?_append_right (by omega), hal, Nat.sub_self]; rfl
          have a1 : AL[N1]? = some ⟨0, 0, 0, true⟩ := by rw [hAL, hN1, List.getElem?_append_right (by omega), hal, show ops.length + 1 - ops.length = 1 by omega]; rfl
          rw [← his, ← hAL] at c1 c2
          obtain ⟨S1, hS1⟩ : ∃ S1, S1 = delU (insU S key) key := ⟨_, rfl⟩
          obtain ⟨S2, hS2⟩ : ∃ S2, S2 = insU S key := ⟨_, rfl⟩
          rw [← hS1] at c1
          rw [← hS2] at c2
          have r1 : hRun (ops ++ [(1, key, 0), (3, key, 0)]) = (S1, AL, 0) := by rw [hRun, if_neg (by simp; omega), c1]
          have r2 : hRun (ops ++ [(1, key, 0), (1, key, 0)]) = (S2, AL, 0) := by rw [hRun, if_neg (by simp; omega), c2]
          have HRA := hide (fun W v h => hRun_any (ops ++ [(1, key, 0), (3, key, 0)]) v W h)
          have HRB := hide (fun W v h => hRun_any (ops ++ [(1, key, 0), (1, key, 0)]) v W h)
          rw [r1] at HRA
          rw [r2] at HRB
          have HCL := hide (fun W v h => cloneOps_any ops v W h (by omega))
          have HB1 := hide (fun (W : World) (g : Nat) (h : W.heap.size = g) => (h ▸ RD.block (l := [((1, key, 0) : O3), (3, key, 0)]) (heap_alloc_new W (.cells #[.int .i64 1, .int .i64 key, .int .i64 0, .int .i64 3, .int .i64 key, .int .i64 0] 43)) rfl (by simp [maxLen]) : RD (W.alloc (.cells #[.int .i64 1, .int .i64 key, .int .i64 0, .int .i64 3, .int .i64 key, .int .i64 0] 43)) eOp (.slice (some ⟨g, 0, none⟩) 2 2) [((1, key, 0) : O3), (3, key, 0)]))
          have HB2 := hide (fun (W : World) (g : Nat) (h : W.heap.size = g) => (h ▸ RD.block (l := [((1, key, 0) : O3), (1, key, 0)]) (heap_alloc_new W (.cells #[.int .i64 1, .int .i64 key, .int .i64 0, .int .i64 1, .int .i64 key, .int .i64 0] 43)) rfl (by simp [maxLen]) : RD (W.alloc (.cells #[.int .i64 1, .int .i64 key, .int .i64 0, .int .i64 1, .int .i64 key, .int .i64 0] 43)) eOp (.slice (some ⟨g, 0, none⟩) 2 2) [((1, key, 0) : O3), (1, key, 0)]))
          have HM1 : Hid ((ops.length + [((1, key, 0) : O3), (3, key, 0)].length) * 24 ≤ 140737488355328) := hide (by simp; omega)
          have HM2 : Hid (ops.length + [((1, key, 0) : O3), (3, key, 0)].length ≤ maxLen) := hide (by simp [maxLen]; omega)
          have HM3 : Hid ((ops.length + [((1, key, 0) : O3), (1, key, 0)].length) * 24 ≤ 140737488355328) := hide (by simp; omega)
          have HM4 : Hid (ops.length + [((1, key, 0) : O3), (1, key, 0)].length ≤ maxLen) := hide (by simp [maxLen]; omega)
          have HS1 := hide hS1
          have HS2 := hide hS2
          have HIS := hide his
          have HUP := hide hst
          have HLEN := hide hSl
          have HA0 := hide a0
          have HA1 := hide a1
          have HALN := hide hALn
          have j1 : IntKind.i64.wrap ((ops.length : Int) + 2) = (NN : Int) := by rw [IntWalk.i64_in _ (by omega)]; omega
          have j2 : IntKind.i64.wrap ((NN : Int) - 1) = (N1 : Int) := by rw [IntWalk.i64_in _ (by omega)]; omega
          have j3 : IntKind.i64.wrap ((NN : Int) - 2) = (N0 : Int) := by rw [IntWalk.i64_in _ (by omega)]; omega
          have i0 : (0 : Int) ≤ (N0 : Int) := by omega
          have i1 : (N0 : Int) < (NN : Int) := by omega
          have i2 : (0 : Int) ≤ (N1 : Int) := by omega
          have i3 : (N1 : Int) < (NN : Int) := by omega
          clear e1 hl3 hl1 hk0 hk1 hst hSl hal c1 c2 hRL his hNN hN1 hN0 hAL hALn a0 a1 hS1 hS2 r1 r2
          go_enter Try.func6, Try.ntmps6
          go_wp2_with fail
          with_reducible refine (HHR.out _ _ HRD0.out).mono ?_
          rintro e w1 ⟨v1, u1, rfl, ho1, hu1, kk1⟩
          have HRS := hide ho1.rd
          obtain ⟨A1, c1, rfl, _, _⟩ := ho1.rd.shape
          clear ho1 hu1
          go_wp2_with fail
          with_reducible refine (halfLives_any _).mono ?_
          rintro e w2 ⟨rfl, hb2⟩
          have kk2 := Kp.of hb2
          clear hb2
          go_wp2_with fail
          obtain ⟨W3, hW3⟩ : ∃ W3, W3 = w2.alloc (.cells #[.int .i64 1, .int .i64 key, .int .i64 0] 43) := ⟨_, rfl⟩
          rw [← hW3]
          have hbt : BC W3 w2.heap.size 43 [.int .i64 1, .int .i64 key, .int .i64 0] := by rw [hW3]; exact BC.new w2 43 _
          have k3 : Kp w2 W3 := by rw [hW3]; exact (Kp.refl w2).alloc
          have HKW := hide (kk1.trans (kk2.trans k3))
          have HRS := hide (HRS.out.kp (kk2.trans k3))
          have HRD := hide (HRD0.out.kp HKW.out)
          have p0 : W3.cell? ⟨w2.heap.size, 0, none⟩ = some (.int .i64 1) := hbt.cell 0
          have p1 : W3.cell? ⟨w2.heap.size, 1, none⟩ = some (.int .i64 key) := hbt.cell 1
          have p2 : W3.cell? ⟨w2.heap.size, 2, none⟩ = some (.int .i64 0) := hbt.cell 2
          have KS : Hid (∀ W', Kp W3 W' → (W'.cell? ⟨w2.heap.size, 0, none⟩ = some (.int .i64 1) ∧ W'.cell? ⟨w2.heap.size, 1, none⟩ = some (.int .i64 key) ∧ W'.cell? ⟨w2.heap.size, 2, none⟩ = some (.int .i64 0) ∧ Kp W3 W')) := hide fun W' h => ⟨h.cell p0, h.cell p1, h.cell p2, h⟩
          have KD0 := Kp.refl W3
          have KD1 := KD0.drew
          clear hW3 hbt k3 kk1 kk2
          go_region_held3 (fun w' => w'.cell? ⟨w2.heap.size, 0, none⟩ = some (.int .i64 1) ∧ w'.cell? ⟨w2.heap.size, 1, none⟩ = some (.int .i64 key) ∧ w'.cell? ⟨w2.heap.size, 2, none⟩ = some (.int .i64 0) ∧ Kp W3 w') ((go_split_ands; refine KS.out _ ?_; (focus ((repeat (first | (with_reducible assumption) | (with_reducible exact Kp.refl _) | (with_reducible apply Kp.drew) | (with_reducible apply Kp.drewN) | ((with_reducible apply Kp.setR); (focus (first | (with_reducible assumption) | (simp; done) | (simp; omega)))) | (with_reducible apply Kp.alloc) | ((with_reducible apply Kp.call); (with_reducible assumption)) | ((with_reducible apply Kp.app); (with_reducible assumption)))); done))))
            (first
              | (go_at_call 16; refine (HCL.out _ _ (HRD.out.kp ?_)).mono ?_; (go_split_ands; (focus ((repeat (first | (with_reducible assumption) | (with_reducible exact Kp.refl _) | (with_reducible apply Kp.drew) | (with_reducible apply Kp.drewN) | ((with_reducible apply Kp.setR); (focus (first | (with_reducible assumption) | (simp; done) | (simp; omega)))) | (with_reducible apply Kp.alloc) | ((with_reducible apply Kp.call); (with_reducible assumption)) | ((with_reducible apply Kp.app); (with_reducible assumption)))); done))); rintro e w6 ⟨v6, rfl, ho6', hb6⟩; have ho6 := OW.more ho6' (Kp.size (w := W3) (by go_split_ands; (focus ((repeat (first | (with_reducible assumption) | (with_reducible exact Kp.refl _) | (with_reducible apply Kp.drew) | (with_reducible apply Kp.drewN) | ((with_reducible apply Kp.setR); (focus (first | (with_reducible assumption) | (simp; done) | (simp; omega)))) | (with_reducible apply Kp.alloc) | ((with_reducible apply Kp.call); (with_reducible assumption)) | ((with_reducible apply Kp.app); (with_reducible assumption)))); done)))); have hi6 := ho6.hi; clear ho6')
              | ((with_reducible refine step_app (l := ops) (m := [((1, key, 0) : O3), (3, key, 0)]) row_op v6 ?_ (.tmp 45) (.tmp 49) ?_ ?_ ?_ ?_ HM1.out HM2.out (Kp.size (w := W3) ?_) ?_); (with_reducible rfl); (with_reducible rfl); rfl; (focus ((repeat (first | (with_reducible assumption) | (with_reducible apply OW.alloc) | (with_reducible apply OW.drew) | (with_reducible apply OW.drewN) | ((with_reducible apply OW.setCellR); (with_reducible assumption)) | ((with_reducible apply OW.belowR); (with_reducible assumption)) | ((with_reducible apply OW.keptR); (with_reducible assumption); (with_reducible assumption)))); done)); (show RD _ _ (.slice (some ⟨_, 0, none⟩) 2 2) _; (focus ((repeat (first | (with_reducible assumption) | (refine (HB1).out _ _ ?_; first | rfl | (simp; done)) | (with_reducible apply RD.alloc) | (with_reducible apply RD.drew) | (with_reducible apply RD.drewN) | ((with_reducible apply RD.belowR); (with_reducible assumption)))); done))); (go_split_ands; (focus ((repeat (first | (with_reducible assumption) | (with_reducible exact Kp.refl _) | (with_reducible apply Kp.drew) | (with_reducible apply Kp.drewN) | ((with_reducible apply Kp.setR); (focus (first | (with_reducible assumption) | (simp; done) | (simp; omega)))) | (with_reducible apply Kp.alloc) | ((with_reducible apply Kp.call); (with_reducible assumption)) | ((with_reducible apply Kp.app); (with_reducible assumption)))); done))); intro v7 w7 ho7 hg7 hat7; have hi7 := ho7.hi)
              | (go_at_call 9; refine (HRA.out _ _ ?_).mono ?_; (refine OW.rd (B := W3.heap.size) (e := 43) ?_; (focus ((repeat (first | (with_reducible assumption) | (with_reducible apply OW.alloc) | (with_reducible apply OW.drew) | (with_reducible apply OW.drewN) | ((with_reducible apply OW.setCellR); (with_reducible assumption)) | ((with_reducible apply OW.belowR); (with_reducible assumption)) | ((with_reducible apply OW.keptR); (with_reducible assumption); (with_reducible assumption)))); done))); rintro e w8 ⟨v8, u8, rfl, ho8, hu8, hk8⟩; have hb8 := hk8.bel; clear hk8))
          all_goals
            have kk8 : Kp W3 w8 := by go_split_ands; (focus ((repeat (first | (with_reducible assumption) | (with_reducible exact Kp.refl _) | (with_reducible apply Kp.drew) | (with_reducible apply Kp.drewN) | ((with_reducible apply Kp.setR); (focus (first | (with_reducible assumption) | (simp; done) | (simp; omega)))) | (with_reducible apply Kp.alloc) | ((with_reducible apply Kp.call); (with_reducible assumption)) | ((with_reducible apply Kp.app); (with_reducible assumption)))); done))
            obtain ⟨AU8, cU8, rfl, _, _⟩ := hu8.shape
            obtain ⟨A8, c8, rfl, _, _⟩ := ho8.rd.shape
            have HR8 := hide ho8.rd
            have HU8 := hide hu8
            rw [HALN.out]
            clear ho8 hu8 ho6 hi6 ho7 hg7 hat7 hi7 hb6 hb8
            have KS2 : Hid (∀ W', Kp w8 W' → (W'.cell? ⟨w2.heap.size, 0, none⟩ = some (.int .i64 1) ∧ W'.cell? ⟨w2.heap.size, 1, none⟩ = some (.int .i64 key) ∧ W'.cell? ⟨w2.heap.size, 2, none⟩ = some (.int .i64 0) ∧ Kp w8 W')) := hide fun W' h => ⟨(KS.out _ (kk8.trans h)).1, (KS.out _ (kk8.trans h)).2.1, (KS.out _ (kk8.trans h)).2.2.1, h⟩
            have HRD2 := hide (HRD.out.kp kk8)
            have HRS2 := hide (HRS.out.kp kk8)
            have HKW8 := hide (HKW.out.trans kk8)
            clear kk8 KS KD0 KD1 HRD HRS HKW
            have KD0 := Kp.refl w8
            have KD1 := KD0.drew
            obtain ⟨p0, p1, p2, _⟩ := KS2.out w8 KD0
            go_wp2_with fail
            go_region_held3 (fun w' => w'.cell? ⟨w2.heap.size, 0, none⟩ = some (.int .i64 1) ∧ w'.cell? ⟨w2.heap.size, 1, none⟩ = some (.int .i64 key) ∧ w'.cell? ⟨w2.heap.size, 2, none⟩ = some (.int .i64 0) ∧ Kp w8 w') ((go_split_ands; refine KS2.out _ ?_; (focus ((repeat (first | (with_reducible assumption) | (with_reducible exact Kp.refl _) | (with_reducible apply Kp.drew) | (with_reducible apply Kp.drewN) | ((with_reducible apply Kp.setR); (focus (first | (with_reducible assumption) | (simp; done) | (simp; omega)))) | (with_reducible apply Kp.alloc) | ((with_reducible apply Kp.call); (with_reducible assumption)) | ((with_reducible apply Kp.app); (with_reducible assumption)))); done))))
              (first
                | (go_at_call 16; refine (HCL.out _ _ (HRD2.out.kp ?_)).mono ?_; (go_split_ands; (focus ((repeat (first | (with_reducible assumption) | (with_reducible exact Kp.refl _) | (with_reducible apply Kp.drew) | (with_reducible apply Kp.drewN) | ((with_reducible apply Kp.setR); (focus (first | (with_reducible assumption) | (simp; done) | (simp; omega)))) | (with_reducible apply Kp.alloc) | ((with_reducible apply Kp.call); (with_reducible assumption)) | ((with_reducible apply Kp.app); (with_reducible assumption)))); done))); rintro e w6 ⟨v6, rfl, ho6', hb6⟩; have ho6 := OW.more ho6' (Kp.size (w := w8) (by go_split_ands; (focus ((repeat (first | (with_reducible assumption) | (with_reducible exact Kp.refl _) | (with_reducible apply Kp.drew) | (with_reducible apply Kp.drewN) | ((with_reducible apply Kp.setR); (focus (first | (with_reducible assumption) | (simp; done) | (simp; omega)))) | (with_reducible apply Kp.alloc) | ((with_reducible apply Kp.call); (with_reducible assumption)) | ((with_reducible apply Kp.app); (with_reducible assumption)))); done)))); have hi6 := ho6.hi; clear ho6')
                | ((with_reducible refine step_app (l := ops) (m := [((1, key, 0) : O3), (1, key, 0)]) row_op v6 ?_ (.tmp 57) (.tmp 60) ?_ ?_ ?_ ?_ HM3.out HM4.out (Kp.size (w := w8) ?_) ?_); (with_reducible rfl); (with_reducible rfl); rfl; (focus ((repeat (first | (with_reducible assumption) | (with_reducible apply OW.alloc) | (with_reducible apply OW.drew) | (with_reducible apply OW.drewN) | ((with_reducible apply OW.setCellR); (with_reducible assumption)) | ((with_reducible apply OW.belowR); (with_reducible assumption)) | ((with_reducible apply OW.keptR); (with_reducible assumption); (with_reducible assumption)))); done)); (show RD _ _ (.slice (some ⟨_, 0, none⟩) 2 2) _; (focus ((repeat (first | (with_reducible assumption) | (refine (HB2).out _ _ ?_; first | rfl | (simp; done)) | (with_reducible apply RD.alloc) | (with_reducible apply RD.drew) | (with_reducible apply RD.drewN) | ((with_reducible apply RD.belowR); (with_reducible assumption)))); done))); (go_split_ands; (focus ((repeat (first | (with_reducible assumption) | (with_reducible exact Kp.refl _) | (with_reducible apply Kp.drew) | (with_reducible apply Kp.drewN) | ((with_reducible apply Kp.setR); (focus (first | (with_reducible assumption) | (simp; done) | (simp; omega)))) | (with_reducible apply Kp.alloc) | ((with_reducible apply Kp.call); (with_reducible assumption)) | ((with_reducible apply Kp.app); (with_reducible assumption)))); done))); intro v7 w7 ho7 hg7 hat7; have hi7 := ho7.hi)
                | (go_at_call 9; refine (HRB.out _ _ ?_).mono ?_; (refine OW.rd (B := w8.heap.size) (e := 43) ?_; (focus ((repeat (first | (with_reducible assumption) | (with_reducible apply OW.alloc) | (with_reducible apply OW.drew) | (with_reducible apply OW.drewN) | ((with_reducible apply OW.setCellR); (with_reducible assumption)) | ((with_reducible apply OW.belowR); (with_reducible assumption)) | ((with_reducible apply OW.keptR); (with_reducible assumption); (with_reducible assumption)))); done))); rintro e w9 ⟨v9, u9, rfl, ho9, hu9, hk9⟩; have hb9 := hk9.bel; clear hk9))
            all_goals
              have kk9 : Kp w8 w9 := by go_split_ands; (focus ((repeat (first | (with_reducible assumption) | (with_reducible exact Kp.refl _) | (with_reducible apply Kp.drew) | (with_reducible apply Kp.drewN) | ((with_reducible apply Kp.setR); (focus (first | (with_reducible assumption) | (simp; done) | (simp; omega)))) | (with_reducible apply Kp.alloc) | ((with_reducible apply Kp.call); (with_reducible assumption)) | ((with_reducible apply Kp.app); (with_reducible assumption)))); done))
              obtain ⟨AU9, cU9, rfl, _, _⟩ := hu9.shape
              obtain ⟨A9, c9, rfl, _, _⟩ := ho9.rd.shape
              have HR9 := hide ho9.rd
              have HU9 := hide hu9
              have HR8 := hide (HR8.out.kp kk9)
              have HU8 := hide (HU8.out.kp kk9)
              have HRS9 := hide (HRS2.out.kp kk9)
              have HK9 := hide (HKW8.out.trans kk9)
              rw [HALN.out]
              clear ho9 hu9 ho6 hi6 ho7 hg7 hat7 hi7 hb6 hb9 KD0 KD1 kk9 KS2
              have hok := okL_ok2
              go_wp2_with fail
              refine (ok_any [0, 0] _ _ (RD.block (l := [0, 0]) (heap_alloc_new w9 _) rfl (by simp [maxLen]))).mono ?_
              rintro e w10 ⟨rfl, hw10⟩
              have kk10 : Kp w9 w10 := by rw [← hw10]; exact (Kp.refl w9).alloc
              clear hw10
              obtain ⟨h1, g1⟩ := List.getElem?_eq_some_iff.1 HA1.out
              obtain ⟨b9, o9, rfl, f1, f2, f3, f4, y3⟩ := (HU9.out.kp kk10).ans h1
              rw [g1] at y3
              simp only at y3
              clear f1 f2 f3 f4
              have hin2 : decide (key ∈ S2) = true := decide_eq_true (by rw [HS2.out]; exact insU_mem.2 (.inl rfl))
              clear h1 g1
              have tn : ((NN : Int) != (NN : Int)) = false := by simp
              go_wp2_with fail
              with_reducible refine (contains_any S2 key _ _ (HR9.out.kp kk10)).mono ?_
              rw [hin2]
              rintro e w11 ⟨rfl, hb11⟩
              have kk11 := Kp.of hb11
              clear hb11 y3 hin2
              go_wp2_with fail
              with_reducible refine (contains_any S key _ _ (HRS9.out.kp (kk10.trans kk11))).mono ?_
              rintro e w12 ⟨rfl, hb12⟩
              have kk12 := Kp.of hb12
              have KW := hide (HK9.out.trans (kk10.trans (kk11.trans kk12)))
              clear hb12
              by_cases hin : key ∈ S
              · have hd : decide (key ∈ S) = true := decide_eq_true hin
                rw [hd]
                clear hin hd
                go_wp2
                go_ret
                exact ⟨rfl, KW.out.bel⟩
              · have hd : decide (key ∈ S) = false := decide_eq_false hin
                have his : is = false := by rw [HIS.out, hd]
                subst his
                have hSS : S = S1 := by rw [HS1.out, delU_insU HUP.out hin]
                have hsn : S2.length = S.length + 1 := by rw [HS2.out, insU_new_len HUP.out hin]
                have HSS := hide hSS
                have HSN := hide hsn
                rw [hd]
                clear hin hd hSS hsn
                go_wp2_with fail
                with_reducible refine (eqInts_to _ _ true _ _ _ (HRS9.out.kp (kk10.trans (kk11.trans kk12))) (HR8.out.kp (kk10.trans (kk11.trans kk12))) (by rw [← HSS.out]; simp)).mono ?_
                rintro e w13 ⟨rfl, hb13⟩
                have kk13 := Kp.of hb13
                have KW := hide (KW.out.trans kk13)
                obtain ⟨h0, g0⟩ := List.getElem?_eq_some_iff.1 HA0.out
                obtain ⟨h1, g1⟩ := List.getElem?_eq_some_iff.1 HA1.out
                have hu := HU8.out.kp (kk10.trans (kk11.trans (kk12.trans kk13)))
                obtain ⟨b8, o8, rfl, f1, f2, f3, f4, y3⟩ := hu.ans h0
                obtain ⟨b8', o8', hA', f5, f6, f7, f8, z3⟩ := hu.ans h1
                injection hA' with hA'
                injection hA' with e1 e2
                subst e1 e2
                rw [g0] at y3
                rw [g1] at z3
                simp only at y3 z3
                clear f1 f2 f3 f4 f5 f6 f7 f8
                have j9 : IntKind.i64.wrap ((S.length : Int) + 1) = (S2.length : Int) := by
                  have := HRS9.out.shape
                  obtain ⟨_, _, _, h2, h3⟩ := this
                  have := HLEN.out
                  rw [IntWalk.i64_in _ (by omega), HSN.out]; rfl
                have t9 : ((S2.length : Int) == (S2.length : Int)) = true := by simp
                clear h0 h1 g0 g1 hu
                go_wp2
                go_ret
                exact ⟨rfl, KW.out.bel⟩
end Go.Proofs.Ytmhabjjabdambaa
namespace Go.Proofs.Ytmhabjjabdambaa
open Go.ChangeShapes Go.WideShapes Go.ChangeAt Go.RowKit Go.Deep
set_option linter.unusedVariables false
set_option linter.unusedSimpArgs false

set_option maxRecDepth 100000 in
theorem halfCuts_lifted (os : Os) (started : os.Started) (H : Type) (enc : TypeId × Value → H) :
    ReturnsInHanded {} Try.checked os 6 .any (Rows.halfCutsSpec.pre6 enc Try.prog Try.f6 Rows.halfCutsRow.domain false) (Rows.halfCutsSpec.post enc Try.prog Try.f6 false true false false) := by
  refine returnsInHanded_of_change (C := Try.checked) own started (by kernel_rfl) Try.func6
    (ChangeSpec.witness6 (enc := enc) (C := Try.checked) false ⟨#[], #[.slice none 0 0, .int .i64 0], []⟩ 8 (by kernel_rfl) (by kernel_rfl) (by kernel_rfl) (by kernel_rfl)) ?_
  intro W base args ds gs before hval0 hW hcnd _
  have hval : ∀ (j : Nat) t v, Try.f6.params[j]? = some t → args[j]? = some v → Value.okWide Try.prog W .any base t v := hval0
  have hW' := hW
  obtain ⟨p, q, hA0, hV, rfl, hfz, hnd⟩ := hW
  have hA : DataW.TrodAll enc Try.prog W 0 (fun _ => true) true Try.f6.params.toList args.toList ds p := hA0
  rw [Try.params6] at hA hval
  obtain ⟨v0, vs0, d0, ds0, p0, q0, hargs, rfl, rfl, h0, r0⟩ := trodAll_cons hA
  obtain ⟨v1, vs1, d1, ds1, p1, q1, rfl, rfl, rfl, h1, r1⟩ := trodAll_cons r0
  obtain ⟨rfl, rfl, rfl⟩ := trodAll_nil r1
  obtain rfl : args = #[v0, v1] := by cases args; simp_all
  obtain ⟨rfl, rfl⟩ := trodVars_none hV
  obtain ⟨a0, n0, c0, rfl⟩ := okWide_slice Try.underlying29 (hval 0 29 v0 rfl rfl)
  obtain ⟨n1, rfl⟩ := okWide_int Try.underlying3 (hval 1 3 v1 rfl rfl)
  have lt0 : ∀ x ∈ p0, x.block < W.heap.size := by obtain ⟨m, hm⟩ := h0; exact DataW.trod_lt m _ _ _ hm
  have lt1 : ∀ x ∈ p1, x.block < W.heap.size := by obtain ⟨m, hm⟩ := h1; exact DataW.trod_lt m _ _ _ hm
  obtain ⟨l0, w0⟩ := arg_ops h0
  have w1 : -9223372036854775808 ≤ n1 ∧ n1 ≤ 9223372036854775807 := by obtain ⟨m, hm⟩ := h1; exact wf_i64 Try.underlying3 hm
  clear hA0 hval0
  refine (halfCuts_walk l0 n1 _ W w0 w1).mono fun e W' ⟨he, bel⟩ => ?_
  subst he
  exact ⟨_, rfl, _, _, _, [], _, [], hW', trodAll_mk1 (shut_bool Try.underlying4 _), (trodAll_cons_mk (Below.trod laidOut (by kernel_rfl) (of_decide_eq_true (by kernel_rfl)) h0 bel lt0) (trodAll_cons_mk (Below.trod laidOut (by kernel_rfl) (of_decide_eq_true (by kernel_rfl)) h1 bel lt1) trodAll_mk0)), rfl, bel.frame _, fun h => by cases h⟩

set_option maxRecDepth 100000 in
set_option maxHeartbeats 8000000 in
theorem halfCuts_closed : joinedFacts Try.checked.prog 6 Try.f6 Rows.halfCutsSpec Rows.halfCutsRow = true := by
  unfold joinedFacts
  repeat' (with_reducible refine and_true_of ?_ ?_)
  all_goals (as_aux_lemma => kernel_rfl)
theorem halfCuts_over : Rows.halfCutsRow.holds Try.pinned (OpenSpec.ofChange Rows.halfCutsSpec) :=
  OpenClaim.holds_of_wide 6 Try.f6 rfl rfl rfl rfl rfl rfl rfl ⟨rfl, rfl, rfl, rfl, rfl⟩ rfl rfl rfl rfl rfl (by as_aux_lemma => kernel_rfl) Try.func6 halfCuts_closed
    (of_decide_eq_true (by as_aux_lemma => kernel_rfl)) (by as_aux_lemma => unfold Func.isWrapper; first | (rw [if_pos (by decide +kernel)]; kernel_rfl) | (rw [if_neg (by decide +kernel)]; exact ⟨rfl, rfl⟩))
    (fun os started H enc _ => halfCuts_lifted os started H enc)
theorem halfCuts_proved : Rows.HalfCutsSaid := halfCuts_over
#print axioms halfCuts_proved
end Go.Proofs.Ytmhabjjabdambaa
