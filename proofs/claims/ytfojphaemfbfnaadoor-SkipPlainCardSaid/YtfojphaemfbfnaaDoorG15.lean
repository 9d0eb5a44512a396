/-
  skip.stack.do: what it answers and leaves. Conditions: the stack reads as ts (SK); the table of math/bits holds what it is laid with (DTb).
-/
import Derived.Test.YtfojphaemfbfnaaDoorG13
import Derived.Test.YtfojphaemfbfnaaDoorG14

namespace Go.Proofs.YtfojphaemfbfnaaDoor
open Go.ChangeShapes Go.WideShapes Go.ChangeAt Go.RowKit
set_option linter.unusedVariables false
set_option linter.unusedSimpArgs false

set_option maxRecDepth 100000 in
set_option maxHeartbeats 16000000 in
theorem skDo_any (s : Nat) (ts : List Tw) (kind key val : Int) (w : World) (B : Nat) (hsk : SK w s ts B) (hdb : DTb w) (hB : B ≤ w.heap.size) :
    Calls Tryd.prog 41 #[.pointer (some ⟨s, 0, none⟩), .agg #[.int .i64 kind, .int .i64 key, .int .i64 val]] w (SkPost s (doL (pL ts) kind key val) B w) := by
  obtain ⟨W1, hW1⟩ : ∃ W1, W1 = (w.alloc (.cells #[.int .i64 kind, .int .i64 key, .int .i64 val] 56)).alloc (.cells #[.int .i64 0, .int .i64 0, .int .i64 0, .bool false] 50) := ⟨_, rfl⟩
  have k1 : Kp w W1 := by rw [hW1]; exact (Kp.refl w).alloc.alloc
  have hz1 : W1.heap.size = w.heap.size + 2 := by rw [hW1]; simp
  have hbo : BC W1 w.heap.size 56 [.int .i64 kind, .int .i64 key, .int .i64 val] := by rw [hW1]; exact (BC.new w 56 [.int .i64 kind, .int .i64 key, .int .i64 val]).kp (Kp.refl _).alloc
  have hba : BC W1 (w.heap.size + 1) 50 [.int .i64 0, .int .i64 0, .int .i64 0, .bool false] := by
    rw [hW1]
    have h := BC.new (w.alloc (.cells #[.int .i64 kind, .int .i64 key, .int .i64 val] 56)) 50 [.int .i64 0, .int .i64 0, .int .i64 0, .bool false]
    rwa [show (w.alloc (.cells #[.int .i64 kind, .int .i64 key, .int .i64 val] 56)).heap.size = w.heap.size + 1 by simp] at h
  have HF := hide (find_kp s ts key W1 B (hsk.kp k1))
  have HW1 := hide hW1
  have HK1 := hide k1
  have HZ1 := hide hz1
  have HSK := hide hsk
  have HBA := hide hba
  have HBO := hide hbo
  have o0 : W1.cell? ⟨w.heap.size, 0, none⟩ = some (.int .i64 kind) := hbo.cell 0
  have o1 : W1.cell? ⟨w.heap.size, 1, none⟩ = some (.int .i64 key) := hbo.cell 1
  have o2 : W1.cell? ⟨w.heap.size, 2, none⟩ = some (.int .i64 val) := hbo.cell 2
  obtain ⟨P0, hP0⟩ : ∃ P0, P0 = pF ts key 0 := ⟨_, rfl⟩
  have HP0 := hide hP0
  have hbl : below (pL ts) key = P0 := by rw [hP0, pF_below hsk]
  have HPUT := hide (skPut_any s ts key val W1 B (hsk.kp k1) (hdb.kp k1) (by omega))
  have HCUT := hide (skCut_any s ts key W1 B (hsk.kp k1) (by omega))
  have hpos := hsk.pos
  have hlen := hsk.len
  have hBw := hB
  clear hW1 k1 hz1 hbo hba hsk hdb hP0 hB
  by_cases hkd : 1 ≤ kind ∧ kind ≤ 7
  · have HBK : Hid (btw kind 1 7 = true) := hide ((btw_iff _ _ _).2 hkd)
    by_cases hky : kind ≤ 5 ∧ ¬ (0 ≤ key ∧ key ≤ 1000000)
    · have HBY : Hid (btw key 0 1000000 = false) := hide ((btw_f_iff _ _ _).2 hky.2)
      have HP : Hid (doL (pL ts) kind key val = (pL ts, ⟨1, 0, 0, false⟩)) := hide (by rw [doL, if_pos (.inr hky)])
      have t5 : decide (kind ≤ 5) = true := by simp [hky.1]
      have r0 : _ = some (Value.int .i64 0) := (HBA.out).cell 0
      have r1 : _ = some (Value.int .i64 0) := (HBA.out).cell 1
      have r2 : _ = some (Value.int .i64 0) := (HBA.out).cell 2
      have r3 : _ = some (Value.bool false) := (HBA.out).cell 3
      have q0 := (HBA.out).frozen 0
      have q1 := (HBA.out).frozen 1
      have q2 := (HBA.out).frozen 2
      have q3 := (HBA.out).frozen 3
      clear hky hkd hbl
      go_enter Tryd.func41, Tryd.ntmps41
      go_wp2_with fail
      rw [← HW1.out]
      with_reducible refine (sk_within_to _ _ _ true _ HBK.out).mono ?_
      rintro e w' ⟨rfl, rfl⟩
      go_wp2_with fail
      with_reducible refine (sk_within_to _ _ _ false _ HBY.out).mono ?_
      rintro e w' ⟨rfl, rfl⟩
      go_wp2
      refine bodyPost_ret (v := (⟨1, 0, 0, false⟩ : An).v) ?_ ?_ ?_
      · exact results_cell_row rfl _ _ (w.heap.size + 1) 50 _ (0, 0) _ rfl (ans_bc HBA.out) Tryd.underlying50 rfl info_ans4
      · rfl
      exact ⟨ts, by rw [HP.out], ((HSK.out.kp HK1.out)).ans4 HBA.out (by decide) (by decide) (by decide), by rw [HP.out], KQ.ans4 ((KQ.of HK1.out)) (by omega)⟩
    · obtain ⟨hs, hhe⟩ : ∃ hs, hs = hasKey (pL ts) key := ⟨_, rfl⟩
      have HHE := hide hhe
      have hdl : doL (pL ts) kind key val = if kind = 1 then putL (pL ts) key val
          else if kind = 2 then (pL ts, if hs then ⟨0, 0, gv (pL ts) P0, true⟩ else ⟨0, 0, 0, false⟩)
          else if kind = 3 then cutL (pL ts) key
          else if kind = 4 then (pL ts, toldL (pL ts) (if hs then (P0 : Int) + 1 else P0))
          else if kind = 5 then (pL ts, toldL (pL ts) ((P0 : Int) - 1))
          else if kind = 6 then (pL ts, ⟨0, 0, P0, true⟩)
          else (pL ts, toldL (pL ts) key) := by rw [doL, if_neg (by omega), hhe, ← hbl]; rfl
      have hkd' : kind = 1 ∨ kind = 2 ∨ kind = 3 ∨ kind = 4 ∨ kind = 5 ∨ kind = 6 ∨ kind = 7 := by omega
      by_cases hky5 : kind ≤ 5
      · have HBY : Hid (btw key 0 1000000 = true) := hide ((btw_iff _ _ _).2 (by omega))
        clear hhe hbl
        rcases hkd' with rfl | rfl | rfl | rfl | rfl | h6 | h7
        · have HP : Hid (doL (pL ts) 1 key val = putL (pL ts) key val) := hide (by rw [hdl]; rfl)
          clear hdl hky hkd hky5
          go_enter Tryd.func41, Tryd.ntmps41
          go_wp2_with fail
          rw [← HW1.out]
          with_reducible refine (sk_within_to _ _ _ true _ HBK.out).mono ?_
          rintro e w' ⟨rfl, rfl⟩
          go_wp2_with fail
          with_reducible refine (sk_within_to _ _ _ true _ HBY.out).mono ?_
          rintro e w' ⟨rfl, rfl⟩
          go_wp2_with fail
          with_reducible refine HPUT.out.mono ?_
          rintro e w2 ⟨ts', rfl, hsk2, hpl, hkq⟩
          obtain ⟨⟨pl, pa, pb, pc, pd⟩, hPL⟩ : ∃ PL, PL = putL (pL ts) key val := ⟨_, rfl⟩
          rw [← hPL] at HP hpl ⊢
          have hba2 := hkq.bc HBA.out (by decide) (by decide) (by decide)
          have HBQ := hide hba2
          have HKQ := hide ((KQ.of (B := B) HK1.out).trans hkq)
          have HSK2 := hide hsk2
          have HPL := hide hpl
          have r0 : _ = some (Value.int .i64 0) := (HBQ.out).cell 0
          have r1 : _ = some (Value.int .i64 0) := (HBQ.out).cell 1
          have r2 : _ = some (Value.int .i64 0) := (HBQ.out).cell 2
          have r3 : _ = some (Value.bool false) := (HBQ.out).cell 3
          have q0 := (HBQ.out).frozen 0
          have q1 := (HBQ.out).frozen 1
          have q2 := (HBQ.out).frozen 2
          have q3 := (HBQ.out).frozen 3
          simp only [An.v]
          clear hPL hba2 hsk2 hpl hkq
          go_wp2
          refine bodyPost_ret (v := (⟨pa, pb, pc, pd⟩ : An).v) ?_ ?_ ?_
          · exact results_cell_row rfl _ _ (w.heap.size + 1) 50 _ (0, 0) _ rfl (ans_bc HBQ.out) Tryd.underlying50 rfl info_ans4
          · rfl
          exact ⟨ts', by rw [HP.out], HSK2.out.ans4 HBQ.out (by decide) (by decide) (by decide), by rw [HP.out]; exact HPL.out, KQ.ans4 HKQ.out (by omega)⟩
        · have HPA : Hid (doL (pL ts) 2 key val = (pL ts, if hs then ⟨0, 0, gv (pL ts) P0, true⟩ else ⟨0, 0, 0, false⟩)) := hide (by rw [hdl]; rfl)
          clear hdl hky hkd hky5
          go_enter Tryd.func41, Tryd.ntmps41
          go_wp2_with fail
          rw [← HW1.out]
          with_reducible refine (sk_within_to _ _ _ true _ HBK.out).mono ?_
          rintro e w' ⟨rfl, rfl⟩
          go_wp2_with fail
          with_reducible refine (sk_within_to _ _ _ true _ HBY.out).mono ?_
          rintro e w' ⟨rfl, rfl⟩
          go_wp2_with fail
          with_reducible refine HF.out.mono ?_
          rintro e w1 ⟨rfl, k1⟩
          obtain ⟨W, hW⟩ : ∃ W, W = w1.alloc (.cells (trC ts key 0).toArray tR) := ⟨_, rfl⟩
          have kW : Kp w1 W := by rw [hW]; exact (Kp.refl _).alloc
          have htb : BC W w1.heap.size tR (trC ts key 0) := by rw [hW]; exact BC.new _ _ _
          have hst := tr_store ts key w1 W hW
          have HKW0 := hide ((HK1.out.trans k1).trans kW)
          have HSKW := hide ((HSK.out.kp HK1.out).kp (k1.trans kW))
          have HBAW := hide (HBA.out.kp (k1.trans kW))
          have x0 : W.cell? ⟨w.heap.size, 0, none⟩ = some (.int .i64 _) := (HBO.out.kp (k1.trans kW)).cell 0
          have x1 : W.cell? ⟨w.heap.size, 1, none⟩ = some (.int .i64 key) := (HBO.out.kp (k1.trans kW)).cell 1
          have a0 : W.cell? ⟨w1.heap.size, 0, none⟩ = some (.pointer (some ⟨(tw ts P0).b, 0, none⟩)) := by rw [htb.cell, HP0.out]; exact (trC_at ts key 0 (by omega)).1
          have a1 : W.cell? ⟨w1.heap.size, 12, none⟩ = some (.int .i64 (P0 : Nat)) := by rw [htb.cell, HP0.out]; exact (trC_at ts key 0 (by omega)).2
          have hPl : P0 < ts.length := by rw [HP0.out]; exact HSKW.out.len_lt
          have b0 := (HSKW.out.f.tower hPl).1
          have b1 := (HSKW.out.f.tower hPl).2.1
          have b2 := (HSKW.out.f.tower hPl).2.2
          have g0 := (HSKW.out.h12 hPl).1
          have l0 := (HSKW.out.f.link hPl (HSKW.out.h12 hPl).1).1
          rw [lnk_0 HSKW.out hPl, Nat.zero_mul] at l0
          have hd0 : W.cell? ⟨s, 0, none⟩ = some (.pointer (some ⟨(tw ts 0).b, 0, none⟩)) := HSKW.out.stk.cell 0
          have r0 : _ = some (Value.int .i64 0) := (HBAW.out).cell 0
          have r1 : _ = some (Value.int .i64 0) := (HBAW.out).cell 1
          have r2 : _ = some (Value.int .i64 0) := (HBAW.out).cell 2
          have r3 : _ = some (Value.bool false) := (HBAW.out).cell 3
          have q0 := (HBAW.out).frozen 0
          have q1 := (HBAW.out).frozen 1
          have q2 := (HBAW.out).frozen 2
          have q3 := (HBAW.out).frozen 3
          clear k1 kW htb hW
          by_cases hnx : P0 + 1 < ts.length
          · by_cases hke : (tw ts (P0 + 1)).p.1 = key
            · have c2 := (HSKW.out.f.tower hnx).1
              have c3 := (HSKW.out.f.tower hnx).2.1
              have c4 := (HSKW.out.f.tower hnx).2.2
              have g1 := (HSKW.out.h12 hnx).1
              have m0 := (HSKW.out.f.link hnx (HSKW.out.h12 hnx).1).1
              rw [lnk_0 HSKW.out hnx, Nat.zero_mul] at m0
              have d1 : ((tw ts (P0 + 1)).p.1 == key) = true := by simp [hke]
              have hs1 : hs = true := by rw [HHE.out]; exact (sk_has HSKW.out).2 (by rw [← HP0.out]; exact ⟨hnx, hke⟩)
              subst hs1
              rw [if_pos hnx] at l0
              have HP : Hid (doL (pL ts) 2 key val = (pL ts, ⟨0, 0, (tw ts (P0 + 1)).p.2, true⟩)) := hide (by rw [HPA.out, if_pos rfl, gv_eq _ _ (by rw [pL_len]; omega), pL_at])
              clear hke
              go_wp2
              go_quiet (fail)
              go_wp2
              have kd := Kp.drewN (Kp.refl W) (n := nq)
              have HBQ := hide (HBAW.out.kp kd)
              refine bodyPost_ret (v := (⟨0, 0, (tw ts (P0 + 1)).p.2, true⟩ : An).v) ?_ ?_ ?_
              · exact results_cell_row rfl _ _ (w.heap.size + 1) 50 _ (0, 0) _ rfl (ans_bc HBQ.out) Tryd.underlying50 rfl info_ans4
              · rfl
              exact ⟨ts, by rw [HP.out], ((HSKW.out.kp kd)).ans4 HBQ.out (by decide) (by decide) (by decide), by rw [HP.out], KQ.ans4 ((KQ.of (HKW0.out.trans kd))) (by omega)⟩
            · have c2 := (HSKW.out.f.tower hnx).1
              have c3 := (HSKW.out.f.tower hnx).2.1
              have d1 : ((tw ts (P0 + 1)).p.1 == key) = false := by simpa using hke
              have hs1 : hs = false := by
                cases hh : hs with
                | false => rfl
                | true => exact absurd ((sk_has HSKW.out).1 (HHE.out.symm.trans hh)).2 (by rw [← HP0.out]; exact hke)
              subst hs1
              rw [if_pos hnx] at l0
              have HP : Hid (doL (pL ts) 2 key val = (pL ts, ⟨0, 0, 0, false⟩)) := hide (by rw [HPA.out, if_neg (by simp)])
              clear hke
              go_wp2
              go_quiet (fail)
              go_wp2
              have kd := Kp.drewN (Kp.refl W) (n := nq)
              have HBQ := hide (HBAW.out.kp kd)
              refine bodyPost_ret (v := (⟨0, 0, 0, false⟩ : An).v) ?_ ?_ ?_
              · exact results_cell_row rfl _ _ (w.heap.size + 1) 50 _ (0, 0) _ rfl (ans_bc HBQ.out) Tryd.underlying50 rfl info_ans4
              · rfl
              exact ⟨ts, by rw [HP.out], ((HSKW.out.kp kd)).ans4 HBQ.out (by decide) (by decide) (by decide), by rw [HP.out], KQ.ans4 ((KQ.of (HKW0.out.trans kd))) (by omega)⟩
          · have hs1 : hs = false := by
              cases hh : hs with
              | false => rfl
              | true => exact absurd ((sk_has HSKW.out).1 (HHE.out.symm.trans hh)).1 (by rw [← HP0.out]; exact hnx)
            subst hs1
            rw [if_neg hnx] at l0
            have HP : Hid (doL (pL ts) 2 key val = (pL ts, ⟨0, 0, 0, false⟩)) := hide (by rw [HPA.out, if_neg (by simp)])
            go_wp2
            go_quiet (fail)
            go_wp2
            have kd := Kp.drewN (Kp.refl W) (n := nq)
            have HBQ := hide (HBAW.out.kp kd)
            refine bodyPost_ret (v := (⟨0, 0, 0, false⟩ : An).v) ?_ ?_ ?_
            · exact results_cell_row rfl _ _ (w.heap.size + 1) 50 _ (0, 0) _ rfl (ans_bc HBQ.out) Tryd.underlying50 rfl info_ans4
            · rfl
            exact ⟨ts, by rw [HP.out], ((HSKW.out.kp kd)).ans4 HBQ.out (by decide) (by decide) (by decide), by rw [HP.out], KQ.ans4 ((KQ.of (HKW0.out.trans kd))) (by omega)⟩
        · have HP : Hid (doL (pL ts) 3 key val = cutL (pL ts) key) := hide (by rw [hdl]; rfl)
          clear hdl hky hkd hky5
          go_enter Tryd.func41, Tryd.ntmps41
          go_wp2_with fail
          rw [← HW1.out]
          with_reducible refine (sk_within_to _ _ _ true _ HBK.out).mono ?_
          rintro e w' ⟨rfl, rfl⟩
          go_wp2_with fail
          with_reducible refine (sk_within_to _ _ _ true _ HBY.out).mono ?_
          rintro e w' ⟨rfl, rfl⟩
          go_wp2_with fail
          with_reducible refine HCUT.out.mono ?_
          rintro e w2 ⟨ts', rfl, hsk2, hpl, hkq⟩
          obtain ⟨⟨pl, pa, pb, pc, pd⟩, hPL⟩ : ∃ PL, PL = cutL (pL ts) key := ⟨_, rfl⟩
          rw [← hPL] at HP hpl ⊢
          have hba2 := hkq.bc HBA.out (by decide) (by decide) (by decide)
          have HBQ := hide hba2
          have HKQ := hide ((KQ.of (B := B) HK1.out).trans hkq)
          have HSK2 := hide hsk2
          have HPL := hide hpl
          have r0 : _ = some (Value.int .i64 0) := (HBQ.out).cell 0
          have r1 : _ = some (Value.int .i64 0) := (HBQ.out).cell 1
          have r2 : _ = some (Value.int .i64 0) := (HBQ.out).cell 2
          have r3 : _ = some (Value.bool false) := (HBQ.out).cell 3
          have q0 := (HBQ.out).frozen 0
          have q1 := (HBQ.out).frozen 1
          have q2 := (HBQ.out).frozen 2
          have q3 := (HBQ.out).frozen 3
          simp only [An.v]
          clear hPL hba2 hsk2 hpl hkq
          go_wp2
          refine bodyPost_ret (v := (⟨pa, pb, pc, pd⟩ : An).v) ?_ ?_ ?_
          · exact results_cell_row rfl _ _ (w.heap.size + 1) 50 _ (0, 0) _ rfl (ans_bc HBQ.out) Tryd.underlying50 rfl info_ans4
          · rfl
          exact ⟨ts', by rw [HP.out], HSK2.out.ans4 HBQ.out (by decide) (by decide) (by decide), by rw [HP.out]; exact HPL.out, KQ.ans4 HKQ.out (by omega)⟩
        · have HPA : Hid (doL (pL ts) 4 key val = (pL ts, toldL (pL ts) (if hs then (P0 : Int) + 1 else P0))) := hide (by rw [hdl]; rfl)
          clear hdl hky hkd hky5
          go_enter Tryd.func41, Tryd.ntmps41
          go_wp2_with fail
          rw [← HW1.out]
          with_reducible refine (sk_within_to _ _ _ true _ HBK.out).mono ?_
          rintro e w' ⟨rfl, rfl⟩
          go_wp2_with fail
          with_reducible refine (sk_within_to _ _ _ true _ HBY.out).mono ?_
          rintro e w' ⟨rfl, rfl⟩
          go_wp2_with fail
          with_reducible refine HF.out.mono ?_
          rintro e w1 ⟨rfl, k1⟩
          obtain ⟨W, hW⟩ : ∃ W, W = w1.alloc (.cells (trC ts key 0).toArray tR) := ⟨_, rfl⟩
          have kW : Kp w1 W := by rw [hW]; exact (Kp.refl _).alloc
          have htb : BC W w1.heap.size tR (trC ts key 0) := by rw [hW]; exact BC.new _ _ _
          have hst := tr_store ts key w1 W hW
          have HKW0 := hide ((HK1.out.trans k1).trans kW)
          have HSKW := hide ((HSK.out.kp HK1.out).kp (k1.trans kW))
          have HBAW := hide (HBA.out.kp (k1.trans kW))
          have x0 : W.cell? ⟨w.heap.size, 0, none⟩ = some (.int .i64 _) := (HBO.out.kp (k1.trans kW)).cell 0
          have x1 : W.cell? ⟨w.heap.size, 1, none⟩ = some (.int .i64 key) := (HBO.out.kp (k1.trans kW)).cell 1
          have a0 : W.cell? ⟨w1.heap.size, 0, none⟩ = some (.pointer (some ⟨(tw ts P0).b, 0, none⟩)) := by rw [htb.cell, HP0.out]; exact (trC_at ts key 0 (by omega)).1
          have a1 : W.cell? ⟨w1.heap.size, 12, none⟩ = some (.int .i64 (P0 : Nat)) := by rw [htb.cell, HP0.out]; exact (trC_at ts key 0 (by omega)).2
          have hPl : P0 < ts.length := by rw [HP0.out]; exact HSKW.out.len_lt
          have b0 := (HSKW.out.f.tower hPl).1
          have b1 := (HSKW.out.f.tower hPl).2.1
          have b2 := (HSKW.out.f.tower hPl).2.2
          have g0 := (HSKW.out.h12 hPl).1
          have l0 := (HSKW.out.f.link hPl (HSKW.out.h12 hPl).1).1
          rw [lnk_0 HSKW.out hPl, Nat.zero_mul] at l0
          have hd0 : W.cell? ⟨s, 0, none⟩ = some (.pointer (some ⟨(tw ts 0).b, 0, none⟩)) := HSKW.out.stk.cell 0
          have r0 : _ = some (Value.int .i64 0) := (HBAW.out).cell 0
          have r1 : _ = some (Value.int .i64 0) := (HBAW.out).cell 1
          have r2 : _ = some (Value.int .i64 0) := (HBAW.out).cell 2
          have r3 : _ = some (Value.bool false) := (HBAW.out).cell 3
          have q0 := (HBAW.out).frozen 0
          have q1 := (HBAW.out).frozen 1
          have q2 := (HBAW.out).frozen 2
          have q3 := (HBAW.out).frozen 3
          clear k1 kW htb hW
          by_cases hnx : P0 + 1 < ts.length
          · by_cases hke : (tw ts (P0 + 1)).p.1 = key
            · have c2 := (HSKW.out.f.tower hnx).1
              have c3 := (HSKW.out.f.tower hnx).2.1
              have c4 := (HSKW.out.f.tower hnx).2.2
              have g1 := (HSKW.out.h12 hnx).1
              have m0 := (HSKW.out.f.link hnx (HSKW.out.h12 hnx).1).1
              rw [lnk_0 HSKW.out hnx, Nat.zero_mul] at m0
              have d1 : ((tw ts (P0 + 1)).p.1 == key) = true := by simp [hke]
              have hs1 : hs = true := by rw [HHE.out]; exact (sk_has HSKW.out).2 (by rw [← HP0.out]; exact ⟨hnx, hke⟩)
              subst hs1
              rw [if_pos hnx] at l0
              clear hke
              by_cases hn2 : P0 + 1 + 1 < ts.length
              · rw [if_pos hn2] at m0
                have tx0 := (HSKW.out.f.tower hn2).1
                have tx1 := (HSKW.out.f.tower hn2).2.1
                have HP : Hid (doL (pL ts) 4 key val = (pL ts, ⟨0, (tw ts (P0 + 1 + 1)).p.1, (tw ts (P0 + 1 + 1)).p.2, true⟩)) := hide (by
                  rw [HPA.out, if_pos rfl, show ((P0 : Int) + 1) = ((P0 + 1 : Nat) : Int) by omega, toldL_at _ _ (by rw [pL_len]; omega), pL_at])
                go_wp2
                go_quiet (fail)
                go_wp2_with fail
                with_reducible refine (skTold_any _ _ _ _ (((Kp.drewN (Kp.refl W) (n := nq))).cell tx0) (((Kp.drewN (Kp.refl W) (n := nq))).cell tx1)).mono ?_
                rintro e w5 ⟨rfl, k5⟩
                have HK5 := hide (((Kp.drewN (Kp.refl W) (n := nq))).trans k5)
                have r0 := HK5.out.cell r0
                have r1 := HK5.out.cell r1
                have r2 := HK5.out.cell r2
                have r3 := HK5.out.cell r3
                have q0 := (HBAW.out.kp HK5.out).frozen 0
                have q1 := (HBAW.out.kp HK5.out).frozen 1
                have q2 := (HBAW.out.kp HK5.out).frozen 2
                have q3 := (HBAW.out.kp HK5.out).frozen 3
                simp only [An.v]
                clear k5
                go_wp2
                have HBQ := hide (HBAW.out.kp HK5.out)
                refine bodyPost_ret (v := (⟨0, (tw ts (P0 + 1 + 1)).p.1, (tw ts (P0 + 1 + 1)).p.2, true⟩ : An).v) ?_ ?_ ?_
                · exact results_cell_row rfl _ _ (w.heap.size + 1) 50 _ (0, 0) _ rfl (ans_bc HBQ.out) Tryd.underlying50 rfl info_ans4
                · rfl
                exact ⟨ts, by rw [HP.out], ((HSKW.out.kp HK5.out)).ans4 HBQ.out (by decide) (by decide) (by decide), by rw [HP.out], KQ.ans4 ((KQ.of (HKW0.out.trans HK5.out))) (by omega)⟩
              · rw [if_neg hn2] at m0
                have HP : Hid (doL (pL ts) 4 key val = (pL ts, ⟨0, 0, 0, false⟩)) := hide (by rw [HPA.out, if_pos rfl, toldL_no _ _ (by rw [pL_len]; omega)])
                go_wp2
                go_quiet (fail)
                go_wp2
                have kd := Kp.drewN (Kp.refl W) (n := nq)
                have HBQ := hide (HBAW.out.kp kd)
                refine bodyPost_ret (v := (⟨0, 0, 0, false⟩ : An).v) ?_ ?_ ?_
                · exact results_cell_row rfl _ _ (w.heap.size + 1) 50 _ (0, 0) _ rfl (ans_bc HBQ.out) Tryd.underlying50 rfl info_ans4
                · rfl
                exact ⟨ts, by rw [HP.out], ((HSKW.out.kp kd)).ans4 HBQ.out (by decide) (by decide) (by decide), by rw [HP.out], KQ.ans4 ((KQ.of (HKW0.out.trans kd))) (by omega)⟩
            · have c2 := (HSKW.out.f.tower hnx).1
              have c3 := (HSKW.out.f.tower hnx).2.1
              have d1 : ((tw ts (P0 + 1)).p.1 == key) = false := by simpa using hke
              have hs1 : hs = false := by
                cases hh : hs with
                | false => rfl
                | true => exact absurd ((sk_has HSKW.out).1 (HHE.out.symm.trans hh)).2 (by rw [← HP0.out]; exact hke)
              subst hs1
              rw [if_pos hnx] at l0
              clear hke
              have tx0 := c2
              have tx1 := c3
              have HP : Hid (doL (pL ts) 4 key val = (pL ts, ⟨0, (tw ts (P0 + 1)).p.1, (tw ts (P0 + 1)).p.2, true⟩)) := hide (by
                rw [HPA.out, if_neg (by simp), toldL_at _ _ (by rw [pL_len]; omega), pL_at])
              go_wp2
              go_quiet (fail)
              go_wp2_with fail
              with_reducible refine (skTold_any _ _ _ _ (((Kp.drewN (Kp.refl W) (n := nq))).cell tx0) (((Kp.drewN (Kp.refl W) (n := nq))).cell tx1)).mono ?_
              rintro e w5 ⟨rfl, k5⟩
              have HK5 := hide (((Kp.drewN (Kp.refl W) (n := nq))).trans k5)
              have r0 := HK5.out.cell r0
              have r1 := HK5.out.cell r1
              have r2 := HK5.out.cell r2
              have r3 := HK5.out.cell r3
              have q0 := (HBAW.out.kp HK5.out).frozen 0
              have q1 := (HBAW.out.kp HK5.out).frozen 1
              have q2 := (HBAW.out.kp HK5.out).frozen 2
              have q3 := (HBAW.out.kp HK5.out).frozen 3
              simp only [An.v]
              clear k5
              go_wp2
              have HBQ := hide (HBAW.out.kp HK5.out)
              refine bodyPost_ret (v := (⟨0, (tw ts (P0 + 1)).p.1, (tw ts (P0 + 1)).p.2, true⟩ : An).v) ?_ ?_ ?_
              · exact results_cell_row rfl _ _ (w.heap.size + 1) 50 _ (0, 0) _ rfl (ans_bc HBQ.out) Tryd.underlying50 rfl info_ans4
              · rfl
              exact ⟨ts, by rw [HP.out], ((HSKW.out.kp HK5.out)).ans4 HBQ.out (by decide) (by decide) (by decide), by rw [HP.out], KQ.ans4 ((KQ.of (HKW0.out.trans HK5.out))) (by omega)⟩
          · have hs1 : hs = false := by
              cases hh : hs with
              | false => rfl
              | true => exact absurd ((sk_has HSKW.out).1 (HHE.out.symm.trans hh)).1 (by rw [← HP0.out]; exact hnx)
            subst hs1
            rw [if_neg hnx] at l0
            have HP : Hid (doL (pL ts) 4 key val = (pL ts, ⟨0, 0, 0, false⟩)) := hide (by rw [HPA.out, if_neg (by simp), toldL_no _ _ (by rw [pL_len]; omega)])
            go_wp2
            go_quiet (fail)
            go_wp2
            have kd := Kp.drewN (Kp.refl W) (n := nq)
            have HBQ := hide (HBAW.out.kp kd)
            refine bodyPost_ret (v := (⟨0, 0, 0, false⟩ : An).v) ?_ ?_ ?_
            · exact results_cell_row rfl _ _ (w.heap.size + 1) 50 _ (0, 0) _ rfl (ans_bc HBQ.out) Tryd.underlying50 rfl info_ans4
            · rfl
            exact ⟨ts, by rw [HP.out], ((HSKW.out.kp kd)).ans4 HBQ.out (by decide) (by decide) (by decide), by rw [HP.out], KQ.ans4 ((KQ.of (HKW0.out.trans kd))) (by omega)⟩
        · have HPR : Hid (doL (pL ts) 5 key val = (pL ts, toldL (pL ts) ((P0 : Int) - 1))) := hide (by rw [hdl]; rfl)
          clear hdl hky hkd hky5
          go_enter Tryd.func41, Tryd.ntmps41
          go_wp2_with fail
          rw [← HW1.out]
          with_reducible refine (sk_within_to _ _ _ true _ HBK.out).mono ?_
          rintro e w' ⟨rfl, rfl⟩
          go_wp2_with fail
          with_reducible refine (sk_within_to _ _ _ true _ HBY.out).mono ?_
          rintro e w' ⟨rfl, rfl⟩
          go_wp2_with fail
          with_reducible refine HF.out.mono ?_
          rintro e w1 ⟨rfl, k1⟩
          obtain ⟨W, hW⟩ : ∃ W, W = w1.alloc (.cells (trC ts key 0).toArray tR) := ⟨_, rfl⟩
          have kW : Kp w1 W := by rw [hW]; exact (Kp.refl _).alloc
          have htb : BC W w1.heap.size tR (trC ts key 0) := by rw [hW]; exact BC.new _ _ _
          have hst := tr_store ts key w1 W hW
          have HKW0 := hide ((HK1.out.trans k1).trans kW)
          have HSKW := hide ((HSK.out.kp HK1.out).kp (k1.trans kW))
          have HBAW := hide (HBA.out.kp (k1.trans kW))
          have x0 : W.cell? ⟨w.heap.size, 0, none⟩ = some (.int .i64 _) := (HBO.out.kp (k1.trans kW)).cell 0
          have x1 : W.cell? ⟨w.heap.size, 1, none⟩ = some (.int .i64 key) := (HBO.out.kp (k1.trans kW)).cell 1
          have a0 : W.cell? ⟨w1.heap.size, 0, none⟩ = some (.pointer (some ⟨(tw ts P0).b, 0, none⟩)) := by rw [htb.cell, HP0.out]; exact (trC_at ts key 0 (by omega)).1
          have a1 : W.cell? ⟨w1.heap.size, 12, none⟩ = some (.int .i64 (P0 : Nat)) := by rw [htb.cell, HP0.out]; exact (trC_at ts key 0 (by omega)).2
          have hPl : P0 < ts.length := by rw [HP0.out]; exact HSKW.out.len_lt
          have b0 := (HSKW.out.f.tower hPl).1
          have b1 := (HSKW.out.f.tower hPl).2.1
          have b2 := (HSKW.out.f.tower hPl).2.2
          have g0 := (HSKW.out.h12 hPl).1
          have l0 := (HSKW.out.f.link hPl (HSKW.out.h12 hPl).1).1
          rw [lnk_0 HSKW.out hPl, Nat.zero_mul] at l0
          have hd0 : W.cell? ⟨s, 0, none⟩ = some (.pointer (some ⟨(tw ts 0).b, 0, none⟩)) := HSKW.out.stk.cell 0
          have r0 : _ = some (Value.int .i64 0) := (HBAW.out).cell 0
          have r1 : _ = some (Value.int .i64 0) := (HBAW.out).cell 1
          have r2 : _ = some (Value.int .i64 0) := (HBAW.out).cell 2
          have r3 : _ = some (Value.bool false) := (HBAW.out).cell 3
          have q0 := (HBAW.out).frozen 0
          have q1 := (HBAW.out).frozen 1
          have q2 := (HBAW.out).frozen 2
          have q3 := (HBAW.out).frozen 3
          clear k1 kW htb hW
          by_cases hnx : P0 + 1 < ts.length
          · by_cases hke : (tw ts (P0 + 1)).p.1 = key
            · have c2 := (HSKW.out.f.tower hnx).1
              have c3 := (HSKW.out.f.tower hnx).2.1
              have c4 := (HSKW.out.f.tower hnx).2.2
              have g1 := (HSKW.out.h12 hnx).1
              have m0 := (HSKW.out.f.link hnx (HSKW.out.h12 hnx).1).1
              rw [lnk_0 HSKW.out hnx, Nat.zero_mul] at m0
              have d1 : ((tw ts (P0 + 1)).p.1 == key) = true := by simp [hke]
              have hs1 : hs = true := by rw [HHE.out]; exact (sk_has HSKW.out).2 (by rw [← HP0.out]; exact ⟨hnx, hke⟩)
              subst hs1
              rw [if_pos hnx] at l0
              clear hke
              by_cases hp0 : P0 = 0
              · have HP2 : Hid (doL (pL ts) 5 key val = (pL ts, ⟨0, 0, 0, false⟩)) := hide (by rw [HPR.out, toldL_no _ _ (by omega)])
                have HP := HP2
                have hd1 : W.cell? ⟨s, 0, none⟩ = some (.pointer (some ⟨(tw ts P0).b, 0, none⟩)) := by rw [hp0]; exact hd0
                have hnq := fun W => run_neq_same W ⟨(tw ts P0).b, 0, none⟩
                clear hp0 hd0
                go_wp2
                go_quiet (fail)
                go_wp2
                go_region_held3 (fun w' => w'.cell? ⟨w1.heap.size, 0, none⟩ = some (.pointer (some ⟨(tw ts P0).b, 0, none⟩)) ∧ w'.cell? ⟨s, 0, none⟩ = some (.pointer (some ⟨(tw ts P0).b, 0, none⟩))) (first | go_keep | fail) (fail)
                go_wp2
                have kd := Kp.drewN (Kp.refl W) (n := nq + 1)
                have HBQ := hide (HBAW.out.kp kd)
                refine bodyPost_ret (v := (⟨0, 0, 0, false⟩ : An).v) ?_ ?_ ?_
                · exact results_cell_row rfl _ _ (w.heap.size + 1) 50 _ (0, 0) _ rfl (ans_bc HBQ.out) Tryd.underlying50 rfl info_ans4
                · rfl
                exact ⟨ts, by rw [HP.out], ((HSKW.out.kp kd)).ans4 HBQ.out (by decide) (by decide) (by decide), by rw [HP.out], KQ.ans4 ((KQ.of (HKW0.out.trans kd))) (by omega)⟩
              · have HP : Hid (doL (pL ts) 5 key val = (pL ts, ⟨0, (tw ts P0).p.1, (tw ts P0).p.2, true⟩)) := hide (by
                  obtain ⟨P, hP⟩ : ∃ P, P0 = P + 1 := ⟨P0 - 1, by omega⟩
                  rw [HPR.out, show ((P0 : Int) - 1) = ((P : Nat) : Int) by omega, toldL_at _ _ (by rw [pL_len]; omega), pL_at, ← hP])
                have nb : ¬ (tw ts P0).b = (tw ts 0).b := fun e => hp0 (HSKW.out.f.bdj P0 0 hPl hpos e)
                have tx0 := b0
                have tx1 := b1
                have KS : Hid (∀ W', Kp W W' → W'.cell? ⟨w1.heap.size, 0, none⟩ = some (.pointer (some ⟨(tw ts P0).b, 0, none⟩)) ∧ W'.cell? ⟨s, 0, none⟩ = some (.pointer (some ⟨(tw ts 0).b, 0, none⟩)) ∧ (binOp .neq 66 (.pointer (some ⟨(tw ts P0).b, 0, none⟩)) (.pointer (some ⟨(tw ts 0).b, 0, none⟩))).run Tryd.prog W' = .ok (.bool true) W' ∧ Kp W W') := hide (fun W' h => ⟨h.cell a0, h.cell hd0, run_neq_other W' nb ((HSKW.out.f.tow P0 hPl).kp h) ((HSKW.out.f.tow 0 hpos).kp h), h⟩)
                clear hp0
                go_wp2
                go_quiet (fail)
                go_wp2
                go_region_held3 (fun w' => w'.cell? ⟨w1.heap.size, 0, none⟩ = some (.pointer (some ⟨(tw ts P0).b, 0, none⟩)) ∧ w'.cell? ⟨s, 0, none⟩ = some (.pointer (some ⟨(tw ts 0).b, 0, none⟩)) ∧ (binOp .neq 66 (.pointer (some ⟨(tw ts P0).b, 0, none⟩)) (.pointer (some ⟨(tw ts 0).b, 0, none⟩))).run Tryd.prog w' = .ok (.bool true) w' ∧ Kp W w') ((refine KS.out _ ?_; (focus ((repeat (first | (with_reducible assumption) | (with_reducible exact Kp.refl _) | (with_reducible apply Kp.drew) | (with_reducible apply Kp.drewN) | ((with_reducible apply Kp.setR); (focus (first | (with_reducible assumption) | (simp; done) | (simp; omega)))) | (with_reducible apply Kp.alloc) | ((with_reducible apply Kp.call); (with_reducible assumption)) | ((with_reducible apply Kp.app); (with_reducible assumption)))); done)))) (fail)
                go_wp2_with fail
                with_reducible refine (skTold_any _ _ _ _ (((Kp.drewN (Kp.refl W) (n := nq + 1))).cell tx0) (((Kp.drewN (Kp.refl W) (n := nq + 1))).cell tx1)).mono ?_
                rintro e w5 ⟨rfl, k5⟩
                have HK5 := hide (((Kp.drewN (Kp.refl W) (n := nq + 1))).trans k5)
                have r0 := HK5.out.cell r0
                have r1 := HK5.out.cell r1
                have r2 := HK5.out.cell r2
                have r3 := HK5.out.cell r3
                have q0 := (HBAW.out.kp HK5.out).frozen 0
                have q1 := (HBAW.out.kp HK5.out).frozen 1
                have q2 := (HBAW.out.kp HK5.out).frozen 2
                have q3 := (HBAW.out.kp HK5.out).frozen 3
                simp only [An.v]
                clear k5
                go_wp2
                have HBQ := hide (HBAW.out.kp HK5.out)
                refine bodyPost_ret (v := (⟨0, (tw ts P0).p.1, (tw ts P0).p.2, true⟩ : An).v) ?_ ?_ ?_
                · exact results_cell_row rfl _ _ (w.heap.size + 1) 50 _ (0, 0) _ rfl (ans_bc HBQ.out) Tryd.underlying50 rfl info_ans4
                · rfl
                exact ⟨ts, by rw [HP.out], ((HSKW.out.kp HK5.out)).ans4 HBQ.out (by decide) (by decide) (by decide), by rw [HP.out], KQ.ans4 ((KQ.of (HKW0.out.trans HK5.out))) (by omega)⟩
            · have c2 := (HSKW.out.f.tower hnx).1
              have c3 := (HSKW.out.f.tower hnx).2.1
              have d1 : ((tw ts (P0 + 1)).p.1 == key) = false := by simpa using hke
              have hs1 : hs = false := by
                cases hh : hs with
                | false => rfl
                | true => exact absurd ((sk_has HSKW.out).1 (HHE.out.symm.trans hh)).2 (by rw [← HP0.out]; exact hke)
              subst hs1
              rw [if_pos hnx] at l0
              clear hke
              by_cases hp0 : P0 = 0
              · have HP2 : Hid (doL (pL ts) 5 key val = (pL ts, ⟨0, 0, 0, false⟩)) := hide (by rw [HPR.out, toldL_no _ _ (by omega)])
                have HP := HP2
                have hd1 : W.cell? ⟨s, 0, none⟩ = some (.pointer (some ⟨(tw ts P0).b, 0, none⟩)) := by rw [hp0]; exact hd0
                have hnq := fun W => run_neq_same W ⟨(tw ts P0).b, 0, none⟩
                clear hp0 hd0
                go_wp2
                go_quiet (fail)
                go_wp2
                go_region_held3 (fun w' => w'.cell? ⟨w1.heap.size, 0, none⟩ = some (.pointer (some ⟨(tw ts P0).b, 0, none⟩)) ∧ w'.cell? ⟨s, 0, none⟩ = some (.pointer (some ⟨(tw ts P0).b, 0, none⟩))) (first | go_keep | fail) (fail)
                go_wp2
                have kd := Kp.drewN (Kp.refl W) (n := nq + 1)
                have HBQ := hide (HBAW.out.kp kd)
                refine bodyPost_ret (v := (⟨0, 0, 0, false⟩ : An).v) ?_ ?_ ?_
                · exact results_cell_row rfl _ _ (w.heap.size + 1) 50 _ (0, 0) _ rfl (ans_bc HBQ.out) Tryd.underlying50 rfl info_ans4
                · rfl
                exact ⟨ts, by rw [HP.out], ((HSKW.out.kp kd)).ans4 HBQ.out (by decide) (by decide) (by decide), by rw [HP.out], KQ.ans4 ((KQ.of (HKW0.out.trans kd))) (by omega)⟩
              · have HP : Hid (doL (pL ts) 5 key val = (pL ts, ⟨0, (tw ts P0).p.1, (tw ts P0).p.2, true⟩)) := hide (by
                  obtain ⟨P, hP⟩ : ∃ P, P0 = P + 1 := ⟨P0 - 1, by omega⟩
                  rw [HPR.out, show ((P0 : Int) - 1) = ((P : Nat) : Int) by omega, toldL_at _ _ (by rw [pL_len]; omega), pL_at, ← hP])
                have nb : ¬ (tw ts P0).b = (tw ts 0).b := fun e => hp0 (HSKW.out.f.bdj P0 0 hPl hpos e)
                have tx0 := b0
                have tx1 := b1
                have KS : Hid (∀ W', Kp W W' → W'.cell? ⟨w1.heap.size, 0, none⟩ = some (.pointer (some ⟨(tw ts P0).b, 0, none⟩)) ∧ W'.cell? ⟨s, 0, none⟩ = some (.pointer (some ⟨(tw ts 0).b, 0, none⟩)) ∧ (binOp .neq 66 (.pointer (some ⟨(tw ts P0).b, 0, none⟩)) (.pointer (some ⟨(tw ts 0).b, 0, none⟩))).run Tryd.prog W' = .ok (.bool true) W' ∧ Kp W W') := hide (fun W' h => ⟨h.cell a0, h.cell hd0, run_neq_other W' nb ((HSKW.out.f.tow P0 hPl).kp h) ((HSKW.out.f.tow 0 hpos).kp h), h⟩)
                clear hp0
                go_wp2
                go_quiet (fail)
                go_wp2
                go_region_held3 (fun w' => w'.cell? ⟨w1.heap.size, 0, none⟩ = some (.pointer (some ⟨(tw ts P0).b, 0, none⟩)) ∧ w'.cell? ⟨s, 0, none⟩ = some (.pointer (some ⟨(tw ts 0).b, 0, none⟩)) ∧ (binOp .neq 66 (.pointer (some ⟨(tw ts P0).b, 0, none⟩)) (.pointer (some ⟨(tw ts 0).b, 0, none⟩))).run Tryd.prog w' = .ok (.bool true) w' ∧ Kp W w') ((refine KS.out _ ?_; (focus ((repeat (first | (with_reducible assumption) | (with_reducible exact Kp.refl _) | (with_reducible apply Kp.drew) | (with_reducible apply Kp.drewN) | ((with_reducible apply Kp.setR); (focus (first | (with_reducible assumption) | (simp; done) | (simp; omega)))) | (with_reducible apply Kp.alloc) | ((with_reducible apply Kp.call); (with_reducible assumption)) | ((with_reducible apply Kp.app); (with_reducible assumption)))); done)))) (fail)
                go_wp2_with fail
                with_reducible refine (skTold_any _ _ _ _ (((Kp.drewN (Kp.refl W) (n := nq + 1))).cell tx0) (((Kp.drewN (Kp.refl W) (n := nq + 1))).cell tx1)).mono ?_
                rintro e w5 ⟨rfl, k5⟩
                have HK5 := hide (((Kp.drewN (Kp.refl W) (n := nq + 1))).trans k5)
                have r0 := HK5.out.cell r0
                have r1 := HK5.out.cell r1
                have r2 := HK5.out.cell r2
                have r3 := HK5.out.cell r3
                have q0 := (HBAW.out.kp HK5.out).frozen 0
                have q1 := (HBAW.out.kp HK5.out).frozen 1
                have q2 := (HBAW.out.kp HK5.out).frozen 2
                have q3 := (HBAW.out.kp HK5.out).frozen 3
                simp only [An.v]
                clear k5
                go_wp2
                have HBQ := hide (HBAW.out.kp HK5.out)
                refine bodyPost_ret (v := (⟨0, (tw ts P0).p.1, (tw ts P0).p.2, true⟩ : An).v) ?_ ?_ ?_
                · exact results_cell_row rfl _ _ (w.heap.size + 1) 50 _ (0, 0) _ rfl (ans_bc HBQ.out) Tryd.underlying50 rfl info_ans4
                · rfl
                exact ⟨ts, by rw [HP.out], ((HSKW.out.kp HK5.out)).ans4 HBQ.out (by decide) (by decide) (by decide), by rw [HP.out], KQ.ans4 ((KQ.of (HKW0.out.trans HK5.out))) (by omega)⟩
          · have hs1 : hs = false := by
              cases hh : hs with
              | false => rfl
              | true => exact absurd ((sk_has HSKW.out).1 (HHE.out.symm.trans hh)).1 (by rw [← HP0.out]; exact hnx)
            subst hs1
            rw [if_neg hnx] at l0
            by_cases hp0 : P0 = 0
            · have HP2 : Hid (doL (pL ts) 5 key val = (pL ts, ⟨0, 0, 0, false⟩)) := hide (by rw [HPR.out, toldL_no _ _ (by omega)])
              have HP := HP2
              have hd1 : W.cell? ⟨s, 0, none⟩ = some (.pointer (some ⟨(tw ts P0).b, 0, none⟩)) := by rw [hp0]; exact hd0
              have hnq := fun W => run_neq_same W ⟨(tw ts P0).b, 0, none⟩
              clear hp0 hd0
              go_wp2
              go_quiet (fail)
              go_wp2
              go_region_held3 (fun w' => w'.cell? ⟨w1.heap.size, 0, none⟩ = some (.pointer (some ⟨(tw ts P0).b, 0, none⟩)) ∧ w'.cell? ⟨s, 0, none⟩ = some (.pointer (some ⟨(tw ts P0).b, 0, none⟩))) (first | go_keep | fail) (fail)
              go_wp2
              have kd := Kp.drewN (Kp.refl W) (n := nq + 1)
              have HBQ := hide (HBAW.out.kp kd)
              refine bodyPost_ret (v := (⟨0, 0, 0, false⟩ : An).v) ?_ ?_ ?_
              · exact results_cell_row rfl _ _ (w.heap.size + 1) 50 _ (0, 0) _ rfl (ans_bc HBQ.out) Tryd.underlying50 rfl info_ans4
              · rfl
              exact ⟨ts, by rw [HP.out], ((HSKW.out.kp kd)).ans4 HBQ.out (by decide) (by decide) (by decide), by rw [HP.out], KQ.ans4 ((KQ.of (HKW0.out.trans kd))) (by omega)⟩
            · have HP : Hid (doL (pL ts) 5 key val = (pL ts, ⟨0, (tw ts P0).p.1, (tw ts P0).p.2, true⟩)) := hide (by
                obtain ⟨P, hP⟩ : ∃ P, P0 = P + 1 := ⟨P0 - 1, by omega⟩
                rw [HPR.out, show ((P0 : Int) - 1) = ((P : Nat) : Int) by omega, toldL_at _ _ (by rw [pL_len]; omega), pL_at, ← hP])
              have nb : ¬ (tw ts P0).b = (tw ts 0).b := fun e => hp0 (HSKW.out.f.bdj P0 0 hPl hpos e)
              have tx0 := b0
              have tx1 := b1
              have KS : Hid (∀ W', Kp W W' → W'.cell? ⟨w1.heap.size, 0, none⟩ = some (.pointer (some ⟨(tw ts P0).b, 0, none⟩)) ∧ W'.cell? ⟨s, 0, none⟩ = some (.pointer (some ⟨(tw ts 0).b, 0, none⟩)) ∧ (binOp .neq 66 (.pointer (some ⟨(tw ts P0).b, 0, none⟩)) (.pointer (some ⟨(tw ts 0).b, 0, none⟩))).run Tryd.prog W' = .ok (.bool true) W' ∧ Kp W W') := hide (fun W' h => ⟨h.cell a0, h.cell hd0, run_neq_other W' nb ((HSKW.out.f.tow P0 hPl).kp h) ((HSKW.out.f.tow 0 hpos).kp h), h⟩)
              clear hp0
              go_wp2
              go_quiet (fail)
              go_wp2
              go_region_held3 (fun w' => w'.cell? ⟨w1.heap.size, 0, none⟩ = some (.pointer (some ⟨(tw ts P0).b, 0, none⟩)) ∧ w'.cell? ⟨s, 0, none⟩ = some (.pointer (some ⟨(tw ts 0).b, 0, none⟩)) ∧ (binOp .neq 66 (.pointer (some ⟨(tw ts P0).b, 0, none⟩)) (.pointer (some ⟨(tw ts 0).b, 0, none⟩))).run Tryd.prog w' = .ok (.bool true) w' ∧ Kp W w') ((refine KS.out _ ?_; (focus ((repeat (first | (with_reducible assumption) | (with_reducible exact Kp.refl _) | (with_reducible apply Kp.drew) | (with_reducible apply Kp.drewN) | ((with_reducible apply Kp.setR); (focus (first | (with_reducible assumption) | (simp; done) | (simp; omega)))) | (with_reducible apply Kp.alloc) | ((with_reducible apply Kp.call); (with_reducible assumption)) | ((with_reducible apply Kp.app); (with_reducible assumption)))); done)))) (fail)
              go_wp2_with fail
              with_reducible refine (skTold_any _ _ _ _ (((Kp.drewN (Kp.refl W) (n := nq + 1))).cell tx0) (((Kp.drewN (Kp.refl W) (n := nq + 1))).cell tx1)).mono ?_
              rintro e w5 ⟨rfl, k5⟩
              have HK5 := hide (((Kp.drewN (Kp.refl W) (n := nq + 1))).trans k5)
              have r0 := HK5.out.cell r0
              have r1 := HK5.out.cell r1
              have r2 := HK5.out.cell r2
              have r3 := HK5.out.cell r3
              have q0 := (HBAW.out.kp HK5.out).frozen 0
              have q1 := (HBAW.out.kp HK5.out).frozen 1
              have q2 := (HBAW.out.kp HK5.out).frozen 2
              have q3 := (HBAW.out.kp HK5.out).frozen 3
              simp only [An.v]
              clear k5
              go_wp2
              have HBQ := hide (HBAW.out.kp HK5.out)
              refine bodyPost_ret (v := (⟨0, (tw ts P0).p.1, (tw ts P0).p.2, true⟩ : An).v) ?_ ?_ ?_
              · exact results_cell_row rfl _ _ (w.heap.size + 1) 50 _ (0, 0) _ rfl (ans_bc HBQ.out) Tryd.underlying50 rfl info_ans4
              · rfl
              exact ⟨ts, by rw [HP.out], ((HSKW.out.kp HK5.out)).ans4 HBQ.out (by decide) (by decide) (by decide), by rw [HP.out], KQ.ans4 ((KQ.of (HKW0.out.trans HK5.out))) (by omega)⟩
        · omega
        · omega
      · clear hhe hbl
        have hkd6 : kind = 6 ∨ kind = 7 := by omega
        rcases hkd6 with rfl | rfl
        · have HP : Hid (doL (pL ts) 6 key val = (pL ts, ⟨0, 0, (P0 : Int), true⟩)) := hide (by rw [hdl]; rfl)
          clear hdl hky hkd hky5 hkd'
          go_enter Tryd.func41, Tryd.ntmps41
          go_wp2_with fail
          rw [← HW1.out]
          with_reducible refine (sk_within_to _ _ _ true _ HBK.out).mono ?_
          rintro e w' ⟨rfl, rfl⟩
          go_wp2_with fail
          with_reducible refine HF.out.mono ?_
          rintro e w1 ⟨rfl, k1⟩
          obtain ⟨W, hW⟩ : ∃ W, W = w1.alloc (.cells (trC ts key 0).toArray tR) := ⟨_, rfl⟩
          have kW : Kp w1 W := by rw [hW]; exact (Kp.refl _).alloc
          have htb : BC W w1.heap.size tR (trC ts key 0) := by rw [hW]; exact BC.new _ _ _
          have hst := tr_store ts key w1 W hW
          have HKW0 := hide ((HK1.out.trans k1).trans kW)
          have HSKW := hide ((HSK.out.kp HK1.out).kp (k1.trans kW))
          have HBAW := hide (HBA.out.kp (k1.trans kW))
          have x0 : W.cell? ⟨w.heap.size, 0, none⟩ = some (.int .i64 _) := (HBO.out.kp (k1.trans kW)).cell 0
          have x1 : W.cell? ⟨w.heap.size, 1, none⟩ = some (.int .i64 key) := (HBO.out.kp (k1.trans kW)).cell 1
          have a0 : W.cell? ⟨w1.heap.size, 0, none⟩ = some (.pointer (some ⟨(tw ts P0).b, 0, none⟩)) := by rw [htb.cell, HP0.out]; exact (trC_at ts key 0 (by omega)).1
          have a1 : W.cell? ⟨w1.heap.size, 12, none⟩ = some (.int .i64 (P0 : Nat)) := by rw [htb.cell, HP0.out]; exact (trC_at ts key 0 (by omega)).2
          have hPl : P0 < ts.length := by rw [HP0.out]; exact HSKW.out.len_lt
          have b0 := (HSKW.out.f.tower hPl).1
          have b1 := (HSKW.out.f.tower hPl).2.1
          have b2 := (HSKW.out.f.tower hPl).2.2
          have g0 := (HSKW.out.h12 hPl).1
          have l0 := (HSKW.out.f.link hPl (HSKW.out.h12 hPl).1).1
          rw [lnk_0 HSKW.out hPl, Nat.zero_mul] at l0
          have hd0 : W.cell? ⟨s, 0, none⟩ = some (.pointer (some ⟨(tw ts 0).b, 0, none⟩)) := HSKW.out.stk.cell 0
          have r0 : _ = some (Value.int .i64 0) := (HBAW.out).cell 0
          have r1 : _ = some (Value.int .i64 0) := (HBAW.out).cell 1
          have r2 : _ = some (Value.int .i64 0) := (HBAW.out).cell 2
          have r3 : _ = some (Value.bool false) := (HBAW.out).cell 3
          have q0 := (HBAW.out).frozen 0
          have q1 := (HBAW.out).frozen 1
          have q2 := (HBAW.out).frozen 2
          have q3 := (HBAW.out).frozen 3
          clear k1 kW htb hW
          by_cases hnx : P0 + 1 < ts.length
          · by_cases hke : (tw ts (P0 + 1)).p.1 = key
            · have c2 := (HSKW.out.f.tower hnx).1
              have c3 := (HSKW.out.f.tower hnx).2.1
              have c4 := (HSKW.out.f.tower hnx).2.2
              have g1 := (HSKW.out.h12 hnx).1
              have m0 := (HSKW.out.f.link hnx (HSKW.out.h12 hnx).1).1
              rw [lnk_0 HSKW.out hnx, Nat.zero_mul] at m0
              have d1 : ((tw ts (P0 + 1)).p.1 == key) = true := by simp [hke]
              have hs1 : hs = true := by rw [HHE.out]; exact (sk_has HSKW.out).2 (by rw [← HP0.out]; exact ⟨hnx, hke⟩)
              subst hs1
              rw [if_pos hnx] at l0
              clear hke
              go_wp2
              go_quiet (fail)
              go_wp2
              have kd := Kp.drewN (Kp.refl W) (n := nq)
              have HBQ := hide (HBAW.out.kp kd)
              refine bodyPost_ret (v := (⟨0, 0, (P0 : Int), true⟩ : An).v) ?_ ?_ ?_
              · exact results_cell_row rfl _ _ (w.heap.size + 1) 50 _ (0, 0) _ rfl (ans_bc HBQ.out) Tryd.underlying50 rfl info_ans4
              · rfl
              exact ⟨ts, by rw [HP.out], ((HSKW.out.kp kd)).ans4 HBQ.out (by decide) (by decide) (by decide), by rw [HP.out], KQ.ans4 ((KQ.of (HKW0.out.trans kd))) (by omega)⟩
            · have c2 := (HSKW.out.f.tower hnx).1
              have c3 := (HSKW.out.f.tower hnx).2.1
              have d1 : ((tw ts (P0 + 1)).p.1 == key) = false := by simpa using hke
              have hs1 : hs = false := by
                cases hh : hs with
                | false => rfl
                | true => exact absurd ((sk_has HSKW.out).1 (HHE.out.symm.trans hh)).2 (by rw [← HP0.out]; exact hke)
              subst hs1
              rw [if_pos hnx] at l0
              clear hke
              go_wp2
              go_quiet (fail)
              go_wp2
              have kd := Kp.drewN (Kp.refl W) (n := nq)
              have HBQ := hide (HBAW.out.kp kd)
              refine bodyPost_ret (v := (⟨0, 0, (P0 : Int), true⟩ : An).v) ?_ ?_ ?_
              · exact results_cell_row rfl _ _ (w.heap.size + 1) 50 _ (0, 0) _ rfl (ans_bc HBQ.out) Tryd.underlying50 rfl info_ans4
              · rfl
              exact ⟨ts, by rw [HP.out], ((HSKW.out.kp kd)).ans4 HBQ.out (by decide) (by decide) (by decide), by rw [HP.out], KQ.ans4 ((KQ.of (HKW0.out.trans kd))) (by omega)⟩
          · have hs1 : hs = false := by
              cases hh : hs with
              | false => rfl
              | true => exact absurd ((sk_has HSKW.out).1 (HHE.out.symm.trans hh)).1 (by rw [← HP0.out]; exact hnx)
            subst hs1
            rw [if_neg hnx] at l0
            go_wp2
            go_quiet (fail)
            go_wp2
            have kd := Kp.drewN (Kp.refl W) (n := nq)
            have HBQ := hide (HBAW.out.kp kd)
            refine bodyPost_ret (v := (⟨0, 0, (P0 : Int), true⟩ : An).v) ?_ ?_ ?_
            · exact results_cell_row rfl _ _ (w.heap.size + 1) 50 _ (0, 0) _ rfl (ans_bc HBQ.out) Tryd.underlying50 rfl info_ans4
            · rfl
            exact ⟨ts, by rw [HP.out], ((HSKW.out.kp kd)).ans4 HBQ.out (by decide) (by decide) (by decide), by rw [HP.out], KQ.ans4 ((KQ.of (HKW0.out.trans kd))) (by omega)⟩
        · obtain ⟨N, hN⟩ : ∃ N, N = ts.length - 1 := ⟨_, rfl⟩
          obtain ⟨N1, hN1⟩ : ∃ N1 : Int, N1 = (N : Int) - 1 := ⟨_, rfl⟩
          have HSKW := hide (HSK.out.kp HK1.out)
          have HKW0 := HK1
          have HBAW := HBA
          have m2 : W1.cell? ⟨s, 2, none⟩ = some (.int .i64 (N : Int)) := by rw [hN]; exact HSKW.out.stk.cell 2
          have s1 : IntKind.i64.wrap ((N : Int) - 1) = N1 := by rw [IntWalk.i64_in _ (by omega)]; omega
          have r0 : _ = some (Value.int .i64 0) := (HBAW.out).cell 0
          have r1 : _ = some (Value.int .i64 0) := (HBAW.out).cell 1
          have r2 : _ = some (Value.int .i64 0) := (HBAW.out).cell 2
          have r3 : _ = some (Value.bool false) := (HBAW.out).cell 3
          have q0 := (HBAW.out).frozen 0
          have q1 := (HBAW.out).frozen 1
          have q2 := (HBAW.out).frozen 2
          have q3 := (HBAW.out).frozen 3
          by_cases hin : 0 ≤ key ∧ key ≤ N1
          · obtain ⟨k, rfl⟩ : ∃ k : Nat, key = k := ⟨key.toNat, by omega⟩
            have hkl : k + 1 < ts.length := by omega
            have HP : Hid (doL (pL ts) 7 k val = (pL ts, ⟨0, (tw ts (k + 1)).p.1, (tw ts (k + 1)).p.2, true⟩)) := hide (by
              rw [hdl, if_neg (by omega), if_neg (by omega), if_neg (by omega), if_neg (by omega), if_neg (by omega), if_neg (by omega), toldL_at _ _ (by rw [pL_len]; omega), pL_at])
            have HBY : Hid (btw (k : Int) 0 N1 = true) := hide ((btw_iff _ _ _).2 hin)
            have s2 : IntKind.i64.wrap ((k : Int) + 1) = ((k + 1 : Nat) : Int) := by rw [IntWalk.i64_in _ (by omega)]; omega
            have tx0 := (HSKW.out.f.tower hkl).1
            have tx1 := (HSKW.out.f.tower hkl).2.1
            have HNT := hide (fun W (h : Kp W1 W) => skNth_any s ts (k + 1) W B (HSKW.out.kp h) (by omega) hkl)
            clear hdl hky hkd hky5 hkd' hN hN1 hin
            go_enter Tryd.func41, Tryd.ntmps41
            go_wp2_with fail
            rw [← HW1.out]
            with_reducible refine (sk_within_to _ _ _ true _ HBK.out).mono ?_
            rintro e w' ⟨rfl, rfl⟩
            go_wp2_with fail
            go_quiet ((go_at_call 31; exact Calls.quiet_of_same ((sk_within_to _ _ _ true _ HBY.out).mono fun _ _ h => ⟨h.1, h.2.symm⟩)))
            go_wp2_with fail
            have hnt := HNT.out (W1.drewN nq) (Kp.drewN (Kp.refl W1))
            refine hnt.mono ?_
            rintro e w4 ⟨rfl, k4⟩
            have K4 := hide ((Kp.drewN (Kp.refl W1) (n := nq)).trans k4)
            clear k4 hnt
            go_wp2_with fail
            with_reducible refine (skTold_any _ _ _ _ ((K4.out).cell tx0) ((K4.out).cell tx1)).mono ?_
            rintro e w5 ⟨rfl, k5⟩
            have HK5 := hide ((K4.out).trans k5)
            have r0 := HK5.out.cell r0
            have r1 := HK5.out.cell r1
            have r2 := HK5.out.cell r2
            have r3 := HK5.out.cell r3
            have q0 := (HBAW.out.kp HK5.out).frozen 0
            have q1 := (HBAW.out.kp HK5.out).frozen 1
            have q2 := (HBAW.out.kp HK5.out).frozen 2
            have q3 := (HBAW.out.kp HK5.out).frozen 3
            simp only [An.v]
            clear k5
            go_wp2
            have HBQ := hide (HBAW.out.kp HK5.out)
            refine bodyPost_ret (v := (⟨0, (tw ts (k + 1)).p.1, (tw ts (k + 1)).p.2, true⟩ : An).v) ?_ ?_ ?_
            · exact results_cell_row rfl _ _ (w.heap.size + 1) 50 _ (0, 0) _ rfl (ans_bc HBQ.out) Tryd.underlying50 rfl info_ans4
            · rfl
            exact ⟨ts, by rw [HP.out], ((HSKW.out.kp HK5.out)).ans4 HBQ.out (by decide) (by decide) (by decide), by rw [HP.out], KQ.ans4 ((KQ.of (HKW0.out.trans HK5.out))) (by omega)⟩
          · have HP : Hid (doL (pL ts) 7 key val = (pL ts, ⟨0, 0, 0, false⟩)) := hide (by
              rw [hdl, if_neg (by omega), if_neg (by omega), if_neg (by omega), if_neg (by omega), if_neg (by omega), if_neg (by omega), toldL_no _ _ (by rw [pL_len]; omega)])
            have HBY : Hid (btw key 0 N1 = false) := hide ((btw_f_iff _ _ _).2 hin)
            clear hdl hky hkd hky5 hkd' hN hN1 hin
            go_enter Tryd.func41, Tryd.ntmps41
            go_wp2_with fail
            rw [← HW1.out]
            with_reducible refine (sk_within_to _ _ _ true _ HBK.out).mono ?_
            rintro e w' ⟨rfl, rfl⟩
            go_wp2_with fail
            go_quiet ((go_at_call 31; exact Calls.quiet_of_same ((sk_within_to _ _ _ false _ HBY.out).mono fun _ _ h => ⟨h.1, h.2.symm⟩)))
            go_wp2
            have kd := Kp.drewN (Kp.refl W1) (n := nq)
            have HBQ := hide (HBAW.out.kp kd)
            refine bodyPost_ret (v := (⟨0, 0, 0, false⟩ : An).v) ?_ ?_ ?_
            · exact results_cell_row rfl _ _ (w.heap.size + 1) 50 _ (0, 0) _ rfl (ans_bc HBQ.out) Tryd.underlying50 rfl info_ans4
            · rfl
            exact ⟨ts, by rw [HP.out], ((HSKW.out.kp kd)).ans4 HBQ.out (by decide) (by decide) (by decide), by rw [HP.out], KQ.ans4 ((KQ.of (HKW0.out.trans kd))) (by omega)⟩
  · have HBK : Hid (btw kind 1 7 = false) := hide ((btw_f_iff _ _ _).2 hkd)
    have HP : Hid (doL (pL ts) kind key val = (pL ts, ⟨1, 0, 0, false⟩)) := hide (by rw [doL, if_pos (.inl hkd)])
    have r0 : _ = some (Value.int .i64 0) := (HBA.out).cell 0
    have r1 : _ = some (Value.int .i64 0) := (HBA.out).cell 1
    have r2 : _ = some (Value.int .i64 0) := (HBA.out).cell 2
    have r3 : _ = some (Value.bool false) := (HBA.out).cell 3
    have q0 := (HBA.out).frozen 0
    have q1 := (HBA.out).frozen 1
    have q2 := (HBA.out).frozen 2
    have q3 := (HBA.out).frozen 3
    clear hkd hbl
    go_enter Tryd.func41, Tryd.ntmps41
    go_wp2_with fail
    rw [← HW1.out]
    with_reducible refine (sk_within_to _ _ _ false _ HBK.out).mono ?_
    rintro e w' ⟨rfl, rfl⟩
    go_wp2
    refine bodyPost_ret (v := (⟨1, 0, 0, false⟩ : An).v) ?_ ?_ ?_
    · exact results_cell_row rfl _ _ (w.heap.size + 1) 50 _ (0, 0) _ rfl (ans_bc HBA.out) Tryd.underlying50 rfl info_ans4
    · rfl
    exact ⟨ts, by rw [HP.out], ((HSK.out.kp HK1.out)).ans4 HBA.out (by decide) (by decide) (by decide), by rw [HP.out], KQ.ans4 ((KQ.of HK1.out)) (by omega)⟩
end Go.Proofs.YtfojphaemfbfnaaDoor
