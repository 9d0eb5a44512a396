/-
  half's do: what it answers and leaves. Conditions: the set reads as a rising list (HR).
-/
import Derived.Test.YtmhabjjabdambaaG9

namespace Go.Proofs.Ytmhabjjabdambaa
open Go.ChangeShapes Go.WideShapes Go.ChangeAt Go.RowKit
set_option linter.unusedVariables false
set_option linter.unusedSimpArgs false

set_option maxRecDepth 100000 in
set_option maxHeartbeats 8000000 in
theorem hdo_any (S : List Int) (b : Nat) (F : List Nat) (kind key val : Int) (w : World) (hr : HR 57 4 w S b F) :
    Calls Try.prog 24 #[.pointer (some ⟨b, 0, none⟩), .agg #[.int .i64 kind, .int .i64 key, .int .i64 val]] w (HoPost (hDo S (kind, key, val)) b F w) := by
  have HRR := hide hr
  have HLT := hide hr.lt.2
  clear hr
  by_cases k1 : kind < 1
  · have t1 : decide (kind < 1) = true := decide_eq_true k1
    have HP : Hid (hDo S (kind, key, val) = (S, ⟨3, 0, 0, false⟩)) := hide (by
      unfold hDo
      simp only
      first
        | rw [if_pos (by omega)]
        | rw [if_neg (by omega), if_pos (by omega)])
    have hba : BC ((w.alloc (.cells #[.int .i64 kind, .int .i64 key, .int .i64 val] 43)).alloc (.cells #[.int .i64 3, .int .i64 0, .int .i64 0, .bool false] 39)) (w.heap.size + 1) 39 [.int .i64 3, .int .i64 0, .int .i64 0, .bool false] := by
      have h := BC.new (w.alloc (.cells #[.int .i64 kind, .int .i64 key, .int .i64 val] 43)) 39 [.int .i64 3, .int .i64 0, .int .i64 0, .bool false]
      rwa [show (w.alloc (.cells #[.int .i64 kind, .int .i64 key, .int .i64 val] 43)).heap.size = w.heap.size + 1 by simp] at h
    have HA := hide hba
    clear hba
    go_enter Try.func24, Try.ntmps24
    go_wp2
    refine bodyPost_ret (v := (⟨3, 0, 0, false⟩ : An).v) ?_ ?_ ?_
    · exact results_cell_row rfl _ _ (w.heap.size + 1) 39 _ (0, 0) _ rfl HA.out Try.underlying39 rfl info_ans4
    · rfl
    · have k2 : Kp w ((w.alloc (.cells #[.int .i64 kind, .int .i64 key, .int .i64 val] 43)).alloc (.cells #[.int .i64 3, .int .i64 0, .int .i64 0, .bool false] 39)) := (Kp.refl w).alloc.alloc
      exact ⟨by rw [HP.out], F, by rw [HP.out]; exact HR.kf (G := fun _ => False) (Kf.of k2) HRR.out (fun _ _ h => h), fun i h => .inl h, Kf.of k2⟩
  · have t1 : decide (kind < 1) = false := decide_eq_false k1
    by_cases k2 : 5 < kind
    · have t2 : decide (5 < kind) = true := decide_eq_true k2
      have HP : Hid (hDo S (kind, key, val) = (S, ⟨3, 0, 0, false⟩)) := hide (by
        unfold hDo
        simp only
        first
          | rw [if_pos (by omega)]
          | rw [if_neg (by omega), if_pos (by omega)])
      have hba : BC ((w.alloc (.cells #[.int .i64 kind, .int .i64 key, .int .i64 val] 43)).alloc (.cells #[.int .i64 3, .int .i64 0, .int .i64 0, .bool false] 39)) (w.heap.size + 1) 39 [.int .i64 3, .int .i64 0, .int .i64 0, .bool false] := by
        have h := BC.new (w.alloc (.cells #[.int .i64 kind, .int .i64 key, .int .i64 val] 43)) 39 [.int .i64 3, .int .i64 0, .int .i64 0, .bool false]
        rwa [show (w.alloc (.cells #[.int .i64 kind, .int .i64 key, .int .i64 val] 43)).heap.size = w.heap.size + 1 by simp] at h
      have HA := hide hba
      clear hba
      go_enter Try.func24, Try.ntmps24
      go_wp2
      refine bodyPost_ret (v := (⟨3, 0, 0, false⟩ : An).v) ?_ ?_ ?_
      · exact results_cell_row rfl _ _ (w.heap.size + 1) 39 _ (0, 0) _ rfl HA.out Try.underlying39 rfl info_ans4
      · rfl
      · have k2 : Kp w ((w.alloc (.cells #[.int .i64 kind, .int .i64 key, .int .i64 val] 43)).alloc (.cells #[.int .i64 3, .int .i64 0, .int .i64 0, .bool false] 39)) := (Kp.refl w).alloc.alloc
        exact ⟨by rw [HP.out], F, by rw [HP.out]; exact HR.kf (G := fun _ => False) (Kf.of k2) HRR.out (fun _ _ h => h), fun i h => .inl h, Kf.of k2⟩
    · have t2 : decide (5 < kind) = false := decide_eq_false k2
      by_cases k3 : key < 0
      · have t3 : decide (key < 0) = true := decide_eq_true k3
        have HP : Hid (hDo S (kind, key, val) = (S, ⟨1, 0, 0, false⟩)) := hide (by
          unfold hDo
          simp only
          first
            | rw [if_pos (by omega)]
            | rw [if_neg (by omega), if_pos (by omega)])
        have hba : BC ((w.alloc (.cells #[.int .i64 kind, .int .i64 key, .int .i64 val] 43)).alloc (.cells #[.int .i64 1, .int .i64 0, .int .i64 0, .bool false] 39)) (w.heap.size + 1) 39 [.int .i64 1, .int .i64 0, .int .i64 0, .bool false] := by
          have h := BC.new (w.alloc (.cells #[.int .i64 kind, .int .i64 key, .int .i64 val] 43)) 39 [.int .i64 1, .int .i64 0, .int .i64 0, .bool false]
          rwa [show (w.alloc (.cells #[.int .i64 kind, .int .i64 key, .int .i64 val] 43)).heap.size = w.heap.size + 1 by simp] at h
        have HA := hide hba
        clear hba
        go_enter Try.func24, Try.ntmps24
        go_wp2
        refine bodyPost_ret (v := (⟨1, 0, 0, false⟩ : An).v) ?_ ?_ ?_
        · exact results_cell_row rfl _ _ (w.heap.size + 1) 39 _ (0, 0) _ rfl HA.out Try.underlying39 rfl info_ans4
        · rfl
        · have k2 : Kp w ((w.alloc (.cells #[.int .i64 kind, .int .i64 key, .int .i64 val] 43)).alloc (.cells #[.int .i64 1, .int .i64 0, .int .i64 0, .bool false] 39)) := (Kp.refl w).alloc.alloc
          exact ⟨by rw [HP.out], F, by rw [HP.out]; exact HR.kf (G := fun _ => False) (Kf.of k2) HRR.out (fun _ _ h => h), fun i h => .inl h, Kf.of k2⟩
      · have t3 : decide (key < 0) = false := decide_eq_false k3
        by_cases k4 : 65535 < key
        · have t4 : decide (65535 < key) = true := decide_eq_true k4
          have HP : Hid (hDo S (kind, key, val) = (S, ⟨1, 0, 0, false⟩)) := hide (by
            unfold hDo
            simp only
            first
              | rw [if_pos (by omega)]
              | rw [if_neg (by omega), if_pos (by omega)])
          have hba : BC ((w.alloc (.cells #[.int .i64 kind, .int .i64 key, .int .i64 val] 43)).alloc (.cells #[.int .i64 1, .int .i64 0, .int .i64 0, .bool false] 39)) (w.heap.size + 1) 39 [.int .i64 1, .int .i64 0, .int .i64 0, .bool false] := by
            have h := BC.new (w.alloc (.cells #[.int .i64 kind, .int .i64 key, .int .i64 val] 43)) 39 [.int .i64 1, .int .i64 0, .int .i64 0, .bool false]
            rwa [show (w.alloc (.cells #[.int .i64 kind, .int .i64 key, .int .i64 val] 43)).heap.size = w.heap.size + 1 by simp] at h
          have HA := hide hba
          clear hba
          go_enter Try.func24, Try.ntmps24
          go_wp2
          refine bodyPost_ret (v := (⟨1, 0, 0, false⟩ : An).v) ?_ ?_ ?_
          · exact results_cell_row rfl _ _ (w.heap.size + 1) 39 _ (0, 0) _ rfl HA.out Try.underlying39 rfl info_ans4
          · rfl
          · have k2 : Kp w ((w.alloc (.cells #[.int .i64 kind, .int .i64 key, .int .i64 val] 43)).alloc (.cells #[.int .i64 1, .int .i64 0, .int .i64 0, .bool false] 39)) := (Kp.refl w).alloc.alloc
            exact ⟨by rw [HP.out], F, by rw [HP.out]; exact HR.kf (G := fun _ => False) (Kf.of k2) HRR.out (fun _ _ h => h), fun i h => .inl h, Kf.of k2⟩
        · have t4 : decide (65535 < key) = false := decide_eq_false k4
          have HPA : Hid (hDo S (kind, key, val) = if kind = 4 then (S, ansN (nxU S key)) else if kind = 5 then (S, ansN (pvU S key)) else (if kind = 1 then insU S key else if kind = 3 then delU S key else S, ⟨0, 0, 0, decide (key ∈ S)⟩)) := hide (by
            unfold hDo
            simp only
            rw [if_neg (by omega), if_neg (by omega)])
          obtain ⟨W1, hW1⟩ : ∃ W1, W1 = (w.alloc (.cells #[.int .i64 kind, .int .i64 key, .int .i64 val] 43)).alloc (.cells #[.int .i64 0, .int .i64 0, .int .i64 0, .bool false] 39) := ⟨_, rfl⟩
          have k1 : Kp w W1 := by rw [hW1]; exact (Kp.refl w).alloc.alloc
          have hz1 : W1.heap.size = w.heap.size + 2 := by rw [hW1]; simp
          have hbo : BC W1 w.heap.size 43 [.int .i64 kind, .int .i64 key, .int .i64 val] := by rw [hW1]; exact (BC.new w 43 [.int .i64 kind, .int .i64 key, .int .i64 val]).kp (Kp.refl _).alloc
          have hba : BC W1 (w.heap.size + 1) 39 [.int .i64 0, .int .i64 0, .int .i64 0, .bool false] := by
            rw [hW1]
            have h := BC.new (w.alloc (.cells #[.int .i64 kind, .int .i64 key, .int .i64 val] 43)) 39 [.int .i64 0, .int .i64 0, .int .i64 0, .bool false]
            rwa [show (w.alloc (.cells #[.int .i64 kind, .int .i64 key, .int .i64 val] 43)).heap.size = w.heap.size + 1 by simp] at h
          have HW1 := hide hW1
          have HK1 := hide k1
          have HZ1 := hide hz1
          have HBA := hide hba
          have HRW := hide (HR.kf (G := fun _ => False) (Kf.of k1) HRR.out (fun _ _ h => h))
          have o0 : W1.cell? ⟨w.heap.size, 0, none⟩ = some (.int .i64 kind) := hbo.cell 0
          have o1 : W1.cell? ⟨w.heap.size, 1, none⟩ = some (.int .i64 key) := hbo.cell 1
          clear hW1 k1 hz1 hbo hba
          rcases (show kind = 1 ∨ kind = 2 ∨ kind = 3 ∨ kind = 4 ∨ kind = 5 by omega) with rfl | rfl | rfl | rfl | rfl
          · have HP : Hid (hDo S (1, key, val) = (insU S key, ⟨0, 0, 0, decide (key ∈ S)⟩)) := hide HPA.out
            clear HPA
            go_enter Try.func24, Try.ntmps24
            go_wp2_with fail
            rw [← HW1.out]
            with_reducible refine (has_any 4 (by decide) S b F key W1 HRW.out (by omega) (by rw [UU_4]; omega)).mono ?_
            rintro e9 w9 ⟨rfl, m9, rfl⟩
            obtain ⟨W2, hW2⟩ : ∃ W2, W2 = W1.drewN m9 := ⟨_, rfl⟩
            have hk2 : Kp w W2 := by rw [hW2]; exact HK1.out.drewN
            have hk12 : Kp W1 W2 := by rw [hW2]; exact (Kp.refl _).drewN
            rw [← hW2]
            have hz2 : W2.heap.size = w.heap.size + 2 := by rw [hW2]; exact HZ1.out
            have HBA2 := hide (HBA.out.kp hk12)
            have HRW2 := hide (HR.kf (G := fun _ => False) (Kf.of hk12) HRW.out (fun _ _ h => h))
            have HK2 := hide hk2
            have HZ2 := hide hz2
            have o0 := hk12.cell o0
            have o1 := hk12.cell o1
            clear hW2 hk2 hk12 hz2
            obtain ⟨is, his⟩ : ∃ is, is = decide (key ∈ S) := ⟨_, rfl⟩
            rw [← his]
            have HIS := hide his
            clear his
            rw [← HIS.out] at HP
            go_wp2_with fail
            with_reducible refine (hput_any 4 (by decide) S b F key W2 HRW2.out (by omega) (by rw [UU_4]; omega)).mono ?_
            rintro e9 w3 ⟨rfl, F', hr', hF', hk'⟩
            have HNG := hide (fun h => by
              rcases hF' _ h with h | h
              · have := HLT.out _ h; omega
              · have := HZ2.out; omega : w.heap.size + 1 ∉ F')
            have HBX := hide (HBA2.out.kf hk' (fun h => by have := HLT.out _ h; omega))
            have HRX := hide hr'
            have HFX := hide (fun i h => (hF' i h).imp id (fun h => by have := HZ2.out; omega) : ∀ i ∈ F', i ∈ F ∨ w.heap.size ≤ i)
            have HKX := hide ((Kf.of (F := fun i => i ∈ F) HK2.out).trans hk' (fun _ _ h => h))
            clear hr' hF' hk'
            have r0 : _ = some (Value.int .i64 0) := (HBX.out).cell 0
            have r1 : _ = some (Value.int .i64 0) := (HBX.out).cell 1
            have r2 : _ = some (Value.int .i64 0) := (HBX.out).cell 2
            have r3 : _ = some (Value.bool false) := (HBX.out).cell 3
            have q0 := (HBX.out).frozen 0
            have q1 := (HBX.out).frozen 1
            have q2 := (HBX.out).frozen 2
            have q3 := (HBX.out).frozen 3
            clear k1 k2 k3 k4
            go_wp2
            refine bodyPost_ret (v := (⟨0, 0, 0, is⟩ : An).v) ?_ ?_ ?_
            · exact results_cell_row rfl _ _ (w.heap.size + 1) 39 _ (0, 0) _ rfl (ans_bc HBX.out) Try.underlying39 rfl info_ans4
            · rfl
            exact ⟨by rw [HP.out], F', by rw [HP.out]; exact HR.ans4 HRX.out HNG.out, HFX.out, Kf.ans4 HKX.out (by omega)⟩
          · have HP : Hid (hDo S (2, key, val) = (S, ⟨0, 0, 0, decide (key ∈ S)⟩)) := hide HPA.out
            clear HPA
            go_enter Try.func24, Try.ntmps24
            go_wp2_with fail
            rw [← HW1.out]
            with_reducible refine (has_any 4 (by decide) S b F key W1 HRW.out (by omega) (by rw [UU_4]; omega)).mono ?_
            rintro e9 w9 ⟨rfl, m9, rfl⟩
            obtain ⟨W2, hW2⟩ : ∃ W2, W2 = W1.drewN m9 := ⟨_, rfl⟩
            have hk2 : Kp w W2 := by rw [hW2]; exact HK1.out.drewN
            have hk12 : Kp W1 W2 := by rw [hW2]; exact (Kp.refl _).drewN
            rw [← hW2]
            have hz2 : W2.heap.size = w.heap.size + 2 := by rw [hW2]; exact HZ1.out
            have HBA2 := hide (HBA.out.kp hk12)
            have HRW2 := hide (HR.kf (G := fun _ => False) (Kf.of hk12) HRW.out (fun _ _ h => h))
            have HK2 := hide hk2
            have HZ2 := hide hz2
            have o0 := hk12.cell o0
            have o1 := hk12.cell o1
            clear hW2 hk2 hk12 hz2
            obtain ⟨is, his⟩ : ∃ is, is = decide (key ∈ S) := ⟨_, rfl⟩
            rw [← his]
            have HIS := hide his
            clear his
            rw [← HIS.out] at HP
            have HNG := hide (fun h => absurd (HLT.out _ h) (by omega) : w.heap.size + 1 ∉ F)
            have r0 : _ = some (Value.int .i64 0) := (HBA2.out).cell 0
            have r1 : _ = some (Value.int .i64 0) := (HBA2.out).cell 1
            have r2 : _ = some (Value.int .i64 0) := (HBA2.out).cell 2
            have r3 : _ = some (Value.bool false) := (HBA2.out).cell 3
            have q0 := (HBA2.out).frozen 0
            have q1 := (HBA2.out).frozen 1
            have q2 := (HBA2.out).frozen 2
            have q3 := (HBA2.out).frozen 3
            clear k1 k2 k3 k4
            go_wp2
            refine bodyPost_ret (v := (⟨0, 0, 0, is⟩ : An).v) ?_ ?_ ?_
            · exact results_cell_row rfl _ _ (w.heap.size + 1) 39 _ (0, 0) _ rfl (ans_bc HBA2.out) Try.underlying39 rfl info_ans4
            · rfl
            exact ⟨by rw [HP.out], F, by rw [HP.out]; exact HR.ans4 HRW2.out HNG.out, (fun i h => .inl h), Kf.ans4 (Kf.of HK2.out) (by omega)⟩
          · have HP : Hid (hDo S (3, key, val) = (delU S key, ⟨0, 0, 0, decide (key ∈ S)⟩)) := hide HPA.out
            clear HPA
            go_enter Try.func24, Try.ntmps24
            go_wp2_with fail
            rw [← HW1.out]
            with_reducible refine (has_any 4 (by decide) S b F key W1 HRW.out (by omega) (by rw [UU_4]; omega)).mono ?_
            rintro e9 w9 ⟨rfl, m9, rfl⟩
            obtain ⟨W2, hW2⟩ : ∃ W2, W2 = W1.drewN m9 := ⟨_, rfl⟩
            have hk2 : Kp w W2 := by rw [hW2]; exact HK1.out.drewN
            have hk12 : Kp W1 W2 := by rw [hW2]; exact (Kp.refl _).drewN
            rw [← hW2]
            have hz2 : W2.heap.size = w.heap.size + 2 := by rw [hW2]; exact HZ1.out
            have HBA2 := hide (HBA.out.kp hk12)
            have HRW2 := hide (HR.kf (G := fun _ => False) (Kf.of hk12) HRW.out (fun _ _ h => h))
            have HK2 := hide hk2
            have HZ2 := hide hz2
            have o0 := hk12.cell o0
            have o1 := hk12.cell o1
            clear hW2 hk2 hk12 hz2
            obtain ⟨is, his⟩ : ∃ is, is = decide (key ∈ S) := ⟨_, rfl⟩
            rw [← his]
            have HIS := hide his
            clear his
            by_cases hin : key ∈ S
            · have hi : is = true := by rw [HIS.out]; exact decide_eq_true hin
              subst hi
              rw [← HIS.out] at HP
              go_wp2_with fail
              with_reducible refine (hcut_any 4 (by decide) S b F key W2 HRW2.out hin).mono ?_
              rintro e9 w3 ⟨rfl, F', hr', hF', hk'⟩
              have HNG := hide (fun h => by
                rcases hF' _ h with h | h
                · have := HLT.out _ h; omega
                · have := HZ2.out; omega : w.heap.size + 1 ∉ F')
              have HBX := hide (HBA2.out.kf hk' (fun h => by have := HLT.out _ h; omega))
              have HRX := hide hr'
              have HFX := hide (fun i h => (hF' i h).imp id (fun h => by have := HZ2.out; omega) : ∀ i ∈ F', i ∈ F ∨ w.heap.size ≤ i)
              have HKX := hide ((Kf.of (F := fun i => i ∈ F) HK2.out).trans hk' (fun _ _ h => h))
              clear hr' hF' hk'
              have r0 : _ = some (Value.int .i64 0) := (HBX.out).cell 0
              have r1 : _ = some (Value.int .i64 0) := (HBX.out).cell 1
              have r2 : _ = some (Value.int .i64 0) := (HBX.out).cell 2
              have r3 : _ = some (Value.bool false) := (HBX.out).cell 3
              have q0 := (HBX.out).frozen 0
              have q1 := (HBX.out).frozen 1
              have q2 := (HBX.out).frozen 2
              have q3 := (HBX.out).frozen 3
              clear k1 k2 k3 k4
              go_wp2
              refine bodyPost_ret (v := (⟨0, 0, 0, true⟩ : An).v) ?_ ?_ ?_
              · exact results_cell_row rfl _ _ (w.heap.size + 1) 39 _ (0, 0) _ rfl (ans_bc HBX.out) Try.underlying39 rfl info_ans4
              · rfl
              exact ⟨by rw [HP.out], F', by rw [HP.out]; exact HR.ans4 HRX.out HNG.out, HFX.out, Kf.ans4 HKX.out (by omega)⟩
            · have hi : is = false := by rw [HIS.out]; exact decide_eq_false hin
              subst hi
              rw [← HIS.out, delU_out hin] at HP
              have HNG := hide (fun h => absurd (HLT.out _ h) (by omega) : w.heap.size + 1 ∉ F)
              have r0 : _ = some (Value.int .i64 0) := (HBA2.out).cell 0
              have r1 : _ = some (Value.int .i64 0) := (HBA2.out).cell 1
              have r2 : _ = some (Value.int .i64 0) := (HBA2.out).cell 2
              have r3 : _ = some (Value.bool false) := (HBA2.out).cell 3
              have q0 := (HBA2.out).frozen 0
              have q1 := (HBA2.out).frozen 1
              have q2 := (HBA2.out).frozen 2
              have q3 := (HBA2.out).frozen 3
              clear k1 k2 k3 k4
              go_wp2
              refine bodyPost_ret (v := (⟨0, 0, 0, false⟩ : An).v) ?_ ?_ ?_
              · exact results_cell_row rfl _ _ (w.heap.size + 1) 39 _ (0, 0) _ rfl (ans_bc HBA2.out) Try.underlying39 rfl info_ans4
              · rfl
              exact ⟨by rw [HP.out], F, by rw [HP.out]; exact HR.ans4 HRW2.out HNG.out, (fun i h => .inl h), Kf.ans4 (Kf.of HK2.out) (by omega)⟩
          · have HP : Hid (hDo S (4, key, val) = (S, ansN (nxU S key))) := hide HPA.out
            clear HPA
            go_enter Try.func24, Try.ntmps24
            go_wp2_with fail
            rw [← HW1.out]
            with_reducible refine (has_any 4 (by decide) S b F key W1 HRW.out (by omega) (by rw [UU_4]; omega)).mono ?_
            rintro e9 w9 ⟨rfl, m9, rfl⟩
            obtain ⟨W2, hW2⟩ : ∃ W2, W2 = W1.drewN m9 := ⟨_, rfl⟩
            have hk2 : Kp w W2 := by rw [hW2]; exact HK1.out.drewN
            have hk12 : Kp W1 W2 := by rw [hW2]; exact (Kp.refl _).drewN
            rw [← hW2]
            have hz2 : W2.heap.size = w.heap.size + 2 := by rw [hW2]; exact HZ1.out
            have HBA2 := hide (HBA.out.kp hk12)
            have HRW2 := hide (HR.kf (G := fun _ => False) (Kf.of hk12) HRW.out (fun _ _ h => h))
            have HK2 := hide hk2
            have HZ2 := hide hz2
            have o0 := hk12.cell o0
            have o1 := hk12.cell o1
            clear hW2 hk2 hk12 hz2
            obtain ⟨is, his⟩ : ∃ is, is = decide (key ∈ S) := ⟨_, rfl⟩
            rw [← his]
            have HIS := hide his
            clear his
            go_wp2_with fail
            with_reducible refine (hnext_any 4 (by decide) S b F key W2 HRW2.out (by omega) (by rw [UU_4]; omega)).mono ?_
            rintro e9 w3 ⟨rfl, m3, rfl⟩
            obtain ⟨W3, hW3⟩ : ∃ W3, W3 = W2.drewN m3 := ⟨_, rfl⟩
            rw [← hW3]
            have k23 : Kp W2 W3 := by rw [hW3]; exact (Kp.refl _).drewN
            have HBX := hide (HBA2.out.kp k23)
            have HRX := hide (HR.kf (G := fun _ => False) (Kf.of k23) HRW2.out (fun _ _ h => h))
            have HKX := hide (HK2.out.trans k23)
            have HNG := hide (fun h => absurd (HLT.out _ h) (by omega) : w.heap.size + 1 ∉ F)
            clear hW3 k23
            obtain ⟨q, hq⟩ : ∃ q, q = nxU S key := ⟨_, rfl⟩
            rw [← hq] at HP ⊢
            clear hq
            cases q with
            | none =>
              simp only [nxV, ansN] at HP ⊢
              go_wp2_with fail
              with_reducible refine (htold_any 0 false W3).mono ?_
              rintro e9 w4 ⟨rfl, hb4⟩
              have k34 := Kp.of hb4
              have HBY := hide (HBX.out.kp k34)
              have HRY := hide (HR.kf (G := fun _ => False) (Kf.of k34) HRX.out (fun _ _ h => h))
              have HKY := hide (HKX.out.trans k34)
              simp only [An.v]
              have r0 : _ = some (Value.int .i64 0) := (HBY.out).cell 0
              have r1 : _ = some (Value.int .i64 0) := (HBY.out).cell 1
              have r2 : _ = some (Value.int .i64 0) := (HBY.out).cell 2
              have r3 : _ = some (Value.bool false) := (HBY.out).cell 3
              have q0 := (HBY.out).frozen 0
              have q1 := (HBY.out).frozen 1
              have q2 := (HBY.out).frozen 2
              have q3 := (HBY.out).frozen 3
              clear k1 k2 k3 k4 k34 hb4
              go_wp2
              refine bodyPost_ret (v := (⟨0, 0, 0, false⟩ : An).v) ?_ ?_ ?_
              · exact results_cell_row rfl _ _ (w.heap.size + 1) 39 _ (0, 0) _ rfl (ans_bc HBY.out) Try.underlying39 rfl info_ans4
              · rfl
              exact ⟨by rw [HP.out], F, by rw [HP.out]; exact HR.ans4 HRY.out HNG.out, (fun i h => .inl h), Kf.ans4 (Kf.of HKY.out) (by omega)⟩
            | some kk =>
              simp only [nxV, ansN] at HP ⊢
              go_wp2_with fail
              with_reducible refine (htold_any kk true W3).mono ?_
              rintro e9 w4 ⟨rfl, hb4⟩
              have k34 := Kp.of hb4
              have HBY := hide (HBX.out.kp k34)
              have HRY := hide (HR.kf (G := fun _ => False) (Kf.of k34) HRX.out (fun _ _ h => h))
              have HKY := hide (HKX.out.trans k34)
              simp only [An.v]
              have r0 : _ = some (Value.int .i64 0) := (HBY.out).cell 0
              have r1 : _ = some (Value.int .i64 0) := (HBY.out).cell 1
              have r2 : _ = some (Value.int .i64 0) := (HBY.out).cell 2
              have r3 : _ = some (Value.bool false) := (HBY.out).cell 3
              have q0 := (HBY.out).frozen 0
              have q1 := (HBY.out).frozen 1
              have q2 := (HBY.out).frozen 2
              have q3 := (HBY.out).frozen 3
              clear k1 k2 k3 k4 k34 hb4
              go_wp2
              refine bodyPost_ret (v := (⟨0, kk, 0, true⟩ : An).v) ?_ ?_ ?_
              · exact results_cell_row rfl _ _ (w.heap.size + 1) 39 _ (0, 0) _ rfl (ans_bc HBY.out) Try.underlying39 rfl info_ans4
              · rfl
              exact ⟨by rw [HP.out], F, by rw [HP.out]; exact HR.ans4 HRY.out HNG.out, (fun i h => .inl h), Kf.ans4 (Kf.of HKY.out) (by omega)⟩
          · have HP : Hid (hDo S (5, key, val) = (S, ansN (pvU S key))) := hide HPA.out
            clear HPA
            go_enter Try.func24, Try.ntmps24
            go_wp2_with fail
            rw [← HW1.out]
            with_reducible refine (has_any 4 (by decide) S b F key W1 HRW.out (by omega) (by rw [UU_4]; omega)).mono ?_
            rintro e9 w9 ⟨rfl, m9, rfl⟩
            obtain ⟨W2, hW2⟩ : ∃ W2, W2 = W1.drewN m9 := ⟨_, rfl⟩
            have hk2 : Kp w W2 := by rw [hW2]; exact HK1.out.drewN
            have hk12 : Kp W1 W2 := by rw [hW2]; exact (Kp.refl _).drewN
            rw [← hW2]
            have hz2 : W2.heap.size = w.heap.size + 2 := by rw [hW2]; exact HZ1.out
            have HBA2 := hide (HBA.out.kp hk12)
            have HRW2 := hide (HR.kf (G := fun _ => False) (Kf.of hk12) HRW.out (fun _ _ h => h))
            have HK2 := hide hk2
            have HZ2 := hide hz2
            have o0 := hk12.cell o0
            have o1 := hk12.cell o1
            clear hW2 hk2 hk12 hz2
            obtain ⟨is, his⟩ : ∃ is, is = decide (key ∈ S) := ⟨_, rfl⟩
            rw [← his]
            have HIS := hide his
            clear his
            go_wp2_with fail
            with_reducible refine (hprev_any 4 (by decide) S b F key W2 HRW2.out (by omega) (by rw [UU_4]; omega)).mono ?_
            rintro e9 w3 ⟨rfl, m3, rfl⟩
            obtain ⟨W3, hW3⟩ : ∃ W3, W3 = W2.drewN m3 := ⟨_, rfl⟩
            rw [← hW3]
            have k23 : Kp W2 W3 := by rw [hW3]; exact (Kp.refl _).drewN
            have HBX := hide (HBA2.out.kp k23)
            have HRX := hide (HR.kf (G := fun _ => False) (Kf.of k23) HRW2.out (fun _ _ h => h))
            have HKX := hide (HK2.out.trans k23)
            have HNG := hide (fun h => absurd (HLT.out _ h) (by omega) : w.heap.size + 1 ∉ F)
            clear hW3 k23
            obtain ⟨q, hq⟩ : ∃ q, q = pvU S key := ⟨_, rfl⟩
            rw [← hq] at HP ⊢
            clear hq
            cases q with
            | none =>
              simp only [nxV, ansN] at HP ⊢
              go_wp2_with fail
              with_reducible refine (htold_any 0 false W3).mono ?_
              rintro e9 w4 ⟨rfl, hb4⟩
              have k34 := Kp.of hb4
              have HBY := hide (HBX.out.kp k34)
              have HRY := hide (HR.kf (G := fun _ => False) (Kf.of k34) HRX.out (fun _ _ h => h))
              have HKY := hide (HKX.out.trans k34)
              simp only [An.v]
              have r0 : _ = some (Value.int .i64 0) := (HBY.out).cell 0
              have r1 : _ = some (Value.int .i64 0) := (HBY.out).cell 1
              have r2 : _ = some (Value.int .i64 0) := (HBY.out).cell 2
              have r3 : _ = some (Value.bool false) := (HBY.out).cell 3
              have q0 := (HBY.out).frozen 0
              have q1 := (HBY.out).frozen 1
              have q2 := (HBY.out).frozen 2
              have q3 := (HBY.out).frozen 3
              clear k1 k2 k3 k4 k34 hb4
              go_wp2
              refine bodyPost_ret (v := (⟨0, 0, 0, false⟩ : An).v) ?_ ?_ ?_
              · exact results_cell_row rfl _ _ (w.heap.size + 1) 39 _ (0, 0) _ rfl (ans_bc HBY.out) Try.underlying39 rfl info_ans4
              · rfl
              exact ⟨by rw [HP.out], F, by rw [HP.out]; exact HR.ans4 HRY.out HNG.out, (fun i h => .inl h), Kf.ans4 (Kf.of HKY.out) (by omega)⟩
            | some kk =>
              simp only [nxV, ansN] at HP ⊢
              go_wp2_with fail
              with_reducible refine (htold_any kk true W3).mono ?_
              rintro e9 w4 ⟨rfl, hb4⟩
              have k34 := Kp.of hb4
              have HBY := hide (HBX.out.kp k34)
              have HRY := hide (HR.kf (G := fun _ => False) (Kf.of k34) HRX.out (fun _ _ h => h))
              have HKY := hide (HKX.out.trans k34)
              simp only [An.v]
              have r0 : _ = some (Value.int .i64 0) := (HBY.out).cell 0
              have r1 : _ = some (Value.int .i64 0) := (HBY.out).cell 1
              have r2 : _ = some (Value.int .i64 0) := (HBY.out).cell 2
              have r3 : _ = some (Value.bool false) := (HBY.out).cell 3
              have q0 := (HBY.out).frozen 0
              have q1 := (HBY.out).frozen 1
              have q2 := (HBY.out).frozen 2
              have q3 := (HBY.out).frozen 3
              clear k1 k2 k3 k4 k34 hb4
              go_wp2
              refine bodyPost_ret (v := (⟨0, kk, 0, true⟩ : An).v) ?_ ?_ ?_
              · exact results_cell_row rfl _ _ (w.heap.size + 1) 39 _ (0, 0) _ rfl (ans_bc HBY.out) Try.underlying39 rfl info_ans4
              · rfl
              exact ⟨by rw [HP.out], F, by rw [HP.out]; exact HR.ans4 HRY.out HNG.out, (fun i h => .inl h), Kf.ans4 (Kf.of HKY.out) (by omega)⟩
end Go.Proofs.Ytmhabjjabdambaa
