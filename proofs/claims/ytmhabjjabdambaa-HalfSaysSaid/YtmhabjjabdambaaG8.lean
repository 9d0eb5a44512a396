/-
  half's cut: what it leaves. Conditions: the set reads as a rising list (HR), the number is there.
-/
import Derived.Test.YtmhabjjabdambaaG6
import Derived.Test.YtmhabjjabdambaaG7

namespace Go.Proofs.Ytmhabjjabdambaa
open Go.ChangeShapes Go.WideShapes Go.ChangeAt Go.RowKit
set_option linter.unusedVariables false
set_option linter.unusedSimpArgs false

set_option maxRecDepth 100000 in
set_option maxHeartbeats 8000000 in
theorem hcut_any (n : Nat) : ∀ (hn : n ≤ 4) (S : List Int) (b : Nat) (F : List Nat) (x : Int) (w : World), HR 57 n w S b F → x ∈ S → Calls Try.prog 32 #[.pointer (some ⟨b, 0, none⟩), .int .i64 x] w (PuPost n (delU S x) b F w) := by
  induction n with
  | zero =>
    intro hn S b F x w hr hx
    have HBF := hide hr.lt.1
    have HRR := hide hr
    obtain ⟨an, le, mo, hb, hc, rfl⟩ := hr
    have hS : S ≠ [] := fun h => by rw [h] at hx; cases hx
    have han := hb.yes hS
    subst han
    obtain ⟨q1, q2, q3⟩ := hb.2.2.2 rfl
    by_cases hlm : le = mo
    · have hS1 := up_one hb.1 q3 hlm hx
      subst hS1
      obtain ⟨mv, hv, hcc, hnew⟩ := HRR.out.only
      have c1 := hcc.cell 1
      have c2 := hcc.cell 2
      have c3 := hcc.cell 3
      have f1 := hcc.frozen 1
      simp only [hC, List.getElem?_cons_zero, List.getElem?_cons_succ] at c1 c2 c3
      have d0 : (x == x) = true := by simp
      have HN := hide hnew
      have HC := hide hcc
      clear hb hc q1 q2 q3 hnew hcc hS hlm hx
      go_enter Try.func32, Try.ntmps32
      go_wp2
      go_quiet (fail)
      go_wp2
      exact bodyPost_ret (v := .tuple #[]) (by simp [results, Try.results32, go_sem]) rfl ⟨rfl, _, by rw [delU_one]; exact HN.out _ (Kf.set (Kf.of (Kp.refl _).drewN) (.inl rfl)) ((HC.out.kp (Kp.refl _).drewN).set (j := 1) (u := .bool false)), fun i hi => .inl hi, Kf.set (Kf.of (Kp.refl _).drewN) (.inl HBF.out)⟩
    · have c0 := hc.cell 0
      have c1 := hc.cell 1
      have c2 := hc.cell 2
      have c3 := hc.cell 3
      have f1 := hc.frozen 1
      have f2 := hc.frozen 2
      have f3 := hc.frozen 3
      simp only [hC, List.getElem?_cons_zero, List.getElem?_cons_succ] at c0 c1 c2 c3
      have c0' : w.cell? ⟨b, 0, none⟩ = some (.int .i64 1) := c0
      have d0 : (le == mo) = false := by simpa using hlm
      obtain ⟨x0, x1⟩ := hb.2.1 x hx
      rw [UU_0] at x1
      obtain ⟨y, hy⟩ : ∃ y, y = 1 - x := ⟨_, rfl⟩
      have hy1 : IntKind.i64.wrap (1 - x) = y := by rw [IntWalk.i64_in _ (by omega), hy]
      have HB2 := delU_two hb hlm hx
      rw [← hy] at HB2
      have HB' := hide HB2
      have HC := hide hc
      clear hb hc q1 q2 q3 c0 hS HB2 hlm hy hx x0 x1
      go_enter Try.func32, Try.ntmps32
      go_wp2
      go_quiet (fail)
      go_wp2
      exact bodyPost_ret (v := .tuple #[]) (by simp [results, Try.results32, go_sem]) rfl ⟨rfl, [b], ⟨true, y, y, HB'.out, ((HC.out.kp (Kp.refl _).drewN).set (j := 2) (u := .int .i64 y)).set (j := 3) (u := .int .i64 y), rfl⟩, fun i hi => .inl hi, Kf.set (Kf.set (Kf.of (Kp.refl _).drewN) (.inl (by simp))) (.inl (by simp))⟩
  | succ n ih =>
    intro hn S b F x w hr hx
    have HBF := hide hr.lt.1
    have HRR := hide hr
    have HBA := hide hr.lt.2
    obtain ⟨an, le, mo, hb, hcase⟩ := hr
    have hS : S ≠ [] := fun h => by rw [h] at hx; cases hx
    have han := hb.yes hS
    subst han
    obtain ⟨q1, q2, q3⟩ := hb.2.2.2 rfl
    have HIH := hide (ih (by omega))
    clear ih
    by_cases hlm : le = mo
    · have hc : True := trivial
      clear hcase
      have hS1 := up_one hb.1 q3 hlm hx
      subst hS1
      obtain ⟨mv, hv, hcc, hnew⟩ := HRR.out.only
      have c1 := hcc.cell 1
      have c2 := hcc.cell 2
      have c3 := hcc.cell 3
      have f1 := hcc.frozen 1
      simp only [hC, List.getElem?_cons_zero, List.getElem?_cons_succ] at c1 c2 c3
      have d0 : (x == x) = true := by simp
      have HN := hide hnew
      have HC := hide hcc
      clear hb hc q1 q2 q3 hnew hcc hS hlm hx
      go_enter Try.func32, Try.ntmps32
      go_wp2
      go_quiet (fail)
      go_wp2
      exact bodyPost_ret (v := .tuple #[]) (by simp [results, Try.results32, go_sem]) rfl ⟨rfl, _, by rw [delU_one]; exact HN.out _ (Kf.set (Kf.of (Kp.refl _).drewN) (.inl rfl)) ((HC.out.kp (Kp.refl _).drewN).set (j := 1) (u := .bool false)), fun i hi => .inl hi, Kf.set (Kf.of (Kp.refl _).drewN) (.inl HBF.out)⟩
    · have d0 : (le == mo) = false := by simpa using hlm
      obtain ⟨bs, hbs⟩ : ∃ bs : Int, bs = ((2 ^ (n + 1) : Nat) : Int) := ⟨_, rfl⟩
      have hb1 : (bs == 1) = false := by
        rw [hbs]
        have := Nat.pow_lt_pow_right (show 1 < 2 by decide) (show 0 < n + 1 by omega)
        exact beq_eq_false_iff_ne.2 (by omega)
      have HHV := hide (fun z W (z0 : 0 ≤ z) (z1 : z < UU (n + 1)) (k : W.cell? ⟨b, 0, none⟩ = some (.int .i64 ((2 ^ (n + 1) : Nat) : Int))) => halves_any n (by omega) b z W k z0 z1)
      have HWH := hide (fun h l W (k : W.cell? ⟨b, 0, none⟩ = some (.int .i64 ((2 ^ (n + 1) : Nat) : Int))) k1 k2 k3 k4 => whole_any n (by omega) b h l W k k1 k2 k3 k4)
      rw [← hbs] at HHV HWH
      have HB0 := hide hb
      rcases hcase with ⟨h2, h3, h4⟩ | ⟨m, hb', Hs, Fh, E, a1, a2, a3, a4, a5, a6, a7, a8⟩
      · exact absurd (h4 rfl mo q2).symm hlm
      · have HPH := hide a8
        have hq0 : HQ 57 n w b F true le mo m hb' Hs Fh E := ⟨a1, a2, a3, a4, a5, a6, a7⟩
        have c2 := hq0.1.cell 2
        have c3 := hq0.1.cell 3
        simp only [hC, List.getElem?_cons_zero, List.getElem?_cons_succ] at c2 c3
        have HQ0 := hide hq0
        have HLO := hide hlm
        have HXS := hide hx
        have HQ3 := hide q3
        have HLE := hide q1
        have HMO1 := hide q2
        clear hb a1 a2 a3 a4 a5 a6 a7 a8 q1 q2 q3 hS hlm hx
        go_enter Try.func32, Try.ntmps32
        go_wp2
        go_quiet (fail)
        obtain ⟨W0, hW0⟩ : ∃ W0, W0 = w.drewN nq := ⟨_, rfl⟩
        rw [← hW0]
        have hq1 : HQ 57 n W0 b F true le mo m hb' Hs Fh E := by rw [hW0]; exact HQ0.out.kp (Kp.refl _).drewN
        have HK0 : Hid (Kf (fun i => i ∈ F) w W0) := hide (by rw [hW0]; exact Kf.of (Kp.refl _).drewN)
        clear c2 c3 hW0
        have c0 := hq1.1.cell 0
        have c2 := hq1.1.cell 2
        have c3 := hq1.1.cell 3
        have c4 := hq1.1.cell 4
        have c5 := hq1.1.cell 5
        have f2 := hq1.1.frozen 2
        simp only [hC, List.getElem?_cons_zero, List.getElem?_cons_succ] at c0 c2 c3 c4 c5
        rw [← hbs] at c0
        by_cases e1 : x = le
        · subst e1
          have d1 : (x == x) = true := by simp
          have hhs : Hs ≠ [] := HPH.out.some_high HB0.out.2.1 HMO1.out (fun h => HLO.out h.symm)
          obtain ⟨hle, hmo, _, h2, _, h4, h5, h6, h7⟩ := hq1.2.2.1.look_some hhs
          obtain ⟨e0, he0, k1, k2⟩ := (HPH.out.2 hle).1 h4
          obtain ⟨yle, ymo, _, y2, _, y4, y5, y6, y7⟩ := (hq1.2.2.2.1 e0 he0).1.look_some k2
          have hms := HPH.out.least HB0.out.2.1 hq1.2.2.2.2.1 (fun q hq => by rw [k1]; exact (h6 q hq).1) he0 y4 (fun v hv => (y6 v hv).1) (y7 yle y4).1 (y7 yle y4).2
          rw [k1] at hms
          have hho := half_of (M := UU n) (h := hle) (by have := UU_pos n; omega) (y7 yle y4).1 (y7 yle y4).2
          have HHL := hide (h7 hle h4)
          have HYL := hide (y7 yle y4)
          obtain ⟨z, hz⟩ : ∃ z, z = hle * UU n + yle := ⟨_, rfl⟩
          rw [← hz] at hms hho
          have HZQ := hide hz
          have HZI : Hid (0 ≤ z ∧ z < UU (n + 1)) := hide (HB0.out.2.1 z hms.1.1)
          have HE0 := hide he0
          have HF1 : Hid (e0.h = z / UU n) := hide (k1.trans hho.1.symm)
          have HZS : Hid (z % UU n ∈ e0.S) := hide (by rw [hho.2]; exact y4)
          have HSD := hide (cut_iff2 (S := S) (le := x) (z := z))
          have HLM : Hid (z ∈ delU S x ∧ ∀ v ∈ delU S x, z ≤ v) := hide ⟨delU_mem.2 hms.1, fun v hv => hms.2 v (delU_mem.1 hv).1 (delU_mem.1 hv).2⟩
          have HMO : Hid (¬ z = mo → mo ∈ delU S x) := hide (fun _ => delU_mem.2 ⟨HMO1.out, fun k => HLO.out k.symm⟩)
          have hlk := hq1.2.1.lookup (P := Try.prog) Try.underlying55 Try.underlying3 (hptr_zero W0) hle
          rw [hq1.part_lk he0 k1] at hlk
          simp only [Option.map_some] at hlk
          have HQ1 := hide hq1
          clear hhs h4 h5 h6 h7 he0 k1 k2 y4 y5 y6 y7 hms hho hz hq1
          go_wp2_with fail
          with_reducible refine (HWH.out hle yle W0 c0 HHL.out.1 HHL.out.2 HYL.out.1 HYL.out.2).mono ?_
          rintro e9 w1 ⟨rfl, rfl⟩
          rw [← HZQ.out]
          go_wp2_with fail
          have hkb : Kf (fun i => i = b) W0 (W0.setCell ⟨b, 2, none⟩ (.int .i64 z)) := Kf.set (Kf.refl _ _) (.inl rfl)
          have HQW := hide (HQ1.out.cells (le' := z) hkb (HQ1.out.1.set (j := 2) (u := .int .i64 z)))
          have HKW : Hid (Kf (fun i => i ∈ F) w (W0.setCell ⟨b, 2, none⟩ (.int .i64 z))) := hide (HK0.out.set (.inl HBF.out))
          obtain ⟨W, hW⟩ : ∃ W, W = W0.setCell ⟨b, 2, none⟩ (.int .i64 z) := ⟨_, rfl⟩
          rw [← hW] at HQW HKW ⊢
          clear hW hkb c0 c2 c3 c4 c5 f2 hlk h2 y2
          have cz := HQW.out.1.cell 0
          simp only [hC, List.getElem?_cons_zero] at cz
          rw [← hbs] at cz
          have hsp := half_in (M := UU n) (by have := UU_pos n; omega) HZI.out.1 (by have := HZI.out.2; rw [UU] at this; exact this)
          have HX := hide hsp
          have HBS := hide hbs
          clear hsp hbs
          with_reducible refine (HHV.out z W HZI.out.1 HZI.out.2 cz).mono ?_
          rintro e9 w1 ⟨rfl, md, rfl⟩
          have HQD := hide (HQW.out.kp (Kp.refl W).drewN (w' := W.drewN md))
          have HKD : Hid (Kf (fun i => i ∈ F) w (W.drewN md)) := hide (HKW.out.on (Kp.refl W).drewN)
          obtain ⟨Wd, hWd⟩ : ∃ Wd, Wd = W.drewN md := ⟨_, rfl⟩
          rw [← hWd] at HQD HKD ⊢
          clear hWd cz
          have cb4 := HQD.out.1.cell 4
          simp only [hC, List.getElem?_cons_zero, List.getElem?_cons_succ] at cb4
          have hlk := HQD.out.2.1.lookup (P := Try.prog) Try.underlying55 Try.underlying3 (hptr_zero Wd) (z / UU n)
          rw [HQD.out.part_lk HE0.out HF1.out] at hlk
          simp only [Option.map_some] at hlk
          have HRE := hide (HQD.out.2.2.2.1 e0 HE0.out).1
          go_wp2_with fail
          with_reducible refine (HIH.out e0.S e0.b e0.F (z % UU n) Wd HRE.out HZS.out).mono ?_
          rintro e9 w7 ⟨rfl, F7, hr7, hin7, hk7⟩
          obtain ⟨F8, hq8, hf8, hkf8⟩ := HQD.out.part HE0.out hk7 hr7 hin7
          rw [HF1.out] at hq8
          have HQ8 := hide hq8
          have HF8 : Hid (∀ i ∈ F8, i ∈ F ∨ w.heap.size ≤ i) := hide (fun i hi => by
            have z1 := HKD.out.size
            rcases hf8 i hi with h | h
            · exact .inl h
            · exact .inr (by omega))
          have HK8 := hide (HKD.out.trans hkf8 fun i hi h => h)
          have HND := hide HQD.out.2.2.2.2.1
          obtain ⟨D, hD⟩ : ∃ D, D = delU e0.S (z % UU n) := ⟨_, rfl⟩
          have hme : (⟨e0.h, e0.b, D, F7⟩ : HE) ∈ setE E (z / UU n) (delU e0.S (z % UU n)) F7 := by
            rw [setE_mem]
            exact ⟨e0, HE0.out, by rw [if_pos HF1.out, hD]⟩
          have hlk8 := HQ8.out.2.1.lookup (P := Try.prog) Try.underlying55 Try.underlying3 (hptr_zero w7) (z / UU n)
          rw [HQ8.out.part_lk hme HF1.out] at hlk8
          simp only [Option.map_some] at hlk8
          have cb8 := HQ8.out.1.cell 4
          simp only [hC, List.getElem?_cons_zero, List.getElem?_cons_succ] at cb8
          have HPC := hide (fun Hs' (h : Hs' = if delU e0.S (z % UU n) = [] then delU Hs (z / UU n) else Hs) => HPH.out.cut (F' := F7) HND.out HE0.out HZI.out.1 HZI.out.2 HF1.out (fun v => by simpa using HSD.out v) h)
          have HRD := hide hr7
          have HD := hide hD
          clear hr7 hin7 hk7 hq8 hf8 hkf8 hme hD hlk cb4
          by_cases hDe : D = []
          · have p1 := (HD.out.symm.trans hDe ▸ HRD.out).look_none
            have hzh : z / UU n ∈ Hs := (HPH.out.2 _).2 ⟨e0, HE0.out, HF1.out, fun h => by have := HZS.out; rw [h] at this; cases this⟩
            have cb85 := HQ8.out.1.cell 5
            simp only [hC, List.getElem?_cons_zero, List.getElem?_cons_succ] at cb85
            have HPE := hide (HPC.out _ (by rw [if_pos (HD.out.symm.trans hDe)]))
            have HZH := hide hzh
            have HQH8 := hide HQ8.out.2.2.1
            clear hDe hzh
            go_wp2_with fail
            with_reducible refine (HIH.out Hs hb' Fh (z / UU n) w7 HQH8.out HZH.out).mono ?_
            rintro e9 w9 ⟨rfl, F9, hr9, hin9, hk9⟩
            obtain ⟨F10, hq10, hf10, hkf10⟩ := HQ8.out.highs hk9 hr9 hin9
            have HQE := hide hq10
            have HFE : Hid (∀ i ∈ F10, i ∈ F ∨ w.heap.size ≤ i) := hide (fun i hi => by
              have z1 := HK8.out.size
              rcases hf10 i hi with h | h
              · exact HF8.out i h
              · exact .inr (by omega))
            have HKE := hide (HK8.out.trans hkf10 fun i hi h => (HF8.out i h).elim id (fun h => absurd hi (by omega)))
            clear hr9 hin9 hk9 hq10 hf10 hkf10 p1 hlk8 cb8 cb85
            have HNE := hide HQE.out.ne
            have ca2 := HQE.out.1.cell 2
            have ca3 := HQE.out.1.cell 3
            have ca5 := HQE.out.1.cell 5
            have fa3 := HQE.out.1.frozen 3
            simp only [hC, List.getElem?_cons_zero, List.getElem?_cons_succ] at ca2 ca3 ca5
            by_cases hz : z = mo
            · have dz : (z == mo) = true := by simp [hz]
              have HQ5 := hide (HQE.out.cells (le' := z) (mo' := z) (Kf.set (F := fun i => i = b) (p := ⟨b, 3, none⟩) (u := .int .i64 z) (Kf.refl _ _) (.inl rfl)) (HQE.out.1.set (j := 3) (u := .int .i64 z)))
              have HK5 : Hid (Kf (fun i => i ∈ F) w ((w9).setCell ⟨b, 3, none⟩ (.int .i64 z))) := hide (HKE.out.set (.inl HBF.out))
              have HZM := hide hz
              clear hz
              by_cases hhs : delU Hs (z / UU n) = []
              · have h1 := (hhs ▸ HQ5.out.2.2.1).look_none
                have HRES := hide (HQ5.out.hr (HB0.out.cut HLM.out.1 HLM.out.2 HLM.out.1 (fun v hv => by
                  refine Int.not_lt.1 fun hlt => ?_
                  exact HPE.out.some_high (fun v hv => HB0.out.2.1 v (delU_mem.1 hv).1) hv (by omega) hhs)) HPE.out)
                clear hhs
                go_wp2
                exact bodyPost_end (v := .tuple #[]) (by simp [results, Try.results32, go_sem]) rfl ⟨rfl, _, HRES.out, HFE.out, HK5.out⟩
              · obtain ⟨hle, hmo, h1, _, h3, h4, h5, h6, h7⟩ := HQ5.out.2.2.1.look_some hhs
                obtain ⟨e1, he1, k1, k2⟩ := (HPE.out.2 hmo).1 h5
                obtain ⟨yle, ymo, _, _, y3, y4, y5, y6, y7⟩ := (HQ5.out.2.2.2.1 e1 he1).1.look_some k2
                obtain ⟨mo9, hmo9⟩ : ∃ mo9, mo9 = hmo * UU n + ymo := ⟨_, rfl⟩
                have HWW : Hid (∀ W (k : W.cell? ⟨b, 0, none⟩ = some (.int .i64 ((2 ^ (n + 1) : Nat) : Int))), Calls Try.prog 43 #[.pointer (some ⟨b, 0, none⟩), .int .i64 hmo, .int .i64 ymo] W (fun e w' => e = .returned (.int .i64 mo9) ∧ W = w')) := hide (fun W k => by
                  rw [hmo9]
                  exact whole_any n (by omega) b hmo ymo W k (h7 hmo h5).1 (h7 hmo h5).2 (y7 ymo y5).1 (y7 ymo y5).2)
                have hms := HPE.out.most (fun v hv => HB0.out.2.1 v (delU_mem.1 hv).1) HQ5.out.2.2.2.2.1 (fun q hq => by rw [k1]; exact (h6 q hq).2) he1 y5 (fun v hv => (y6 v hv).2) (y7 ymo y5).1 (y7 ymo y5).2
                rw [k1, ← hmo9] at hms
                have HBF2 := hide (HB0.out.cut HLM.out.1 HLM.out.2 hms.1.1 (fun v hv => by
                  by_cases e : v = z
                  · rw [e]; exact HLM.out.2 _ hms.1.1
                  · exact hms.2 v hv e))
                have HE1 := hide he1
                have HK1 := hide k1
                have HJ := hide (J15.start (mo' := mo9) HQ5.out h3 he1 y3)
                clear hms hhs he1 k1 k2 h4 h5 h6 h7 y4 y5 y6 y7 hmo9
                go_wp2_with fail
                refine wp_region_tab (by kernel_rfl) [(115, .pointer (some ⟨b, 0, none⟩)), (116, .pointer (some ⟨b, 0, none⟩)), (117, .pointer (some ⟨b, 0, none⟩)), (118, .pointer (some ⟨b, 0, none⟩)), (119, .pointer (some ⟨b, 5, none⟩)), (120, .pointer (some ⟨hb', 0, none⟩)), (121, .pointer (some ⟨hb', 0, none⟩)), (122, .pointer (some ⟨hb', 3, none⟩)), (123, .int .i64 hmo), (124, .pointer (some ⟨b, 0, none⟩)), (125, .pointer (some ⟨b, 0, none⟩)), (126, .pointer (some ⟨b, 4, none⟩)), (127, .map (some m)), (128, .pointer (some ⟨b, 0, none⟩)), (129, .pointer (some ⟨b, 0, none⟩)), (130, .pointer (some ⟨b, 5, none⟩)), (131, .pointer (some ⟨hb', 0, none⟩)), (132, .pointer (some ⟨hb', 0, none⟩)), (133, .pointer (some ⟨hb', 3, none⟩)), (134, .int .i64 hmo), (135, .pointer (some ⟨e1.b, 0, none⟩)), (136, .pointer (some ⟨e1.b, 0, none⟩)), (137, .pointer (some ⟨e1.b, 3, none⟩)), (138, .int .i64 ymo), (139, .int .i64 mo9), (140, .pointer (some ⟨b, 0, none⟩)), (141, .pointer (some ⟨b, 3, none⟩))] (fun _ _ _ => True) (J15 57 ((w9).setCell ⟨b, 3, none⟩ (.int .i64 z)) b n F10 z m hb' (delU Hs (z / UU n)) _ _ e1.b hmo ymo mo9) HJ.out (by kernel_rfl) (by kernel_rfl) ?_ ?_
                · refine ⟨?_, ?_, ?_, ?_, ?_, ?_, ?_, ?_, ?_, ?_, ?_, ?_, ?_, ?_, ?_, ?_, ?_, ?_, ?_, ?_, ?_, ?_, ?_, ?_, ?_, ?_, ?_, ?_, trivial⟩
                  · intro hop L a w5 hs hk hl ha keep know spec
                    have h0 := keep 0 (.pointer (some ⟨b, 0, none⟩)) (by kernel_rfl) rfl
                    exact wpOp_value hop (wanted_none rfl) (v := .pointer (some ⟨b, 0, none⟩)) (by simp only [execOp, Act.eval, h0]; rfl) ⟨_, rfl, hk.go (by decide), (fun d hd => by injection hd with hd; subst hd; exact ⟨tab rfl, trivial⟩), fun _ _ _ => trivial⟩
                  · intro hop L a w5 hs hk hl ha keep know spec
                    have h0 := keep 0 (.pointer (some ⟨b, 0, none⟩)) (by kernel_rfl) rfl
                    exact wpOp_value hop (wanted_none rfl) (v := .pointer (some ⟨b, 0, none⟩)) (by simp only [execOp, Act.eval, h0]; rfl) ⟨_, rfl, hk.go (by decide), (fun d hd => by injection hd with hd; subst hd; exact ⟨tab rfl, trivial⟩), fun _ _ _ => trivial⟩
                  · intro hop L a w5 hs hk hl ha keep know spec
                    have h0 := keep 0 (.pointer (some ⟨b, 0, none⟩)) (by kernel_rfl) rfl
                    exact wpOp_value hop (wanted_none rfl) (v := .pointer (some ⟨b, 0, none⟩)) (by simp only [execOp, Act.eval, h0]; rfl) ⟨_, rfl, hk.go (by decide), (fun d hd => by injection hd with hd; subst hd; exact ⟨tab rfl, trivial⟩), fun _ _ _ => trivial⟩
                  · intro hop L a w5 hs hk hl ha keep know spec
                    have h117 := know 117 (.pointer (some ⟨b, 0, none⟩)) (by kernel_rfl) rfl
                    exact wpOp_value hop (wanted_none rfl) (v := .pointer (some ⟨b, 0, none⟩)) (by simp only [execOp, Act.eval, h117]; go_simp) ⟨_, rfl, hk.go (by decide), (fun d hd => by injection hd with hd; subst hd; exact ⟨tab rfl, trivial⟩), fun _ _ _ => trivial⟩
                  · intro hop L a w5 hs hk hl ha keep know spec
                    have h118 := know 118 (.pointer (some ⟨b, 0, none⟩)) (by kernel_rfl) rfl
                    exact wpOp_value hop (wanted_none rfl) (v := .pointer (some ⟨b, 5, none⟩)) (by simp only [execOp, Act.eval, h118]; go_simp) ⟨_, rfl, hk.go (by decide), (fun d hd => by injection hd with hd; subst hd; exact ⟨tab rfl, trivial⟩), fun _ _ _ => trivial⟩
                  · intro hop L a w5 hs hk hl ha keep know spec
                    have h119 := know 119 (.pointer (some ⟨b, 5, none⟩)) (by kernel_rfl) rfl
                    exact wpOp_value hop (wanted_none rfl) (v := .pointer (some ⟨hb', 0, none⟩)) (by simp only [execOp, Act.eval, h119]; exact run_v hk.load5) ⟨_, rfl, hk.go (by decide), (fun d hd => by injection hd with hd; subst hd; exact ⟨tab rfl, trivial⟩), fun _ _ _ => trivial⟩
                  · intro hop L a w5 hs hk hl ha keep know spec
                    have h120 := know 120 (.pointer (some ⟨hb', 0, none⟩)) (by kernel_rfl) rfl
                    exact wpOp_value hop (wanted_none rfl) (v := .pointer (some ⟨hb', 0, none⟩)) (by simp only [execOp, Act.eval, h120]; go_simp) ⟨_, rfl, hk.go (by decide), (fun d hd => by injection hd with hd; subst hd; exact ⟨tab rfl, trivial⟩), fun _ _ _ => trivial⟩
                  · intro hop L a w5 hs hk hl ha keep know spec
                    have h121 := know 121 (.pointer (some ⟨hb', 0, none⟩)) (by kernel_rfl) rfl
                    exact wpOp_value hop (wanted_none rfl) (v := .pointer (some ⟨hb', 3, none⟩)) (by simp only [execOp, Act.eval, h121]; go_simp) ⟨_, rfl, hk.go (by decide), (fun d hd => by injection hd with hd; subst hd; exact ⟨tab rfl, trivial⟩), fun _ _ _ => trivial⟩
                  · intro hop L a w5 hs hk hl ha keep know spec
                    have h122 := know 122 (.pointer (some ⟨hb', 3, none⟩)) (by kernel_rfl) rfl
                    exact wpOp_value hop (wanted_none rfl) (v := .int .i64 hmo) (by simp only [execOp, Act.eval, h122]; exact run_v hk.loadh) ⟨_, rfl, hk.go (by decide), (fun d hd => by injection hd with hd; subst hd; exact ⟨tab rfl, trivial⟩), fun _ _ _ => trivial⟩
                  · intro hop L a w5 hs hk hl ha keep know spec
                    have h0 := keep 0 (.pointer (some ⟨b, 0, none⟩)) (by kernel_rfl) rfl
                    exact wpOp_value hop (wanted_none rfl) (v := .pointer (some ⟨b, 0, none⟩)) (by simp only [execOp, Act.eval, h0]; rfl) ⟨_, rfl, hk.go (by decide), (fun d hd => by injection hd with hd; subst hd; exact ⟨tab rfl, trivial⟩), fun _ _ _ => trivial⟩
                  · intro hop L a w5 hs hk hl ha keep know spec
                    have h124 := know 124 (.pointer (some ⟨b, 0, none⟩)) (by kernel_rfl) rfl
                    exact wpOp_value hop (wanted_none rfl) (v := .pointer (some ⟨b, 0, none⟩)) (by simp only [execOp, Act.eval, h124]; go_simp) ⟨_, rfl, hk.go (by decide), (fun d hd => by injection hd with hd; subst hd; exact ⟨tab rfl, trivial⟩), fun _ _ _ => trivial⟩
                  · intro hop L a w5 hs hk hl ha keep know spec
                    have h125 := know 125 (.pointer (some ⟨b, 0, none⟩)) (by kernel_rfl) rfl
                    exact wpOp_value hop (wanted_none rfl) (v := .pointer (some ⟨b, 4, none⟩)) (by simp only [execOp, Act.eval, h125]; go_simp) ⟨_, rfl, hk.go (by decide), (fun d hd => by injection hd with hd; subst hd; exact ⟨tab rfl, trivial⟩), fun _ _ _ => trivial⟩
                  · intro hop L a w5 hs hk hl ha keep know spec
                    have h126 := know 126 (.pointer (some ⟨b, 4, none⟩)) (by kernel_rfl) rfl
                    exact wpOp_value hop (wanted_none rfl) (v := .map (some m)) (by simp only [execOp, Act.eval, h126]; exact run_v hk.load4) ⟨_, rfl, hk.go (by decide), (fun d hd => by injection hd with hd; subst hd; exact ⟨tab rfl, trivial⟩), fun _ _ _ => trivial⟩
                  · intro hop L a w5 hs hk hl ha keep know spec
                    have h0 := keep 0 (.pointer (some ⟨b, 0, none⟩)) (by kernel_rfl) rfl
                    exact wpOp_value hop (wanted_none rfl) (v := .pointer (some ⟨b, 0, none⟩)) (by simp only [execOp, Act.eval, h0]; rfl) ⟨_, rfl, hk.go (by decide), (fun d hd => by injection hd with hd; subst hd; exact ⟨tab rfl, trivial⟩), fun _ _ _ => trivial⟩
                  · intro hop L a w5 hs hk hl ha keep know spec
                    have h128 := know 128 (.pointer (some ⟨b, 0, none⟩)) (by kernel_rfl) rfl
                    exact wpOp_value hop (wanted_none rfl) (v := .pointer (some ⟨b, 0, none⟩)) (by simp only [execOp, Act.eval, h128]; go_simp) ⟨_, rfl, hk.go (by decide), (fun d hd => by injection hd with hd; subst hd; exact ⟨tab rfl, trivial⟩), fun _ _ _ => trivial⟩
                  · intro hop L a w5 hs hk hl ha keep know spec
                    have h129 := know 129 (.pointer (some ⟨b, 0, none⟩)) (by kernel_rfl) rfl
                    exact wpOp_value hop (wanted_none rfl) (v := .pointer (some ⟨b, 5, none⟩)) (by simp only [execOp, Act.eval, h129]; go_simp) ⟨_, rfl, hk.go (by decide), (fun d hd => by injection hd with hd; subst hd; exact ⟨tab rfl, trivial⟩), fun _ _ _ => trivial⟩
                  · intro hop L a w5 hs hk hl ha keep know spec
                    have h130 := know 130 (.pointer (some ⟨b, 5, none⟩)) (by kernel_rfl) rfl
                    exact wpOp_value hop (wanted_none rfl) (v := .pointer (some ⟨hb', 0, none⟩)) (by simp only [execOp, Act.eval, h130]; exact run_v hk.load5) ⟨_, rfl, hk.go (by decide), (fun d hd => by injection hd with hd; subst hd; exact ⟨tab rfl, trivial⟩), fun _ _ _ => trivial⟩
                  · intro hop L a w5 hs hk hl ha keep know spec
                    have h131 := know 131 (.pointer (some ⟨hb', 0, none⟩)) (by kernel_rfl) rfl
                    exact wpOp_value hop (wanted_none rfl) (v := .pointer (some ⟨hb', 0, none⟩)) (by simp only [execOp, Act.eval, h131]; go_simp) ⟨_, rfl, hk.go (by decide), (fun d hd => by injection hd with hd; subst hd; exact ⟨tab rfl, trivial⟩), fun _ _ _ => trivial⟩
                  · intro hop L a w5 hs hk hl ha keep know spec
                    have h132 := know 132 (.pointer (some ⟨hb', 0, none⟩)) (by kernel_rfl) rfl
                    exact wpOp_value hop (wanted_none rfl) (v := .pointer (some ⟨hb', 3, none⟩)) (by simp only [execOp, Act.eval, h132]; go_simp) ⟨_, rfl, hk.go (by decide), (fun d hd => by injection hd with hd; subst hd; exact ⟨tab rfl, trivial⟩), fun _ _ _ => trivial⟩
                  · intro hop L a w5 hs hk hl ha keep know spec
                    have h133 := know 133 (.pointer (some ⟨hb', 3, none⟩)) (by kernel_rfl) rfl
                    exact wpOp_value hop (wanted_none rfl) (v := .int .i64 hmo) (by simp only [execOp, Act.eval, h133]; exact run_v hk.loadh) ⟨_, rfl, hk.go (by decide), (fun d hd => by injection hd with hd; subst hd; exact ⟨tab rfl, trivial⟩), fun _ _ _ => trivial⟩
                  · intro hop L a w5 hs hk hl ha keep know spec
                    have h127 := know 127 (.map (some m)) (by kernel_rfl) rfl
                    have h134 := know 134 (.int .i64 hmo) (by kernel_rfl) rfl
                    exact wpOp_value hop (wanted_none rfl) (v := .pointer (some ⟨e1.b, 0, none⟩)) (by simp only [execOp, Act.eval, h127, h134]; exact run_v (hk.look HE1.out HK1.out rfl)) ⟨_, rfl, hk.go (by decide), (fun d hd => by injection hd with hd; subst hd; exact ⟨tab rfl, trivial⟩), fun _ _ _ => trivial⟩
                  · intro hop L a w5 hs hk hl ha keep know spec
                    have h135 := know 135 (.pointer (some ⟨e1.b, 0, none⟩)) (by kernel_rfl) rfl
                    exact wpOp_value hop (wanted_none rfl) (v := .pointer (some ⟨e1.b, 0, none⟩)) (by simp only [execOp, Act.eval, h135]; go_simp) ⟨_, rfl, hk.go (by decide), (fun d hd => by injection hd with hd; subst hd; exact ⟨tab rfl, trivial⟩), fun _ _ _ => trivial⟩
                  · intro hop L a w5 hs hk hl ha keep know spec
                    have h136 := know 136 (.pointer (some ⟨e1.b, 0, none⟩)) (by kernel_rfl) rfl
                    exact wpOp_value hop (wanted_none rfl) (v := .pointer (some ⟨e1.b, 3, none⟩)) (by simp only [execOp, Act.eval, h136]; go_simp) ⟨_, rfl, hk.go (by decide), (fun d hd => by injection hd with hd; subst hd; exact ⟨tab rfl, trivial⟩), fun _ _ _ => trivial⟩
                  · intro hop L a w5 hs hk hl ha keep know spec
                    have h137 := know 137 (.pointer (some ⟨e1.b, 3, none⟩)) (by kernel_rfl) rfl
                    exact wpOp_value hop (wanted_none rfl) (v := .int .i64 ymo) (by simp only [execOp, Act.eval, h137]; exact run_v hk.loade) ⟨_, rfl, hk.go (by decide), (fun d hd => by injection hd with hd; subst hd; exact ⟨tab rfl, trivial⟩), fun _ _ _ => trivial⟩
                  · intro hop L a w5 hs hk hl ha keep know spec
                    have h116 := know 116 (.pointer (some ⟨b, 0, none⟩)) (by kernel_rfl) rfl
                    have h123 := know 123 (.int .i64 hmo) (by kernel_rfl) rfl
                    have h138 := know 138 (.int .i64 ymo) (by kernel_rfl) rfl
                    exact wpOp_call hop (wanted_none rfl) (by simp only [execOp, resolve, Act.eval, List.map_toArray, List.map_cons, List.map_nil, h116, h123, h138]; rfl) (HWW.out w5 hk.cell0) fun r w6 hR => by
                      obtain ⟨rfl, rfl⟩ := hR
                      exact ⟨_, rfl, _, rfl, hk.go (by decide), (fun d hd => by injection hd with hd; subst hd; exact ⟨tab rfl, trivial⟩), fun _ _ _ => trivial⟩
                  · intro hop L a w5 hs hk hl ha keep know spec
                    have h115 := know 115 (.pointer (some ⟨b, 0, none⟩)) (by kernel_rfl) rfl
                    exact wpOp_value hop (wanted_none rfl) (v := .pointer (some ⟨b, 0, none⟩)) (by simp only [execOp, Act.eval, h115]; go_simp) ⟨_, rfl, hk.go (by decide), (fun d hd => by injection hd with hd; subst hd; exact ⟨tab rfl, trivial⟩), fun _ _ _ => trivial⟩
                  · intro hop L a w5 hs hk hl ha keep know spec
                    have h140 := know 140 (.pointer (some ⟨b, 0, none⟩)) (by kernel_rfl) rfl
                    exact wpOp_value hop (wanted_none rfl) (v := .pointer (some ⟨b, 3, none⟩)) (by simp only [execOp, Act.eval, h140]; go_simp) ⟨_, rfl, hk.go (by decide), (fun d hd => by injection hd with hd; subst hd; exact ⟨tab rfl, trivial⟩), fun _ _ _ => trivial⟩
                  · intro hop L a w5 hs hk hl ha keep know spec
                    have h141 := know 141 (.pointer (some ⟨b, 3, none⟩)) (by kernel_rfl) rfl
                    have h139 := know 139 (.int .i64 mo9) (by kernel_rfl) rfl
                    exact wpOp_skip hop (wanted_none rfl) (by simp only [execOp, Act.eval, h141, h139]; exact run_u hk.run_store) ⟨_, rfl, hk.store, (fun d hd => by cases hd), fun _ _ _ => trivial⟩
                · intro a' w5 e1 e2 hk keep know spec
                  obtain ⟨tm, df⟩ := a'
                  obtain ⟨f, hf⟩ := frame_puts (D := [115, 116, 117, 118, 119, 120, 121, 122, 123, 124, 125, 126, 127, 128, 129, 130, 131, 132, 133, 134, 135, 136, 137, 138, 139, 140, 141]) e2 keep
                  have e1' : df = [] := e1
                  clear keep know spec e1 e2
                  simp only [List.foldl_cons, List.foldl_nil] at hf
                  subst e1'
                  have he := hk.end_
                  clear hk
                  rw [hf]
                  clear hf
                  have HRES := hide (he.1.hr HBF2.out HPE.out)
                  have HK6 : Hid (Kf (fun i => i ∈ F) w w5) := hide (HK5.out.trans he.2 fun i _ e => by have := HBF.out; rw [e]; exact this)
                  clear he
                  go_wp2
                  exact bodyPost_end (v := .tuple #[]) (by simp [results, Try.results32, go_sem]) rfl ⟨rfl, _, HRES.out, HFE.out, HK6.out⟩
            · have dz : (z == mo) = false := by simpa using hz
              have HRES := hide (HQE.out.hr (HB0.out.cut HLM.out.1 HLM.out.2 (HMO.out hz) (fun v hv => (HB0.out.2.2.2 rfl).2.2 v (delU_mem.1 hv).1 |>.2)) HPE.out)
              clear hz
              go_wp2
              exact bodyPost_end (v := .tuple #[]) (by simp [results, Try.results32, go_sem]) rfl ⟨rfl, _, HRES.out, HFE.out, HKE.out⟩
          · obtain ⟨_, _, p1, _⟩ := HRD.out.look_some (by rw [← HD.out]; exact hDe)
            have HPE := hide (HPC.out _ (by rw [if_neg (by rw [← HD.out]; exact hDe)]))
            have HQE : Hid _ := HQ8
            have HFE : Hid _ := HF8
            have HKE : Hid _ := HK8
            clear hDe
            have HNE := hide HQE.out.ne
            have ca2 := HQE.out.1.cell 2
            have ca3 := HQE.out.1.cell 3
            have ca5 := HQE.out.1.cell 5
            have fa3 := HQE.out.1.frozen 3
            simp only [hC, List.getElem?_cons_zero, List.getElem?_cons_succ] at ca2 ca3 ca5
            by_cases hz : z = mo
            · have dz : (z == mo) = true := by simp [hz]
              have HQ5 := hide (HQE.out.cells (le' := z) (mo' := z) (Kf.set (F := fun i => i = b) (p := ⟨b, 3, none⟩) (u := .int .i64 z) (Kf.refl _ _) (.inl rfl)) (HQE.out.1.set (j := 3) (u := .int .i64 z)))
              have HK5 : Hid (Kf (fun i => i ∈ F) w ((w7).setCell ⟨b, 3, none⟩ (.int .i64 z))) := hide (HKE.out.set (.inl HBF.out))
              have HZM := hide hz
              clear hz
              by_cases hhs : Hs = []
              · have h1 := (hhs ▸ HQ5.out.2.2.1).look_none
                have HRES := hide (HQ5.out.hr (HB0.out.cut HLM.out.1 HLM.out.2 HLM.out.1 (fun v hv => by
                  refine Int.not_lt.1 fun hlt => ?_
                  exact HPE.out.some_high (fun v hv => HB0.out.2.1 v (delU_mem.1 hv).1) hv (by omega) hhs)) HPE.out)
                clear hhs
                go_wp2
                exact bodyPost_end (v := .tuple #[]) (by simp [results, Try.results32, go_sem]) rfl ⟨rfl, _, HRES.out, HFE.out, HK5.out⟩
              · obtain ⟨hle, hmo, h1, _, h3, h4, h5, h6, h7⟩ := HQ5.out.2.2.1.look_some hhs
                obtain ⟨e1, he1, k1, k2⟩ := (HPE.out.2 hmo).1 h5
                obtain ⟨yle, ymo, _, _, y3, y4, y5, y6, y7⟩ := (HQ5.out.2.2.2.1 e1 he1).1.look_some k2
                obtain ⟨mo9, hmo9⟩ : ∃ mo9, mo9 = hmo * UU n + ymo := ⟨_, rfl⟩
                have HWW : Hid (∀ W (k : W.cell? ⟨b, 0, none⟩ = some (.int .i64 ((2 ^ (n + 1) : Nat) : Int))), Calls Try.prog 43 #[.pointer (some ⟨b, 0, none⟩), .int .i64 hmo, .int .i64 ymo] W (fun e w' => e = .returned (.int .i64 mo9) ∧ W = w')) := hide (fun W k => by
                  rw [hmo9]
                  exact whole_any n (by omega) b hmo ymo W k (h7 hmo h5).1 (h7 hmo h5).2 (y7 ymo y5).1 (y7 ymo y5).2)
                have hms := HPE.out.most (fun v hv => HB0.out.2.1 v (delU_mem.1 hv).1) HQ5.out.2.2.2.2.1 (fun q hq => by rw [k1]; exact (h6 q hq).2) he1 y5 (fun v hv => (y6 v hv).2) (y7 ymo y5).1 (y7 ymo y5).2
                rw [k1, ← hmo9] at hms
                have HBF2 := hide (HB0.out.cut HLM.out.1 HLM.out.2 hms.1.1 (fun v hv => by
                  by_cases e : v = z
                  · rw [e]; exact HLM.out.2 _ hms.1.1
                  · exact hms.2 v hv e))
                have HE1 := hide he1
                have HK1 := hide k1
                have HJ := hide (J15.start (mo' := mo9) HQ5.out h3 he1 y3)
                clear hms hhs he1 k1 k2 h4 h5 h6 h7 y4 y5 y6 y7 hmo9
                go_wp2_with fail
                refine wp_region_tab (by kernel_rfl) [(115, .pointer (some ⟨b, 0, none⟩)), (116, .pointer (some ⟨b, 0, none⟩)), (117, .pointer (some ⟨b, 0, none⟩)), (118, .pointer (some ⟨b, 0, none⟩)), (119, .pointer (some ⟨b, 5, none⟩)), (120, .pointer (some ⟨hb', 0, none⟩)), (121, .pointer (some ⟨hb', 0, none⟩)), (122, .pointer (some ⟨hb', 3, none⟩)), (123, .int .i64 hmo), (124, .pointer (some ⟨b, 0, none⟩)), (125, .pointer (some ⟨b, 0, none⟩)), (126, .pointer (some ⟨b, 4, none⟩)), (127, .map (some m)), (128, .pointer (some ⟨b, 0, none⟩)), (129, .pointer (some ⟨b, 0, none⟩)), (130, .pointer (some ⟨b, 5, none⟩)), (131, .pointer (some ⟨hb', 0, none⟩)), (132, .pointer (some ⟨hb', 0, none⟩)), (133, .pointer (some ⟨hb', 3, none⟩)), (134, .int .i64 hmo), (135, .pointer (some ⟨e1.b, 0, none⟩)), (136, .pointer (some ⟨e1.b, 0, none⟩)), (137, .pointer (some ⟨e1.b, 3, none⟩)), (138, .int .i64 ymo), (139, .int .i64 mo9), (140, .pointer (some ⟨b, 0, none⟩)), (141, .pointer (some ⟨b, 3, none⟩))] (fun _ _ _ => True) (J15 57 ((w7).setCell ⟨b, 3, none⟩ (.int .i64 z)) b n F8 z m hb' (Hs) _ _ e1.b hmo ymo mo9) HJ.out (by kernel_rfl) (by kernel_rfl) ?_ ?_
                · refine ⟨?_, ?_, ?_, ?_, ?_, ?_, ?_, ?_, ?_, ?_, ?_, ?_, ?_, ?_, ?_, ?_, ?_, ?_, ?_, ?_, ?_, ?_, ?_, ?_, ?_, ?_, ?_, ?_, trivial⟩
                  · intro hop L a w5 hs hk hl ha keep know spec
                    have h0 := keep 0 (.pointer (some ⟨b, 0, none⟩)) (by kernel_rfl) rfl
                    exact wpOp_value hop (wanted_none rfl) (v := .pointer (some ⟨b, 0, none⟩)) (by simp only [execOp, Act.eval, h0]; rfl) ⟨_, rfl, hk.go (by decide), (fun d hd => by injection hd with hd; subst hd; exact ⟨tab rfl, trivial⟩), fun _ _ _ => trivial⟩
                  · intro hop L a w5 hs hk hl ha keep know spec
                    have h0 := keep 0 (.pointer (some ⟨b, 0, none⟩)) (by kernel_rfl) rfl
                    exact wpOp_value hop (wanted_none rfl) (v := .pointer (some ⟨b, 0, none⟩)) (by simp only [execOp, Act.eval, h0]; rfl) ⟨_, rfl, hk.go (by decide), (fun d hd => by injection hd with hd; subst hd; exact ⟨tab rfl, trivial⟩), fun _ _ _ => trivial⟩
                  · intro hop L a w5 hs hk hl ha keep know spec
                    have h0 := keep 0 (.pointer (some ⟨b, 0, none⟩)) (by kernel_rfl) rfl
                    exact wpOp_value hop (wanted_none rfl) (v := .pointer (some ⟨b, 0, none⟩)) (by simp only [execOp, Act.eval, h0]; rfl) ⟨_, rfl, hk.go (by decide), (fun d hd => by injection hd with hd; subst hd; exact ⟨tab rfl, trivial⟩), fun _ _ _ => trivial⟩
                  · intro hop L a w5 hs hk hl ha keep know spec
                    have h117 := know 117 (.pointer (some ⟨b, 0, none⟩)) (by kernel_rfl) rfl
                    exact wpOp_value hop (wanted_none rfl) (v := .pointer (some ⟨b, 0, none⟩)) (by simp only [execOp, Act.eval, h117]; go_simp) ⟨_, rfl, hk.go (by decide), (fun d hd => by injection hd with hd; subst hd; exact ⟨tab rfl, trivial⟩), fun _ _ _ => trivial⟩
                  · intro hop L a w5 hs hk hl ha keep know spec
                    have h118 := know 118 (.pointer (some ⟨b, 0, none⟩)) (by kernel_rfl) rfl
                    exact wpOp_value hop (wanted_none rfl) (v := .pointer (some ⟨b, 5, none⟩)) (by simp only [execOp, Act.eval, h118]; go_simp) ⟨_, rfl, hk.go (by decide), (fun d hd => by injection hd with hd; subst hd; exact ⟨tab rfl, trivial⟩), fun _ _ _ => trivial⟩
                  · intro hop L a w5 hs hk hl ha keep know spec
                    have h119 := know 119 (.pointer (some ⟨b, 5, none⟩)) (by kernel_rfl) rfl
                    exact wpOp_value hop (wanted_none rfl) (v := .pointer (some ⟨hb', 0, none⟩)) (by simp only [execOp, Act.eval, h119]; exact run_v hk.load5) ⟨_, rfl, hk.go (by decide), (fun d hd => by injection hd with hd; subst hd; exact ⟨tab rfl, trivial⟩), fun _ _ _ => trivial⟩
                  · intro hop L a w5 hs hk hl ha keep know spec
                    have h120 := know 120 (.pointer (some ⟨hb', 0, none⟩)) (by kernel_rfl) rfl
                    exact wpOp_value hop (wanted_none rfl) (v := .pointer (some ⟨hb', 0, none⟩)) (by simp only [execOp, Act.eval, h120]; go_simp) ⟨_, rfl, hk.go (by decide), (fun d hd => by injection hd with hd; subst hd; exact ⟨tab rfl, trivial⟩), fun _ _ _ => trivial⟩
                  · intro hop L a w5 hs hk hl ha keep know spec
                    have h121 := know 121 (.pointer (some ⟨hb', 0, none⟩)) (by kernel_rfl) rfl
                    exact wpOp_value hop (wanted_none rfl) (v := .pointer (some ⟨hb', 3, none⟩)) (by simp only [execOp, Act.eval, h121]; go_simp) ⟨_, rfl, hk.go (by decide), (fun d hd => by injection hd with hd; subst hd; exact ⟨tab rfl, trivial⟩), fun _ _ _ => trivial⟩
                  · intro hop L a w5 hs hk hl ha keep know spec
                    have h122 := know 122 (.pointer (some ⟨hb', 3, none⟩)) (by kernel_rfl) rfl
                    exact wpOp_value hop (wanted_none rfl) (v := .int .i64 hmo) (by simp only [execOp, Act.eval, h122]; exact run_v hk.loadh) ⟨_, rfl, hk.go (by decide), (fun d hd => by injection hd with hd; subst hd; exact ⟨tab rfl, trivial⟩), fun _ _ _ => trivial⟩
                  · intro hop L a w5 hs hk hl ha keep know spec
                    have h0 := keep 0 (.pointer (some ⟨b, 0, none⟩)) (by kernel_rfl) rfl
                    exact wpOp_value hop (wanted_none rfl) (v := .pointer (some ⟨b, 0, none⟩)) (by simp only [execOp, Act.eval, h0]; rfl) ⟨_, rfl, hk.go (by decide), (fun d hd => by injection hd with hd; subst hd; exact ⟨tab rfl, trivial⟩), fun _ _ _ => trivial⟩
                  · intro hop L a w5 hs hk hl ha keep know spec
                    have h124 := know 124 (.pointer (some ⟨b, 0, none⟩)) (by kernel_rfl) rfl
                    exact wpOp_value hop (wanted_none rfl) (v := .pointer (some ⟨b, 0, none⟩)) (by simp only [execOp, Act.eval, h124]; go_simp) ⟨_, rfl, hk.go (by decide), (fun d hd => by injection hd with hd; subst hd; exact ⟨tab rfl, trivial⟩), fun _ _ _ => trivial⟩
                  · intro hop L a w5 hs hk hl ha keep know spec
                    have h125 := know 125 (.pointer (some ⟨b, 0, none⟩)) (by kernel_rfl) rfl
                    exact wpOp_value hop (wanted_none rfl) (v := .pointer (some ⟨b, 4, none⟩)) (by simp only [execOp, Act.eval, h125]; go_simp) ⟨_, rfl, hk.go (by decide), (fun d hd => by injection hd with hd; subst hd; exact ⟨tab rfl, trivial⟩), fun _ _ _ => trivial⟩
                  · intro hop L a w5 hs hk hl ha keep know spec
                    have h126 := know 126 (.pointer (some ⟨b, 4, none⟩)) (by kernel_rfl) rfl
                    exact wpOp_value hop (wanted_none rfl) (v := .map (some m)) (by simp only [execOp, Act.eval, h126]; exact run_v hk.load4) ⟨_, rfl, hk.go (by decide), (fun d hd => by injection hd with hd; subst hd; exact ⟨tab rfl, trivial⟩), fun _ _ _ => trivial⟩
                  · intro hop L a w5 hs hk hl ha keep know spec
                    have h0 := keep 0 (.pointer (some ⟨b, 0, none⟩)) (by kernel_rfl) rfl
                    exact wpOp_value hop (wanted_none rfl) (v := .pointer (some ⟨b, 0, none⟩)) (by simp only [execOp, Act.eval, h0]; rfl) ⟨_, rfl, hk.go (by decide), (fun d hd => by injection hd with hd; subst hd; exact ⟨tab rfl, trivial⟩), fun _ _ _ => trivial⟩
                  · intro hop L a w5 hs hk hl ha keep know spec
                    have h128 := know 128 (.pointer (some ⟨b, 0, none⟩)) (by kernel_rfl) rfl
                    exact wpOp_value hop (wanted_none rfl) (v := .pointer (some ⟨b, 0, none⟩)) (by simp only [execOp, Act.eval, h128]; go_simp) ⟨_, rfl, hk.go (by decide), (fun d hd => by injection hd with hd; subst hd; exact ⟨tab rfl, trivial⟩), fun _ _ _ => trivial⟩
                  · intro hop L a w5 hs hk hl ha keep know spec
                    have h129 := know 129 (.pointer (some ⟨b, 0, none⟩)) (by kernel_rfl) rfl
                    exact wpOp_value hop (wanted_none rfl) (v := .pointer (some ⟨b, 5, none⟩)) (by simp only [execOp, Act.eval, h129]; go_simp) ⟨_, rfl, hk.go (by decide), (fun d hd => by injection hd with hd; subst hd; exact ⟨tab rfl, trivial⟩), fun _ _ _ => trivial⟩
                  · intro hop L a w5 hs hk hl ha keep know spec
                    have h130 := know 130 (.pointer (some ⟨b, 5, none⟩)) (by kernel_rfl) rfl
                    exact wpOp_value hop (wanted_none rfl) (v := .pointer (some ⟨hb', 0, none⟩)) (by simp only [execOp, Act.eval, h130]; exact run_v hk.load5) ⟨_, rfl, hk.go (by decide), (fun d hd => by injection hd with hd; subst hd; exact ⟨tab rfl, trivial⟩), fun _ _ _ => trivial⟩
                  · intro hop L a w5 hs hk hl ha keep know spec
                    have h131 := know 131 (.pointer (some ⟨hb', 0, none⟩)) (by kernel_rfl) rfl
                    exact wpOp_value hop (wanted_none rfl) (v := .pointer (some ⟨hb', 0, none⟩)) (by simp only [execOp, Act.eval, h131]; go_simp) ⟨_, rfl, hk.go (by decide), (fun d hd => by injection hd with hd; subst hd; exact ⟨tab rfl, trivial⟩), fun _ _ _ => trivial⟩
                  · intro hop L a w5 hs hk hl ha keep know spec
                    have h132 := know 132 (.pointer (some ⟨hb', 0, none⟩)) (by kernel_rfl) rfl
                    exact wpOp_value hop (wanted_none rfl) (v := .pointer (some ⟨hb', 3, none⟩)) (by simp only [execOp, Act.eval, h132]; go_simp) ⟨_, rfl, hk.go (by decide), (fun d hd => by injection hd with hd; subst hd; exact ⟨tab rfl, trivial⟩), fun _ _ _ => trivial⟩
                  · intro hop L a w5 hs hk hl ha keep know spec
                    have h133 := know 133 (.pointer (some ⟨hb', 3, none⟩)) (by kernel_rfl) rfl
                    exact wpOp_value hop (wanted_none rfl) (v := .int .i64 hmo) (by simp only [execOp, Act.eval, h133]; exact run_v hk.loadh) ⟨_, rfl, hk.go (by decide), (fun d hd => by injection hd with hd; subst hd; exact ⟨tab rfl, trivial⟩), fun _ _ _ => trivial⟩
                  · intro hop L a w5 hs hk hl ha keep know spec
                    have h127 := know 127 (.map (some m)) (by kernel_rfl) rfl
                    have h134 := know 134 (.int .i64 hmo) (by kernel_rfl) rfl
                    exact wpOp_value hop (wanted_none rfl) (v := .pointer (some ⟨e1.b, 0, none⟩)) (by simp only [execOp, Act.eval, h127, h134]; exact run_v (hk.look HE1.out HK1.out rfl)) ⟨_, rfl, hk.go (by decide), (fun d hd => by injection hd with hd; subst hd; exact ⟨tab rfl, trivial⟩), fun _ _ _ => trivial⟩
                  · intro hop L a w5 hs hk hl ha keep know spec
                    have h135 := know 135 (.pointer (some ⟨e1.b, 0, none⟩)) (by kernel_rfl) rfl
                    exact wpOp_value hop (wanted_none rfl) (v := .pointer (some ⟨e1.b, 0, none⟩)) (by simp only [execOp, Act.eval, h135]; go_simp) ⟨_, rfl, hk.go (by decide), (fun d hd => by injection hd with hd; subst hd; exact ⟨tab rfl, trivial⟩), fun _ _ _ => trivial⟩
                  · intro hop L a w5 hs hk hl ha keep know spec
                    have h136 := know 136 (.pointer (some ⟨e1.b, 0, none⟩)) (by kernel_rfl) rfl
                    exact wpOp_value hop (wanted_none rfl) (v := .pointer (some ⟨e1.b, 3, none⟩)) (by simp only [execOp, Act.eval, h136]; go_simp) ⟨_, rfl, hk.go (by decide), (fun d hd => by injection hd with hd; subst hd; exact ⟨tab rfl, trivial⟩), fun _ _ _ => trivial⟩
                  · intro hop L a w5 hs hk hl ha keep know spec
                    have h137 := know 137 (.pointer (some ⟨e1.b, 3, none⟩)) (by kernel_rfl) rfl
                    exact wpOp_value hop (wanted_none rfl) (v := .int .i64 ymo) (by simp only [execOp, Act.eval, h137]; exact run_v hk.loade) ⟨_, rfl, hk.go (by decide), (fun d hd => by injection hd with hd; subst hd; exact ⟨tab rfl, trivial⟩), fun _ _ _ => trivial⟩
                  · intro hop L a w5 hs hk hl ha keep know spec
                    have h116 := know 116 (.pointer (some ⟨b, 0, none⟩)) (by kernel_rfl) rfl
                    have h123 := know 123 (.int .i64 hmo) (by kernel_rfl) rfl
                    have h138 := know 138 (.int .i64 ymo) (by kernel_rfl) rfl
                    exact wpOp_call hop (wanted_none rfl) (by simp only [execOp, resolve, Act.eval, List.map_toArray, List.map_cons, List.map_nil, h116, h123, h138]; rfl) (HWW.out w5 hk.cell0) fun r w6 hR => by
                      obtain ⟨rfl, rfl⟩ := hR
                      exact ⟨_, rfl, _, rfl, hk.go (by decide), (fun d hd => by injection hd with hd; subst hd; exact ⟨tab rfl, trivial⟩), fun _ _ _ => trivial⟩
                  · intro hop L a w5 hs hk hl ha keep know spec
                    have h115 := know 115 (.pointer (some ⟨b, 0, none⟩)) (by kernel_rfl) rfl
                    exact wpOp_value hop (wanted_none rfl) (v := .pointer (some ⟨b, 0, none⟩)) (by simp only [execOp, Act.eval, h115]; go_simp) ⟨_, rfl, hk.go (by decide), (fun d hd => by injection hd with hd; subst hd; exact ⟨tab rfl, trivial⟩), fun _ _ _ => trivial⟩
                  · intro hop L a w5 hs hk hl ha keep know spec
                    have h140 := know 140 (.pointer (some ⟨b, 0, none⟩)) (by kernel_rfl) rfl
                    exact wpOp_value hop (wanted_none rfl) (v := .pointer (some ⟨b, 3, none⟩)) (by simp only [execOp, Act.eval, h140]; go_simp) ⟨_, rfl, hk.go (by decide), (fun d hd => by injection hd with hd; subst hd; exact ⟨tab rfl, trivial⟩), fun _ _ _ => trivial⟩
                  · intro hop L a w5 hs hk hl ha keep know spec
                    have h141 := know 141 (.pointer (some ⟨b, 3, none⟩)) (by kernel_rfl) rfl
                    have h139 := know 139 (.int .i64 mo9) (by kernel_rfl) rfl
                    exact wpOp_skip hop (wanted_none rfl) (by simp only [execOp, Act.eval, h141, h139]; exact run_u hk.run_store) ⟨_, rfl, hk.store, (fun d hd => by cases hd), fun _ _ _ => trivial⟩
                · intro a' w5 e1 e2 hk keep know spec
                  obtain ⟨tm, df⟩ := a'
                  obtain ⟨f, hf⟩ := frame_puts (D := [115, 116, 117, 118, 119, 120, 121, 122, 123, 124, 125, 126, 127, 128, 129, 130, 131, 132, 133, 134, 135, 136, 137, 138, 139, 140, 141]) e2 keep
                  have e1' : df = [] := e1
                  clear keep know spec e1 e2
                  simp only [List.foldl_cons, List.foldl_nil] at hf
                  subst e1'
                  have he := hk.end_
                  clear hk
                  rw [hf]
                  clear hf
                  have HRES := hide (he.1.hr HBF2.out HPE.out)
                  have HK6 : Hid (Kf (fun i => i ∈ F) w w5) := hide (HK5.out.trans he.2 fun i _ e => by have := HBF.out; rw [e]; exact this)
                  clear he
                  go_wp2
                  exact bodyPost_end (v := .tuple #[]) (by simp [results, Try.results32, go_sem]) rfl ⟨rfl, _, HRES.out, HFE.out, HK6.out⟩
            · have dz : (z == mo) = false := by simpa using hz
              have HRES := hide (HQE.out.hr (HB0.out.cut HLM.out.1 HLM.out.2 (HMO.out hz) (fun v hv => (HB0.out.2.2.2 rfl).2.2 v (delU_mem.1 hv).1 |>.2)) HPE.out)
              clear hz
              go_wp2
              exact bodyPost_end (v := .tuple #[]) (by simp [results, Try.results32, go_sem]) rfl ⟨rfl, _, HRES.out, HFE.out, HKE.out⟩
        · have d1 : (x == le) = false := by simpa using e1
          have HZI : Hid (0 ≤ x ∧ x < UU (n + 1)) := hide (HB0.out.2.1 x HXS.out)
          obtain ⟨e0, he0, hf1, hzs⟩ := HPH.out.at_ HZI.out.1 HZI.out.2 HXS.out e1
          have HE0 := hide he0
          have HF1 := hide hf1
          have HZS := hide hzs
          have HSD := hide (cut_iff1 (S := S) e1)
          have HLM : Hid (le ∈ delU S x ∧ ∀ v ∈ delU S x, le ≤ v) := hide ⟨delU_mem.2 ⟨HLE.out, fun h => e1 h.symm⟩, fun v hv => (HQ3.out v (delU_mem.1 hv).1).1⟩
          have HMO : Hid (¬ x = mo → mo ∈ delU S x) := hide (fun h => delU_mem.2 ⟨HMO1.out, fun k => h k.symm⟩)
          have HQW := hide hq1
          have HKW := HK0
          obtain ⟨W, hW⟩ : ∃ W, W = W0 := ⟨_, rfl⟩
          rw [← hW] at HQW HKW hq1 c0 c2 c3 c4 c5 f2 ⊢
          clear hW he0 hf1 hzs e1 hq1
          go_wp2_with fail
          clear c0 c2 c3 c4 c5 f2
          have cz := HQW.out.1.cell 0
          simp only [hC, List.getElem?_cons_zero] at cz
          rw [← hbs] at cz
          have hsp := half_in (M := UU n) (by have := UU_pos n; omega) HZI.out.1 (by have := HZI.out.2; rw [UU] at this; exact this)
          have HX := hide hsp
          have HBS := hide hbs
          clear hsp hbs
          with_reducible refine (HHV.out x W HZI.out.1 HZI.out.2 cz).mono ?_
          rintro e9 w1 ⟨rfl, md, rfl⟩
          have HQD := hide (HQW.out.kp (Kp.refl W).drewN (w' := W.drewN md))
          have HKD : Hid (Kf (fun i => i ∈ F) w (W.drewN md)) := hide (HKW.out.on (Kp.refl W).drewN)
          obtain ⟨Wd, hWd⟩ : ∃ Wd, Wd = W.drewN md := ⟨_, rfl⟩
          rw [← hWd] at HQD HKD ⊢
          clear hWd cz
          have cb4 := HQD.out.1.cell 4
          simp only [hC, List.getElem?_cons_zero, List.getElem?_cons_succ] at cb4
          have hlk := HQD.out.2.1.lookup (P := Try.prog) Try.underlying55 Try.underlying3 (hptr_zero Wd) (x / UU n)
          rw [HQD.out.part_lk HE0.out HF1.out] at hlk
          simp only [Option.map_some] at hlk
          have HRE := hide (HQD.out.2.2.2.1 e0 HE0.out).1
          go_wp2_with fail
          with_reducible refine (HIH.out e0.S e0.b e0.F (x % UU n) Wd HRE.out HZS.out).mono ?_
          rintro e9 w7 ⟨rfl, F7, hr7, hin7, hk7⟩
          obtain ⟨F8, hq8, hf8, hkf8⟩ := HQD.out.part HE0.out hk7 hr7 hin7
          rw [HF1.out] at hq8
          have HQ8 := hide hq8
          have HF8 : Hid (∀ i ∈ F8, i ∈ F ∨ w.heap.size ≤ i) := hide (fun i hi => by
            have z1 := HKD.out.size
            rcases hf8 i hi with h | h
            · exact .inl h
            · exact .inr (by omega))
          have HK8 := hide (HKD.out.trans hkf8 fun i hi h => h)
          have HND := hide HQD.out.2.2.2.2.1
          obtain ⟨D, hD⟩ : ∃ D, D = delU e0.S (x % UU n) := ⟨_, rfl⟩
          have hme : (⟨e0.h, e0.b, D, F7⟩ : HE) ∈ setE E (x / UU n) (delU e0.S (x % UU n)) F7 := by
            rw [setE_mem]
            exact ⟨e0, HE0.out, by rw [if_pos HF1.out, hD]⟩
          have hlk8 := HQ8.out.2.1.lookup (P := Try.prog) Try.underlying55 Try.underlying3 (hptr_zero w7) (x / UU n)
          rw [HQ8.out.part_lk hme HF1.out] at hlk8
          simp only [Option.map_some] at hlk8
          have cb8 := HQ8.out.1.cell 4
          simp only [hC, List.getElem?_cons_zero, List.getElem?_cons_succ] at cb8
          have HPC := hide (fun Hs' (h : Hs' = if delU e0.S (x % UU n) = [] then delU Hs (x / UU n) else Hs) => HPH.out.cut (F' := F7) HND.out HE0.out HZI.out.1 HZI.out.2 HF1.out (fun v => by simpa using HSD.out v) h)
          have HRD := hide hr7
          have HD := hide hD
          clear hr7 hin7 hk7 hq8 hf8 hkf8 hme hD hlk cb4
          by_cases hDe : D = []
          · have p1 := (HD.out.symm.trans hDe ▸ HRD.out).look_none
            have hzh : x / UU n ∈ Hs := (HPH.out.2 _).2 ⟨e0, HE0.out, HF1.out, fun h => by have := HZS.out; rw [h] at this; cases this⟩
            have cb85 := HQ8.out.1.cell 5
            simp only [hC, List.getElem?_cons_zero, List.getElem?_cons_succ] at cb85
            have HPE := hide (HPC.out _ (by rw [if_pos (HD.out.symm.trans hDe)]))
            have HZH := hide hzh
            have HQH8 := hide HQ8.out.2.2.1
            clear hDe hzh
            go_wp2_with fail
            with_reducible refine (HIH.out Hs hb' Fh (x / UU n) w7 HQH8.out HZH.out).mono ?_
            rintro e9 w9 ⟨rfl, F9, hr9, hin9, hk9⟩
            obtain ⟨F10, hq10, hf10, hkf10⟩ := HQ8.out.highs hk9 hr9 hin9
            have HQE := hide hq10
            have HFE : Hid (∀ i ∈ F10, i ∈ F ∨ w.heap.size ≤ i) := hide (fun i hi => by
              have z1 := HK8.out.size
              rcases hf10 i hi with h | h
              · exact HF8.out i h
              · exact .inr (by omega))
            have HKE := hide (HK8.out.trans hkf10 fun i hi h => (HF8.out i h).elim id (fun h => absurd hi (by omega)))
            clear hr9 hin9 hk9 hq10 hf10 hkf10 p1 hlk8 cb8 cb85
            have HNE := hide HQE.out.ne
            have ca2 := HQE.out.1.cell 2
            have ca3 := HQE.out.1.cell 3
            have ca5 := HQE.out.1.cell 5
            have fa3 := HQE.out.1.frozen 3
            simp only [hC, List.getElem?_cons_zero, List.getElem?_cons_succ] at ca2 ca3 ca5
            by_cases hz : x = mo
            · have dz : (x == mo) = true := by simp [hz]
              have HQ5 := hide (HQE.out.cells (le' := le) (mo' := le) (Kf.set (F := fun i => i = b) (p := ⟨b, 3, none⟩) (u := .int .i64 le) (Kf.refl _ _) (.inl rfl)) (HQE.out.1.set (j := 3) (u := .int .i64 le)))
              have HK5 : Hid (Kf (fun i => i ∈ F) w ((w9).setCell ⟨b, 3, none⟩ (.int .i64 le))) := hide (HKE.out.set (.inl HBF.out))
              have HZM := hide hz
              clear hz
              by_cases hhs : delU Hs (x / UU n) = []
              · have h1 := (hhs ▸ HQ5.out.2.2.1).look_none
                have HRES := hide (HQ5.out.hr (HB0.out.cut HLM.out.1 HLM.out.2 HLM.out.1 (fun v hv => by
                  refine Int.not_lt.1 fun hlt => ?_
                  exact HPE.out.some_high (fun v hv => HB0.out.2.1 v (delU_mem.1 hv).1) hv (by omega) hhs)) HPE.out)
                clear hhs
                go_wp2
                exact bodyPost_end (v := .tuple #[]) (by simp [results, Try.results32, go_sem]) rfl ⟨rfl, _, HRES.out, HFE.out, HK5.out⟩
              · obtain ⟨hle, hmo, h1, _, h3, h4, h5, h6, h7⟩ := HQ5.out.2.2.1.look_some hhs
                obtain ⟨e1, he1, k1, k2⟩ := (HPE.out.2 hmo).1 h5
                obtain ⟨yle, ymo, _, _, y3, y4, y5, y6, y7⟩ := (HQ5.out.2.2.2.1 e1 he1).1.look_some k2
                obtain ⟨mo9, hmo9⟩ : ∃ mo9, mo9 = hmo * UU n + ymo := ⟨_, rfl⟩
                have HWW : Hid (∀ W (k : W.cell? ⟨b, 0, none⟩ = some (.int .i64 ((2 ^ (n + 1) : Nat) : Int))), Calls Try.prog 43 #[.pointer (some ⟨b, 0, none⟩), .int .i64 hmo, .int .i64 ymo] W (fun e w' => e = .returned (.int .i64 mo9) ∧ W = w')) := hide (fun W k => by
                  rw [hmo9]
                  exact whole_any n (by omega) b hmo ymo W k (h7 hmo h5).1 (h7 hmo h5).2 (y7 ymo y5).1 (y7 ymo y5).2)
                have hms := HPE.out.most (fun v hv => HB0.out.2.1 v (delU_mem.1 hv).1) HQ5.out.2.2.2.2.1 (fun q hq => by rw [k1]; exact (h6 q hq).2) he1 y5 (fun v hv => (y6 v hv).2) (y7 ymo y5).1 (y7 ymo y5).2
                rw [k1, ← hmo9] at hms
                have HBF2 := hide (HB0.out.cut HLM.out.1 HLM.out.2 hms.1.1 (fun v hv => by
                  by_cases e : v = le
                  · rw [e]; exact HLM.out.2 _ hms.1.1
                  · exact hms.2 v hv e))
                have HE1 := hide he1
                have HK1 := hide k1
                have HJ := hide (J15.start (mo' := mo9) HQ5.out h3 he1 y3)
                clear hms hhs he1 k1 k2 h4 h5 h6 h7 y4 y5 y6 y7 hmo9
                go_wp2_with fail
                refine wp_region_tab (by kernel_rfl) [(115, .pointer (some ⟨b, 0, none⟩)), (116, .pointer (some ⟨b, 0, none⟩)), (117, .pointer (some ⟨b, 0, none⟩)), (118, .pointer (some ⟨b, 0, none⟩)), (119, .pointer (some ⟨b, 5, none⟩)), (120, .pointer (some ⟨hb', 0, none⟩)), (121, .pointer (some ⟨hb', 0, none⟩)), (122, .pointer (some ⟨hb', 3, none⟩)), (123, .int .i64 hmo), (124, .pointer (some ⟨b, 0, none⟩)), (125, .pointer (some ⟨b, 0, none⟩)), (126, .pointer (some ⟨b, 4, none⟩)), (127, .map (some m)), (128, .pointer (some ⟨b, 0, none⟩)), (129, .pointer (some ⟨b, 0, none⟩)), (130, .pointer (some ⟨b, 5, none⟩)), (131, .pointer (some ⟨hb', 0, none⟩)), (132, .pointer (some ⟨hb', 0, none⟩)), (133, .pointer (some ⟨hb', 3, none⟩)), (134, .int .i64 hmo), (135, .pointer (some ⟨e1.b, 0, none⟩)), (136, .pointer (some ⟨e1.b, 0, none⟩)), (137, .pointer (some ⟨e1.b, 3, none⟩)), (138, .int .i64 ymo), (139, .int .i64 mo9), (140, .pointer (some ⟨b, 0, none⟩)), (141, .pointer (some ⟨b, 3, none⟩))] (fun _ _ _ => True) (J15 57 ((w9).setCell ⟨b, 3, none⟩ (.int .i64 le)) b n F10 le m hb' (delU Hs (x / UU n)) _ _ e1.b hmo ymo mo9) HJ.out (by kernel_rfl) (by kernel_rfl) ?_ ?_
                · refine ⟨?_, ?_, ?_, ?_, ?_, ?_, ?_, ?_, ?_, ?_, ?_, ?_, ?_, ?_, ?_, ?_, ?_, ?_, ?_, ?_, ?_, ?_, ?_, ?_, ?_, ?_, ?_, ?_, trivial⟩
                  · intro hop L a w5 hs hk hl ha keep know spec
                    have h0 := keep 0 (.pointer (some ⟨b, 0, none⟩)) (by kernel_rfl) rfl
                    exact wpOp_value hop (wanted_none rfl) (v := .pointer (some ⟨b, 0, none⟩)) (by simp only [execOp, Act.eval, h0]; rfl) ⟨_, rfl, hk.go (by decide), (fun d hd => by injection hd with hd; subst hd; exact ⟨tab rfl, trivial⟩), fun _ _ _ => trivial⟩
                  · intro hop L a w5 hs hk hl ha keep know spec
                    have h0 := keep 0 (.pointer (some ⟨b, 0, none⟩)) (by kernel_rfl) rfl
                    exact wpOp_value hop (wanted_none rfl) (v := .pointer (some ⟨b, 0, none⟩)) (by simp only [execOp, Act.eval, h0]; rfl) ⟨_, rfl, hk.go (by decide), (fun d hd => by injection hd with hd; subst hd; exact ⟨tab rfl, trivial⟩), fun _ _ _ => trivial⟩
                  · intro hop L a w5 hs hk hl ha keep know spec
                    have h0 := keep 0 (.pointer (some ⟨b, 0, none⟩)) (by kernel_rfl) rfl
                    exact wpOp_value hop (wanted_none rfl) (v := .pointer (some ⟨b, 0, none⟩)) (by simp only [execOp, Act.eval, h0]; rfl) ⟨_, rfl, hk.go (by decide), (fun d hd => by injection hd with hd; subst hd; exact ⟨tab rfl, trivial⟩), fun _ _ _ => trivial⟩
                  · intro hop L a w5 hs hk hl ha keep know spec
                    have h117 := know 117 (.pointer (some ⟨b, 0, none⟩)) (by kernel_rfl) rfl
                    exact wpOp_value hop (wanted_none rfl) (v := .pointer (some ⟨b, 0, none⟩)) (by simp only [execOp, Act.eval, h117]; go_simp) ⟨_, rfl, hk.go (by decide), (fun d hd => by injection hd with hd; subst hd; exact ⟨tab rfl, trivial⟩), fun _ _ _ => trivial⟩
                  · intro hop L a w5 hs hk hl ha keep know spec
                    have h118 := know 118 (.pointer (some ⟨b, 0, none⟩)) (by kernel_rfl) rfl
                    exact wpOp_value hop (wanted_none rfl) (v := .pointer (some ⟨b, 5, none⟩)) (by simp only [execOp, Act.eval, h118]; go_simp) ⟨_, rfl, hk.go (by decide), (fun d hd => by injection hd with hd; subst hd; exact ⟨tab rfl, trivial⟩), fun _ _ _ => trivial⟩
                  · intro hop L a w5 hs hk hl ha keep know spec
                    have h119 := know 119 (.pointer (some ⟨b, 5, none⟩)) (by kernel_rfl) rfl
                    exact wpOp_value hop (wanted_none rfl) (v := .pointer (some ⟨hb', 0, none⟩)) (by simp only [execOp, Act.eval, h119]; exact run_v hk.load5) ⟨_, rfl, hk.go (by decide), (fun d hd => by injection hd with hd; subst hd; exact ⟨tab rfl, trivial⟩), fun _ _ _ => trivial⟩
                  · intro hop L a w5 hs hk hl ha keep know spec
                    have h120 := know 120 (.pointer (some ⟨hb', 0, none⟩)) (by kernel_rfl) rfl
                    exact wpOp_value hop (wanted_none rfl) (v := .pointer (some ⟨hb', 0, none⟩)) (by simp only [execOp, Act.eval, h120]; go_simp) ⟨_, rfl, hk.go (by decide), (fun d hd => by injection hd with hd; subst hd; exact ⟨tab rfl, trivial⟩), fun _ _ _ => trivial⟩
                  · intro hop L a w5 hs hk hl ha keep know spec
                    have h121 := know 121 (.pointer (some ⟨hb', 0, none⟩)) (by kernel_rfl) rfl
                    exact wpOp_value hop (wanted_none rfl) (v := .pointer (some ⟨hb', 3, none⟩)) (by simp only [execOp, Act.eval, h121]; go_simp) ⟨_, rfl, hk.go (by decide), (fun d hd => by injection hd with hd; subst hd; exact ⟨tab rfl, trivial⟩), fun _ _ _ => trivial⟩
                  · intro hop L a w5 hs hk hl ha keep know spec
                    have h122 := know 122 (.pointer (some ⟨hb', 3, none⟩)) (by kernel_rfl) rfl
                    exact wpOp_value hop (wanted_none rfl) (v := .int .i64 hmo) (by simp only [execOp, Act.eval, h122]; exact run_v hk.loadh) ⟨_, rfl, hk.go (by decide), (fun d hd => by injection hd with hd; subst hd; exact ⟨tab rfl, trivial⟩), fun _ _ _ => trivial⟩
                  · intro hop L a w5 hs hk hl ha keep know spec
                    have h0 := keep 0 (.pointer (some ⟨b, 0, none⟩)) (by kernel_rfl) rfl
                    exact wpOp_value hop (wanted_none rfl) (v := .pointer (some ⟨b, 0, none⟩)) (by simp only [execOp, Act.eval, h0]; rfl) ⟨_, rfl, hk.go (by decide), (fun d hd => by injection hd with hd; subst hd; exact ⟨tab rfl, trivial⟩), fun _ _ _ => trivial⟩
                  · intro hop L a w5 hs hk hl ha keep know spec
                    have h124 := know 124 (.pointer (some ⟨b, 0, none⟩)) (by kernel_rfl) rfl
                    exact wpOp_value hop (wanted_none rfl) (v := .pointer (some ⟨b, 0, none⟩)) (by simp only [execOp, Act.eval, h124]; go_simp) ⟨_, rfl, hk.go (by decide), (fun d hd => by injection hd with hd; subst hd; exact ⟨tab rfl, trivial⟩), fun _ _ _ => trivial⟩
                  · intro hop L a w5 hs hk hl ha keep know spec
                    have h125 := know 125 (.pointer (some ⟨b, 0, none⟩)) (by kernel_rfl) rfl
                    exact wpOp_value hop (wanted_none rfl) (v := .pointer (some ⟨b, 4, none⟩)) (by simp only [execOp, Act.eval, h125]; go_simp) ⟨_, rfl, hk.go (by decide), (fun d hd => by injection hd with hd; subst hd; exact ⟨tab rfl, trivial⟩), fun _ _ _ => trivial⟩
                  · intro hop L a w5 hs hk hl ha keep know spec
                    have h126 := know 126 (.pointer (some ⟨b, 4, none⟩)) (by kernel_rfl) rfl
                    exact wpOp_value hop (wanted_none rfl) (v := .map (some m)) (by simp only [execOp, Act.eval, h126]; exact run_v hk.load4) ⟨_, rfl, hk.go (by decide), (fun d hd => by injection hd with hd; subst hd; exact ⟨tab rfl, trivial⟩), fun _ _ _ => trivial⟩
                  · intro hop L a w5 hs hk hl ha keep know spec
                    have h0 := keep 0 (.pointer (some ⟨b, 0, none⟩)) (by kernel_rfl) rfl
                    exact wpOp_value hop (wanted_none rfl) (v := .pointer (some ⟨b, 0, none⟩)) (by simp only [execOp, Act.eval, h0]; rfl) ⟨_, rfl, hk.go (by decide), (fun d hd => by injection hd with hd; subst hd; exact ⟨tab rfl, trivial⟩), fun _ _ _ => trivial⟩
                  · intro hop L a w5 hs hk hl ha keep know spec
                    have h128 := know 128 (.pointer (some ⟨b, 0, none⟩)) (by kernel_rfl) rfl
                    exact wpOp_value hop (wanted_none rfl) (v := .pointer (some ⟨b, 0, none⟩)) (by simp only [execOp, Act.eval, h128]; go_simp) ⟨_, rfl, hk.go (by decide), (fun d hd => by injection hd with hd; subst hd; exact ⟨tab rfl, trivial⟩), fun _ _ _ => trivial⟩
                  · intro hop L a w5 hs hk hl ha keep know spec
                    have h129 := know 129 (.pointer (some ⟨b, 0, none⟩)) (by kernel_rfl) rfl
                    exact wpOp_value hop (wanted_none rfl) (v := .pointer (some ⟨b, 5, none⟩)) (by simp only [execOp, Act.eval, h129]; go_simp) ⟨_, rfl, hk.go (by decide), (fun d hd => by injection hd with hd; subst hd; exact ⟨tab rfl, trivial⟩), fun _ _ _ => trivial⟩
                  · intro hop L a w5 hs hk hl ha keep know spec
                    have h130 := know 130 (.pointer (some ⟨b, 5, none⟩)) (by kernel_rfl) rfl
                    exact wpOp_value hop (wanted_none rfl) (v := .pointer (some ⟨hb', 0, none⟩)) (by simp only [execOp, Act.eval, h130]; exact run_v hk.load5) ⟨_, rfl, hk.go (by decide), (fun d hd => by injection hd with hd; subst hd; exact ⟨tab rfl, trivial⟩), fun _ _ _ => trivial⟩
                  · intro hop L a w5 hs hk hl ha keep know spec
                    have h131 := know 131 (.pointer (some ⟨hb', 0, none⟩)) (by kernel_rfl) rfl
                    exact wpOp_value hop (wanted_none rfl) (v := .pointer (some ⟨hb', 0, none⟩)) (by simp only [execOp, Act.eval, h131]; go_simp) ⟨_, rfl, hk.go (by decide), (fun d hd => by injection hd with hd; subst hd; exact ⟨tab rfl, trivial⟩), fun _ _ _ => trivial⟩
                  · intro hop L a w5 hs hk hl ha keep know spec
                    have h132 := know 132 (.pointer (some ⟨hb', 0, none⟩)) (by kernel_rfl) rfl
                    exact wpOp_value hop (wanted_none rfl) (v := .pointer (some ⟨hb', 3, none⟩)) (by simp only [execOp, Act.eval, h132]; go_simp) ⟨_, rfl, hk.go (by decide), (fun d hd => by injection hd with hd; subst hd; exact ⟨tab rfl, trivial⟩), fun _ _ _ => trivial⟩
                  · intro hop L a w5 hs hk hl ha keep know spec
                    have h133 := know 133 (.pointer (some ⟨hb', 3, none⟩)) (by kernel_rfl) rfl
                    exact wpOp_value hop (wanted_none rfl) (v := .int .i64 hmo) (by simp only [execOp, Act.eval, h133]; exact run_v hk.loadh) ⟨_, rfl, hk.go (by decide), (fun d hd => by injection hd with hd; subst hd; exact ⟨tab rfl, trivial⟩), fun _ _ _ => trivial⟩
                  · intro hop L a w5 hs hk hl ha keep know spec
                    have h127 := know 127 (.map (some m)) (by kernel_rfl) rfl
                    have h134 := know 134 (.int .i64 hmo) (by kernel_rfl) rfl
                    exact wpOp_value hop (wanted_none rfl) (v := .pointer (some ⟨e1.b, 0, none⟩)) (by simp only [execOp, Act.eval, h127, h134]; exact run_v (hk.look HE1.out HK1.out rfl)) ⟨_, rfl, hk.go (by decide), (fun d hd => by injection hd with hd; subst hd; exact ⟨tab rfl, trivial⟩), fun _ _ _ => trivial⟩
                  · intro hop L a w5 hs hk hl ha keep know spec
                    have h135 := know 135 (.pointer (some ⟨e1.b, 0, none⟩)) (by kernel_rfl) rfl
                    exact wpOp_value hop (wanted_none rfl) (v := .pointer (some ⟨e1.b, 0, none⟩)) (by simp only [execOp, Act.eval, h135]; go_simp) ⟨_, rfl, hk.go (by decide), (fun d hd => by injection hd with hd; subst hd; exact ⟨tab rfl, trivial⟩), fun _ _ _ => trivial⟩
                  · intro hop L a w5 hs hk hl ha keep know spec
                    have h136 := know 136 (.pointer (some ⟨e1.b, 0, none⟩)) (by kernel_rfl) rfl
                    exact wpOp_value hop (wanted_none rfl) (v := .pointer (some ⟨e1.b, 3, none⟩)) (by simp only [execOp, Act.eval, h136]; go_simp) ⟨_, rfl, hk.go (by decide), (fun d hd => by injection hd with hd; subst hd; exact ⟨tab rfl, trivial⟩), fun _ _ _ => trivial⟩
                  · intro hop L a w5 hs hk hl ha keep know spec
                    have h137 := know 137 (.pointer (some ⟨e1.b, 3, none⟩)) (by kernel_rfl) rfl
                    exact wpOp_value hop (wanted_none rfl) (v := .int .i64 ymo) (by simp only [execOp, Act.eval, h137]; exact run_v hk.loade) ⟨_, rfl, hk.go (by decide), (fun d hd => by injection hd with hd; subst hd; exact ⟨tab rfl, trivial⟩), fun _ _ _ => trivial⟩
                  · intro hop L a w5 hs hk hl ha keep know spec
                    have h116 := know 116 (.pointer (some ⟨b, 0, none⟩)) (by kernel_rfl) rfl
                    have h123 := know 123 (.int .i64 hmo) (by kernel_rfl) rfl
                    have h138 := know 138 (.int .i64 ymo) (by kernel_rfl) rfl
                    exact wpOp_call hop (wanted_none rfl) (by simp only [execOp, resolve, Act.eval, List.map_toArray, List.map_cons, List.map_nil, h116, h123, h138]; rfl) (HWW.out w5 hk.cell0) fun r w6 hR => by
                      obtain ⟨rfl, rfl⟩ := hR
                      exact ⟨_, rfl, _, rfl, hk.go (by decide), (fun d hd => by injection hd with hd; subst hd; exact ⟨tab rfl, trivial⟩), fun _ _ _ => trivial⟩
                  · intro hop L a w5 hs hk hl ha keep know spec
                    have h115 := know 115 (.pointer (some ⟨b, 0, none⟩)) (by kernel_rfl) rfl
                    exact wpOp_value hop (wanted_none rfl) (v := .pointer (some ⟨b, 0, none⟩)) (by simp only [execOp, Act.eval, h115]; go_simp) ⟨_, rfl, hk.go (by decide), (fun d hd => by injection hd with hd; subst hd; exact ⟨tab rfl, trivial⟩), fun _ _ _ => trivial⟩
                  · intro hop L a w5 hs hk hl ha keep know spec
                    have h140 := know 140 (.pointer (some ⟨b, 0, none⟩)) (by kernel_rfl) rfl
                    exact wpOp_value hop (wanted_none rfl) (v := .pointer (some ⟨b, 3, none⟩)) (by simp only [execOp, Act.eval, h140]; go_simp) ⟨_, rfl, hk.go (by decide), (fun d hd => by injection hd with hd; subst hd; exact ⟨tab rfl, trivial⟩), fun _ _ _ => trivial⟩
                  · intro hop L a w5 hs hk hl ha keep know spec
                    have h141 := know 141 (.pointer (some ⟨b, 3, none⟩)) (by kernel_rfl) rfl
                    have h139 := know 139 (.int .i64 mo9) (by kernel_rfl) rfl
                    exact wpOp_skip hop (wanted_none rfl) (by simp only [execOp, Act.eval, h141, h139]; exact run_u hk.run_store) ⟨_, rfl, hk.store, (fun d hd => by cases hd), fun _ _ _ => trivial⟩
                · intro a' w5 e1 e2 hk keep know spec
                  obtain ⟨tm, df⟩ := a'
                  obtain ⟨f, hf⟩ := frame_puts (D := [115, 116, 117, 118, 119, 120, 121, 122, 123, 124, 125, 126, 127, 128, 129, 130, 131, 132, 133, 134, 135, 136, 137, 138, 139, 140, 141]) e2 keep
                  have e1' : df = [] := e1
                  clear keep know spec e1 e2
                  simp only [List.foldl_cons, List.foldl_nil] at hf
                  subst e1'
                  have he := hk.end_
                  clear hk
                  rw [hf]
                  clear hf
                  have HRES := hide (he.1.hr HBF2.out HPE.out)
                  have HK6 : Hid (Kf (fun i => i ∈ F) w w5) := hide (HK5.out.trans he.2 fun i _ e => by have := HBF.out; rw [e]; exact this)
                  clear he
                  go_wp2
                  exact bodyPost_end (v := .tuple #[]) (by simp [results, Try.results32, go_sem]) rfl ⟨rfl, _, HRES.out, HFE.out, HK6.out⟩
            · have dz : (x == mo) = false := by simpa using hz
              have HRES := hide (HQE.out.hr (HB0.out.cut HLM.out.1 HLM.out.2 (HMO.out hz) (fun v hv => (HB0.out.2.2.2 rfl).2.2 v (delU_mem.1 hv).1 |>.2)) HPE.out)
              clear hz
              go_wp2
              exact bodyPost_end (v := .tuple #[]) (by simp [results, Try.results32, go_sem]) rfl ⟨rfl, _, HRES.out, HFE.out, HKE.out⟩
          · obtain ⟨_, _, p1, _⟩ := HRD.out.look_some (by rw [← HD.out]; exact hDe)
            have HPE := hide (HPC.out _ (by rw [if_neg (by rw [← HD.out]; exact hDe)]))
            have HQE : Hid _ := HQ8
            have HFE : Hid _ := HF8
            have HKE : Hid _ := HK8
            clear hDe
            have HNE := hide HQE.out.ne
            have ca2 := HQE.out.1.cell 2
            have ca3 := HQE.out.1.cell 3
            have ca5 := HQE.out.1.cell 5
            have fa3 := HQE.out.1.frozen 3
            simp only [hC, List.getElem?_cons_zero, List.getElem?_cons_succ] at ca2 ca3 ca5
            by_cases hz : x = mo
            · have dz : (x == mo) = true := by simp [hz]
              have HQ5 := hide (HQE.out.cells (le' := le) (mo' := le) (Kf.set (F := fun i => i = b) (p := ⟨b, 3, none⟩) (u := .int .i64 le) (Kf.refl _ _) (.inl rfl)) (HQE.out.1.set (j := 3) (u := .int .i64 le)))
              have HK5 : Hid (Kf (fun i => i ∈ F) w ((w7).setCell ⟨b, 3, none⟩ (.int .i64 le))) := hide (HKE.out.set (.inl HBF.out))
              have HZM := hide hz
              clear hz
              by_cases hhs : Hs = []
              · have h1 := (hhs ▸ HQ5.out.2.2.1).look_none
                have HRES := hide (HQ5.out.hr (HB0.out.cut HLM.out.1 HLM.out.2 HLM.out.1 (fun v hv => by
                  refine Int.not_lt.1 fun hlt => ?_
                  exact HPE.out.some_high (fun v hv => HB0.out.2.1 v (delU_mem.1 hv).1) hv (by omega) hhs)) HPE.out)
                clear hhs
                go_wp2
                exact bodyPost_end (v := .tuple #[]) (by simp [results, Try.results32, go_sem]) rfl ⟨rfl, _, HRES.out, HFE.out, HK5.out⟩
              · obtain ⟨hle, hmo, h1, _, h3, h4, h5, h6, h7⟩ := HQ5.out.2.2.1.look_some hhs
                obtain ⟨e1, he1, k1, k2⟩ := (HPE.out.2 hmo).1 h5
                obtain ⟨yle, ymo, _, _, y3, y4, y5, y6, y7⟩ := (HQ5.out.2.2.2.1 e1 he1).1.look_some k2
                obtain ⟨mo9, hmo9⟩ : ∃ mo9, mo9 = hmo * UU n + ymo := ⟨_, rfl⟩
                have HWW : Hid (∀ W (k : W.cell? ⟨b, 0, none⟩ = some (.int .i64 ((2 ^ (n + 1) : Nat) : Int))), Calls Try.prog 43 #[.pointer (some ⟨b, 0, none⟩), .int .i64 hmo, .int .i64 ymo] W (fun e w' => e = .returned (.int .i64 mo9) ∧ W = w')) := hide (fun W k => by
                  rw [hmo9]
                  exact whole_any n (by omega) b hmo ymo W k (h7 hmo h5).1 (h7 hmo h5).2 (y7 ymo y5).1 (y7 ymo y5).2)
                have hms := HPE.out.most (fun v hv => HB0.out.2.1 v (delU_mem.1 hv).1) HQ5.out.2.2.2.2.1 (fun q hq => by rw [k1]; exact (h6 q hq).2) he1 y5 (fun v hv => (y6 v hv).2) (y7 ymo y5).1 (y7 ymo y5).2
                rw [k1, ← hmo9] at hms
                have HBF2 := hide (HB0.out.cut HLM.out.1 HLM.out.2 hms.1.1 (fun v hv => by
                  by_cases e : v = le
                  · rw [e]; exact HLM.out.2 _ hms.1.1
                  · exact hms.2 v hv e))
                have HE1 := hide he1
                have HK1 := hide k1
                have HJ := hide (J15.start (mo' := mo9) HQ5.out h3 he1 y3)
                clear hms hhs he1 k1 k2 h4 h5 h6 h7 y4 y5 y6 y7 hmo9
                go_wp2_with fail
                refine wp_region_tab (by kernel_rfl) [(115, .pointer (some ⟨b, 0, none⟩)), (116, .pointer (some ⟨b, 0, none⟩)), (117, .pointer (some ⟨b, 0, none⟩)), (118, .pointer (some ⟨b, 0, none⟩)), (119, .pointer (some ⟨b, 5, none⟩)), (120, .pointer (some ⟨hb', 0, none⟩)), (121, .pointer (some ⟨hb', 0, none⟩)), (122, .pointer (some ⟨hb', 3, none⟩)), (123, .int .i64 hmo), (124, .pointer (some ⟨b, 0, none⟩)), (125, .pointer (some ⟨b, 0, none⟩)), (126, .pointer (some ⟨b, 4, none⟩)), (127, .map (some m)), (128, .pointer (some ⟨b, 0, none⟩)), (129, .pointer (some ⟨b, 0, none⟩)), (130, .pointer (some ⟨b, 5, none⟩)), (131, .pointer (some ⟨hb', 0, none⟩)), (132, .pointer (some ⟨hb', 0, none⟩)), (133, .pointer (some ⟨hb', 3, none⟩)), (134, .int .i64 hmo), (135, .pointer (some ⟨e1.b, 0, none⟩)), (136, .pointer (some ⟨e1.b, 0, none⟩)), (137, .pointer (some ⟨e1.b, 3, none⟩)), (138, .int .i64 ymo), (139, .int .i64 mo9), (140, .pointer (some ⟨b, 0, none⟩)), (141, .pointer (some ⟨b, 3, none⟩))] (fun _ _ _ => True) (J15 57 ((w7).setCell ⟨b, 3, none⟩ (.int .i64 le)) b n F8 le m hb' (Hs) _ _ e1.b hmo ymo mo9) HJ.out (by kernel_rfl) (by kernel_rfl) ?_ ?_
                · refine ⟨?_, ?_, ?_, ?_, ?_, ?_, ?_, ?_, ?_, ?_, ?_, ?_, ?_, ?_, ?_, ?_, ?_, ?_, ?_, ?_, ?_, ?_, ?_, ?_, ?_, ?_, ?_, ?_, trivial⟩
                  · intro hop L a w5 hs hk hl ha keep know spec
                    have h0 := keep 0 (.pointer (some ⟨b, 0, none⟩)) (by kernel_rfl) rfl
                    exact wpOp_value hop (wanted_none rfl) (v := .pointer (some ⟨b, 0, none⟩)) (by simp only [execOp, Act.eval, h0]; rfl) ⟨_, rfl, hk.go (by decide), (fun d hd => by injection hd with hd; subst hd; exact ⟨tab rfl, trivial⟩), fun _ _ _ => trivial⟩
                  · intro hop L a w5 hs hk hl ha keep know spec
                    have h0 := keep 0 (.pointer (some ⟨b, 0, none⟩)) (by kernel_rfl) rfl
                    exact wpOp_value hop (wanted_none rfl) (v := .pointer (some ⟨b, 0, none⟩)) (by simp only [execOp, Act.eval, h0]; rfl) ⟨_, rfl, hk.go (by decide), (fun d hd => by injection hd with hd; subst hd; exact ⟨tab rfl, trivial⟩), fun _ _ _ => trivial⟩
                  · intro hop L a w5 hs hk hl ha keep know spec
                    have h0 := keep 0 (.pointer (some ⟨b, 0, none⟩)) (by kernel_rfl) rfl
                    exact wpOp_value hop (wanted_none rfl) (v := .pointer (some ⟨b, 0, none⟩)) (by simp only [execOp, Act.eval, h0]; rfl) ⟨_, rfl, hk.go (by decide), (fun d hd => by injection hd with hd; subst hd; exact ⟨tab rfl, trivial⟩), fun _ _ _ => trivial⟩
                  · intro hop L a w5 hs hk hl ha keep know spec
                    have h117 := know 117 (.pointer (some ⟨b, 0, none⟩)) (by kernel_rfl) rfl
                    exact wpOp_value hop (wanted_none rfl) (v := .pointer (some ⟨b, 0, none⟩)) (by simp only [execOp, Act.eval, h117]; go_simp) ⟨_, rfl, hk.go (by decide), (fun d hd => by injection hd with hd; subst hd; exact ⟨tab rfl, trivial⟩), fun _ _ _ => trivial⟩
                  · intro hop L a w5 hs hk hl ha keep know spec
                    have h118 := know 118 (.pointer (some ⟨b, 0, none⟩)) (by kernel_rfl) rfl
                    exact wpOp_value hop (wanted_none rfl) (v := .pointer (some ⟨b, 5, none⟩)) (by simp only [execOp, Act.eval, h118]; go_simp) ⟨_, rfl, hk.go (by decide), (fun d hd => by injection hd with hd; subst hd; exact ⟨tab rfl, trivial⟩), fun _ _ _ => trivial⟩
                  · intro hop L a w5 hs hk hl ha keep know spec
                    have h119 := know 119 (.pointer (some ⟨b, 5, none⟩)) (by kernel_rfl) rfl
                    exact wpOp_value hop (wanted_none rfl) (v := .pointer (some ⟨hb', 0, none⟩)) (by simp only [execOp, Act.eval, h119]; exact run_v hk.load5) ⟨_, rfl, hk.go (by decide), (fun d hd => by injection hd with hd; subst hd; exact ⟨tab rfl, trivial⟩), fun _ _ _ => trivial⟩
                  · intro hop L a w5 hs hk hl ha keep know spec
                    have h120 := know 120 (.pointer (some ⟨hb', 0, none⟩)) (by kernel_rfl) rfl
                    exact wpOp_value hop (wanted_none rfl) (v := .pointer (some ⟨hb', 0, none⟩)) (by simp only [execOp, Act.eval, h120]; go_simp) ⟨_, rfl, hk.go (by decide), (fun d hd => by injection hd with hd; subst hd; exact ⟨tab rfl, trivial⟩), fun _ _ _ => trivial⟩
                  · intro hop L a w5 hs hk hl ha keep know spec
                    have h121 := know 121 (.pointer (some ⟨hb', 0, none⟩)) (by kernel_rfl) rfl
                    exact wpOp_value hop (wanted_none rfl) (v := .pointer (some ⟨hb', 3, none⟩)) (by simp only [execOp, Act.eval, h121]; go_simp) ⟨_, rfl, hk.go (by decide), (fun d hd => by injection hd with hd; subst hd; exact ⟨tab rfl, trivial⟩), fun _ _ _ => trivial⟩
                  · intro hop L a w5 hs hk hl ha keep know spec
                    have h122 := know 122 (.pointer (some ⟨hb', 3, none⟩)) (by kernel_rfl) rfl
                    exact wpOp_value hop (wanted_none rfl) (v := .int .i64 hmo) (by simp only [execOp, Act.eval, h122]; exact run_v hk.loadh) ⟨_, rfl, hk.go (by decide), (fun d hd => by injection hd with hd; subst hd; exact ⟨tab rfl, trivial⟩), fun _ _ _ => trivial⟩
                  · intro hop L a w5 hs hk hl ha keep know spec
                    have h0 := keep 0 (.pointer (some ⟨b, 0, none⟩)) (by kernel_rfl) rfl
                    exact wpOp_value hop (wanted_none rfl) (v := .pointer (some ⟨b, 0, none⟩)) (by simp only [execOp, Act.eval, h0]; rfl) ⟨_, rfl, hk.go (by decide), (fun d hd => by injection hd with hd; subst hd; exact ⟨tab rfl, trivial⟩), fun _ _ _ => trivial⟩
                  · intro hop L a w5 hs hk hl ha keep know spec
                    have h124 := know 124 (.pointer (some ⟨b, 0, none⟩)) (by kernel_rfl) rfl
                    exact wpOp_value hop (wanted_none rfl) (v := .pointer (some ⟨b, 0, none⟩)) (by simp only [execOp, Act.eval, h124]; go_simp) ⟨_, rfl, hk.go (by decide), (fun d hd => by injection hd with hd; subst hd; exact ⟨tab rfl, trivial⟩), fun _ _ _ => trivial⟩
                  · intro hop L a w5 hs hk hl ha keep know spec
                    have h125 := know 125 (.pointer (some ⟨b, 0, none⟩)) (by kernel_rfl) rfl
                    exact wpOp_value hop (wanted_none rfl) (v := .pointer (some ⟨b, 4, none⟩)) (by simp only [execOp, Act.eval, h125]; go_simp) ⟨_, rfl, hk.go (by decide), (fun d hd => by injection hd with hd; subst hd; exact ⟨tab rfl, trivial⟩), fun _ _ _ => trivial⟩
                  · intro hop L a w5 hs hk hl ha keep know spec
                    have h126 := know 126 (.pointer (some ⟨b, 4, none⟩)) (by kernel_rfl) rfl
                    exact wpOp_value hop (wanted_none rfl) (v := .map (some m)) (by simp only [execOp, Act.eval, h126]; exact run_v hk.load4) ⟨_, rfl, hk.go (by decide), (fun d hd => by injection hd with hd; subst hd; exact ⟨tab rfl, trivial⟩), fun _ _ _ => trivial⟩
                  · intro hop L a w5 hs hk hl ha keep know spec
                    have h0 := keep 0 (.pointer (some ⟨b, 0, none⟩)) (by kernel_rfl) rfl
                    exact wpOp_value hop (wanted_none rfl) (v := .pointer (some ⟨b, 0, none⟩)) (by simp only [execOp, Act.eval, h0]; rfl) ⟨_, rfl, hk.go (by decide), (fun d hd => by injection hd with hd; subst hd; exact ⟨tab rfl, trivial⟩), fun _ _ _ => trivial⟩
                  · intro hop L a w5 hs hk hl ha keep know spec
                    have h128 := know 128 (.pointer (some ⟨b, 0, none⟩)) (by kernel_rfl) rfl
                    exact wpOp_value hop (wanted_none rfl) (v := .pointer (some ⟨b, 0, none⟩)) (by simp only [execOp, Act.eval, h128]; go_simp) ⟨_, rfl, hk.go (by decide), (fun d hd => by injection hd with hd; subst hd; exact ⟨tab rfl, trivial⟩), fun _ _ _ => trivial⟩
                  · intro hop L a w5 hs hk hl ha keep know spec
                    have h129 := know 129 (.pointer (some ⟨b, 0, none⟩)) (by kernel_rfl) rfl
                    exact wpOp_value hop (wanted_none rfl) (v := .pointer (some ⟨b, 5, none⟩)) (by simp only [execOp, Act.eval, h129]; go_simp) ⟨_, rfl, hk.go (by decide), (fun d hd => by injection hd with hd; subst hd; exact ⟨tab rfl, trivial⟩), fun _ _ _ => trivial⟩
                  · intro hop L a w5 hs hk hl ha keep know spec
                    have h130 := know 130 (.pointer (some ⟨b, 5, none⟩)) (by kernel_rfl) rfl
                    exact wpOp_value hop (wanted_none rfl) (v := .pointer (some ⟨hb', 0, none⟩)) (by simp only [execOp, Act.eval, h130]; exact run_v hk.load5) ⟨_, rfl, hk.go (by decide), (fun d hd => by injection hd with hd; subst hd; exact ⟨tab rfl, trivial⟩), fun _ _ _ => trivial⟩
                  · intro hop L a w5 hs hk hl ha keep know spec
                    have h131 := know 131 (.pointer (some ⟨hb', 0, none⟩)) (by kernel_rfl) rfl
                    exact wpOp_value hop (wanted_none rfl) (v := .pointer (some ⟨hb', 0, none⟩)) (by simp only [execOp, Act.eval, h131]; go_simp) ⟨_, rfl, hk.go (by decide), (fun d hd => by injection hd with hd; subst hd; exact ⟨tab rfl, trivial⟩), fun _ _ _ => trivial⟩
                  · intro hop L a w5 hs hk hl ha keep know spec
                    have h132 := know 132 (.pointer (some ⟨hb', 0, none⟩)) (by kernel_rfl) rfl
                    exact wpOp_value hop (wanted_none rfl) (v := .pointer (some ⟨hb', 3, none⟩)) (by simp only [execOp, Act.eval, h132]; go_simp) ⟨_, rfl, hk.go (by decide), (fun d hd => by injection hd with hd; subst hd; exact ⟨tab rfl, trivial⟩), fun _ _ _ => trivial⟩
                  · intro hop L a w5 hs hk hl ha keep know spec
                    have h133 := know 133 (.pointer (some ⟨hb', 3, none⟩)) (by kernel_rfl) rfl
                    exact wpOp_value hop (wanted_none rfl) (v := .int .i64 hmo) (by simp only [execOp, Act.eval, h133]; exact run_v hk.loadh) ⟨_, rfl, hk.go (by decide), (fun d hd => by injection hd with hd; subst hd; exact ⟨tab rfl, trivial⟩), fun _ _ _ => trivial⟩
                  · intro hop L a w5 hs hk hl ha keep know spec
                    have h127 := know 127 (.map (some m)) (by kernel_rfl) rfl
                    have h134 := know 134 (.int .i64 hmo) (by kernel_rfl) rfl
                    exact wpOp_value hop (wanted_none rfl) (v := .pointer (some ⟨e1.b, 0, none⟩)) (by simp only [execOp, Act.eval, h127, h134]; exact run_v (hk.look HE1.out HK1.out rfl)) ⟨_, rfl, hk.go (by decide), (fun d hd => by injection hd with hd; subst hd; exact ⟨tab rfl, trivial⟩), fun _ _ _ => trivial⟩
                  · intro hop L a w5 hs hk hl ha keep know spec
                    have h135 := know 135 (.pointer (some ⟨e1.b, 0, none⟩)) (by kernel_rfl) rfl
                    exact wpOp_value hop (wanted_none rfl) (v := .pointer (some ⟨e1.b, 0, none⟩)) (by simp only [execOp, Act.eval, h135]; go_simp) ⟨_, rfl, hk.go (by decide), (fun d hd => by injection hd with hd; subst hd; exact ⟨tab rfl, trivial⟩), fun _ _ _ => trivial⟩
                  · intro hop L a w5 hs hk hl ha keep know spec
                    have h136 := know 136 (.pointer (some ⟨e1.b, 0, none⟩)) (by kernel_rfl) rfl
                    exact wpOp_value hop (wanted_none rfl) (v := .pointer (some ⟨e1.b, 3, none⟩)) (by simp only [execOp, Act.eval, h136]; go_simp) ⟨_, rfl, hk.go (by decide), (fun d hd => by injection hd with hd; subst hd; exact ⟨tab rfl, trivial⟩), fun _ _ _ => trivial⟩
                  · intro hop L a w5 hs hk hl ha keep know spec
                    have h137 := know 137 (.pointer (some ⟨e1.b, 3, none⟩)) (by kernel_rfl) rfl
                    exact wpOp_value hop (wanted_none rfl) (v := .int .i64 ymo) (by simp only [execOp, Act.eval, h137]; exact run_v hk.loade) ⟨_, rfl, hk.go (by decide), (fun d hd => by injection hd with hd; subst hd; exact ⟨tab rfl, trivial⟩), fun _ _ _ => trivial⟩
                  · intro hop L a w5 hs hk hl ha keep know spec
                    have h116 := know 116 (.pointer (some ⟨b, 0, none⟩)) (by kernel_rfl) rfl
                    have h123 := know 123 (.int .i64 hmo) (by kernel_rfl) rfl
                    have h138 := know 138 (.int .i64 ymo) (by kernel_rfl) rfl
                    exact wpOp_call hop (wanted_none rfl) (by simp only [execOp, resolve, Act.eval, List.map_toArray, List.map_cons, List.map_nil, h116, h123, h138]; rfl) (HWW.out w5 hk.cell0) fun r w6 hR => by
                      obtain ⟨rfl, rfl⟩ := hR
                      exact ⟨_, rfl, _, rfl, hk.go (by decide), (fun d hd => by injection hd with hd; subst hd; exact ⟨tab rfl, trivial⟩), fun _ _ _ => trivial⟩
                  · intro hop L a w5 hs hk hl ha keep know spec
                    have h115 := know 115 (.pointer (some ⟨b, 0, none⟩)) (by kernel_rfl) rfl
                    exact wpOp_value hop (wanted_none rfl) (v := .pointer (some ⟨b, 0, none⟩)) (by simp only [execOp, Act.eval, h115]; go_simp) ⟨_, rfl, hk.go (by decide), (fun d hd => by injection hd with hd; subst hd; exact ⟨tab rfl, trivial⟩), fun _ _ _ => trivial⟩
                  · intro hop L a w5 hs hk hl ha keep know spec
                    have h140 := know 140 (.pointer (some ⟨b, 0, none⟩)) (by kernel_rfl) rfl
                    exact wpOp_value hop (wanted_none rfl) (v := .pointer (some ⟨b, 3, none⟩)) (by simp only [execOp, Act.eval, h140]; go_simp) ⟨_, rfl, hk.go (by decide), (fun d hd => by injection hd with hd; subst hd; exact ⟨tab rfl, trivial⟩), fun _ _ _ => trivial⟩
                  · intro hop L a w5 hs hk hl ha keep know spec
                    have h141 := know 141 (.pointer (some ⟨b, 3, none⟩)) (by kernel_rfl) rfl
                    have h139 := know 139 (.int .i64 mo9) (by kernel_rfl) rfl
                    exact wpOp_skip hop (wanted_none rfl) (by simp only [execOp, Act.eval, h141, h139]; exact run_u hk.run_store) ⟨_, rfl, hk.store, (fun d hd => by cases hd), fun _ _ _ => trivial⟩
                · intro a' w5 e1 e2 hk keep know spec
                  obtain ⟨tm, df⟩ := a'
                  obtain ⟨f, hf⟩ := frame_puts (D := [115, 116, 117, 118, 119, 120, 121, 122, 123, 124, 125, 126, 127, 128, 129, 130, 131, 132, 133, 134, 135, 136, 137, 138, 139, 140, 141]) e2 keep
                  have e1' : df = [] := e1
                  clear keep know spec e1 e2
                  simp only [List.foldl_cons, List.foldl_nil] at hf
                  subst e1'
                  have he := hk.end_
                  clear hk
                  rw [hf]
                  clear hf
                  have HRES := hide (he.1.hr HBF2.out HPE.out)
                  have HK6 : Hid (Kf (fun i => i ∈ F) w w5) := hide (HK5.out.trans he.2 fun i _ e => by have := HBF.out; rw [e]; exact this)
                  clear he
                  go_wp2
                  exact bodyPost_end (v := .tuple #[]) (by simp [results, Try.results32, go_sem]) rfl ⟨rfl, _, HRES.out, HFE.out, HK6.out⟩
            · have dz : (x == mo) = false := by simpa using hz
              have HRES := hide (HQE.out.hr (HB0.out.cut HLM.out.1 HLM.out.2 (HMO.out hz) (fun v hv => (HB0.out.2.2.2 rfl).2.2 v (delU_mem.1 hv).1 |>.2)) HPE.out)
              clear hz
              go_wp2
              exact bodyPost_end (v := .tuple #[]) (by simp [results, Try.results32, go_sem]) rfl ⟨rfl, _, HRES.out, HFE.out, HKE.out⟩
end Go.Proofs.Ytmhabjjabdambaa
