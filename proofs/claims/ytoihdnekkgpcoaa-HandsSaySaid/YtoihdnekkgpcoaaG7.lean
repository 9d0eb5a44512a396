/-
  The closure that looks, of one that marks: farther, on to the deed, not so, from the beginning. Conditions: the table lies as WN says.
  The closure that looks, of one that marks: what bears a mark. Conditions: the table lies as WN says.
  The closure that looks, of one that marks: whether the key is there. Conditions: the table lies as WN says.
-/
import Derived.Test.YtoihdnekkgpcoaaG6
import Derived.Test.YtoihdnekkgpcoaaG5

namespace Go.Proofs.Ytoihdnekkgpcoaa
open Go.ChangeShapes Go.WideShapes Go.ChangeAt Go.RowKit
set_option linter.unusedVariables false
set_option linter.unusedSimpArgs false

variable {L : Lay} {s : St} {dv : Nat → Value} {w w' : World}
set_option maxRecDepth 100000 in
set_option maxHeartbeats 4000000 in
theorem mk3_on (h : WN L s dv w) {i : Nat} (hi : i < L.nh) {d : Dd} (nv : Bool) (hd : (L.P i)[s.deed i]? = some d) (hp : (s.hd i).plc = 1) (hk : s.m.ky (s.hd i).c ≠ 10) (hmk : s.m.mr (s.hd i).c = true → d.kind = 3) (hlt : s.m.ky (s.hd i).c < d.key) {e0 e1 e2 e3 e4 e5 e6 : Nat} (he : EMk L (L.Hb i) e0 e1 e2 e3 e4 e5 e6) (hv : dv i = vMk 1 e0 e1 e2 e3 e4 e5 e6) :
    Calls Try.prog 55 #[ptr e1, ptr e6, ptr e2, ptr e4] w (CP DMk L s dv i (markS nv s.m (s.hd i) d)) := by
  have c1 := h.cst he.c1
  obtain ⟨pv, cv, bb, -, -, -, -, h4, h5, hz, -, hpc, -⟩ := h.hand hi
  obtain ⟨-, rfl, p1, p2⟩ := hpc (by omega)
  obtain ⟨b0, -, b2, -⟩ := h.bead p2
  have f5 := hz 5
  have hvn : dv i ≠ .nilFunc := by rw [hv]; exact vMk_nil _ _ _ _ _ _ _ _
  have er : markS nv s.m (s.hd i) d = (s.m, (s.hd i).on s.m, false) := by
    unfold markS; rw [hp]
    by_cases hm3 : s.m.mr (s.hd i).c = true
    · simp [hm3, hmk hm3, hlt]
    · simp [hm3, hlt]
  rw [er]
  have HK := hide (fun W (k : Kp w W) => key_quiet (h.kpw k) hi hd)
  have HKd := hide (fun W (k : Kp w W) => kind_quiet (h.kpw k) hi hd)
  have HX : ∃ R2 : World → Prop, (∀ W, Kp w W → Calls Try.prog 41 #[ptr (L.Hb i)] W (fun e w' => e = .returned (.tuple #[]) ∧ R2 w')) ∧
      (∀ w1, R2 w1 → CP DMk L s dv i (s.m, (s.hd i).on s.m, false) (.returned (.bool false)) w1) := by
    refine ⟨fun w1 => WN L { s with hd := up s.hd i ((s.hd i).on s.m) } dv w1, fun W k => on_any (h.kpw k) hi (by omega) hk, fun w1 h1 => ⟨rfl, L, dv, Lx.refl _ _, h1, fun _ _ => rfl, hvn, fun _ => ⟨e0, e1, e2, e3, e4, e5, e6, he, by show dv i = vMk (s.hd i).plc _ _ _ _ _ _ _; rw [hp]; exact hv⟩⟩⟩
  obtain ⟨R2, h11, h12⟩ := HX
  have H11 := hide h11
  have HE := hide h12
  obtain ⟨R, hR⟩ : ∃ R, R = CP DMk L s dv i (s.m, (s.hd i).on s.m, false) := ⟨_, rfl⟩
  rw [← hR] at HE ⊢
  obtain ⟨b, hb⟩ : ∃ b, b = L.B (s.hd i).c := ⟨_, rfl⟩
  obtain ⟨H, hH⟩ : ∃ b, b = L.Hb i := ⟨_, rfl⟩
  obtain ⟨K, hK⟩ : ∃ b, b = s.m.ky (s.hd i).c := ⟨_, rfl⟩
  obtain ⟨D, hD⟩ : ∃ b, b = d.key := ⟨_, rfl⟩
  obtain ⟨Q, hQ⟩ : ∃ b, b = d.kind := ⟨_, rfl⟩
  obtain ⟨MC, hMC⟩ : ∃ b, b = s.m.mr (s.hd i).c := ⟨_, rfl⟩
  rw [← hb] at h4 b0 b2
  rw [← hH] at c1 h4 h5 f5 HK HKd H11
  rw [← hK] at b0 hlt
  rw [← hD] at HK hlt
  rw [← hQ] at HKd hmk
  rw [← hMC] at b2 hmk
  have HF : Hid (∀ W, Kp w W → W.cell? ⟨e1, 0, none⟩ = some (ptr H) ∧ W.cell? ⟨H, 4, none⟩ = some (ptr b) ∧ W.cell? ⟨b, 0, none⟩ = some (.int .i64 K) ∧ W.cell? ⟨b, 2, none⟩ = some (.bool MC) ∧ W.cell? ⟨H, 5, none⟩ = some (.bool bb) ∧ W.frozen? ⟨H, 5, none⟩ = false) := hide (fun W k => ⟨k.cell c1, k.cell h4, k.cell b0, k.cell b2, k.cell h5, (k.frozen (World.block_lt_of_cell? _ _ h5)).trans f5⟩)

  clear h hi hd hp he hv hvn er hR hb hH hK hD hQ hMC hpc p1 p2 hz b2 h5 f5 hk h11 h12
  unfold ptr at *
  cases MC with
  | false =>
    go_enter Try.func55, Try.ntmps55
    go_wp2_with fail
    go_quiet ((go_at_call 40; exact Calls.quiet_of (HK.out _ (by (focus ((repeat (first | (with_reducible assumption) | (with_reducible exact Kp.refl _) | (with_reducible apply Kp.drew) | (with_reducible apply Kp.drewN) | ((with_reducible apply Kp.setR); (focus (first | (with_reducible assumption) | (simp; done) | (simp; omega)))) | (with_reducible apply Kp.alloc) | ((with_reducible apply Kp.call); (with_reducible assumption)) | ((with_reducible apply Kp.app); (with_reducible assumption)))); done))))))
    obtain ⟨w1, hw1⟩ : ∃ x, x = w.drewN nq := ⟨_, rfl⟩
    rw [← hw1]
    have kw1 : Kp w w1 := by rw [hw1]; exact (Kp.refl w).drewN
    clear hw1 c1 h4 b0
    obtain ⟨c1, h4, b0, b2, h5, f5⟩ := HF.out _ kw1
    go_wp2_with fail
    go_quiet ((go_at_call 40; exact Calls.quiet_of (HK.out _ (by (focus ((repeat (first | (with_reducible assumption) | (with_reducible exact Kp.refl _) | (with_reducible apply Kp.drew) | (with_reducible apply Kp.drewN) | ((with_reducible apply Kp.setR); (focus (first | (with_reducible assumption) | (simp; done) | (simp; omega)))) | (with_reducible apply Kp.alloc) | ((with_reducible apply Kp.call); (with_reducible assumption)) | ((with_reducible apply Kp.app); (with_reducible assumption)))); done))))))
    obtain ⟨w2, hw1⟩ : ∃ x, x = w1.drewN nq := ⟨_, rfl⟩
    rw [← hw1]
    have kw2 : Kp w w2 := by rw [hw1]; exact kw1.drewN
    clear hw1 c1 h4 b0 b2 h5 f5
    obtain ⟨c1, h4, b0, b2, h5, f5⟩ := HF.out _ kw2
    go_wp2_with fail
    refine (H11.out _ kw2).mono ?_
    rintro e wx ⟨rfl, h1⟩
    go_wp2
    exact HE.out _ h1
  | true =>
    have q3 : (Q == 3) = true := by rw [hmk rfl]; rfl
    have q3b : (Q != 3) = false := by rw [hmk rfl]; rfl
    clear hmk
    go_enter Try.func55, Try.ntmps55
    go_wp2_with fail
    go_quiet ((go_at_call 40; exact Calls.quiet_of (HK.out _ (by (focus ((repeat (first | (with_reducible assumption) | (with_reducible exact Kp.refl _) | (with_reducible apply Kp.drew) | (with_reducible apply Kp.drewN) | ((with_reducible apply Kp.setR); (focus (first | (with_reducible assumption) | (simp; done) | (simp; omega)))) | (with_reducible apply Kp.alloc) | ((with_reducible apply Kp.call); (with_reducible assumption)) | ((with_reducible apply Kp.app); (with_reducible assumption)))); done))))))
    obtain ⟨w1, hw1⟩ : ∃ x, x = w.drewN nq := ⟨_, rfl⟩
    rw [← hw1]
    have kw1 : Kp w w1 := by rw [hw1]; exact (Kp.refl w).drewN
    clear hw1 c1 h4 b0
    obtain ⟨c1, h4, b0, b2, h5, f5⟩ := HF.out _ kw1
    go_wp2_with fail
    refine (HKd.out _ kw1).mono ?_
    rintro e w2x ⟨rfl, m2, rfl⟩
    obtain ⟨w2, hw1⟩ : ∃ x, x = w1.drewN m2 := ⟨_, rfl⟩
    rw [← hw1]
    have kw2 : Kp w w2 := by rw [hw1]; exact kw1.drewN
    clear hw1 c1 h4 b0 b2 h5 f5
    obtain ⟨c1, h4, b0, b2, h5, f5⟩ := HF.out _ kw2
    go_wp2_with fail
    go_quiet ((go_at_call 40; exact Calls.quiet_of (HK.out _ (by (focus ((repeat (first | (with_reducible assumption) | (with_reducible exact Kp.refl _) | (with_reducible apply Kp.drew) | (with_reducible apply Kp.drewN) | ((with_reducible apply Kp.setR); (focus (first | (with_reducible assumption) | (simp; done) | (simp; omega)))) | (with_reducible apply Kp.alloc) | ((with_reducible apply Kp.call); (with_reducible assumption)) | ((with_reducible apply Kp.app); (with_reducible assumption)))); done))))))
    obtain ⟨w3, hw1⟩ : ∃ x, x = w2.drewN nq := ⟨_, rfl⟩
    rw [← hw1]
    have kw3 : Kp w w3 := by rw [hw1]; exact kw2.drewN
    clear hw1 c1 h4 b0 b2 h5 f5
    obtain ⟨c1, h4, b0, b2, h5, f5⟩ := HF.out _ kw3
    go_wp2_with fail
    refine (H11.out _ kw3).mono ?_
    rintro e wx ⟨rfl, h1⟩
    go_wp2
    exact HE.out _ h1
set_option maxRecDepth 100000 in
set_option maxHeartbeats 4000000 in
theorem mk3_no (h : WN L s dv w) {i : Nat} (hi : i < L.nh) {d : Dd} (nv : Bool) (hd : (L.P i)[s.deed i]? = some d) (hp : (s.hd i).plc = 1) (hmc : s.m.mr (s.hd i).c = false) (hlt : ¬ s.m.ky (s.hd i).c < d.key) (hk3 : d.kind ≠ 3) (heq : decide (s.m.ky (s.hd i).c = d.key) = decide (d.kind = 1)) {e0 e1 e2 e3 e4 e5 e6 : Nat} (he : EMk L (L.Hb i) e0 e1 e2 e3 e4 e5 e6) (hv : dv i = vMk 1 e0 e1 e2 e3 e4 e5 e6) :
    Calls Try.prog 55 #[ptr e1, ptr e6, ptr e2, ptr e4] w (CP DMk L s dv i (markS nv s.m (s.hd i) d)) := by
  have c1 := h.cst he.c1
  obtain ⟨pv, cv, bb, -, -, -, -, h4, h5, hz, -, hpc, -⟩ := h.hand hi
  obtain ⟨-, rfl, p1, p2⟩ := hpc (by omega)
  obtain ⟨b0, -, b2, -⟩ := h.bead p2
  have f5 := hz 5
  have hvn : dv i ≠ .nilFunc := by rw [hv]; exact vMk_nil _ _ _ _ _ _ _ _
  have er : markS nv s.m (s.hd i) d = (s.m, { s.hd i with is := false }, true) := by unfold markS; rw [hp]; simp [hmc, hlt, hk3, heq, hp]
  rw [er]
  have HK := hide (fun W (k : Kp w W) => key_quiet (h.kpw k) hi hd)
  have HKd := hide (fun W (k : Kp w W) => kind_quiet (h.kpw k) hi hd)
  have HE : Hid (∀ W W', Kp w W → Kp (W.setCell ⟨L.Hb i, 5, none⟩ (.bool false)) W' → CP DMk L s dv i (s.m, { s.hd i with is := false }, true) (.returned (.bool true)) W') := hide (fun W W' k k' => ⟨rfl, L, dv, Lx.refl _ _, ((h.kpw k).setis hi false).kpw k', fun _ _ => rfl, hvn, fun e => absurd e (by simp)⟩)
  obtain ⟨R, hR⟩ : ∃ R, R = CP DMk L s dv i (s.m, { s.hd i with is := false }, true) := ⟨_, rfl⟩
  rw [← hR] at HE ⊢
  obtain ⟨b, hb⟩ : ∃ b, b = L.B (s.hd i).c := ⟨_, rfl⟩
  obtain ⟨H, hH⟩ : ∃ b, b = L.Hb i := ⟨_, rfl⟩
  obtain ⟨K, hK⟩ : ∃ b, b = s.m.ky (s.hd i).c := ⟨_, rfl⟩
  obtain ⟨D, hD⟩ : ∃ b, b = d.key := ⟨_, rfl⟩
  obtain ⟨Q, hQ⟩ : ∃ b, b = d.kind := ⟨_, rfl⟩
  obtain ⟨MC, hMC⟩ : ∃ b, b = s.m.mr (s.hd i).c := ⟨_, rfl⟩
  rw [← hb] at h4 b0 b2
  rw [← hH] at c1 h4 h5 f5 HK HKd HE
  rw [← hK] at b0 hlt heq
  rw [← hD] at HK hlt heq
  rw [← hQ] at HKd hk3 heq
  rw [← hMC] at b2 hmc
  have HF : Hid (∀ W, Kp w W → W.cell? ⟨e1, 0, none⟩ = some (ptr H) ∧ W.cell? ⟨H, 4, none⟩ = some (ptr b) ∧ W.cell? ⟨b, 0, none⟩ = some (.int .i64 K) ∧ W.cell? ⟨b, 2, none⟩ = some (.bool MC) ∧ W.cell? ⟨H, 5, none⟩ = some (.bool bb) ∧ W.frozen? ⟨H, 5, none⟩ = false) := hide (fun W k => ⟨k.cell c1, k.cell h4, k.cell b0, k.cell b2, k.cell h5, (k.frozen (World.block_lt_of_cell? _ _ h5)).trans f5⟩)
  have q3 : (Q == 3) = false := beq_eq_false_iff_ne.2 hk3
  have hEQ : ((K == D) == (Q == 1)) = true := by
    have e1 : (Q == 1) = decide (Q = 1) := beq_dec Q 1
    rw [beq_dec, e1]; rw [heq]; exact beq_self_eq_true _
  clear h hi hd hp he hv hvn er hR hb hH hK hD hQ hMC hpc p1 p2 hz b2 h5 f5 hk3 heq
  unfold ptr at *
  subst hmc
  focus
    go_enter Try.func55, Try.ntmps55
    go_wp2_with fail
    go_quiet ((go_at_call 40; exact Calls.quiet_of (HK.out _ (by (focus ((repeat (first | (with_reducible assumption) | (with_reducible exact Kp.refl _) | (with_reducible apply Kp.drew) | (with_reducible apply Kp.drewN) | ((with_reducible apply Kp.setR); (focus (first | (with_reducible assumption) | (simp; done) | (simp; omega)))) | (with_reducible apply Kp.alloc) | ((with_reducible apply Kp.call); (with_reducible assumption)) | ((with_reducible apply Kp.app); (with_reducible assumption)))); done))))))
    obtain ⟨w1, hw1⟩ : ∃ x, x = w.drewN nq := ⟨_, rfl⟩
    rw [← hw1]
    have kw1 : Kp w w1 := by rw [hw1]; exact (Kp.refl w).drewN
    clear hw1 c1 h4 b0
    obtain ⟨c1, h4, b0, b2, h5, f5⟩ := HF.out _ kw1
    go_wp2_with fail
    go_quiet ((go_at_call 40; exact Calls.quiet_of (HK.out _ (by (focus ((repeat (first | (with_reducible assumption) | (with_reducible exact Kp.refl _) | (with_reducible apply Kp.drew) | (with_reducible apply Kp.drewN) | ((with_reducible apply Kp.setR); (focus (first | (with_reducible assumption) | (simp; done) | (simp; omega)))) | (with_reducible apply Kp.alloc) | ((with_reducible apply Kp.call); (with_reducible assumption)) | ((with_reducible apply Kp.app); (with_reducible assumption)))); done))))))
    obtain ⟨w2, hw1⟩ : ∃ x, x = w1.drewN nq := ⟨_, rfl⟩
    rw [← hw1]
    have kw2 : Kp w w2 := by rw [hw1]; exact kw1.drewN
    clear hw1 c1 h4 b0 b2 h5 f5
    obtain ⟨c1, h4, b0, b2, h5, f5⟩ := HF.out _ kw2
    go_wp2_with fail
    refine (HKd.out _ kw2).mono ?_
    rintro e w3x ⟨rfl, m3, rfl⟩
    obtain ⟨w3, hw1⟩ : ∃ x, x = w2.drewN m3 := ⟨_, rfl⟩
    rw [← hw1]
    have kw3 : Kp w w3 := by rw [hw1]; exact kw2.drewN
    clear hw1 c1 h4 b0 b2 h5 f5
    obtain ⟨c1, h4, b0, b2, h5, f5⟩ := HF.out _ kw3
    go_wp2_with fail
    refine (HKd.out _ kw3).mono ?_
    rintro e w4x ⟨rfl, m4, rfl⟩
    obtain ⟨w4, hw1⟩ : ∃ x, x = w3.drewN m4 := ⟨_, rfl⟩
    rw [← hw1]
    have kw4 : Kp w w4 := by rw [hw1]; exact kw3.drewN
    clear hw1 c1 h4 b0 b2 h5 f5
    obtain ⟨c1, h4, b0, b2, h5, f5⟩ := HF.out _ kw4
    go_wp2
    exact HE.out w4 _ kw4 (Kp.refl _)
set_option maxRecDepth 100000 in
set_option maxHeartbeats 4000000 in
theorem mk3_deed (h : WN L s dv w) {i : Nat} (hi : i < L.nh) {d : Dd} (nv : Bool) (hd : (L.P i)[s.deed i]? = some d) (hp : (s.hd i).plc = 1) (hmc : s.m.mr (s.hd i).c = false) (hlt : ¬ s.m.ky (s.hd i).c < d.key) (hk3 : d.kind ≠ 3) (heq : ¬ decide (s.m.ky (s.hd i).c = d.key) = decide (d.kind = 1)) {e0 e1 e2 e3 e4 e5 e6 : Nat} (he : EMk L (L.Hb i) e0 e1 e2 e3 e4 e5 e6) (hv : dv i = vMk 1 e0 e1 e2 e3 e4 e5 e6) :
    Calls Try.prog 55 #[ptr e1, ptr e6, ptr e2, ptr e4] w (CP DMk L s dv i (markS nv s.m (s.hd i) d)) := by
  have c1 := h.cst he.c1
  obtain ⟨pv, cv, bb, -, -, -, -, h4, h5, hz, -, hpc, -⟩ := h.hand hi
  obtain ⟨-, rfl, p1, p2⟩ := hpc (by omega)
  obtain ⟨b0, -, b2, -⟩ := h.bead p2
  have f5 := hz 5
  have hvn : dv i ≠ .nilFunc := by rw [hv]; exact vMk_nil _ _ _ _ _ _ _ _
  have er : markS nv s.m (s.hd i) d = (s.m, { s.hd i with plc := 2 }, false) := by unfold markS; rw [hp]; simp [hmc, hlt, hk3, heq, hp]
  rw [er]
  have HK := hide (fun W (k : Kp w W) => key_quiet (h.kpw k) hi hd)
  have HKd := hide (fun W (k : Kp w W) => kind_quiet (h.kpw k) hi hd)
  have hz2 := hz 2
  have HX : ∃ R1 : World → Prop, (∀ W, Kp w W → R1 W) ∧ (∀ w1, R1 w1 → w1.cell? ⟨e1, 0, none⟩ = some (ptr (L.Hb i)) ∧ w1.cell? ⟨e4, 0, none⟩ = some (clo 56 #[ptr e0, ptr e1, ptr e6, ptr e5, ptr e2]) ∧ (∃ x, w1.cell? ⟨L.Hb i, 2, none⟩ = some x) ∧ w1.frozen? ⟨L.Hb i, 2, none⟩ = false) ∧
      (∀ w1, R1 w1 → CP DMk L s dv i (s.m, { s.hd i with plc := 2 }, false) (.returned (.bool false)) (w1.setCell ⟨L.Hb i, 2, none⟩ (clo 56 #[ptr e0, ptr e1, ptr e6, ptr e5, ptr e2]))) := by
    refine ⟨fun w1 => WN L s dv w1, fun W k => h.kpw k, fun w1 h1 => ⟨h1.cst he.c1, h1.cst he.c4, by obtain ⟨_, _, _, _, _, x, _, _, _, y, _⟩ := h1.hand hi; exact ⟨⟨_, x⟩, y 2⟩⟩, fun w1 h1 => ?_⟩
    have h2 := h1.setdo hi (clo 56 #[ptr e0, ptr e1, ptr e6, ptr e5, ptr e2]) 2 (fun _ => by omega) hvn
    exact ⟨rfl, L, up dv i (clo 56 #[ptr e0, ptr e1, ptr e6, ptr e5, ptr e2]), Lx.refl _ _, h2, fun j hj => up_ne _ _ hj, by rw [up_same]; exact clo_nil _ _, fun _ => ⟨e0, e1, e2, e3, e4, e5, e6, he, by rw [up_same]; rfl⟩⟩
  obtain ⟨R1, h10, h12, h13⟩ := HX
  have H10 := hide h10
  have H12 := hide h12
  have HE := hide h13
  obtain ⟨R, hR⟩ : ∃ R, R = CP DMk L s dv i (s.m, { s.hd i with plc := 2 }, false) := ⟨_, rfl⟩
  rw [← hR] at HE ⊢
  obtain ⟨b, hb⟩ : ∃ b, b = L.B (s.hd i).c := ⟨_, rfl⟩
  obtain ⟨H, hH⟩ : ∃ b, b = L.Hb i := ⟨_, rfl⟩
  obtain ⟨K, hK⟩ : ∃ b, b = s.m.ky (s.hd i).c := ⟨_, rfl⟩
  obtain ⟨D, hD⟩ : ∃ b, b = d.key := ⟨_, rfl⟩
  obtain ⟨Q, hQ⟩ : ∃ b, b = d.kind := ⟨_, rfl⟩
  obtain ⟨MC, hMC⟩ : ∃ b, b = s.m.mr (s.hd i).c := ⟨_, rfl⟩
  rw [← hb] at h4 b0 b2
  rw [← hH] at c1 h4 h5 f5 HK HKd H12 HE
  rw [← hK] at b0 hlt heq
  rw [← hD] at HK hlt heq
  rw [← hQ] at HKd hk3 heq
  rw [← hMC] at b2 hmc
  have HF : Hid (∀ W, Kp w W → W.cell? ⟨e1, 0, none⟩ = some (ptr H) ∧ W.cell? ⟨H, 4, none⟩ = some (ptr b) ∧ W.cell? ⟨b, 0, none⟩ = some (.int .i64 K) ∧ W.cell? ⟨b, 2, none⟩ = some (.bool MC) ∧ W.cell? ⟨H, 5, none⟩ = some (.bool bb) ∧ W.frozen? ⟨H, 5, none⟩ = false) := hide (fun W k => ⟨k.cell c1, k.cell h4, k.cell b0, k.cell b2, k.cell h5, (k.frozen (World.block_lt_of_cell? _ _ h5)).trans f5⟩)
  have q3 : (Q == 3) = false := beq_eq_false_iff_ne.2 hk3
  have hEQ : ((K == D) == (Q == 1)) = false := by
    have e1 : (Q == 1) = decide (Q = 1) := beq_dec Q 1
    rw [beq_dec, e1]; exact beq_eq_false_iff_ne.2 heq
  clear h hi hd hp he hv hvn er hR hb hH hK hD hQ hMC hpc p1 p2 hz b2 h5 f5 hk3 heq h10 h12 h13 hz2
  unfold ptr clo at *
  subst hmc
  focus
    go_enter Try.func55, Try.ntmps55
    go_wp2_with fail
    go_quiet ((go_at_call 40; exact Calls.quiet_of (HK.out _ (by (focus ((repeat (first | (with_reducible assumption) | (with_reducible exact Kp.refl _) | (with_reducible apply Kp.drew) | (with_reducible apply Kp.drewN) | ((with_reducible apply Kp.setR); (focus (first | (with_reducible assumption) | (simp; done) | (simp; omega)))) | (with_reducible apply Kp.alloc) | ((with_reducible apply Kp.call); (with_reducible assumption)) | ((with_reducible apply Kp.app); (with_reducible assumption)))); done))))))
    obtain ⟨w1, hw1⟩ : ∃ x, x = w.drewN nq := ⟨_, rfl⟩
    rw [← hw1]
    have kw1 : Kp w w1 := by rw [hw1]; exact (Kp.refl w).drewN
    clear hw1 c1 h4 b0
    obtain ⟨c1, h4, b0, b2, h5, f5⟩ := HF.out _ kw1
    go_wp2_with fail
    go_quiet ((go_at_call 40; exact Calls.quiet_of (HK.out _ (by (focus ((repeat (first | (with_reducible assumption) | (with_reducible exact Kp.refl _) | (with_reducible apply Kp.drew) | (with_reducible apply Kp.drewN) | ((with_reducible apply Kp.setR); (focus (first | (with_reducible assumption) | (simp; done) | (simp; omega)))) | (with_reducible apply Kp.alloc) | ((with_reducible apply Kp.call); (with_reducible assumption)) | ((with_reducible apply Kp.app); (with_reducible assumption)))); done))))))
    obtain ⟨w2, hw1⟩ : ∃ x, x = w1.drewN nq := ⟨_, rfl⟩
    rw [← hw1]
    have kw2 : Kp w w2 := by rw [hw1]; exact kw1.drewN
    clear hw1 c1 h4 b0 b2 h5 f5
    obtain ⟨c1, h4, b0, b2, h5, f5⟩ := HF.out _ kw2
    go_wp2_with fail
    refine (HKd.out _ kw2).mono ?_
    rintro e w3x ⟨rfl, m3, rfl⟩
    obtain ⟨w3, hw1⟩ : ∃ x, x = w2.drewN m3 := ⟨_, rfl⟩
    rw [← hw1]
    have kw3 : Kp w w3 := by rw [hw1]; exact kw2.drewN
    clear hw1 c1 h4 b0 b2 h5 f5
    obtain ⟨c1, h4, b0, b2, h5, f5⟩ := HF.out _ kw3
    go_wp2_with fail
    refine (HKd.out _ kw3).mono ?_
    rintro e w4x ⟨rfl, m4, rfl⟩
    obtain ⟨w4, hw1⟩ : ∃ x, x = w3.drewN m4 := ⟨_, rfl⟩
    rw [← hw1]
    have kw4 : Kp w w4 := by rw [hw1]; exact kw3.drewN
    clear hw1 c1 h4 b0 b2 h5 f5
    obtain ⟨c1, h4, b0, b2, h5, f5⟩ := HF.out _ kw4
    have r1 := H10.out _ kw4
    obtain ⟨g1, g2, ⟨g3, g4⟩, g5⟩ := H12.out _ r1
    go_wp2
    exact HE.out _ r1
end Go.Proofs.Ytoihdnekkgpcoaa
namespace Go.Proofs.Ytoihdnekkgpcoaa
open Go.ChangeShapes Go.WideShapes Go.ChangeAt Go.RowKit
set_option linter.unusedVariables false
set_option linter.unusedSimpArgs false

variable {L : Lay} {s : St} {dv : Nat → Value} {w w' : World}
/-- The second bead alone. -/
theorem WN.setc (h : WN L s dv w) {i : Nat} (hi : i < L.nh) (hp : (s.hd i).plc ≠ 0) (c : Nat) (hc : c < s.m.n) : WN L { s with hd := up s.hd i { s.hd i with c := c } } dv (w.setCell ⟨L.Hb i, 4, none⟩ (ptr (L.B c))) := by
  obtain ⟨pv, cv, b, b1, b2, b3, b4⟩ := h.hn i hi
  obtain ⟨x1, x2, x3, x4⟩ := b3 hp
  refine h.updh hi (Kf.set (Kf.refl _ w) (.inl rfl)) _ s.deed dv (fun j hj => ⟨up_ne _ _ hj, rfl, rfl⟩) pv (ptr (L.B c)) b ?_ ?_ ?_
  · exact b1.set (j := 4) (u := ptr (L.B c))
  · rw [up_same]; exact fun _ => ⟨x1, rfl, x3, hc⟩
  · rw [up_same]; exact b4
set_option maxRecDepth 100000 in
set_option maxHeartbeats 4000000 in
theorem mk3_again (h : WN L s dv w) {i : Nat} (hi : i < L.nh) {d : Dd} (nv : Bool) (hd : (L.P i)[s.deed i]? = some d) (hp : (s.hd i).plc = 1) (hkp : s.m.ky (s.hd i).p ≠ 10) (hmc : s.m.mr (s.hd i).c = true) (hk3 : d.kind ≠ 3) (hcl : clean s.m (s.hd i) = false) {e0 e1 e2 e3 e4 e5 e6 : Nat} (he : EMk L (L.Hb i) e0 e1 e2 e3 e4 e5 e6) (hv : dv i = vMk 1 e0 e1 e2 e3 e4 e5 e6) :
    Calls Try.prog 55 #[ptr e1, ptr e6, ptr e2, ptr e4] w (CP DMk L s dv i (markS nv s.m (s.hd i) d)) := by
  have c1 := h.cst he.c1
  obtain ⟨pv, cv, bb, -, -, -, -, h4, h5, hz, -, hpc, -⟩ := h.hand hi
  obtain ⟨-, rfl, p1, p2⟩ := hpc (by omega)
  obtain ⟨b0, -, b2, -⟩ := h.bead p2
  have f5 := hz 5
  have hvn : dv i ≠ .nilFunc := by rw [hv]; exact vMk_nil _ _ _ _ _ _ _ _
  have er : markS nv s.m (s.hd i) d = (s.m, { s.hd i with plc := 0 }, false) := by unfold markS; rw [hp]; simp [hmc, hk3, hcl, hp]
  rw [er]
  have HK := hide (fun W (k : Kp w W) => key_quiet (h.kpw k) hi hd)
  have HKd := hide (fun W (k : Kp w W) => kind_quiet (h.kpw k) hi hd)
  have c6 := h.cst he.c6
  have HCl : Hid (∀ W, Kp w W → Calls Try.prog 53 #[ptr e1] W (fun e w' => e = .returned (.bool false) ∧ ∃ m, w' = W.drewN m)) := hide (fun W k => by have := clean_any (h.kpw k) hi (by omega) hkp he; rw [hcl] at this; exact this)
  have HX : ∃ R1 : World → Prop, (∀ W, Kp w W → R1 W) ∧ (∀ w1, R1 w1 → w1.cell? ⟨e1, 0, none⟩ = some (ptr (L.Hb i)) ∧ w1.cell? ⟨e2, 0, none⟩ = some (clo 54 #[ptr e0, ptr e1, ptr e3]) ∧ (∃ x, w1.cell? ⟨L.Hb i, 2, none⟩ = some x) ∧ w1.frozen? ⟨L.Hb i, 2, none⟩ = false) ∧
      (∀ w1, R1 w1 → CP DMk L s dv i (s.m, { s.hd i with plc := 0 }, false) (.returned (.bool false)) (w1.setCell ⟨L.Hb i, 2, none⟩ (clo 54 #[ptr e0, ptr e1, ptr e3]))) := by
    refine ⟨fun w1 => WN L s dv w1, fun W k => h.kpw k, fun w1 h1 => ⟨h1.cst he.c1, h1.cst he.c2, by obtain ⟨_, _, _, _, _, x, _, _, _, y, _⟩ := h1.hand hi; exact ⟨⟨_, x⟩, y 2⟩⟩, fun w1 h1 => ?_⟩
    have h2 := h1.setdo hi (clo 54 #[ptr e0, ptr e1, ptr e3]) 0 (fun e => absurd rfl e) hvn
    exact ⟨rfl, L, up dv i (clo 54 #[ptr e0, ptr e1, ptr e3]), Lx.refl _ _, h2, fun j hj => up_ne _ _ hj, by rw [up_same]; exact clo_nil _ _, fun _ => ⟨e0, e1, e2, e3, e4, e5, e6, he, by rw [up_same]; rfl⟩⟩
  obtain ⟨R1, h10, h12, h13⟩ := HX
  have H10 := hide h10
  have H12 := hide h12
  have HE := hide h13
  obtain ⟨R, hR⟩ : ∃ R, R = CP DMk L s dv i (s.m, { s.hd i with plc := 0 }, false) := ⟨_, rfl⟩
  rw [← hR] at HE ⊢
  obtain ⟨b, hb⟩ : ∃ b, b = L.B (s.hd i).c := ⟨_, rfl⟩
  obtain ⟨H, hH⟩ : ∃ b, b = L.Hb i := ⟨_, rfl⟩
  obtain ⟨K, hK⟩ : ∃ b, b = s.m.ky (s.hd i).c := ⟨_, rfl⟩
  obtain ⟨D, hD⟩ : ∃ b, b = d.key := ⟨_, rfl⟩
  obtain ⟨Q, hQ⟩ : ∃ b, b = d.kind := ⟨_, rfl⟩
  obtain ⟨MC, hMC⟩ : ∃ b, b = s.m.mr (s.hd i).c := ⟨_, rfl⟩
  rw [← hb] at h4 b0 b2
  rw [← hH] at c1 h4 h5 f5 HK HKd H12 HE
  rw [← hK] at b0
  rw [← hD] at HK
  rw [← hQ] at HKd hk3
  rw [← hMC] at b2 hmc
  have HF : Hid (∀ W, Kp w W → W.cell? ⟨e1, 0, none⟩ = some (ptr H) ∧ W.cell? ⟨H, 4, none⟩ = some (ptr b) ∧ W.cell? ⟨b, 0, none⟩ = some (.int .i64 K) ∧ W.cell? ⟨b, 2, none⟩ = some (.bool MC) ∧ W.cell? ⟨H, 5, none⟩ = some (.bool bb) ∧ W.frozen? ⟨H, 5, none⟩ = false) := hide (fun W k => ⟨k.cell c1, k.cell h4, k.cell b0, k.cell b2, k.cell h5, (k.frozen (World.block_lt_of_cell? _ _ h5)).trans f5⟩)
  have q3 : (Q == 3) = false := beq_eq_false_iff_ne.2 hk3
  have q3b : (Q != 3) = true := by rw [bne_dec]; exact decide_eq_true hk3
  clear h hi hd hp he hv hvn er hR hb hH hK hD hQ hMC hpc p1 p2 hz b2 h5 f5 hk3 hkp hcl h10 h12 h13
  unfold ptr clo at *
  subst hmc
  focus
    go_enter Try.func55, Try.ntmps55
    go_wp2_with fail
    go_quiet ((go_at_call 40; exact Calls.quiet_of (HK.out _ (by (focus ((repeat (first | (with_reducible assumption) | (with_reducible exact Kp.refl _) | (with_reducible apply Kp.drew) | (with_reducible apply Kp.drewN) | ((with_reducible apply Kp.setR); (focus (first | (with_reducible assumption) | (simp; done) | (simp; omega)))) | (with_reducible apply Kp.alloc) | ((with_reducible apply Kp.call); (with_reducible assumption)) | ((with_reducible apply Kp.app); (with_reducible assumption)))); done))))))
    obtain ⟨w1, hw1⟩ : ∃ x, x = w.drewN nq := ⟨_, rfl⟩
    rw [← hw1]
    have kw1 : Kp w w1 := by rw [hw1]; exact (Kp.refl w).drewN
    clear hw1 c1 h4 b0
    obtain ⟨c1, h4, b0, b2, h5, f5⟩ := HF.out _ kw1
    go_wp2_with fail
    refine (HKd.out _ kw1).mono ?_
    rintro e w2x ⟨rfl, m2, rfl⟩
    obtain ⟨w2, hw1⟩ : ∃ x, x = w1.drewN m2 := ⟨_, rfl⟩
    rw [← hw1]
    have kw2 : Kp w w2 := by rw [hw1]; exact kw1.drewN
    clear hw1 c1 h4 b0 b2 h5 f5
    obtain ⟨c1, h4, b0, b2, h5, f5⟩ := HF.out _ kw2
    have c6' : w2.cell? ⟨e6, 0, none⟩ = _ := kw2.cell c6
    go_wp2_with fail
    refine (HCl.out _ kw2).mono ?_
    rintro e wx ⟨rfl, m9, rfl⟩
    obtain ⟨w3, hw1⟩ : ∃ x, x = w2.drewN m9 := ⟨_, rfl⟩
    rw [← hw1]
    have kw3 : Kp w w3 := by rw [hw1]; exact kw2.drewN
    clear hw1 c1 h4 b0 b2 h5 f5
    obtain ⟨c1, h4, b0, b2, h5, f5⟩ := HF.out _ kw3
    have r1 := H10.out _ kw3
    obtain ⟨g1, g2, ⟨g3, g4⟩, g5⟩ := H12.out _ r1
    go_wp2
    exact HE.out _ r1
set_option maxRecDepth 100000 in
set_option maxHeartbeats 4000000 in
theorem mk3_off (h : WN L s dv w) {i : Nat} (hi : i < L.nh) {d : Dd} (nv : Bool) (hd : (L.P i)[s.deed i]? = some d) (hp : (s.hd i).plc = 1) (hkp : s.m.ky (s.hd i).p ≠ 10) (hmc : s.m.mr (s.hd i).c = true) (hk3 : d.kind ≠ 3) (hcl : clean s.m (s.hd i) = true) (hne : (s.hd i).p ≠ (s.hd i).c) (hkc : s.m.ky (s.hd i).c ≠ 10) {e0 e1 e2 e3 e4 e5 e6 : Nat} (he : EMk L (L.Hb i) e0 e1 e2 e3 e4 e5 e6) (hv : dv i = vMk 1 e0 e1 e2 e3 e4 e5 e6) :
    Calls Try.prog 55 #[ptr e1, ptr e6, ptr e2, ptr e4] w (CP DMk L s dv i (markS nv s.m (s.hd i) d)) := by
  have c1 := h.cst he.c1
  obtain ⟨pv, cv, bb, -, -, -, -, h4, h5, hz, -, hpc, -⟩ := h.hand hi
  obtain ⟨-, rfl, p1, p2⟩ := hpc (by omega)
  obtain ⟨b0, -, b2, -⟩ := h.bead p2
  have f5 := hz 5
  have hvn : dv i ≠ .nilFunc := by rw [hv]; exact vMk_nil _ _ _ _ _ _ _ _
  have er : markS nv s.m (s.hd i) d = (s.m.drop (s.hd i).p (s.hd i).c, { s.hd i with c := s.m.nx (s.hd i).c }, false) := by unfold markS; rw [hp]; simp [hmc, hk3, hcl, hp]
  rw [er]
  have HK := hide (fun W (k : Kp w W) => key_quiet (h.kpw k) hi hd)
  have HKd := hide (fun W (k : Kp w W) => kind_quiet (h.kpw k) hi hd)
  have c6 := h.cst he.c6
  have HCl : Hid (∀ W, Kp w W → Calls Try.prog 53 #[ptr e1] W (fun e w' => e = .returned (.bool true) ∧ ∃ m, w' = W.drewN m)) := hide (fun W k => by have := clean_any (h.kpw k) hi (by omega) hkp he; rw [hcl] at this; exact this)
  obtain ⟨pv', cv', bb', -, -, -, hh3, -, -, -, -, hpc2, -⟩ := h.hand hi
  obtain ⟨rfl, -⟩ := hpc2 (by omega)
  obtain ⟨-, v1, -⟩ := h.bead p2
  rw [if_neg hkc] at v1
  obtain ⟨-, u1, -, -, u4, -⟩ := h.bead p1
  rw [if_neg hkp] at u1
  have hz4 := hz 4
  have u41 := u4 1
  have n2 : ¬ L.B (s.hd i).p = L.Hb i := by obtain ⟨_, _, _, a, _⟩ := h.hn i hi; exact BC.ne (h.bd _ p1).1 a (by decide)
  have n3 : ¬ e1 = L.B (s.hd i).p := BC.ne (h.cs _ _ _ he.c1).1 (h.bd _ p1).1 (by decide)
  have n4 : ¬ L.B (s.hd i).c = L.Hb i := by obtain ⟨_, _, _, a, _⟩ := h.hn i hi; exact BC.ne (h.bd _ p2).1 a (by decide)
  have HX : ∃ R1 : World → Prop, (∀ W W', Kp w W → Kp (W.setCell ⟨L.B (s.hd i).p, 1, none⟩ (ptr (L.B (s.m.nx (s.hd i).c)))) W' → R1 W') ∧ (∀ w1, R1 w1 → w1.cell? ⟨e1, 0, none⟩ = some (ptr (L.Hb i)) ∧ w1.cell? ⟨L.Hb i, 4, none⟩ = some (ptr (L.B (s.hd i).c)) ∧ w1.cell? ⟨L.B (s.hd i).c, 1, none⟩ = some (ptr (L.B (s.m.nx (s.hd i).c))) ∧ w1.frozen? ⟨L.Hb i, 4, none⟩ = false) ∧
      (∀ w1 W, R1 w1 → Kp (w1.setCell ⟨L.Hb i, 4, none⟩ (ptr (L.B (s.m.nx (s.hd i).c)))) W → CP DMk L s dv i (s.m.drop (s.hd i).p (s.hd i).c, { s.hd i with c := s.m.nx (s.hd i).c }, false) (.returned (.bool false)) W) := by
    refine ⟨fun w1 => WN L { s with m := s.m.drop (s.hd i).p (s.hd i).c } dv w1, fun W W' k k' => ((h.kpw k).setnx p1 (h.nn _ p2) hkp).kpw k', fun w1 h1 => ?_, fun w1 W h1 k => ?_⟩
    · obtain ⟨pv2, cv2, _, _, _, _, _, y4, _, fz, _, z, _⟩ := h1.hand hi
      have z := z (by show (s.hd i).plc ≠ 0; omega)
      obtain ⟨_, t1, _⟩ := h1.bead (i := (s.hd i).c) p2
      have t1 : w1.cell? ⟨L.B (s.hd i).c, 1, none⟩ = some (if s.m.ky (s.hd i).c = 10 then .pointer none else ptr (L.B (up s.m.nx (s.hd i).p (s.m.nx (s.hd i).c) (s.hd i).c))) := t1
      rw [if_neg hkc, up_ne _ _ hne.symm] at t1
      exact ⟨h1.cst he.c1, by rw [y4, z.2.1], t1, fz 4⟩
    · exact ⟨rfl, L, dv, Lx.refl _ _, (h1.setc hi (by show (s.hd i).plc ≠ 0; omega) (s.m.nx (s.hd i).c) (h.nn _ p2)).kpw k, fun _ _ => rfl, hvn, fun _ => ⟨e0, e1, e2, e3, e4, e5, e6, he, by show dv i = vMk (s.hd i).plc _ _ _ _ _ _ _; rw [hp]; exact hv⟩⟩
  obtain ⟨R1, h10, h12, h13⟩ := HX
  have H10 := hide h10
  have H12 := hide h12
  have HE := hide h13
  obtain ⟨b9, hb9⟩ : ∃ b, b = L.B (s.hd i).p := ⟨_, rfl⟩
  obtain ⟨b8, hb8⟩ : ∃ b, b = L.B (s.m.nx (s.hd i).c) := ⟨_, rfl⟩
  obtain ⟨b7, hb7⟩ : ∃ b, b = L.B (s.m.nx (s.hd i).p) := ⟨_, rfl⟩
  rw [← hb9] at hh3 u1 u41 n2 n3 H10
  rw [← hb8] at v1 H10 H12 HE
  rw [← hb7] at u1
  have HG0 : Hid (∀ W, Kp w W → W.cell? ⟨L.Hb i, 3, none⟩ = some (ptr b9) ∧ W.cell? ⟨L.B (s.hd i).c, 1, none⟩ = some (ptr b8) ∧ W.cell? ⟨b9, 1, none⟩ = some (ptr b7) ∧ W.frozen? ⟨b9, 1, none⟩ = false) := hide (fun W k => ⟨k.cell hh3, k.cell v1, k.cell u1, (k.frozen (World.block_lt_of_cell? _ _ u1)).trans u41⟩)
  clear hh3 v1 u1 u4 u41 hz4 hpc2 hb9 hb8 hb7 h10 h12 h13
  obtain ⟨R, hR⟩ : ∃ R, R = CP DMk L s dv i (s.m.drop (s.hd i).p (s.hd i).c, { s.hd i with c := s.m.nx (s.hd i).c }, false) := ⟨_, rfl⟩
  rw [← hR] at HE ⊢
  obtain ⟨b, hb⟩ : ∃ b, b = L.B (s.hd i).c := ⟨_, rfl⟩
  obtain ⟨H, hH⟩ : ∃ b, b = L.Hb i := ⟨_, rfl⟩
  obtain ⟨K, hK⟩ : ∃ b, b = s.m.ky (s.hd i).c := ⟨_, rfl⟩
  obtain ⟨D, hD⟩ : ∃ b, b = d.key := ⟨_, rfl⟩
  obtain ⟨Q, hQ⟩ : ∃ b, b = d.kind := ⟨_, rfl⟩
  obtain ⟨MC, hMC⟩ : ∃ b, b = s.m.mr (s.hd i).c := ⟨_, rfl⟩
  rw [← hb] at h4 b0 b2 H12 HG0 n4
  rw [← hH] at c1 h4 h5 f5 HK HKd H12 HE HG0 n2 n4
  rw [← hK] at b0
  rw [← hD] at HK
  rw [← hQ] at HKd hk3
  rw [← hMC] at b2 hmc
  have HF : Hid (∀ W, Kp w W → W.cell? ⟨e1, 0, none⟩ = some (ptr H) ∧ W.cell? ⟨H, 4, none⟩ = some (ptr b) ∧ W.cell? ⟨b, 0, none⟩ = some (.int .i64 K) ∧ W.cell? ⟨b, 2, none⟩ = some (.bool MC) ∧ W.cell? ⟨H, 5, none⟩ = some (.bool bb) ∧ W.frozen? ⟨H, 5, none⟩ = false) := hide (fun W k => ⟨k.cell c1, k.cell h4, k.cell b0, k.cell b2, k.cell h5, (k.frozen (World.block_lt_of_cell? _ _ h5)).trans f5⟩)
  have q3 : (Q == 3) = false := beq_eq_false_iff_ne.2 hk3
  have q3b : (Q != 3) = true := by rw [bne_dec]; exact decide_eq_true hk3
  clear h hi hd hp he hv hvn er hR hb hH hK hD hQ hMC hpc p1 p2 hz b2 h5 f5 hk3 hkp hcl hne hkc
  unfold ptr clo at *
  subst hmc
  focus
    go_enter Try.func55, Try.ntmps55
    go_wp2_with fail
    go_quiet ((go_at_call 40; exact Calls.quiet_of (HK.out _ (by (focus ((repeat (first | (with_reducible assumption) | (with_reducible exact Kp.refl _) | (with_reducible apply Kp.drew) | (with_reducible apply Kp.drewN) | ((with_reducible apply Kp.setR); (focus (first | (with_reducible assumption) | (simp; done) | (simp; omega)))) | (with_reducible apply Kp.alloc) | ((with_reducible apply Kp.call); (with_reducible assumption)) | ((with_reducible apply Kp.app); (with_reducible assumption)))); done))))))
    obtain ⟨w1, hw1⟩ : ∃ x, x = w.drewN nq := ⟨_, rfl⟩
    rw [← hw1]
    have kw1 : Kp w w1 := by rw [hw1]; exact (Kp.refl w).drewN
    clear hw1 c1 h4 b0
    obtain ⟨c1, h4, b0, b2, h5, f5⟩ := HF.out _ kw1
    go_wp2_with fail
    refine (HKd.out _ kw1).mono ?_
    rintro e w2x ⟨rfl, m2, rfl⟩
    obtain ⟨w2, hw1⟩ : ∃ x, x = w1.drewN m2 := ⟨_, rfl⟩
    rw [← hw1]
    have kw2 : Kp w w2 := by rw [hw1]; exact kw1.drewN
    clear hw1 c1 h4 b0 b2 h5 f5
    obtain ⟨c1, h4, b0, b2, h5, f5⟩ := HF.out _ kw2
    have c6' : w2.cell? ⟨e6, 0, none⟩ = _ := kw2.cell c6
    go_wp2_with fail
    refine (HCl.out _ kw2).mono ?_
    rintro e wx ⟨rfl, m9, rfl⟩
    obtain ⟨w3, hw1⟩ : ∃ x, x = w2.drewN m9 := ⟨_, rfl⟩
    rw [← hw1]
    have kw3 : Kp w w3 := by rw [hw1]; exact kw2.drewN
    clear hw1 c1 h4 b0 b2 h5 f5
    obtain ⟨c1, h4, b0, b2, h5, f5⟩ := HF.out _ kw3
    obtain ⟨g3, g1, g5, g7⟩ := HG0.out _ kw3
    go_wp2_with fail
    go_region_law (fail)
    all_goals
      have r1 : R1 _ := H10.out w3 _ kw3 (Kp.refl _).drew
      obtain ⟨t1, t2, t3, t4⟩ := H12.out _ r1
      go_wp2_with fail
      go_region_law (fail)
      all_goals
        go_wp2
        exact HE.out _ _ r1 (Kp.refl _).drew
end Go.Proofs.Ytoihdnekkgpcoaa
namespace Go.Proofs.Ytoihdnekkgpcoaa
open Go.ChangeShapes Go.WideShapes Go.ChangeAt Go.RowKit
set_option linter.unusedVariables false
set_option linter.unusedSimpArgs false

variable {L : Lay} {s : St} {dv : Nat → Value} {w w' : World}
set_option maxRecDepth 100000 in
set_option maxHeartbeats 4000000 in
theorem mk3_hasY (h : WN L s dv w) {i : Nat} (hi : i < L.nh) {d : Dd} (nv : Bool) (hd : (L.P i)[s.deed i]? = some d) (hp : (s.hd i).plc = 1) (hlt : ¬ s.m.ky (s.hd i).c < d.key) (hk3 : d.kind = 3) (hke : s.m.ky (s.hd i).c = d.key) {e0 e1 e2 e3 e4 e5 e6 : Nat} (he : EMk L (L.Hb i) e0 e1 e2 e3 e4 e5 e6) (hv : dv i = vMk 1 e0 e1 e2 e3 e4 e5 e6) :
    Calls Try.prog 55 #[ptr e1, ptr e6, ptr e2, ptr e4] w (CP DMk L s dv i (markS nv s.m (s.hd i) d)) := by
  have c1 := h.cst he.c1
  obtain ⟨pv, cv, bb, -, -, -, -, h4, h5, hz, -, hpc, -⟩ := h.hand hi
  obtain ⟨-, rfl, p1, p2⟩ := hpc (by omega)
  obtain ⟨b0, -, b2, -⟩ := h.bead p2
  have f5 := hz 5
  have hvn : dv i ≠ .nilFunc := by rw [hv]; exact vMk_nil _ _ _ _ _ _ _ _
  have er : markS nv s.m (s.hd i) d = (s.m, { s.hd i with is := !s.m.mr (s.hd i).c }, true) := by unfold markS; rw [hp]; simp [hlt, hk3, hke, hp]
  rw [er]
  have HK := hide (fun W (k : Kp w W) => key_quiet (h.kpw k) hi hd)
  have HKd := hide (fun W (k : Kp w W) => kind_quiet (h.kpw k) hi hd)
  have HE : Hid (∀ W, Kp (w.setCell ⟨L.Hb i, 5, none⟩ (.bool (!s.m.mr (s.hd i).c))) W → CP DMk L s dv i (s.m, { s.hd i with is := !s.m.mr (s.hd i).c }, true) (.returned (.bool true)) W) := hide (fun W k => ⟨rfl, L, dv, Lx.refl _ _, (h.setis hi (!s.m.mr (s.hd i).c)).kpw k, fun _ _ => rfl, hvn, fun e => absurd e (by simp)⟩)
  have n1 : ¬ e1 = L.Hb i := by obtain ⟨_, _, _, a, _⟩ := h.hn i hi; exact BC.ne (h.cs _ _ _ he.c1).1 a (by decide)
  have n2 : ¬ L.B (s.hd i).c = L.Hb i := by obtain ⟨_, _, _, a, _⟩ := h.hn i hi; exact BC.ne (h.bd _ p2).1 a (by decide)
  obtain ⟨R, hR⟩ : ∃ R, R = CP DMk L s dv i (s.m, { s.hd i with is := !s.m.mr (s.hd i).c }, true) := ⟨_, rfl⟩
  rw [← hR] at HE ⊢
  obtain ⟨b, hb⟩ : ∃ b, b = L.B (s.hd i).c := ⟨_, rfl⟩
  obtain ⟨H, hH⟩ : ∃ b, b = L.Hb i := ⟨_, rfl⟩
  obtain ⟨K, hK⟩ : ∃ b, b = s.m.ky (s.hd i).c := ⟨_, rfl⟩
  obtain ⟨D, hD⟩ : ∃ b, b = d.key := ⟨_, rfl⟩
  obtain ⟨Q, hQ⟩ : ∃ b, b = d.kind := ⟨_, rfl⟩
  obtain ⟨MC, hMC⟩ : ∃ b, b = s.m.mr (s.hd i).c := ⟨_, rfl⟩
  rw [← hb] at h4 b0 b2 n2
  rw [← hH] at c1 h4 h5 f5 HK HKd HE n1 n2
  rw [← hK] at b0 hlt hke
  rw [← hD] at HK hlt hke
  rw [← hQ] at HKd hk3
  rw [← hMC] at b2 HE
  have HF : Hid (∀ W, Kp w W → W.cell? ⟨e1, 0, none⟩ = some (ptr H) ∧ W.cell? ⟨H, 4, none⟩ = some (ptr b) ∧ W.cell? ⟨b, 0, none⟩ = some (.int .i64 K) ∧ W.cell? ⟨b, 2, none⟩ = some (.bool MC) ∧ W.cell? ⟨H, 5, none⟩ = some (.bool bb) ∧ W.frozen? ⟨H, 5, none⟩ = false) := hide (fun W k => ⟨k.cell c1, k.cell h4, k.cell b0, k.cell b2, k.cell h5, (k.frozen (World.block_lt_of_cell? _ _ h5)).trans f5⟩)
  have hE : (K == D) = true := by rw [beq_dec, decide_eq_true hke]
  have q3 : (Q == 3) = true := by rw [hk3]; rfl
  have q3b : (Q != 3) = false := by rw [hk3]; rfl
  clear h hi hd hp he hv hvn er hR hb hH hK hD hQ hMC hpc p1 p2 hz b2 h5 f5 hk3 hke
  unfold ptr at *
  cases MC with
  | false =>
    go_enter Try.func55, Try.ntmps55
    go_wp2_with fail
    go_quiet ((go_at_call 40; exact Calls.quiet_of (HK.out _ (by (focus ((repeat (first | (with_reducible assumption) | (with_reducible exact Kp.refl _) | (with_reducible apply Kp.drew) | (with_reducible apply Kp.drewN) | ((with_reducible apply Kp.setR); (focus (first | (with_reducible assumption) | (simp; done) | (simp; omega)))) | (with_reducible apply Kp.alloc) | ((with_reducible apply Kp.call); (with_reducible assumption)) | ((with_reducible apply Kp.app); (with_reducible assumption)))); done))))))
    obtain ⟨w1, hw1⟩ : ∃ x, x = w.drewN nq := ⟨_, rfl⟩
    rw [← hw1]
    have kw1 : Kp w w1 := by rw [hw1]; exact (Kp.refl w).drewN
    have HEQw1 := hide hw1
    clear hw1 c1 h4 b0
    obtain ⟨c1, h4, b0, b2, h5, f5⟩ := HF.out _ kw1
    go_wp2_with fail
    go_quiet ((go_at_call 40; exact Calls.quiet_of (HK.out _ (by (focus ((repeat (first | (with_reducible assumption) | (with_reducible exact Kp.refl _) | (with_reducible apply Kp.drew) | (with_reducible apply Kp.drewN) | ((with_reducible apply Kp.setR); (focus (first | (with_reducible assumption) | (simp; done) | (simp; omega)))) | (with_reducible apply Kp.alloc) | ((with_reducible apply Kp.call); (with_reducible assumption)) | ((with_reducible apply Kp.app); (with_reducible assumption)))); done))))))
    obtain ⟨w2, hw1⟩ : ∃ x, x = w1.drewN nq := ⟨_, rfl⟩
    rw [← hw1]
    have kw2 : Kp w w2 := by rw [hw1]; exact kw1.drewN
    have HEQw2 := hide hw1
    clear hw1 c1 h4 b0 b2 h5 f5
    obtain ⟨c1, h4, b0, b2, h5, f5⟩ := HF.out _ kw2
    go_wp2_with fail
    refine (HKd.out _ kw2).mono ?_
    rintro e w3x ⟨rfl, m3, rfl⟩
    obtain ⟨w3, hw1⟩ : ∃ x, x = w2.drewN m3 := ⟨_, rfl⟩
    rw [← hw1]
    have kw3 : Kp w w3 := by rw [hw1]; exact kw2.drewN
    have HEQw3 := hide hw1
    clear hw1 c1 h4 b0 b2 h5 f5
    obtain ⟨c1, h4, b0, b2, h5, f5⟩ := HF.out _ kw3
    go_wp2_with fail
    obtain ⟨W0, hW0⟩ : ∃ W0, W0 = w3.drew := ⟨_, rfl⟩
    obtain ⟨W1, hW1⟩ : ∃ W1, W1 = W0.setCell ⟨H, 5, none⟩ (.bool true) := ⟨_, rfl⟩
    have r4 : ∀ n, Kp (w.setCell ⟨H, 5, none⟩ (.bool true)) (W1.drewN n) := fun n => by
      rw [hW1, hW0]
      first | (rw [HEQw4.out, HEQw3.out, HEQw2.out, HEQw1.out]; exact (((((Kp.refl _).drewN).drewN).drewN).drewN).drew.drewN) | (rw [HEQw3.out, HEQw2.out, HEQw1.out]; exact ((((Kp.refl _).drewN).drewN).drewN).drew.drewN)
    have B0 : W0.cell? ⟨e1, 0, none⟩ = some (.pointer (some ⟨H, 0, none⟩)) ∧ W1.cell? ⟨e1, 0, none⟩ = some (.pointer (some ⟨H, 0, none⟩)) := by
      rw [hW1, hW0]; refine ⟨c1, ?_⟩; simp [go_sem, c1, n1]
    have B4 : W0.cell? ⟨H, 4, none⟩ = some (.pointer (some ⟨b, 0, none⟩)) ∧ W1.cell? ⟨H, 4, none⟩ = some (.pointer (some ⟨b, 0, none⟩)) := by
      rw [hW1, hW0]; refine ⟨h4, ?_⟩; simp [go_sem, h4]
    have BM : W0.cell? ⟨b, 2, none⟩ = some (.bool false) ∧ W1.cell? ⟨b, 2, none⟩ = some (.bool false) := by
      rw [hW1, hW0]; refine ⟨b2, ?_⟩; simp [go_sem, b2, n2]
    have S1 : W0.cell? ⟨H, 5, none⟩ = some (.bool bb) := by rw [hW0]; exact h5
    have T1 : W0.frozen? ⟨H, 5, none⟩ = false := by rw [hW0]; exact f5
    refine wp_region_tab (by kernel_rfl) [(79, .pointer (some ⟨H, 0, none⟩)), (80, .bool true), (81, .bool true), (82, .pointer (some ⟨H, 0, none⟩)), (83, .pointer (some ⟨H, 0, none⟩)), (84, .pointer (some ⟨H, 4, none⟩)), (85, .pointer (some ⟨b, 0, none⟩)), (86, .pointer (some ⟨b, 0, none⟩)), (87, .pointer (some ⟨b, 2, none⟩)), (88, .bool false), (89, .bool true), (90, .bool true), (91, .pointer (some ⟨H, 0, none⟩)), (92, .pointer (some ⟨H, 5, none⟩))] (fun _ _ _ => True) (J1 W0 W1 14) (by rw [hW0]; exact J1.start (by decide)) (by kernel_rfl) (by kernel_rfl) ?_ ?_
    · refine ⟨?_, ?_, ?_, ?_, ?_, ?_, ?_, ?_, ?_, ?_, ?_, ?_, ?_, ?_, ?_, trivial⟩
      · intro hop L a w5 hs hk hl ha keep know spec
        have h0 := keep 0 (.pointer (some ⟨e1, 0, none⟩)) (by kernel_rfl) rfl
        have q := hk.cell B0
        exact wpOp_value hop (wanted_none rfl) (v := .pointer (some ⟨H, 0, none⟩)) (by simp only [execOp, Act.eval, h0]; go_simp) ⟨_, rfl, (hk.go (by decide)), (fun d hd => by injection hd with hd; subst hd; exact ⟨tab rfl, trivial⟩), fun _ _ h => h⟩
      · intro hop L a w5 hs hk hl ha keep know spec
        have h5 := keep 5 (.bool true) (by kernel_rfl) rfl
        exact wpOp_value hop (wanted_none rfl) (v := .bool true) (by simp only [execOp, Act.eval, h5]; rfl) ⟨_, rfl, (hk.go (by decide)), (fun d hd => by injection hd with hd; subst hd; exact ⟨tab rfl, trivial⟩), fun _ _ h => h⟩
      · intro hop L a w5 hs hk hl ha keep know spec
        have h80 := know 80 (.bool true) (by kernel_rfl) rfl
        exact wpOp_value hop (wanted_none rfl) (v := .bool true) (by simp only [execOp, Act.eval, h80]; rfl) ⟨_, rfl, (hk.go (by decide)), (fun d hd => by injection hd with hd; subst hd; exact ⟨tab rfl, trivial⟩), fun _ _ h => h⟩
      · intro hop L a w5 hs hk hl ha keep know spec
        have h0 := keep 0 (.pointer (some ⟨e1, 0, none⟩)) (by kernel_rfl) rfl
        have hg := know 81 (.bool true) (by kernel_rfl) rfl
        have q := hk.cell B0
        exact wpOp_value hop ((wanted_bool rfl rfl hg).trans rfl) (v := .pointer (some ⟨H, 0, none⟩)) (by simp only [execOp, Act.eval, h0]; go_simp) ⟨_, rfl, (hk.go (by decide)), (fun d hd => by injection hd with hd; subst hd; exact ⟨tab rfl, trivial⟩), fun _ _ h => h⟩
      · intro hop L a w5 hs hk hl ha keep know spec
        have h82 := know 82 (.pointer (some ⟨H, 0, none⟩)) (by kernel_rfl) rfl
        have hg := know 81 (.bool true) (by kernel_rfl) rfl
        exact wpOp_value hop ((wanted_bool rfl rfl hg).trans rfl) (v := .pointer (some ⟨H, 0, none⟩)) (by simp only [execOp, Act.eval, h82]; go_simp) ⟨_, rfl, (hk.go (by decide)), (fun d hd => by injection hd with hd; subst hd; exact ⟨tab rfl, trivial⟩), fun _ _ h => h⟩
      · intro hop L a w5 hs hk hl ha keep know spec
        have h83 := know 83 (.pointer (some ⟨H, 0, none⟩)) (by kernel_rfl) rfl
        have hg := know 81 (.bool true) (by kernel_rfl) rfl
        exact wpOp_value hop ((wanted_bool rfl rfl hg).trans rfl) (v := .pointer (some ⟨H, 4, none⟩)) (by simp only [execOp, Act.eval, h83]; go_simp) ⟨_, rfl, (hk.go (by decide)), (fun d hd => by injection hd with hd; subst hd; exact ⟨tab rfl, trivial⟩), fun _ _ h => h⟩
      · intro hop L a w5 hs hk hl ha keep know spec
        have h84 := know 84 (.pointer (some ⟨H, 4, none⟩)) (by kernel_rfl) rfl
        have hg := know 81 (.bool true) (by kernel_rfl) rfl
        have q := hk.cell B4
        exact wpOp_value hop ((wanted_bool rfl rfl hg).trans rfl) (v := .pointer (some ⟨b, 0, none⟩)) (by simp only [execOp, Act.eval, h84]; go_simp) ⟨_, rfl, (hk.go (by decide)), (fun d hd => by injection hd with hd; subst hd; exact ⟨tab rfl, trivial⟩), fun _ _ h => h⟩
      · intro hop L a w5 hs hk hl ha keep know spec
        have h85 := know 85 (.pointer (some ⟨b, 0, none⟩)) (by kernel_rfl) rfl
        have hg := know 81 (.bool true) (by kernel_rfl) rfl
        exact wpOp_value hop ((wanted_bool rfl rfl hg).trans rfl) (v := .pointer (some ⟨b, 0, none⟩)) (by simp only [execOp, Act.eval, h85]; go_simp) ⟨_, rfl, (hk.go (by decide)), (fun d hd => by injection hd with hd; subst hd; exact ⟨tab rfl, trivial⟩), fun _ _ h => h⟩
      · intro hop L a w5 hs hk hl ha keep know spec
        have h86 := know 86 (.pointer (some ⟨b, 0, none⟩)) (by kernel_rfl) rfl
        have hg := know 81 (.bool true) (by kernel_rfl) rfl
        exact wpOp_value hop ((wanted_bool rfl rfl hg).trans rfl) (v := .pointer (some ⟨b, 2, none⟩)) (by simp only [execOp, Act.eval, h86]; go_simp) ⟨_, rfl, (hk.go (by decide)), (fun d hd => by injection hd with hd; subst hd; exact ⟨tab rfl, trivial⟩), fun _ _ h => h⟩
      · intro hop L a w5 hs hk hl ha keep know spec
        have h87 := know 87 (.pointer (some ⟨b, 2, none⟩)) (by kernel_rfl) rfl
        have hg := know 81 (.bool true) (by kernel_rfl) rfl
        have q := hk.cell BM
        exact wpOp_value hop ((wanted_bool rfl rfl hg).trans rfl) (v := .bool false) (by simp only [execOp, Act.eval, h87]; go_simp) ⟨_, rfl, (hk.go (by decide)), (fun d hd => by injection hd with hd; subst hd; exact ⟨tab rfl, trivial⟩), fun _ _ h => h⟩
      · intro hop L a w5 hs hk hl ha keep know spec
        have h88 := know 88 (.bool false) (by kernel_rfl) rfl
        have hg := know 81 (.bool true) (by kernel_rfl) rfl
        exact wpOp_value hop ((wanted_bool rfl rfl hg).trans rfl) (v := .bool true) (by simp only [execOp, Act.eval, h88]; go_simp) ⟨_, rfl, (hk.go (by decide)), (fun d hd => by injection hd with hd; subst hd; exact ⟨tab rfl, trivial⟩), fun _ _ h => h⟩
      · intro hop L a w5 hs hk hl ha keep know spec
        have h81 := know 81 (.bool true) (by kernel_rfl) rfl
        have h89 := know 89 (.bool true) (by kernel_rfl) rfl
        exact wpOp_value hop (wanted_none rfl) (v := .bool true) (by simp only [execOp, Act.eval, h81, h89]; rfl) ⟨_, rfl, (hk.go (by decide)), (fun d hd => by injection hd with hd; subst hd; exact ⟨tab rfl, trivial⟩), fun _ _ h => h⟩
      · intro hop L a w5 hs hk hl ha keep know spec
        have h79 := know 79 (.pointer (some ⟨H, 0, none⟩)) (by kernel_rfl) rfl
        exact wpOp_value hop (wanted_none rfl) (v := .pointer (some ⟨H, 0, none⟩)) (by simp only [execOp, Act.eval, h79]; go_simp) ⟨_, rfl, (hk.go (by decide)), (fun d hd => by injection hd with hd; subst hd; exact ⟨tab rfl, trivial⟩), fun _ _ h => h⟩
      · intro hop L a w5 hs hk hl ha keep know spec
        have h91 := know 91 (.pointer (some ⟨H, 0, none⟩)) (by kernel_rfl) rfl
        exact wpOp_value hop (wanted_none rfl) (v := .pointer (some ⟨H, 5, none⟩)) (by simp only [execOp, Act.eval, h91]; go_simp) ⟨_, rfl, (hk.go (by decide)), (fun d hd => by injection hd with hd; subst hd; exact ⟨tab rfl, trivial⟩), fun _ _ h => h⟩
      · intro hop L a w5 hs hk hl ha keep know spec
        have h92 := know 92 (.pointer (some ⟨H, 5, none⟩)) (by kernel_rfl) rfl
        have h90 := know 90 (.bool true) (by kernel_rfl) rfl
        obtain ⟨⟨n5, e5⟩, hk2⟩ := hk.st1 hl (p := ⟨H, 5, none⟩) (v := .bool true) hW1
        have q : w5.cell? ⟨H, 5, none⟩ = some _ := (congrArg (fun W : World => W.cell? ⟨H, 5, none⟩) e5).trans S1
        have r : w5.frozen? ⟨H, 5, none⟩ = false := (congrArg (fun W : World => W.frozen? ⟨H, 5, none⟩) e5).trans T1
        exact wpOp_skip hop (wanted_none rfl) (w' := w5.setCell ⟨H, 5, none⟩ (.bool true)) (by simp only [execOp, Act.eval, h92, h90]; go_simp) ⟨_, rfl, hk2, (fun d hd => by cases hd), fun _ _ h => h⟩
    · intro a' w7 e1x e2x hk keep know spec
      obtain ⟨tm, df⟩ := a'
      obtain ⟨f, hf⟩ := frame_puts (D := [79, 80, 81, 82, 83, 84, 85, 86, 87, 88, 89, 90, 91, 92]) e2x keep
      have e3x : df = [] := e1x
      obtain ⟨n7, e6⟩ := hk.done (n := 15) (by decide)
      have r5 := r4 n7
      rw [← e6] at r5
      clear keep know spec e1x e2x hk r4 B0 B4 BM S1 T1 hW0 hW1 e6
      simp only [List.foldl_cons, List.foldl_nil] at hf
      subst e3x
      rw [hf]
      clear hf
      go_wp2
      exact HE.out _ r5
  | true =>
    go_enter Try.func55, Try.ntmps55
    go_wp2_with fail
    go_quiet ((go_at_call 40; exact Calls.quiet_of (HK.out _ (by (focus ((repeat (first | (with_reducible assumption) | (with_reducible exact Kp.refl _) | (with_reducible apply Kp.drew) | (with_reducible apply Kp.drewN) | ((with_reducible apply Kp.setR); (focus (first | (with_reducible assumption) | (simp; done) | (simp; omega)))) | (with_reducible apply Kp.alloc) | ((with_reducible apply Kp.call); (with_reducible assumption)) | ((with_reducible apply Kp.app); (with_reducible assumption)))); done))))))
    obtain ⟨w1, hw1⟩ : ∃ x, x = w.drewN nq := ⟨_, rfl⟩
    rw [← hw1]
    have kw1 : Kp w w1 := by rw [hw1]; exact (Kp.refl w).drewN
    have HEQw1 := hide hw1
    clear hw1 c1 h4 b0
    obtain ⟨c1, h4, b0, b2, h5, f5⟩ := HF.out _ kw1
    go_wp2_with fail
    refine (HKd.out _ kw1).mono ?_
    rintro e w2x ⟨rfl, m2, rfl⟩
    obtain ⟨w2, hw1⟩ : ∃ x, x = w1.drewN m2 := ⟨_, rfl⟩
    rw [← hw1]
    have kw2 : Kp w w2 := by rw [hw1]; exact kw1.drewN
    have HEQw2 := hide hw1
    clear hw1 c1 h4 b0 b2 h5 f5
    obtain ⟨c1, h4, b0, b2, h5, f5⟩ := HF.out _ kw2
    go_wp2_with fail
    go_quiet ((go_at_call 40; exact Calls.quiet_of (HK.out _ (by (focus ((repeat (first | (with_reducible assumption) | (with_reducible exact Kp.refl _) | (with_reducible apply Kp.drew) | (with_reducible apply Kp.drewN) | ((with_reducible apply Kp.setR); (focus (first | (with_reducible assumption) | (simp; done) | (simp; omega)))) | (with_reducible apply Kp.alloc) | ((with_reducible apply Kp.call); (with_reducible assumption)) | ((with_reducible apply Kp.app); (with_reducible assumption)))); done))))))
    obtain ⟨w3, hw1⟩ : ∃ x, x = w2.drewN nq := ⟨_, rfl⟩
    rw [← hw1]
    have kw3 : Kp w w3 := by rw [hw1]; exact kw2.drewN
    have HEQw3 := hide hw1
    clear hw1 c1 h4 b0 b2 h5 f5
    obtain ⟨c1, h4, b0, b2, h5, f5⟩ := HF.out _ kw3
    go_wp2_with fail
    refine (HKd.out _ kw3).mono ?_
    rintro e w4x ⟨rfl, m4, rfl⟩
    obtain ⟨w4, hw1⟩ : ∃ x, x = w3.drewN m4 := ⟨_, rfl⟩
    rw [← hw1]
    have kw4 : Kp w w4 := by rw [hw1]; exact kw3.drewN
    have HEQw4 := hide hw1
    clear hw1 c1 h4 b0 b2 h5 f5
    obtain ⟨c1, h4, b0, b2, h5, f5⟩ := HF.out _ kw4
    go_wp2_with fail
    obtain ⟨W0, hW0⟩ : ∃ W0, W0 = w4.drew := ⟨_, rfl⟩
    obtain ⟨W1, hW1⟩ : ∃ W1, W1 = W0.setCell ⟨H, 5, none⟩ (.bool false) := ⟨_, rfl⟩
    have r4 : ∀ n, Kp (w.setCell ⟨H, 5, none⟩ (.bool false)) (W1.drewN n) := fun n => by
      rw [hW1, hW0]
      first | (rw [HEQw4.out, HEQw3.out, HEQw2.out, HEQw1.out]; exact (((((Kp.refl _).drewN).drewN).drewN).drewN).drew.drewN) | (rw [HEQw3.out, HEQw2.out, HEQw1.out]; exact ((((Kp.refl _).drewN).drewN).drewN).drew.drewN)
    have B0 : W0.cell? ⟨e1, 0, none⟩ = some (.pointer (some ⟨H, 0, none⟩)) ∧ W1.cell? ⟨e1, 0, none⟩ = some (.pointer (some ⟨H, 0, none⟩)) := by
      rw [hW1, hW0]; refine ⟨c1, ?_⟩; simp [go_sem, c1, n1]
    have B4 : W0.cell? ⟨H, 4, none⟩ = some (.pointer (some ⟨b, 0, none⟩)) ∧ W1.cell? ⟨H, 4, none⟩ = some (.pointer (some ⟨b, 0, none⟩)) := by
      rw [hW1, hW0]; refine ⟨h4, ?_⟩; simp [go_sem, h4]
    have BM : W0.cell? ⟨b, 2, none⟩ = some (.bool true) ∧ W1.cell? ⟨b, 2, none⟩ = some (.bool true) := by
      rw [hW1, hW0]; refine ⟨b2, ?_⟩; simp [go_sem, b2, n2]
    have S1 : W0.cell? ⟨H, 5, none⟩ = some (.bool bb) := by rw [hW0]; exact h5
    have T1 : W0.frozen? ⟨H, 5, none⟩ = false := by rw [hW0]; exact f5
    refine wp_region_tab (by kernel_rfl) [(79, .pointer (some ⟨H, 0, none⟩)), (80, .bool true), (81, .bool true), (82, .pointer (some ⟨H, 0, none⟩)), (83, .pointer (some ⟨H, 0, none⟩)), (84, .pointer (some ⟨H, 4, none⟩)), (85, .pointer (some ⟨b, 0, none⟩)), (86, .pointer (some ⟨b, 0, none⟩)), (87, .pointer (some ⟨b, 2, none⟩)), (88, .bool true), (89, .bool false), (90, .bool false), (91, .pointer (some ⟨H, 0, none⟩)), (92, .pointer (some ⟨H, 5, none⟩))] (fun _ _ _ => True) (J1 W0 W1 14) (by rw [hW0]; exact J1.start (by decide)) (by kernel_rfl) (by kernel_rfl) ?_ ?_
    · refine ⟨?_, ?_, ?_, ?_, ?_, ?_, ?_, ?_, ?_, ?_, ?_, ?_, ?_, ?_, ?_, trivial⟩
      · intro hop L a w5 hs hk hl ha keep know spec
        have h0 := keep 0 (.pointer (some ⟨e1, 0, none⟩)) (by kernel_rfl) rfl
        have q := hk.cell B0
        exact wpOp_value hop (wanted_none rfl) (v := .pointer (some ⟨H, 0, none⟩)) (by simp only [execOp, Act.eval, h0]; go_simp) ⟨_, rfl, (hk.go (by decide)), (fun d hd => by injection hd with hd; subst hd; exact ⟨tab rfl, trivial⟩), fun _ _ h => h⟩
      · intro hop L a w5 hs hk hl ha keep know spec
        have h5 := keep 5 (.bool true) (by kernel_rfl) rfl
        exact wpOp_value hop (wanted_none rfl) (v := .bool true) (by simp only [execOp, Act.eval, h5]; rfl) ⟨_, rfl, (hk.go (by decide)), (fun d hd => by injection hd with hd; subst hd; exact ⟨tab rfl, trivial⟩), fun _ _ h => h⟩
      · intro hop L a w5 hs hk hl ha keep know spec
        have h80 := know 80 (.bool true) (by kernel_rfl) rfl
        exact wpOp_value hop (wanted_none rfl) (v := .bool true) (by simp only [execOp, Act.eval, h80]; rfl) ⟨_, rfl, (hk.go (by decide)), (fun d hd => by injection hd with hd; subst hd; exact ⟨tab rfl, trivial⟩), fun _ _ h => h⟩
      · intro hop L a w5 hs hk hl ha keep know spec
        have h0 := keep 0 (.pointer (some ⟨e1, 0, none⟩)) (by kernel_rfl) rfl
        have hg := know 81 (.bool true) (by kernel_rfl) rfl
        have q := hk.cell B0
        exact wpOp_value hop ((wanted_bool rfl rfl hg).trans rfl) (v := .pointer (some ⟨H, 0, none⟩)) (by simp only [execOp, Act.eval, h0]; go_simp) ⟨_, rfl, (hk.go (by decide)), (fun d hd => by injection hd with hd; subst hd; exact ⟨tab rfl, trivial⟩), fun _ _ h => h⟩
      · intro hop L a w5 hs hk hl ha keep know spec
        have h82 := know 82 (.pointer (some ⟨H, 0, none⟩)) (by kernel_rfl) rfl
        have hg := know 81 (.bool true) (by kernel_rfl) rfl
        exact wpOp_value hop ((wanted_bool rfl rfl hg).trans rfl) (v := .pointer (some ⟨H, 0, none⟩)) (by simp only [execOp, Act.eval, h82]; go_simp) ⟨_, rfl, (hk.go (by decide)), (fun d hd => by injection hd with hd; subst hd; exact ⟨tab rfl, trivial⟩), fun _ _ h => h⟩
      · intro hop L a w5 hs hk hl ha keep know spec
        have h83 := know 83 (.pointer (some ⟨H, 0, none⟩)) (by kernel_rfl) rfl
        have hg := know 81 (.bool true) (by kernel_rfl) rfl
        exact wpOp_value hop ((wanted_bool rfl rfl hg).trans rfl) (v := .pointer (some ⟨H, 4, none⟩)) (by simp only [execOp, Act.eval, h83]; go_simp) ⟨_, rfl, (hk.go (by decide)), (fun d hd => by injection hd with hd; subst hd; exact ⟨tab rfl, trivial⟩), fun _ _ h => h⟩
      · intro hop L a w5 hs hk hl ha keep know spec
        have h84 := know 84 (.pointer (some ⟨H, 4, none⟩)) (by kernel_rfl) rfl
        have hg := know 81 (.bool true) (by kernel_rfl) rfl
        have q := hk.cell B4
        exact wpOp_value hop ((wanted_bool rfl rfl hg).trans rfl) (v := .pointer (some ⟨b, 0, none⟩)) (by simp only [execOp, Act.eval, h84]; go_simp) ⟨_, rfl, (hk.go (by decide)), (fun d hd => by injection hd with hd; subst hd; exact ⟨tab rfl, trivial⟩), fun _ _ h => h⟩
      · intro hop L a w5 hs hk hl ha keep know spec
        have h85 := know 85 (.pointer (some ⟨b, 0, none⟩)) (by kernel_rfl) rfl
        have hg := know 81 (.bool true) (by kernel_rfl) rfl
        exact wpOp_value hop ((wanted_bool rfl rfl hg).trans rfl) (v := .pointer (some ⟨b, 0, none⟩)) (by simp only [execOp, Act.eval, h85]; go_simp) ⟨_, rfl, (hk.go (by decide)), (fun d hd => by injection hd with hd; subst hd; exact ⟨tab rfl, trivial⟩), fun _ _ h => h⟩
      · intro hop L a w5 hs hk hl ha keep know spec
        have h86 := know 86 (.pointer (some ⟨b, 0, none⟩)) (by kernel_rfl) rfl
        have hg := know 81 (.bool true) (by kernel_rfl) rfl
        exact wpOp_value hop ((wanted_bool rfl rfl hg).trans rfl) (v := .pointer (some ⟨b, 2, none⟩)) (by simp only [execOp, Act.eval, h86]; go_simp) ⟨_, rfl, (hk.go (by decide)), (fun d hd => by injection hd with hd; subst hd; exact ⟨tab rfl, trivial⟩), fun _ _ h => h⟩
      · intro hop L a w5 hs hk hl ha keep know spec
        have h87 := know 87 (.pointer (some ⟨b, 2, none⟩)) (by kernel_rfl) rfl
        have hg := know 81 (.bool true) (by kernel_rfl) rfl
        have q := hk.cell BM
        exact wpOp_value hop ((wanted_bool rfl rfl hg).trans rfl) (v := .bool true) (by simp only [execOp, Act.eval, h87]; go_simp) ⟨_, rfl, (hk.go (by decide)), (fun d hd => by injection hd with hd; subst hd; exact ⟨tab rfl, trivial⟩), fun _ _ h => h⟩
      · intro hop L a w5 hs hk hl ha keep know spec
        have h88 := know 88 (.bool true) (by kernel_rfl) rfl
        have hg := know 81 (.bool true) (by kernel_rfl) rfl
        exact wpOp_value hop ((wanted_bool rfl rfl hg).trans rfl) (v := .bool false) (by simp only [execOp, Act.eval, h88]; go_simp) ⟨_, rfl, (hk.go (by decide)), (fun d hd => by injection hd with hd; subst hd; exact ⟨tab rfl, trivial⟩), fun _ _ h => h⟩
      · intro hop L a w5 hs hk hl ha keep know spec
        have h81 := know 81 (.bool true) (by kernel_rfl) rfl
        have h89 := know 89 (.bool false) (by kernel_rfl) rfl
        exact wpOp_value hop (wanted_none rfl) (v := .bool false) (by simp only [execOp, Act.eval, h81, h89]; rfl) ⟨_, rfl, (hk.go (by decide)), (fun d hd => by injection hd with hd; subst hd; exact ⟨tab rfl, trivial⟩), fun _ _ h => h⟩
      · intro hop L a w5 hs hk hl ha keep know spec
        have h79 := know 79 (.pointer (some ⟨H, 0, none⟩)) (by kernel_rfl) rfl
        exact wpOp_value hop (wanted_none rfl) (v := .pointer (some ⟨H, 0, none⟩)) (by simp only [execOp, Act.eval, h79]; go_simp) ⟨_, rfl, (hk.go (by decide)), (fun d hd => by injection hd with hd; subst hd; exact ⟨tab rfl, trivial⟩), fun _ _ h => h⟩
      · intro hop L a w5 hs hk hl ha keep know spec
        have h91 := know 91 (.pointer (some ⟨H, 0, none⟩)) (by kernel_rfl) rfl
        exact wpOp_value hop (wanted_none rfl) (v := .pointer (some ⟨H, 5, none⟩)) (by simp only [execOp, Act.eval, h91]; go_simp) ⟨_, rfl, (hk.go (by decide)), (fun d hd => by injection hd with hd; subst hd; exact ⟨tab rfl, trivial⟩), fun _ _ h => h⟩
      · intro hop L a w5 hs hk hl ha keep know spec
        have h92 := know 92 (.pointer (some ⟨H, 5, none⟩)) (by kernel_rfl) rfl
        have h90 := know 90 (.bool false) (by kernel_rfl) rfl
        obtain ⟨⟨n5, e5⟩, hk2⟩ := hk.st1 hl (p := ⟨H, 5, none⟩) (v := .bool false) hW1
        have q : w5.cell? ⟨H, 5, none⟩ = some _ := (congrArg (fun W : World => W.cell? ⟨H, 5, none⟩) e5).trans S1
        have r : w5.frozen? ⟨H, 5, none⟩ = false := (congrArg (fun W : World => W.frozen? ⟨H, 5, none⟩) e5).trans T1
        exact wpOp_skip hop (wanted_none rfl) (w' := w5.setCell ⟨H, 5, none⟩ (.bool false)) (by simp only [execOp, Act.eval, h92, h90]; go_simp) ⟨_, rfl, hk2, (fun d hd => by cases hd), fun _ _ h => h⟩
    · intro a' w7 e1x e2x hk keep know spec
      obtain ⟨tm, df⟩ := a'
      obtain ⟨f, hf⟩ := frame_puts (D := [79, 80, 81, 82, 83, 84, 85, 86, 87, 88, 89, 90, 91, 92]) e2x keep
      have e3x : df = [] := e1x
      obtain ⟨n7, e6⟩ := hk.done (n := 15) (by decide)
      have r5 := r4 n7
      rw [← e6] at r5
      clear keep know spec e1x e2x hk r4 B0 B4 BM S1 T1 hW0 hW1 e6
      simp only [List.foldl_cons, List.foldl_nil] at hf
      subst e3x
      rw [hf]
      clear hf
      go_wp2
      exact HE.out _ r5
set_option maxRecDepth 100000 in
set_option maxHeartbeats 4000000 in
theorem mk3_hasN (h : WN L s dv w) {i : Nat} (hi : i < L.nh) {d : Dd} (nv : Bool) (hd : (L.P i)[s.deed i]? = some d) (hp : (s.hd i).plc = 1) (hlt : ¬ s.m.ky (s.hd i).c < d.key) (hk3 : d.kind = 3) (hke : s.m.ky (s.hd i).c ≠ d.key) {e0 e1 e2 e3 e4 e5 e6 : Nat} (he : EMk L (L.Hb i) e0 e1 e2 e3 e4 e5 e6) (hv : dv i = vMk 1 e0 e1 e2 e3 e4 e5 e6) :
    Calls Try.prog 55 #[ptr e1, ptr e6, ptr e2, ptr e4] w (CP DMk L s dv i (markS nv s.m (s.hd i) d)) := by
  have c1 := h.cst he.c1
  obtain ⟨pv, cv, bb, -, -, -, -, h4, h5, hz, -, hpc, -⟩ := h.hand hi
  obtain ⟨-, rfl, p1, p2⟩ := hpc (by omega)
  obtain ⟨b0, -, b2, -⟩ := h.bead p2
  have f5 := hz 5
  have hvn : dv i ≠ .nilFunc := by rw [hv]; exact vMk_nil _ _ _ _ _ _ _ _
  have er : markS nv s.m (s.hd i) d = (s.m, { s.hd i with is := false }, true) := by unfold markS; rw [hp]; simp [hlt, hk3, hke, hp]
  rw [er]
  have HK := hide (fun W (k : Kp w W) => key_quiet (h.kpw k) hi hd)
  have HKd := hide (fun W (k : Kp w W) => kind_quiet (h.kpw k) hi hd)
  have HE : Hid (∀ W, Kp (w.setCell ⟨L.Hb i, 5, none⟩ (.bool (false))) W → CP DMk L s dv i (s.m, { s.hd i with is := false }, true) (.returned (.bool true)) W) := hide (fun W k => ⟨rfl, L, dv, Lx.refl _ _, (h.setis hi (false)).kpw k, fun _ _ => rfl, hvn, fun e => absurd e (by simp)⟩)
  have n1 : ¬ e1 = L.Hb i := by obtain ⟨_, _, _, a, _⟩ := h.hn i hi; exact BC.ne (h.cs _ _ _ he.c1).1 a (by decide)
  have n2 : ¬ L.B (s.hd i).c = L.Hb i := by obtain ⟨_, _, _, a, _⟩ := h.hn i hi; exact BC.ne (h.bd _ p2).1 a (by decide)
  obtain ⟨R, hR⟩ : ∃ R, R = CP DMk L s dv i (s.m, { s.hd i with is := false }, true) := ⟨_, rfl⟩
  rw [← hR] at HE ⊢
  obtain ⟨b, hb⟩ : ∃ b, b = L.B (s.hd i).c := ⟨_, rfl⟩
  obtain ⟨H, hH⟩ : ∃ b, b = L.Hb i := ⟨_, rfl⟩
  obtain ⟨K, hK⟩ : ∃ b, b = s.m.ky (s.hd i).c := ⟨_, rfl⟩
  obtain ⟨D, hD⟩ : ∃ b, b = d.key := ⟨_, rfl⟩
  obtain ⟨Q, hQ⟩ : ∃ b, b = d.kind := ⟨_, rfl⟩
  obtain ⟨MC, hMC⟩ : ∃ b, b = s.m.mr (s.hd i).c := ⟨_, rfl⟩
  rw [← hb] at h4 b0 b2 n2
  rw [← hH] at c1 h4 h5 f5 HK HKd HE n1 n2
  rw [← hK] at b0 hlt hke
  rw [← hD] at HK hlt hke
  rw [← hQ] at HKd hk3
  rw [← hMC] at b2
  have HF : Hid (∀ W, Kp w W → W.cell? ⟨e1, 0, none⟩ = some (ptr H) ∧ W.cell? ⟨H, 4, none⟩ = some (ptr b) ∧ W.cell? ⟨b, 0, none⟩ = some (.int .i64 K) ∧ W.cell? ⟨b, 2, none⟩ = some (.bool MC) ∧ W.cell? ⟨H, 5, none⟩ = some (.bool bb) ∧ W.frozen? ⟨H, 5, none⟩ = false) := hide (fun W k => ⟨k.cell c1, k.cell h4, k.cell b0, k.cell b2, k.cell h5, (k.frozen (World.block_lt_of_cell? _ _ h5)).trans f5⟩)
  have hE : (K == D) = false := by rw [beq_dec, decide_eq_false hke]
  have q3 : (Q == 3) = true := by rw [hk3]; rfl
  have q3b : (Q != 3) = false := by rw [hk3]; rfl
  clear h hi hd hp he hv hvn er hR hb hH hK hD hQ hMC hpc p1 p2 hz b2 h5 f5 hk3 hke
  unfold ptr at *
  cases MC with
  | false =>
    go_enter Try.func55, Try.ntmps55
    go_wp2_with fail
    go_quiet ((go_at_call 40; exact Calls.quiet_of (HK.out _ (by (focus ((repeat (first | (with_reducible assumption) | (with_reducible exact Kp.refl _) | (with_reducible apply Kp.drew) | (with_reducible apply Kp.drewN) | ((with_reducible apply Kp.setR); (focus (first | (with_reducible assumption) | (simp; done) | (simp; omega)))) | (with_reducible apply Kp.alloc) | ((with_reducible apply Kp.call); (with_reducible assumption)) | ((with_reducible apply Kp.app); (with_reducible assumption)))); done))))))
    obtain ⟨w1, hw1⟩ : ∃ x, x = w.drewN nq := ⟨_, rfl⟩
    rw [← hw1]
    have kw1 : Kp w w1 := by rw [hw1]; exact (Kp.refl w).drewN
    have HEQw1 := hide hw1
    clear hw1 c1 h4 b0
    obtain ⟨c1, h4, b0, b2, h5, f5⟩ := HF.out _ kw1
    go_wp2_with fail
    go_quiet ((go_at_call 40; exact Calls.quiet_of (HK.out _ (by (focus ((repeat (first | (with_reducible assumption) | (with_reducible exact Kp.refl _) | (with_reducible apply Kp.drew) | (with_reducible apply Kp.drewN) | ((with_reducible apply Kp.setR); (focus (first | (with_reducible assumption) | (simp; done) | (simp; omega)))) | (with_reducible apply Kp.alloc) | ((with_reducible apply Kp.call); (with_reducible assumption)) | ((with_reducible apply Kp.app); (with_reducible assumption)))); done))))))
    obtain ⟨w2, hw1⟩ : ∃ x, x = w1.drewN nq := ⟨_, rfl⟩
    rw [← hw1]
    have kw2 : Kp w w2 := by rw [hw1]; exact kw1.drewN
    have HEQw2 := hide hw1
    clear hw1 c1 h4 b0 b2 h5 f5
    obtain ⟨c1, h4, b0, b2, h5, f5⟩ := HF.out _ kw2
    go_wp2_with fail
    refine (HKd.out _ kw2).mono ?_
    rintro e w3x ⟨rfl, m3, rfl⟩
    obtain ⟨w3, hw1⟩ : ∃ x, x = w2.drewN m3 := ⟨_, rfl⟩
    rw [← hw1]
    have kw3 : Kp w w3 := by rw [hw1]; exact kw2.drewN
    have HEQw3 := hide hw1
    clear hw1 c1 h4 b0 b2 h5 f5
    obtain ⟨c1, h4, b0, b2, h5, f5⟩ := HF.out _ kw3
    go_wp2_with fail
    obtain ⟨W0, hW0⟩ : ∃ W0, W0 = w3.drew := ⟨_, rfl⟩
    obtain ⟨W1, hW1⟩ : ∃ W1, W1 = W0.setCell ⟨H, 5, none⟩ (.bool false) := ⟨_, rfl⟩
    have r4 : ∀ n, Kp (w.setCell ⟨H, 5, none⟩ (.bool false)) (W1.drewN n) := fun n => by
      rw [hW1, hW0]
      first | (rw [HEQw4.out, HEQw3.out, HEQw2.out, HEQw1.out]; exact (((((Kp.refl _).drewN).drewN).drewN).drewN).drew.drewN) | (rw [HEQw3.out, HEQw2.out, HEQw1.out]; exact ((((Kp.refl _).drewN).drewN).drewN).drew.drewN)
    have B0 : W0.cell? ⟨e1, 0, none⟩ = some (.pointer (some ⟨H, 0, none⟩)) ∧ W1.cell? ⟨e1, 0, none⟩ = some (.pointer (some ⟨H, 0, none⟩)) := by
      rw [hW1, hW0]; refine ⟨c1, ?_⟩; simp [go_sem, c1, n1]
    have B4 : W0.cell? ⟨H, 4, none⟩ = some (.pointer (some ⟨b, 0, none⟩)) ∧ W1.cell? ⟨H, 4, none⟩ = some (.pointer (some ⟨b, 0, none⟩)) := by
      rw [hW1, hW0]; refine ⟨h4, ?_⟩; simp [go_sem, h4]
    have BM : W0.cell? ⟨b, 2, none⟩ = some (.bool false) ∧ W1.cell? ⟨b, 2, none⟩ = some (.bool false) := by
      rw [hW1, hW0]; refine ⟨b2, ?_⟩; simp [go_sem, b2, n2]
    have S1 : W0.cell? ⟨H, 5, none⟩ = some (.bool bb) := by rw [hW0]; exact h5
    have T1 : W0.frozen? ⟨H, 5, none⟩ = false := by rw [hW0]; exact f5
    refine wp_region_tab (by kernel_rfl) [(79, .pointer (some ⟨H, 0, none⟩)), (80, .bool false), (81, .bool false), (82, undef), (83, undef), (84, undef), (85, undef), (86, undef), (87, undef), (88, undef), (89, undef), (90, .bool false), (91, .pointer (some ⟨H, 0, none⟩)), (92, .pointer (some ⟨H, 5, none⟩))] (fun _ _ _ => True) (J1 W0 W1 14) (by rw [hW0]; exact J1.start (by decide)) (by kernel_rfl) (by kernel_rfl) ?_ ?_
    · refine ⟨?_, ?_, ?_, ?_, ?_, ?_, ?_, ?_, ?_, ?_, ?_, ?_, ?_, ?_, ?_, trivial⟩
      · intro hop L a w5 hs hk hl ha keep know spec
        have h0 := keep 0 (.pointer (some ⟨e1, 0, none⟩)) (by kernel_rfl) rfl
        have q := hk.cell B0
        exact wpOp_value hop (wanted_none rfl) (v := .pointer (some ⟨H, 0, none⟩)) (by simp only [execOp, Act.eval, h0]; go_simp) ⟨_, rfl, (hk.go (by decide)), (fun d hd => by injection hd with hd; subst hd; exact ⟨tab rfl, trivial⟩), fun _ _ h => h⟩
      · intro hop L a w5 hs hk hl ha keep know spec
        have h5 := keep 5 (.bool false) (by kernel_rfl) rfl
        exact wpOp_value hop (wanted_none rfl) (v := .bool false) (by simp only [execOp, Act.eval, h5]; rfl) ⟨_, rfl, (hk.go (by decide)), (fun d hd => by injection hd with hd; subst hd; exact ⟨tab rfl, trivial⟩), fun _ _ h => h⟩
      · intro hop L a w5 hs hk hl ha keep know spec
        have h80 := know 80 (.bool false) (by kernel_rfl) rfl
        exact wpOp_value hop (wanted_none rfl) (v := .bool false) (by simp only [execOp, Act.eval, h80]; rfl) ⟨_, rfl, (hk.go (by decide)), (fun d hd => by injection hd with hd; subst hd; exact ⟨tab rfl, trivial⟩), fun _ _ h => h⟩
      · intro hop L a w5 hs hk hl ha keep know spec
        have hg := know 81 (.bool false) (by kernel_rfl) rfl
        exact wpOp_not hop ((wanted_bool rfl rfl hg).trans rfl) ⟨_, rfl, (hk.go (by decide)), (fun d hd => by injection hd with hd; subst hd; exact ⟨tab rfl, trivial⟩), fun _ _ h => h⟩
      · intro hop L a w5 hs hk hl ha keep know spec
        have hg := know 81 (.bool false) (by kernel_rfl) rfl
        exact wpOp_not hop ((wanted_bool rfl rfl hg).trans rfl) ⟨_, rfl, (hk.go (by decide)), (fun d hd => by injection hd with hd; subst hd; exact ⟨tab rfl, trivial⟩), fun _ _ h => h⟩
      · intro hop L a w5 hs hk hl ha keep know spec
        have hg := know 81 (.bool false) (by kernel_rfl) rfl
        exact wpOp_not hop ((wanted_bool rfl rfl hg).trans rfl) ⟨_, rfl, (hk.go (by decide)), (fun d hd => by injection hd with hd; subst hd; exact ⟨tab rfl, trivial⟩), fun _ _ h => h⟩
      · intro hop L a w5 hs hk hl ha keep know spec
        have hg := know 81 (.bool false) (by kernel_rfl) rfl
        exact wpOp_not hop ((wanted_bool rfl rfl hg).trans rfl) ⟨_, rfl, (hk.go (by decide)), (fun d hd => by injection hd with hd; subst hd; exact ⟨tab rfl, trivial⟩), fun _ _ h => h⟩
      · intro hop L a w5 hs hk hl ha keep know spec
        have hg := know 81 (.bool false) (by kernel_rfl) rfl
        exact wpOp_not hop ((wanted_bool rfl rfl hg).trans rfl) ⟨_, rfl, (hk.go (by decide)), (fun d hd => by injection hd with hd; subst hd; exact ⟨tab rfl, trivial⟩), fun _ _ h => h⟩
      · intro hop L a w5 hs hk hl ha keep know spec
        have hg := know 81 (.bool false) (by kernel_rfl) rfl
        exact wpOp_not hop ((wanted_bool rfl rfl hg).trans rfl) ⟨_, rfl, (hk.go (by decide)), (fun d hd => by injection hd with hd; subst hd; exact ⟨tab rfl, trivial⟩), fun _ _ h => h⟩
      · intro hop L a w5 hs hk hl ha keep know spec
        have hg := know 81 (.bool false) (by kernel_rfl) rfl
        exact wpOp_not hop ((wanted_bool rfl rfl hg).trans rfl) ⟨_, rfl, (hk.go (by decide)), (fun d hd => by injection hd with hd; subst hd; exact ⟨tab rfl, trivial⟩), fun _ _ h => h⟩
      · intro hop L a w5 hs hk hl ha keep know spec
        have hg := know 81 (.bool false) (by kernel_rfl) rfl
        exact wpOp_not hop ((wanted_bool rfl rfl hg).trans rfl) ⟨_, rfl, (hk.go (by decide)), (fun d hd => by injection hd with hd; subst hd; exact ⟨tab rfl, trivial⟩), fun _ _ h => h⟩
      · intro hop L a w5 hs hk hl ha keep know spec
        have h81 := know 81 (.bool false) (by kernel_rfl) rfl
        have h89 := know 89 (undef) (by kernel_rfl) rfl
        exact wpOp_value hop (wanted_none rfl) (v := .bool false) (by simp only [execOp, Act.eval, h81, h89]; rfl) ⟨_, rfl, (hk.go (by decide)), (fun d hd => by injection hd with hd; subst hd; exact ⟨tab rfl, trivial⟩), fun _ _ h => h⟩
      · intro hop L a w5 hs hk hl ha keep know spec
        have h79 := know 79 (.pointer (some ⟨H, 0, none⟩)) (by kernel_rfl) rfl
        exact wpOp_value hop (wanted_none rfl) (v := .pointer (some ⟨H, 0, none⟩)) (by simp only [execOp, Act.eval, h79]; go_simp) ⟨_, rfl, (hk.go (by decide)), (fun d hd => by injection hd with hd; subst hd; exact ⟨tab rfl, trivial⟩), fun _ _ h => h⟩
      · intro hop L a w5 hs hk hl ha keep know spec
        have h91 := know 91 (.pointer (some ⟨H, 0, none⟩)) (by kernel_rfl) rfl
        exact wpOp_value hop (wanted_none rfl) (v := .pointer (some ⟨H, 5, none⟩)) (by simp only [execOp, Act.eval, h91]; go_simp) ⟨_, rfl, (hk.go (by decide)), (fun d hd => by injection hd with hd; subst hd; exact ⟨tab rfl, trivial⟩), fun _ _ h => h⟩
      · intro hop L a w5 hs hk hl ha keep know spec
        have h92 := know 92 (.pointer (some ⟨H, 5, none⟩)) (by kernel_rfl) rfl
        have h90 := know 90 (.bool false) (by kernel_rfl) rfl
        obtain ⟨⟨n5, e5⟩, hk2⟩ := hk.st1 hl (p := ⟨H, 5, none⟩) (v := .bool false) hW1
        have q : w5.cell? ⟨H, 5, none⟩ = some _ := (congrArg (fun W : World => W.cell? ⟨H, 5, none⟩) e5).trans S1
        have r : w5.frozen? ⟨H, 5, none⟩ = false := (congrArg (fun W : World => W.frozen? ⟨H, 5, none⟩) e5).trans T1
        exact wpOp_skip hop (wanted_none rfl) (w' := w5.setCell ⟨H, 5, none⟩ (.bool false)) (by simp only [execOp, Act.eval, h92, h90]; go_simp) ⟨_, rfl, hk2, (fun d hd => by cases hd), fun _ _ h => h⟩
    · intro a' w7 e1x e2x hk keep know spec
      obtain ⟨tm, df⟩ := a'
      obtain ⟨f, hf⟩ := frame_puts (D := [79, 80, 81, 82, 83, 84, 85, 86, 87, 88, 89, 90, 91, 92]) e2x keep
      have e3x : df = [] := e1x
      obtain ⟨n7, e6⟩ := hk.done (n := 15) (by decide)
      have r5 := r4 n7
      rw [← e6] at r5
      clear keep know spec e1x e2x hk r4 B0 B4 BM S1 T1 hW0 hW1 e6
      simp only [List.foldl_cons, List.foldl_nil] at hf
      subst e3x
      rw [hf]
      clear hf
      go_wp2
      exact HE.out _ r5
  | true =>
    go_enter Try.func55, Try.ntmps55
    go_wp2_with fail
    go_quiet ((go_at_call 40; exact Calls.quiet_of (HK.out _ (by (focus ((repeat (first | (with_reducible assumption) | (with_reducible exact Kp.refl _) | (with_reducible apply Kp.drew) | (with_reducible apply Kp.drewN) | ((with_reducible apply Kp.setR); (focus (first | (with_reducible assumption) | (simp; done) | (simp; omega)))) | (with_reducible apply Kp.alloc) | ((with_reducible apply Kp.call); (with_reducible assumption)) | ((with_reducible apply Kp.app); (with_reducible assumption)))); done))))))
    obtain ⟨w1, hw1⟩ : ∃ x, x = w.drewN nq := ⟨_, rfl⟩
    rw [← hw1]
    have kw1 : Kp w w1 := by rw [hw1]; exact (Kp.refl w).drewN
    have HEQw1 := hide hw1
    clear hw1 c1 h4 b0
    obtain ⟨c1, h4, b0, b2, h5, f5⟩ := HF.out _ kw1
    go_wp2_with fail
    refine (HKd.out _ kw1).mono ?_
    rintro e w2x ⟨rfl, m2, rfl⟩
    obtain ⟨w2, hw1⟩ : ∃ x, x = w1.drewN m2 := ⟨_, rfl⟩
    rw [← hw1]
    have kw2 : Kp w w2 := by rw [hw1]; exact kw1.drewN
    have HEQw2 := hide hw1
    clear hw1 c1 h4 b0 b2 h5 f5
    obtain ⟨c1, h4, b0, b2, h5, f5⟩ := HF.out _ kw2
    go_wp2_with fail
    go_quiet ((go_at_call 40; exact Calls.quiet_of (HK.out _ (by (focus ((repeat (first | (with_reducible assumption) | (with_reducible exact Kp.refl _) | (with_reducible apply Kp.drew) | (with_reducible apply Kp.drewN) | ((with_reducible apply Kp.setR); (focus (first | (with_reducible assumption) | (simp; done) | (simp; omega)))) | (with_reducible apply Kp.alloc) | ((with_reducible apply Kp.call); (with_reducible assumption)) | ((with_reducible apply Kp.app); (with_reducible assumption)))); done))))))
    obtain ⟨w3, hw1⟩ : ∃ x, x = w2.drewN nq := ⟨_, rfl⟩
    rw [← hw1]
    have kw3 : Kp w w3 := by rw [hw1]; exact kw2.drewN
    have HEQw3 := hide hw1
    clear hw1 c1 h4 b0 b2 h5 f5
    obtain ⟨c1, h4, b0, b2, h5, f5⟩ := HF.out _ kw3
    go_wp2_with fail
    refine (HKd.out _ kw3).mono ?_
    rintro e w4x ⟨rfl, m4, rfl⟩
    obtain ⟨w4, hw1⟩ : ∃ x, x = w3.drewN m4 := ⟨_, rfl⟩
    rw [← hw1]
    have kw4 : Kp w w4 := by rw [hw1]; exact kw3.drewN
    have HEQw4 := hide hw1
    clear hw1 c1 h4 b0 b2 h5 f5
    obtain ⟨c1, h4, b0, b2, h5, f5⟩ := HF.out _ kw4
    go_wp2_with fail
    obtain ⟨W0, hW0⟩ : ∃ W0, W0 = w4.drew := ⟨_, rfl⟩
    obtain ⟨W1, hW1⟩ : ∃ W1, W1 = W0.setCell ⟨H, 5, none⟩ (.bool false) := ⟨_, rfl⟩
    have r4 : ∀ n, Kp (w.setCell ⟨H, 5, none⟩ (.bool false)) (W1.drewN n) := fun n => by
      rw [hW1, hW0]
      first | (rw [HEQw4.out, HEQw3.out, HEQw2.out, HEQw1.out]; exact (((((Kp.refl _).drewN).drewN).drewN).drewN).drew.drewN) | (rw [HEQw3.out, HEQw2.out, HEQw1.out]; exact ((((Kp.refl _).drewN).drewN).drewN).drew.drewN)
    have B0 : W0.cell? ⟨e1, 0, none⟩ = some (.pointer (some ⟨H, 0, none⟩)) ∧ W1.cell? ⟨e1, 0, none⟩ = some (.pointer (some ⟨H, 0, none⟩)) := by
      rw [hW1, hW0]; refine ⟨c1, ?_⟩; simp [go_sem, c1, n1]
    have B4 : W0.cell? ⟨H, 4, none⟩ = some (.pointer (some ⟨b, 0, none⟩)) ∧ W1.cell? ⟨H, 4, none⟩ = some (.pointer (some ⟨b, 0, none⟩)) := by
      rw [hW1, hW0]; refine ⟨h4, ?_⟩; simp [go_sem, h4]
    have BM : W0.cell? ⟨b, 2, none⟩ = some (.bool true) ∧ W1.cell? ⟨b, 2, none⟩ = some (.bool true) := by
      rw [hW1, hW0]; refine ⟨b2, ?_⟩; simp [go_sem, b2, n2]
    have S1 : W0.cell? ⟨H, 5, none⟩ = some (.bool bb) := by rw [hW0]; exact h5
    have T1 : W0.frozen? ⟨H, 5, none⟩ = false := by rw [hW0]; exact f5
    refine wp_region_tab (by kernel_rfl) [(79, .pointer (some ⟨H, 0, none⟩)), (80, .bool false), (81, .bool false), (82, undef), (83, undef), (84, undef), (85, undef), (86, undef), (87, undef), (88, undef), (89, undef), (90, .bool false), (91, .pointer (some ⟨H, 0, none⟩)), (92, .pointer (some ⟨H, 5, none⟩))] (fun _ _ _ => True) (J1 W0 W1 14) (by rw [hW0]; exact J1.start (by decide)) (by kernel_rfl) (by kernel_rfl) ?_ ?_
    · refine ⟨?_, ?_, ?_, ?_, ?_, ?_, ?_, ?_, ?_, ?_, ?_, ?_, ?_, ?_, ?_, trivial⟩
      · intro hop L a w5 hs hk hl ha keep know spec
        have h0 := keep 0 (.pointer (some ⟨e1, 0, none⟩)) (by kernel_rfl) rfl
        have q := hk.cell B0
        exact wpOp_value hop (wanted_none rfl) (v := .pointer (some ⟨H, 0, none⟩)) (by simp only [execOp, Act.eval, h0]; go_simp) ⟨_, rfl, (hk.go (by decide)), (fun d hd => by injection hd with hd; subst hd; exact ⟨tab rfl, trivial⟩), fun _ _ h => h⟩
      · intro hop L a w5 hs hk hl ha keep know spec
        have h5 := keep 5 (.bool false) (by kernel_rfl) rfl
        exact wpOp_value hop (wanted_none rfl) (v := .bool false) (by simp only [execOp, Act.eval, h5]; rfl) ⟨_, rfl, (hk.go (by decide)), (fun d hd => by injection hd with hd; subst hd; exact ⟨tab rfl, trivial⟩), fun _ _ h => h⟩
      · intro hop L a w5 hs hk hl ha keep know spec
        have h80 := know 80 (.bool false) (by kernel_rfl) rfl
        exact wpOp_value hop (wanted_none rfl) (v := .bool false) (by simp only [execOp, Act.eval, h80]; rfl) ⟨_, rfl, (hk.go (by decide)), (fun d hd => by injection hd with hd; subst hd; exact ⟨tab rfl, trivial⟩), fun _ _ h => h⟩
      · intro hop L a w5 hs hk hl ha keep know spec
        have hg := know 81 (.bool false) (by kernel_rfl) rfl
        exact wpOp_not hop ((wanted_bool rfl rfl hg).trans rfl) ⟨_, rfl, (hk.go (by decide)), (fun d hd => by injection hd with hd; subst hd; exact ⟨tab rfl, trivial⟩), fun _ _ h => h⟩
      · intro hop L a w5 hs hk hl ha keep know spec
        have hg := know 81 (.bool false) (by kernel_rfl) rfl
        exact wpOp_not hop ((wanted_bool rfl rfl hg).trans rfl) ⟨_, rfl, (hk.go (by decide)), (fun d hd => by injection hd with hd; subst hd; exact ⟨tab rfl, trivial⟩), fun _ _ h => h⟩
      · intro hop L a w5 hs hk hl ha keep know spec
        have hg := know 81 (.bool false) (by kernel_rfl) rfl
        exact wpOp_not hop ((wanted_bool rfl rfl hg).trans rfl) ⟨_, rfl, (hk.go (by decide)), (fun d hd => by injection hd with hd; subst hd; exact ⟨tab rfl, trivial⟩), fun _ _ h => h⟩
      · intro hop L a w5 hs hk hl ha keep know spec
        have hg := know 81 (.bool false) (by kernel_rfl) rfl
        exact wpOp_not hop ((wanted_bool rfl rfl hg).trans rfl) ⟨_, rfl, (hk.go (by decide)), (fun d hd => by injection hd with hd; subst hd; exact ⟨tab rfl, trivial⟩), fun _ _ h => h⟩
      · intro hop L a w5 hs hk hl ha keep know spec
        have hg := know 81 (.bool false) (by kernel_rfl) rfl
        exact wpOp_not hop ((wanted_bool rfl rfl hg).trans rfl) ⟨_, rfl, (hk.go (by decide)), (fun d hd => by injection hd with hd; subst hd; exact ⟨tab rfl, trivial⟩), fun _ _ h => h⟩
      · intro hop L a w5 hs hk hl ha keep know spec
        have hg := know 81 (.bool false) (by kernel_rfl) rfl
        exact wpOp_not hop ((wanted_bool rfl rfl hg).trans rfl) ⟨_, rfl, (hk.go (by decide)), (fun d hd => by injection hd with hd; subst hd; exact ⟨tab rfl, trivial⟩), fun _ _ h => h⟩
      · intro hop L a w5 hs hk hl ha keep know spec
        have hg := know 81 (.bool false) (by kernel_rfl) rfl
        exact wpOp_not hop ((wanted_bool rfl rfl hg).trans rfl) ⟨_, rfl, (hk.go (by decide)), (fun d hd => by injection hd with hd; subst hd; exact ⟨tab rfl, trivial⟩), fun _ _ h => h⟩
      · intro hop L a w5 hs hk hl ha keep know spec
        have hg := know 81 (.bool false) (by kernel_rfl) rfl
        exact wpOp_not hop ((wanted_bool rfl rfl hg).trans rfl) ⟨_, rfl, (hk.go (by decide)), (fun d hd => by injection hd with hd; subst hd; exact ⟨tab rfl, trivial⟩), fun _ _ h => h⟩
      · intro hop L a w5 hs hk hl ha keep know spec
        have h81 := know 81 (.bool false) (by kernel_rfl) rfl
        have h89 := know 89 (undef) (by kernel_rfl) rfl
        exact wpOp_value hop (wanted_none rfl) (v := .bool false) (by simp only [execOp, Act.eval, h81, h89]; rfl) ⟨_, rfl, (hk.go (by decide)), (fun d hd => by injection hd with hd; subst hd; exact ⟨tab rfl, trivial⟩), fun _ _ h => h⟩
      · intro hop L a w5 hs hk hl ha keep know spec
        have h79 := know 79 (.pointer (some ⟨H, 0, none⟩)) (by kernel_rfl) rfl
        exact wpOp_value hop (wanted_none rfl) (v := .pointer (some ⟨H, 0, none⟩)) (by simp only [execOp, Act.eval, h79]; go_simp) ⟨_, rfl, (hk.go (by decide)), (fun d hd => by injection hd with hd; subst hd; exact ⟨tab rfl, trivial⟩), fun _ _ h => h⟩
      · intro hop L a w5 hs hk hl ha keep know spec
        have h91 := know 91 (.pointer (some ⟨H, 0, none⟩)) (by kernel_rfl) rfl
        exact wpOp_value hop (wanted_none rfl) (v := .pointer (some ⟨H, 5, none⟩)) (by simp only [execOp, Act.eval, h91]; go_simp) ⟨_, rfl, (hk.go (by decide)), (fun d hd => by injection hd with hd; subst hd; exact ⟨tab rfl, trivial⟩), fun _ _ h => h⟩
      · intro hop L a w5 hs hk hl ha keep know spec
        have h92 := know 92 (.pointer (some ⟨H, 5, none⟩)) (by kernel_rfl) rfl
        have h90 := know 90 (.bool false) (by kernel_rfl) rfl
        obtain ⟨⟨n5, e5⟩, hk2⟩ := hk.st1 hl (p := ⟨H, 5, none⟩) (v := .bool false) hW1
        have q : w5.cell? ⟨H, 5, none⟩ = some _ := (congrArg (fun W : World => W.cell? ⟨H, 5, none⟩) e5).trans S1
        have r : w5.frozen? ⟨H, 5, none⟩ = false := (congrArg (fun W : World => W.frozen? ⟨H, 5, none⟩) e5).trans T1
        exact wpOp_skip hop (wanted_none rfl) (w' := w5.setCell ⟨H, 5, none⟩ (.bool false)) (by simp only [execOp, Act.eval, h92, h90]; go_simp) ⟨_, rfl, hk2, (fun d hd => by cases hd), fun _ _ h => h⟩
    · intro a' w7 e1x e2x hk keep know spec
      obtain ⟨tm, df⟩ := a'
      obtain ⟨f, hf⟩ := frame_puts (D := [79, 80, 81, 82, 83, 84, 85, 86, 87, 88, 89, 90, 91, 92]) e2x keep
      have e3x : df = [] := e1x
      obtain ⟨n7, e6⟩ := hk.done (n := 15) (by decide)
      have r5 := r4 n7
      rw [← e6] at r5
      clear keep know spec e1x e2x hk r4 B0 B4 BM S1 T1 hW0 hW1 e6
      simp only [List.foldl_cons, List.foldl_nil] at hf
      subst e3x
      rw [hf]
      clear hf
      go_wp2
      exact HE.out _ r5
end Go.Proofs.Ytoihdnekkgpcoaa
