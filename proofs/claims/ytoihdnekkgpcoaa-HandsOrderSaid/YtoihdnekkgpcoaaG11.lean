/-
  The closure that looks, of one that marks: whether the key is there. Conditions: the table lies as WN says.
-/
import Derived.Test.YtoihdnekkgpcoaaG10
import Derived.Test.YtoihdnekkgpcoaaG7

namespace Go.Proofs.Ytoihdnekkgpcoaa
open Go.ChangeShapes Go.WideShapes Go.ChangeAt Go.RowKit
set_option linter.unusedVariables false
set_option linter.unusedSimpArgs false

variable {L : Lay} {s : St} {dv : Nat → Value} {w w' : World}
set_option maxRecDepth 100000 in
set_option maxHeartbeats 4000000 in
theorem mk3_hasY (h : WN L s dv w) {i : Nat} (hi : i < L.nh) {d : Dd} (nv : Bool) (hd : (L.P i)[s.deed i]? = some d) (hp : (s.hd i).plc = 1) (hlt : ¬ s.m.ky (s.hd i).c < d.key) (hk3 : d.kind = 3) (hke : s.m.ky (s.hd i).c = d.key) {e0 e1 e2 e3 e4 e5 e6 : Nat} (he : EMk L (L.Hb i) e0 e1 e2 e3 e4 e5 e6) (hv : dv i = vMk 1 e0 e1 e2 e3 e4 e5 e6) :
    Calls Try.prog 55 #[ptr e1, ptr e6, ptr e2, ptr e4] w (CP DMk L s dv i (markS nv s.m (s.hd i) d)) := by
  have c1 := h.cst he.c1
  obtain ⟨pv, cv, bb, -, -, -, -, h4, h5, hz, -, hpc, -⟩ := h.hand hi
  obtain ⟨-, rfl, p1, p2⟩ := hpc (by omega)
  obtain ⟨b0, -, b2, -⟩ := h.bead p2
  have f5 := hz 5
  have hvn : dv i ≠ .nilFunc := by rw [hv]; exact vMk_nil _ _ _ _ _ _ _ _
  have er : markS nv s.m (s.hd i) d = (s.m, { s.hd i with is := !s.m.mr (s.hd i).c }, true) := by unfold markS; rw [hp]; simp [hlt, hk3, hke, hp]
  rw [er]
  have HK := hide (fun W (k : Kp w W) => key_quiet (h.kpw k) hi hd)
  have HKd := hide (fun W (k : Kp w W) => kind_quiet (h.kpw k) hi hd)
  have HE : Hid (∀ W, Kp (w.setCell ⟨L.Hb i, 5, none⟩ (.bool (!s.m.mr (s.hd i).c))) W → CP DMk L s dv i (s.m, { s.hd i with is := !s.m.mr (s.hd i).c }, true) (.returned (.bool true)) W) := hide (fun W k => ⟨rfl, L, dv, Lx.refl _ _, (h.setis hi (!s.m.mr (s.hd i).c)).kpw k, fun _ _ => rfl, hvn, fun e => absurd e (by simp)⟩)
  have n1 : ¬ e1 = L.Hb i := by obtain ⟨_, _, _, a, _⟩ := h.hn i hi; exact BC.ne (h.cs _ _ _ he.c1).1 a (by decide)
  have n2 : ¬ L.B (s.hd i).c = L.Hb i := by obtain ⟨_, _, _, a, _⟩ := h.hn i hi; exact BC.ne (h.bd _ p2).1 a (by decide)
  obtain ⟨R, hR⟩ : ∃ R, R = CP DMk L s dv i (s.m, { s.hd i with is := !s.m.mr (s.hd i).c }, true) := ⟨_, rfl⟩
  rw [← hR] at HE ⊢
  obtain ⟨b, hb⟩ : ∃ b, b = L.B (s.hd i).c := ⟨_, rfl⟩
  obtain ⟨H, hH⟩ : ∃ b, b = L.Hb i := ⟨_, rfl⟩
  obtain ⟨K, hK⟩ : ∃ b, b = s.m.ky (s.hd i).c := ⟨_, rfl⟩
  obtain ⟨D, hD⟩ : ∃ b, b = d.key := ⟨_, rfl⟩
  obtain ⟨Q, hQ⟩ : ∃ b, b = d.kind := ⟨_, rfl⟩
  obtain ⟨MC, hMC⟩ : ∃ b, b = s.m.mr (s.hd i).c := ⟨_, rfl⟩
  rw [← hb] at h4 b0 b2 n2
  rw [← hH] at c1 h4 h5 f5 HK HKd HE n1 n2
  rw [← hK] at b0 hlt hke
  rw [← hD] at HK hlt hke
  rw [← hQ] at HKd hk3
  rw [← hMC] at b2 HE
  have HF : Hid (∀ W, Kp w W → W.cell? ⟨e1, 0, none⟩ = some (ptr H) ∧ W.cell? ⟨H, 4, none⟩ = some (ptr b) ∧ W.cell? ⟨b, 0, none⟩ = some (.int .i64 K) ∧ W.cell? ⟨b, 2, none⟩ = some (.bool MC) ∧ W.cell? ⟨H, 5, none⟩ = some (.bool bb) ∧ W.frozen? ⟨H, 5, none⟩ = false) := hide (fun W k => ⟨k.cell c1, k.cell h4, k.cell b0, k.cell b2, k.cell h5, (k.frozen (World.block_lt_of_cell? _ _ h5)).trans f5⟩)
  have hE : (K == D) = true := by rw [beq_dec, decide_eq_true hke]
  have q3 : (Q == 3) = true := by rw [hk3]; rfl
  have q3b : (Q != 3) = false := by rw [hk3]; rfl
  clear h hi hd hp he hv hvn er hR hb hH hK hD hQ hMC hpc p1 p2 hz b2 h5 f5 hk3 hke
  unfold ptr at *
  cases MC with
  | false =>
    go_enter Try.func55, Try.ntmps55
    go_wp2_with fail
    go_quiet ((go_at_call 40; exact Calls.quiet_of (HK.out _ (by (focus ((repeat (first | (with_reducible assumption) | (with_reducible exact Kp.refl _) | (with_reducible apply Kp.drew) | (with_reducible apply Kp.drewN) | ((with_reducible apply Kp.setR); (focus (first | (with_reducible assumption) | (simp; done) | (simp; omega)))) | (with_reducible apply Kp.alloc) | ((with_reducible apply Kp.call); (with_reducible assumption)) | ((with_reducible apply Kp.app); (with_reducible assumption)))); done))))))
    obtain ⟨w1, hw1⟩ : ∃ x, x = w.drewN nq := ⟨_, rfl⟩
    rw [← hw1]
    have kw1 : Kp w w1 := by rw [hw1]; exact (Kp.refl w).drewN
    have HEQw1 := hide hw1
    clear hw1 c1 h4 b0
    obtain ⟨c1, h4, b0, b2, h5, f5⟩ := HF.out _ kw1
    go_wp2_with fail
    go_quiet ((go_at_call 40; exact Calls.quiet_of (HK.out _ (by (focus ((repeat (first | (with_reducible assumption) | (with_reducible exact Kp.refl _) | (with_reducible apply Kp.drew) | (with_reducible apply Kp.drewN) | ((with_reducible apply Kp.setR); (focus (first | (with_reducible assumption) | (simp; done) | (simp; omega)))) | (with_reducible apply Kp.alloc) | ((with_reducible apply Kp.call); (with_reducible assumption)) | ((with_reducible apply Kp.app); (with_reducible assumption)))); done))))))
    obtain ⟨w2, hw1⟩ : ∃ x, x = w1.drewN nq := ⟨_, rfl⟩
    rw [← hw1]
    have kw2 : Kp w w2 := by rw [hw1]; exact kw1.drewN
    have HEQw2 := hide hw1
    clear hw1 c1 h4 b0 b2 h5 f5
    obtain ⟨c1, h4, b0, b2, h5, f5⟩ := HF.out _ kw2
    go_wp2_with fail
    refine (HKd.out _ kw2).mono ?_
    rintro e w3x ⟨rfl, m3, rfl⟩
    obtain ⟨w3, hw1⟩ : ∃ x, x = w2.drewN m3 := ⟨_, rfl⟩
    rw [← hw1]
    have kw3 : Kp w w3 := by rw [hw1]; exact kw2.drewN
    have HEQw3 := hide hw1
    clear hw1 c1 h4 b0 b2 h5 f5
    obtain ⟨c1, h4, b0, b2, h5, f5⟩ := HF.out _ kw3
    go_wp2_with fail
    obtain ⟨W0, hW0⟩ : ∃ W0, W0 = w3.drew := ⟨_, rfl⟩
    obtain ⟨W1, hW1⟩ : ∃ W1, W1 = W0.setCell ⟨H, 5, none⟩ (.bool true) := ⟨_, rfl⟩
    have r4 : ∀ n, Kp (w.setCell ⟨H, 5, none⟩ (.bool true)) (W1.drewN n) := fun n => by
      rw [hW1, hW0]
      first | (rw [HEQw4.out, HEQw3.out, HEQw2.out, HEQw1.out]; exact (((((Kp.refl _).drewN).drewN).drewN).drewN).drew.drewN) | (rw [HEQw3.out, HEQw2.out, HEQw1.out]; exact ((((Kp.refl _).drewN).drewN).drewN).drew.drewN)
    have B0 : W0.cell? ⟨e1, 0, none⟩ = some (.pointer (some ⟨H, 0, none⟩)) ∧ W1.cell? ⟨e1, 0, none⟩ = some (.pointer (some ⟨H, 0, none⟩)) := by
      rw [hW1, hW0]; refine ⟨c1, ?_⟩; simp [go_sem, c1, n1]
    have B4 : W0.cell? ⟨H, 4, none⟩ = some (.pointer (some ⟨b, 0, none⟩)) ∧ W1.cell? ⟨H, 4, none⟩ = some (.pointer (some ⟨b, 0, none⟩)) := by
      rw [hW1, hW0]; refine ⟨h4, ?_⟩; simp [go_sem, h4]
    have BM : W0.cell? ⟨b, 2, none⟩ = some (.bool false) ∧ W1.cell? ⟨b, 2, none⟩ = some (.bool false) := by
      rw [hW1, hW0]; refine ⟨b2, ?_⟩; simp [go_sem, b2, n2]
    have S1 : W0.cell? ⟨H, 5, none⟩ = some (.bool bb) := by rw [hW0]; exact h5
    have T1 : W0.frozen? ⟨H, 5, none⟩ = false := by rw [hW0]; exact f5
    refine wp_region_tab (by kernel_rfl) [(79, .pointer (some ⟨H, 0, none⟩)), (80, .bool true), (81, .bool true), (82, .pointer (some ⟨H, 0, none⟩)), (83, .pointer (some ⟨H, 0, none⟩)), (84, .pointer (some ⟨H, 4, none⟩)), (85, .pointer (some ⟨b, 0, none⟩)), (86, .pointer (some ⟨b, 0, none⟩)), (87, .pointer (some ⟨b, 2, none⟩)), (88, .bool false), (89, .bool true), (90, .bool true), (91, .pointer (some ⟨H, 0, none⟩)), (92, .pointer (some ⟨H, 5, none⟩))] (fun _ _ _ => True) (J1 W0 W1 14) (by rw [hW0]; exact J1.start (by decide)) (by kernel_rfl) (by kernel_rfl) ?_ ?_
    · refine ⟨?_, ?_, ?_, ?_, ?_, ?_, ?_, ?_, ?_, ?_, ?_, ?_, ?_, ?_, ?_, trivial⟩
      · intro hop L a w5 hs hk hl ha keep know spec
        have h0 := keep 0 (.pointer (some ⟨e1, 0, none⟩)) (by kernel_rfl) rfl
        have q := hk.cell B0
        exact wpOp_value hop (wanted_none rfl) (v := .pointer (some ⟨H, 0, none⟩)) (by simp only [execOp, Act.eval, h0]; go_simp) ⟨_, rfl, (hk.go (by decide)), (fun d hd => by injection hd with hd; subst hd; exact ⟨tab rfl, trivial⟩), fun _ _ h => h⟩
      · intro hop L a w5 hs hk hl ha keep know spec
        have h5 := keep 5 (.bool true) (by kernel_rfl) rfl
        exact wpOp_value hop (wanted_none rfl) (v := .bool true) (by simp only [execOp, Act.eval, h5]; rfl) ⟨_, rfl, (hk.go (by decide)), (fun d hd => by injection hd with hd; subst hd; exact ⟨tab rfl, trivial⟩), fun _ _ h => h⟩
      · intro hop L a w5 hs hk hl ha keep know spec
        have h80 := know 80 (.bool true) (by kernel_rfl) rfl
        exact wpOp_value hop (wanted_none rfl) (v := .bool true) (by simp only [execOp, Act.eval, h80]; rfl) ⟨_, rfl, (hk.go (by decide)), (fun d hd => by injection hd with hd; subst hd; exact ⟨tab rfl, trivial⟩), fun _ _ h => h⟩
      · intro hop L a w5 hs hk hl ha keep know spec
        have h0 := keep 0 (.pointer (some ⟨e1, 0, none⟩)) (by kernel_rfl) rfl
        have hg := know 81 (.bool true) (by kernel_rfl) rfl
        have q := hk.cell B0
        exact wpOp_value hop ((wanted_bool rfl rfl hg).trans rfl) (v := .pointer (some ⟨H, 0, none⟩)) (by simp only [execOp, Act.eval, h0]; go_simp) ⟨_, rfl, (hk.go (by decide)), (fun d hd => by injection hd with hd; subst hd; exact ⟨tab rfl, trivial⟩), fun _ _ h => h⟩
      · intro hop L a w5 hs hk hl ha keep know spec
        have h82 := know 82 (.pointer (some ⟨H, 0, none⟩)) (by kernel_rfl) rfl
        have hg := know 81 (.bool true) (by kernel_rfl) rfl
        exact wpOp_value hop ((wanted_bool rfl rfl hg).trans rfl) (v := .pointer (some ⟨H, 0, none⟩)) (by simp only [execOp, Act.eval, h82]; go_simp) ⟨_, rfl, (hk.go (by decide)), (fun d hd => by injection hd with hd; subst hd; exact ⟨tab rfl, trivial⟩), fun _ _ h => h⟩
      · intro hop L a w5 hs hk hl ha keep know spec
        have h83 := know 83 (.pointer (some ⟨H, 0, none⟩)) (by kernel_rfl) rfl
        have hg := know 81 (.bool true) (by kernel_rfl) rfl
        exact wpOp_value hop ((wanted_bool rfl rfl hg).trans rfl) (v := .pointer (some ⟨H, 4, none⟩)) (by simp only [execOp, Act.eval, h83]; go_simp) ⟨_, rfl, (hk.go (by decide)), (fun d hd => by injection hd with hd; subst hd; exact ⟨tab rfl, trivial⟩), fun _ _ h => h⟩
      · intro hop L a w5 hs hk hl ha keep know spec
        have h84 := know 84 (.pointer (some ⟨H, 4, none⟩)) (by kernel_rfl) rfl
        have hg := know 81 (.bool true) (by kernel_rfl) rfl
        have q := hk.cell B4
        exact wpOp_value hop ((wanted_bool rfl rfl hg).trans rfl) (v := .pointer (some ⟨b, 0, none⟩)) (by simp only [execOp, Act.eval, h84]; go_simp) ⟨_, rfl, (hk.go (by decide)), (fun d hd => by injection hd with hd; subst hd; exact ⟨tab rfl, trivial⟩), fun _ _ h => h⟩
      · intro hop L a w5 hs hk hl ha keep know spec
        have h85 := know 85 (.pointer (some ⟨b, 0, none⟩)) (by kernel_rfl) rfl
        have hg := know 81 (.bool true) (by kernel_rfl) rfl
        exact wpOp_value hop ((wanted_bool rfl rfl hg).trans rfl) (v := .pointer (some ⟨b, 0, none⟩)) (by simp only [execOp, Act.eval, h85]; go_simp) ⟨_, rfl, (hk.go (by decide)), (fun d hd => by injection hd with hd; subst hd; exact ⟨tab rfl, trivial⟩), fun _ _ h => h⟩
      · intro hop L a w5 hs hk hl ha keep know spec
        have h86 := know 86 (.pointer (some ⟨b, 0, none⟩)) (by kernel_rfl) rfl
        have hg := know 81 (.bool true) (by kernel_rfl) rfl
        exact wpOp_value hop ((wanted_bool rfl rfl hg).trans rfl) (v := .pointer (some ⟨b, 2, none⟩)) (by simp only [execOp, Act.eval, h86]; go_simp) ⟨_, rfl, (hk.go (by decide)), (fun d hd => by injection hd with hd; subst hd; exact ⟨tab rfl, trivial⟩), fun _ _ h => h⟩
      · intro hop L a w5 hs hk hl ha keep know spec
        have h87 := know 87 (.pointer (some ⟨b, 2, none⟩)) (by kernel_rfl) rfl
        have hg := know 81 (.bool true) (by kernel_rfl) rfl
        have q := hk.cell BM
        exact wpOp_value hop ((wanted_bool rfl rfl hg).trans rfl) (v := .bool false) (by simp only [execOp, Act.eval, h87]; go_simp) ⟨_, rfl, (hk.go (by decide)), (fun d hd => by injection hd with hd; subst hd; exact ⟨tab rfl, trivial⟩), fun _ _ h => h⟩
      · intro hop L a w5 hs hk hl ha keep know spec
        have h88 := know 88 (.bool false) (by kernel_rfl) rfl
        have hg := know 81 (.bool true) (by kernel_rfl) rfl
        exact wpOp_value hop ((wanted_bool rfl rfl hg).trans rfl) (v := .bool true) (by simp only [execOp, Act.eval, h88]; go_simp) ⟨_, rfl, (hk.go (by decide)), (fun d hd => by injection hd with hd; subst hd; exact ⟨tab rfl, trivial⟩), fun _ _ h => h⟩
      · intro hop L a w5 hs hk hl ha keep know spec
        have h81 := know 81 (.bool true) (by kernel_rfl) rfl
        have h89 := know 89 (.bool true) (by kernel_rfl) rfl
        exact wpOp_value hop (wanted_none rfl) (v := .bool true) (by simp only [execOp, Act.eval, h81, h89]; rfl) ⟨_, rfl, (hk.go (by decide)), (fun d hd => by injection hd with hd; subst hd; exact ⟨tab rfl, trivial⟩), fun _ _ h => h⟩
      · intro hop L a w5 hs hk hl ha keep know spec
        have h79 := know 79 (.pointer (some ⟨H, 0, none⟩)) (by kernel_rfl) rfl
        exact wpOp_value hop (wanted_none rfl) (v := .pointer (some ⟨H, 0, none⟩)) (by simp only [execOp, Act.eval, h79]; go_simp) ⟨_, rfl, (hk.go (by decide)), (fun d hd => by injection hd with hd; subst hd; exact ⟨tab rfl, trivial⟩), fun _ _ h => h⟩
      · intro hop L a w5 hs hk hl ha keep know spec
        have h91 := know 91 (.pointer (some ⟨H, 0, none⟩)) (by kernel_rfl) rfl
        exact wpOp_value hop (wanted_none rfl) (v := .pointer (some ⟨H, 5, none⟩)) (by simp only [execOp, Act.eval, h91]; go_simp) ⟨_, rfl, (hk.go (by decide)), (fun d hd => by injection hd with hd; subst hd; exact ⟨tab rfl, trivial⟩), fun _ _ h => h⟩
      · intro hop L a w5 hs hk hl ha keep know spec
        have h92 := know 92 (.pointer (some ⟨H, 5, none⟩)) (by kernel_rfl) rfl
        have h90 := know 90 (.bool true) (by kernel_rfl) rfl
        obtain ⟨⟨n5, e5⟩, hk2⟩ := hk.st1 hl (p := ⟨H, 5, none⟩) (v := .bool true) hW1
        have q : w5.cell? ⟨H, 5, none⟩ = some _ := (congrArg (fun W : World => W.cell? ⟨H, 5, none⟩) e5).trans S1
        have r : w5.frozen? ⟨H, 5, none⟩ = false := (congrArg (fun W : World => W.frozen? ⟨H, 5, none⟩) e5).trans T1
        exact wpOp_skip hop (wanted_none rfl) (w' := w5.setCell ⟨H, 5, none⟩ (.bool true)) (by simp only [execOp, Act.eval, h92, h90]; go_simp) ⟨_, rfl, hk2, (fun d hd => by cases hd), fun _ _ h => h⟩
    · intro a' w7 e1x e2x hk keep know spec
      obtain ⟨tm, df⟩ := a'
      obtain ⟨f, hf⟩ := frame_puts (D := [79, 80, 81, 82, 83, 84, 85, 86, 87, 88, 89, 90, 91, 92]) e2x keep
      have e3x : df = [] := e1x
      obtain ⟨n7, e6⟩ := hk.done (n := 15) (by decide)
      have r5 := r4 n7
      rw [← e6] at r5
      clear keep know spec e1x e2x hk r4 B0 B4 BM S1 T1 hW0 hW1 e6
      simp only [List.foldl_cons, List.foldl_nil] at hf
      subst e3x
      rw [hf]
      clear hf
      go_wp2
      exact HE.out _ r5
  | true =>
    go_enter Try.func55, Try.ntmps55
    go_wp2_with fail
    go_quiet ((go_at_call 40; exact Calls.quiet_of (HK.out _ (by (focus ((repeat (first | (with_reducible assumption) | (with_reducible exact Kp.refl _) | (with_reducible apply Kp.drew) | (with_reducible apply Kp.drewN) | ((with_reducible apply Kp.setR); (focus (first | (with_reducible assumption) | (simp; done) | (simp; omega)))) | (with_reducible apply Kp.alloc) | ((with_reducible apply Kp.call); (with_reducible assumption)) | ((with_reducible apply Kp.app); (with_reducible assumption)))); done))))))
    obtain ⟨w1, hw1⟩ : ∃ x, x = w.drewN nq := ⟨_, rfl⟩
    rw [← hw1]
    have kw1 : Kp w w1 := by rw [hw1]; exact (Kp.refl w).drewN
    have HEQw1 := hide hw1
    clear hw1 c1 h4 b0
    obtain ⟨c1, h4, b0, b2, h5, f5⟩ := HF.out _ kw1
    go_wp2_with fail
    refine (HKd.out _ kw1).mono ?_
    rintro e w2x ⟨rfl, m2, rfl⟩
    obtain ⟨w2, hw1⟩ : ∃ x, x = w1.drewN m2 := ⟨_, rfl⟩
    rw [← hw1]
    have kw2 : Kp w w2 := by rw [hw1]; exact kw1.drewN
    have HEQw2 := hide hw1
    clear hw1 c1 h4 b0 b2 h5 f5
    obtain ⟨c1, h4, b0, b2, h5, f5⟩ := HF.out _ kw2
    go_wp2_with fail
    go_quiet ((go_at_call 40; exact Calls.quiet_of (HK.out _ (by (focus ((repeat (first | (with_reducible assumption) | (with_reducible exact Kp.refl _) | (with_reducible apply Kp.drew) | (with_reducible apply Kp.drewN) | ((with_reducible apply Kp.setR); (focus (first | (with_reducible assumption) | (simp; done) | (simp; omega)))) | (with_reducible apply Kp.alloc) | ((with_reducible apply Kp.call); (with_reducible assumption)) | ((with_reducible apply Kp.app); (with_reducible assumption)))); done))))))
    obtain ⟨w3, hw1⟩ : ∃ x, x = w2.drewN nq := ⟨_, rfl⟩
    rw [← hw1]
    have kw3 : Kp w w3 := by rw [hw1]; exact kw2.drewN
    have HEQw3 := hide hw1
    clear hw1 c1 h4 b0 b2 h5 f5
    obtain ⟨c1, h4, b0, b2, h5, f5⟩ := HF.out _ kw3
    go_wp2_with fail
    refine (HKd.out _ kw3).mono ?_
    rintro e w4x ⟨rfl, m4, rfl⟩
    obtain ⟨w4, hw1⟩ : ∃ x, x = w3.drewN m4 := ⟨_, rfl⟩
    rw [← hw1]
    have kw4 : Kp w w4 := by rw [hw1]; exact kw3.drewN
    have HEQw4 := hide hw1
    clear hw1 c1 h4 b0 b2 h5 f5
    obtain ⟨c1, h4, b0, b2, h5, f5⟩ := HF.out _ kw4
    go_wp2_with fail
    obtain ⟨W0, hW0⟩ : ∃ W0, W0 = w4.drew := ⟨_, rfl⟩
    obtain ⟨W1, hW1⟩ : ∃ W1, W1 = W0.setCell ⟨H, 5, none⟩ (.bool false) := ⟨_, rfl⟩
    have r4 : ∀ n, Kp (w.setCell ⟨H, 5, none⟩ (.bool false)) (W1.drewN n) := fun n => by
      rw [hW1, hW0]
      first | (rw [HEQw4.out, HEQw3.out, HEQw2.out, HEQw1.out]; exact (((((Kp.refl _).drewN).drewN).drewN).drewN).drew.drewN) | (rw [HEQw3.out, HEQw2.out, HEQw1.out]; exact ((((Kp.refl _).drewN).drewN).drewN).drew.drewN)
    have B0 : W0.cell? ⟨e1, 0, none⟩ = some (.pointer (some ⟨H, 0, none⟩)) ∧ W1.cell? ⟨e1, 0, none⟩ = some (.pointer (some ⟨H, 0, none⟩)) := by
      rw [hW1, hW0]; refine ⟨c1, ?_⟩; simp [go_sem, c1, n1]
    have B4 : W0.cell? ⟨H, 4, none⟩ = some (.pointer (some ⟨b, 0, none⟩)) ∧ W1.cell? ⟨H, 4, none⟩ = some (.pointer (some ⟨b, 0, none⟩)) := by
      rw [hW1, hW0]; refine ⟨h4, ?_⟩; simp [go_sem, h4]
    have BM : W0.cell? ⟨b, 2, none⟩ = some (.bool true) ∧ W1.cell? ⟨b, 2, none⟩ = some (.bool true) := by
      rw [hW1, hW0]; refine ⟨b2, ?_⟩; simp [go_sem, b2, n2]
    have S1 : W0.cell? ⟨H, 5, none⟩ = some (.bool bb) := by rw [hW0]; exact h5
    have T1 : W0.frozen? ⟨H, 5, none⟩ = false := by rw [hW0]; exact f5
    refine wp_region_tab (by kernel_rfl) [(79, .pointer (some ⟨H, 0, none⟩)), (80, .bool true), (81, .bool true), (82, .pointer (some ⟨H, 0, none⟩)), (83, .pointer (some ⟨H, 0, none⟩)), (84, .pointer (some ⟨H, 4, none⟩)), (85, .pointer (some ⟨b, 0, none⟩)), (86, .pointer (some ⟨b, 0, none⟩)), (87, .pointer (some ⟨b, 2, none⟩)), (88, .bool true), (89, .bool false), (90, .bool false), (91, .pointer (some ⟨H, 0, none⟩)), (92, .pointer (some ⟨H, 5, none⟩))] (fun _ _ _ => True) (J1 W0 W1 14) (by rw [hW0]; exact J1.start (by decide)) (by kernel_rfl) (by kernel_rfl) ?_ ?_
    · refine ⟨?_, ?_, ?_, ?_, ?_, ?_, ?_, ?_, ?_, ?_, ?_, ?_, ?_, ?_, ?_, trivial⟩
      · intro hop L a w5 hs hk hl ha keep know spec
        have h0 := keep 0 (.pointer (some ⟨e1, 0, none⟩)) (by kernel_rfl) rfl
        have q := hk.cell B0
        exact wpOp_value hop (wanted_none rfl) (v := .pointer (some ⟨H, 0, none⟩)) (by simp only [execOp, Act.eval, h0]; go_simp) ⟨_, rfl, (hk.go (by decide)), (fun d hd => by injection hd with hd; subst hd; exact ⟨tab rfl, trivial⟩), fun _ _ h => h⟩
      · intro hop L a w5 hs hk hl ha keep know spec
        have h5 := keep 5 (.bool true) (by kernel_rfl) rfl
        exact wpOp_value hop (wanted_none rfl) (v := .bool true) (by simp only [execOp, Act.eval, h5]; rfl) ⟨_, rfl, (hk.go (by decide)), (fun d hd => by injection hd with hd; subst hd; exact ⟨tab rfl, trivial⟩), fun _ _ h => h⟩
      · intro hop L a w5 hs hk hl ha keep know spec
        have h80 := know 80 (.bool true) (by kernel_rfl) rfl
        exact wpOp_value hop (wanted_none rfl) (v := .bool true) (by simp only [execOp, Act.eval, h80]; rfl) ⟨_, rfl, (hk.go (by decide)), (fun d hd => by injection hd with hd; subst hd; exact ⟨tab rfl, trivial⟩), fun _ _ h => h⟩
      · intro hop L a w5 hs hk hl ha keep know spec
        have h0 := keep 0 (.pointer (some ⟨e1, 0, none⟩)) (by kernel_rfl) rfl
        have hg := know 81 (.bool true) (by kernel_rfl) rfl
        have q := hk.cell B0
        exact wpOp_value hop ((wanted_bool rfl rfl hg).trans rfl) (v := .pointer (some ⟨H, 0, none⟩)) (by simp only [execOp, Act.eval, h0]; go_simp) ⟨_, rfl, (hk.go (by decide)), (fun d hd => by injection hd with hd; subst hd; exact ⟨tab rfl, trivial⟩), fun _ _ h => h⟩
      · intro hop L a w5 hs hk hl ha keep know spec
        have h82 := know 82 (.pointer (some ⟨H, 0, none⟩)) (by kernel_rfl) rfl
        have hg := know 81 (.bool true) (by kernel_rfl) rfl
        exact wpOp_value hop ((wanted_bool rfl rfl hg).trans rfl) (v := .pointer (some ⟨H, 0, none⟩)) (by simp only [execOp, Act.eval, h82]; go_simp) ⟨_, rfl, (hk.go (by decide)), (fun d hd => by injection hd with hd; subst hd; exact ⟨tab rfl, trivial⟩), fun _ _ h => h⟩
      · intro hop L a w5 hs hk hl ha keep know spec
        have h83 := know 83 (.pointer (some ⟨H, 0, none⟩)) (by kernel_rfl) rfl
        have hg := know 81 (.bool true) (by kernel_rfl) rfl
        exact wpOp_value hop ((wanted_bool rfl rfl hg).trans rfl) (v := .pointer (some ⟨H, 4, none⟩)) (by simp only [execOp, Act.eval, h83]; go_simp) ⟨_, rfl, (hk.go (by decide)), (fun d hd => by injection hd with hd; subst hd; exact ⟨tab rfl, trivial⟩), fun _ _ h => h⟩
      · intro hop L a w5 hs hk hl ha keep know spec
        have h84 := know 84 (.pointer (some ⟨H, 4, none⟩)) (by kernel_rfl) rfl
        have hg := know 81 (.bool true) (by kernel_rfl) rfl
        have q := hk.cell B4
        exact wpOp_value hop ((wanted_bool rfl rfl hg).trans rfl) (v := .pointer (some ⟨b, 0, none⟩)) (by simp only [execOp, Act.eval, h84]; go_simp) ⟨_, rfl, (hk.go (by decide)), (fun d hd => by injection hd with hd; subst hd; exact ⟨tab rfl, trivial⟩), fun _ _ h => h⟩
      · intro hop L a w5 hs hk hl ha keep know spec
        have h85 := know 85 (.pointer (some ⟨b, 0, none⟩)) (by kernel_rfl) rfl
        have hg := know 81 (.bool true) (by kernel_rfl) rfl
        exact wpOp_value hop ((wanted_bool rfl rfl hg).trans rfl) (v := .pointer (some ⟨b, 0, none⟩)) (by simp only [execOp, Act.eval, h85]; go_simp) ⟨_, rfl, (hk.go (by decide)), (fun d hd => by injection hd with hd; subst hd; exact ⟨tab rfl, trivial⟩), fun _ _ h => h⟩
      · intro hop L a w5 hs hk hl ha keep know spec
        have h86 := know 86 (.pointer (some ⟨b, 0, none⟩)) (by kernel_rfl) rfl
        have hg := know 81 (.bool true) (by kernel_rfl) rfl
        exact wpOp_value hop ((wanted_bool rfl rfl hg).trans rfl) (v := .pointer (some ⟨b, 2, none⟩)) (by simp only [execOp, Act.eval, h86]; go_simp) ⟨_, rfl, (hk.go (by decide)), (fun d hd => by injection hd with hd; subst hd; exact ⟨tab rfl, trivial⟩), fun _ _ h => h⟩
      · intro hop L a w5 hs hk hl ha keep know spec
        have h87 := know 87 (.pointer (some ⟨b, 2, none⟩)) (by kernel_rfl) rfl
        have hg := know 81 (.bool true) (by kernel_rfl) rfl
        have q := hk.cell BM
        exact wpOp_value hop ((wanted_bool rfl rfl hg).trans rfl) (v := .bool true) (by simp only [execOp, Act.eval, h87]; go_simp) ⟨_, rfl, (hk.go (by decide)), (fun d hd => by injection hd with hd; subst hd; exact ⟨tab rfl, trivial⟩), fun _ _ h => h⟩
      · intro hop L a w5 hs hk hl ha keep know spec
        have h88 := know 88 (.bool true) (by kernel_rfl) rfl
        have hg := know 81 (.bool true) (by kernel_rfl) rfl
        exact wpOp_value hop ((wanted_bool rfl rfl hg).trans rfl) (v := .bool false) (by simp only [execOp, Act.eval, h88]; go_simp) ⟨_, rfl, (hk.go (by decide)), (fun d hd => by injection hd with hd; subst hd; exact ⟨tab rfl, trivial⟩), fun _ _ h => h⟩
      · intro hop L a w5 hs hk hl ha keep know spec
        have h81 := know 81 (.bool true) (by kernel_rfl) rfl
        have h89 := know 89 (.bool false) (by kernel_rfl) rfl
        exact wpOp_value hop (wanted_none rfl) (v := .bool false) (by simp only [execOp, Act.eval, h81, h89]; rfl) ⟨_, rfl, (hk.go (by decide)), (fun d hd => by injection hd with hd; subst hd; exact ⟨tab rfl, trivial⟩), fun _ _ h => h⟩
      · intro hop L a w5 hs hk hl ha keep know spec
        have h79 := know 79 (.pointer (some ⟨H, 0, none⟩)) (by kernel_rfl) rfl
        exact wpOp_value hop (wanted_none rfl) (v := .pointer (some ⟨H, 0, none⟩)) (by simp only [execOp, Act.eval, h79]; go_simp) ⟨_, rfl, (hk.go (by decide)), (fun d hd => by injection hd with hd; subst hd; exact ⟨tab rfl, trivial⟩), fun _ _ h => h⟩
      · intro hop L a w5 hs hk hl ha keep know spec
        have h91 := know 91 (.pointer (some ⟨H, 0, none⟩)) (by kernel_rfl) rfl
        exact wpOp_value hop (wanted_none rfl) (v := .pointer (some ⟨H, 5, none⟩)) (by simp only [execOp, Act.eval, h91]; go_simp) ⟨_, rfl, (hk.go (by decide)), (fun d hd => by injection hd with hd; subst hd; exact ⟨tab rfl, trivial⟩), fun _ _ h => h⟩
      · intro hop L a w5 hs hk hl ha keep know spec
        have h92 := know 92 (.pointer (some ⟨H, 5, none⟩)) (by kernel_rfl) rfl
        have h90 := know 90 (.bool false) (by kernel_rfl) rfl
        obtain ⟨⟨n5, e5⟩, hk2⟩ := hk.st1 hl (p := ⟨H, 5, none⟩) (v := .bool false) hW1
        have q : w5.cell? ⟨H, 5, none⟩ = some _ := (congrArg (fun W : World => W.cell? ⟨H, 5, none⟩) e5).trans S1
        have r : w5.frozen? ⟨H, 5, none⟩ = false := (congrArg (fun W : World => W.frozen? ⟨H, 5, none⟩) e5).trans T1
        exact wpOp_skip hop (wanted_none rfl) (w' := w5.setCell ⟨H, 5, none⟩ (.bool false)) (by simp only [execOp, Act.eval, h92, h90]; go_simp) ⟨_, rfl, hk2, (fun d hd => by cases hd), fun _ _ h => h⟩
    · intro a' w7 e1x e2x hk keep know spec
      obtain ⟨tm, df⟩ := a'
      obtain ⟨f, hf⟩ := frame_puts (D := [79, 80, 81, 82, 83, 84, 85, 86, 87, 88, 89, 90, 91, 92]) e2x keep
      have e3x : df = [] := e1x
      obtain ⟨n7, e6⟩ := hk.done (n := 15) (by decide)
      have r5 := r4 n7
      rw [← e6] at r5
      clear keep know spec e1x e2x hk r4 B0 B4 BM S1 T1 hW0 hW1 e6
      simp only [List.foldl_cons, List.foldl_nil] at hf
      subst e3x
      rw [hf]
      clear hf
      go_wp2
      exact HE.out _ r5
set_option maxRecDepth 100000 in
set_option maxHeartbeats 4000000 in
theorem mk3_hasN (h : WN L s dv w) {i : Nat} (hi : i < L.nh) {d : Dd} (nv : Bool) (hd : (L.P i)[s.deed i]? = some d) (hp : (s.hd i).plc = 1) (hlt : ¬ s.m.ky (s.hd i).c < d.key) (hk3 : d.kind = 3) (hke : s.m.ky (s.hd i).c ≠ d.key) {e0 e1 e2 e3 e4 e5 e6 : Nat} (he : EMk L (L.Hb i) e0 e1 e2 e3 e4 e5 e6) (hv : dv i = vMk 1 e0 e1 e2 e3 e4 e5 e6) :
    Calls Try.prog 55 #[ptr e1, ptr e6, ptr e2, ptr e4] w (CP DMk L s dv i (markS nv s.m (s.hd i) d)) := by
  have c1 := h.cst he.c1
  obtain ⟨pv, cv, bb, -, -, -, -, h4, h5, hz, -, hpc, -⟩ := h.hand hi
  obtain ⟨-, rfl, p1, p2⟩ := hpc (by omega)
  obtain ⟨b0, -, b2, -⟩ := h.bead p2
  have f5 := hz 5
  have hvn : dv i ≠ .nilFunc := by rw [hv]; exact vMk_nil _ _ _ _ _ _ _ _
  have er : markS nv s.m (s.hd i) d = (s.m, { s.hd i with is := false }, true) := by unfold markS; rw [hp]; simp [hlt, hk3, hke, hp]
  rw [er]
  have HK := hide (fun W (k : Kp w W) => key_quiet (h.kpw k) hi hd)
  have HKd := hide (fun W (k : Kp w W) => kind_quiet (h.kpw k) hi hd)
  have HE : Hid (∀ W, Kp (w.setCell ⟨L.Hb i, 5, none⟩ (.bool (false))) W → CP DMk L s dv i (s.m, { s.hd i with is := false }, true) (.returned (.bool true)) W) := hide (fun W k => ⟨rfl, L, dv, Lx.refl _ _, (h.setis hi (false)).kpw k, fun _ _ => rfl, hvn, fun e => absurd e (by simp)⟩)
  have n1 : ¬ e1 = L.Hb i := by obtain ⟨_, _, _, a, _⟩ := h.hn i hi; exact BC.ne (h.cs _ _ _ he.c1).1 a (by decide)
  have n2 : ¬ L.B (s.hd i).c = L.Hb i := by obtain ⟨_, _, _, a, _⟩ := h.hn i hi; exact BC.ne (h.bd _ p2).1 a (by decide)
  obtain ⟨R, hR⟩ : ∃ R, R = CP DMk L s dv i (s.m, { s.hd i with is := false }, true) := ⟨_, rfl⟩
  rw [← hR] at HE ⊢
  obtain ⟨b, hb⟩ : ∃ b, b = L.B (s.hd i).c := ⟨_, rfl⟩
  obtain ⟨H, hH⟩ : ∃ b, b = L.Hb i := ⟨_, rfl⟩
  obtain ⟨K, hK⟩ : ∃ b, b = s.m.ky (s.hd i).c := ⟨_, rfl⟩
  obtain ⟨D, hD⟩ : ∃ b, b = d.key := ⟨_, rfl⟩
  obtain ⟨Q, hQ⟩ : ∃ b, b = d.kind := ⟨_, rfl⟩
  obtain ⟨MC, hMC⟩ : ∃ b, b = s.m.mr (s.hd i).c := ⟨_, rfl⟩
  rw [← hb] at h4 b0 b2 n2
  rw [← hH] at c1 h4 h5 f5 HK HKd HE n1 n2
  rw [← hK] at b0 hlt hke
  rw [← hD] at HK hlt hke
  rw [← hQ] at HKd hk3
  rw [← hMC] at b2
  have HF : Hid (∀ W, Kp w W → W.cell? ⟨e1, 0, none⟩ = some (ptr H) ∧ W.cell? ⟨H, 4, none⟩ = some (ptr b) ∧ W.cell? ⟨b, 0, none⟩ = some (.int .i64 K) ∧ W.cell? ⟨b, 2, none⟩ = some (.bool MC) ∧ W.cell? ⟨H, 5, none⟩ = some (.bool bb) ∧ W.frozen? ⟨H, 5, none⟩ = false) := hide (fun W k => ⟨k.cell c1, k.cell h4, k.cell b0, k.cell b2, k.cell h5, (k.frozen (World.block_lt_of_cell? _ _ h5)).trans f5⟩)
  have hE : (K == D) = false := by rw [beq_dec, decide_eq_false hke]
  have q3 : (Q == 3) = true := by rw [hk3]; rfl
  have q3b : (Q != 3) = false := by rw [hk3]; rfl
  clear h hi hd hp he hv hvn er hR hb hH hK hD hQ hMC hpc p1 p2 hz b2 h5 f5 hk3 hke
  unfold ptr at *
  cases MC with
  | false =>
    go_enter Try.func55, Try.ntmps55
    go_wp2_with fail
    go_quiet ((go_at_call 40; exact Calls.quiet_of (HK.out _ (by (focus ((repeat (first | (with_reducible assumption) | (with_reducible exact Kp.refl _) | (with_reducible apply Kp.drew) | (with_reducible apply Kp.drewN) | ((with_reducible apply Kp.setR); (focus (first | (with_reducible assumption) | (simp; done) | (simp; omega)))) | (with_reducible apply Kp.alloc) | ((with_reducible apply Kp.call); (with_reducible assumption)) | ((with_reducible apply Kp.app); (with_reducible assumption)))); done))))))
    obtain ⟨w1, hw1⟩ : ∃ x, x = w.drewN nq := ⟨_, rfl⟩
    rw [← hw1]
    have kw1 : Kp w w1 := by rw [hw1]; exact (Kp.refl w).drewN
    have HEQw1 := hide hw1
    clear hw1 c1 h4 b0
    obtain ⟨c1, h4, b0, b2, h5, f5⟩ := HF.out _ kw1
    go_wp2_with fail
    go_quiet ((go_at_call 40; exact Calls.quiet_of (HK.out _ (by (focus ((repeat (first | (with_reducible assumption) | (with_reducible exact Kp.refl _) | (with_reducible apply Kp.drew) | (with_reducible apply Kp.drewN) | ((with_reducible apply Kp.setR); (focus (first | (with_reducible assumption) | (simp; done) | (simp; omega)))) | (with_reducible apply Kp.alloc) | ((with_reducible apply Kp.call); (with_reducible assumption)) | ((with_reducible apply Kp.app); (with_reducible assumption)))); done))))))
    obtain ⟨w2, hw1⟩ : ∃ x, x = w1.drewN nq := ⟨_, rfl⟩
    rw [← hw1]
    have kw2 : Kp w w2 := by rw [hw1]; exact kw1.drewN
    have HEQw2 := hide hw1
    clear hw1 c1 h4 b0 b2 h5 f5
    obtain ⟨c1, h4, b0, b2, h5, f5⟩ := HF.out _ kw2
    go_wp2_with fail
    refine (HKd.out _ kw2).mono ?_
    rintro e w3x ⟨rfl, m3, rfl⟩
    obtain ⟨w3, hw1⟩ : ∃ x, x = w2.drewN m3 := ⟨_, rfl⟩
    rw [← hw1]
    have kw3 : Kp w w3 := by rw [hw1]; exact kw2.drewN
    have HEQw3 := hide hw1
    clear hw1 c1 h4 b0 b2 h5 f5
    obtain ⟨c1, h4, b0, b2, h5, f5⟩ := HF.out _ kw3
    go_wp2_with fail
    obtain ⟨W0, hW0⟩ : ∃ W0, W0 = w3.drew := ⟨_, rfl⟩
    obtain ⟨W1, hW1⟩ : ∃ W1, W1 = W0.setCell ⟨H, 5, none⟩ (.bool false) := ⟨_, rfl⟩
    have r4 : ∀ n, Kp (w.setCell ⟨H, 5, none⟩ (.bool false)) (W1.drewN n) := fun n => by
      rw [hW1, hW0]
      first | (rw [HEQw4.out, HEQw3.out, HEQw2.out, HEQw1.out]; exact (((((Kp.refl _).drewN).drewN).drewN).drewN).drew.drewN) | (rw [HEQw3.out, HEQw2.out, HEQw1.out]; exact ((((Kp.refl _).drewN).drewN).drewN).drew.drewN)
    have B0 : W0.cell? ⟨e1, 0, none⟩ = some (.pointer (some ⟨H, 0, none⟩)) ∧ W1.cell? ⟨e1, 0, none⟩ = some (.pointer (some ⟨H, 0, none⟩)) := by
      rw [hW1, hW0]; refine ⟨c1, ?_⟩; simp [go_sem, c1, n1]
    have B4 : W0.cell? ⟨H, 4, none⟩ = some (.pointer (some ⟨b, 0, none⟩)) ∧ W1.cell? ⟨H, 4, none⟩ = some (.pointer (some ⟨b, 0, none⟩)) := by
      rw [hW1, hW0]; refine ⟨h4, ?_⟩; simp [go_sem, h4]
    have BM : W0.cell? ⟨b, 2, none⟩ = some (.bool false) ∧ W1.cell? ⟨b, 2, none⟩ = some (.bool false) := by
      rw [hW1, hW0]; refine ⟨b2, ?_⟩; simp [go_sem, b2, n2]
    have S1 : W0.cell? ⟨H, 5, none⟩ = some (.bool bb) := by rw [hW0]; exact h5
    have T1 : W0.frozen? ⟨H, 5, none⟩ = false := by rw [hW0]; exact f5
    refine wp_region_tab (by kernel_rfl) [(79, .pointer (some ⟨H, 0, none⟩)), (80, .bool false), (81, .bool false), (82, undef), (83, undef), (84, undef), (85, undef), (86, undef), (87, undef), (88, undef), (89, undef), (90, .bool false), (91, .pointer (some ⟨H, 0, none⟩)), (92, .pointer (some ⟨H, 5, none⟩))] (fun _ _ _ => True) (J1 W0 W1 14) (by rw [hW0]; exact J1.start (by decide)) (by kernel_rfl) (by kernel_rfl) ?_ ?_
    · refine ⟨?_, ?_, ?_, ?_, ?_, ?_, ?_, ?_, ?_, ?_, ?_, ?_, ?_, ?_, ?_, trivial⟩
      · intro hop L a w5 hs hk hl ha keep know spec
        have h0 := keep 0 (.pointer (some ⟨e1, 0, none⟩)) (by kernel_rfl) rfl
        have q := hk.cell B0
        exact wpOp_value hop (wanted_none rfl) (v := .pointer (some ⟨H, 0, none⟩)) (by simp only [execOp, Act.eval, h0]; go_simp) ⟨_, rfl, (hk.go (by decide)), (fun d hd => by injection hd with hd; subst hd; exact ⟨tab rfl, trivial⟩), fun _ _ h => h⟩
      · intro hop L a w5 hs hk hl ha keep know spec
        have h5 := keep 5 (.bool false) (by kernel_rfl) rfl
        exact wpOp_value hop (wanted_none rfl) (v := .bool false) (by simp only [execOp, Act.eval, h5]; rfl) ⟨_, rfl, (hk.go (by decide)), (fun d hd => by injection hd with hd; subst hd; exact ⟨tab rfl, trivial⟩), fun _ _ h => h⟩
      · intro hop L a w5 hs hk hl ha keep know spec
        have h80 := know 80 (.bool false) (by kernel_rfl) rfl
        exact wpOp_value hop (wanted_none rfl) (v := .bool false) (by simp only [execOp, Act.eval, h80]; rfl) ⟨_, rfl, (hk.go (by decide)), (fun d hd => by injection hd with hd; subst hd; exact ⟨tab rfl, trivial⟩), fun _ _ h => h⟩
      · intro hop L a w5 hs hk hl ha keep know spec
        have hg := know 81 (.bool false) (by kernel_rfl) rfl
        exact wpOp_not hop ((wanted_bool rfl rfl hg).trans rfl) ⟨_, rfl, (hk.go (by decide)), (fun d hd => by injection hd with hd; subst hd; exact ⟨tab rfl, trivial⟩), fun _ _ h => h⟩
      · intro hop L a w5 hs hk hl ha keep know spec
        have hg := know 81 (.bool false) (by kernel_rfl) rfl
        exact wpOp_not hop ((wanted_bool rfl rfl hg).trans rfl) ⟨_, rfl, (hk.go (by decide)), (fun d hd => by injection hd with hd; subst hd; exact ⟨tab rfl, trivial⟩), fun _ _ h => h⟩
      · intro hop L a w5 hs hk hl ha keep know spec
        have hg := know 81 (.bool false) (by kernel_rfl) rfl
        exact wpOp_not hop ((wanted_bool rfl rfl hg).trans rfl) ⟨_, rfl, (hk.go (by decide)), (fun d hd => by injection hd with hd; subst hd; exact ⟨tab rfl, trivial⟩), fun _ _ h => h⟩
      · intro hop L a w5 hs hk hl ha keep know spec
        have hg := know 81 (.bool false) (by kernel_rfl) rfl
        exact wpOp_not hop ((wanted_bool rfl rfl hg).trans rfl) ⟨_, rfl, (hk.go (by decide)), (fun d hd => by injection hd with hd; subst hd; exact ⟨tab rfl, trivial⟩), fun _ _ h => h⟩
      · intro hop L a w5 hs hk hl ha keep know spec
        have hg := know 81 (.bool false) (by kernel_rfl) rfl
        exact wpOp_not hop ((wanted_bool rfl rfl hg).trans rfl) ⟨_, rfl, (hk.go (by decide)), (fun d hd => by injection hd with hd; subst hd; exact ⟨tab rfl, trivial⟩), fun _ _ h => h⟩
      · intro hop L a w5 hs hk hl ha keep know spec
        have hg := know 81 (.bool false) (by kernel_rfl) rfl
        exact wpOp_not hop ((wanted_bool rfl rfl hg).trans rfl) ⟨_, rfl, (hk.go (by decide)), (fun d hd => by injection hd with hd; subst hd; exact ⟨tab rfl, trivial⟩), fun _ _ h => h⟩
      · intro hop L a w5 hs hk hl ha keep know spec
        have hg := know 81 (.bool false) (by kernel_rfl) rfl
        exact wpOp_not hop ((wanted_bool rfl rfl hg).trans rfl) ⟨_, rfl, (hk.go (by decide)), (fun d hd => by injection hd with hd; subst hd; exact ⟨tab rfl, trivial⟩), fun _ _ h => h⟩
      · intro hop L a w5 hs hk hl ha keep know spec
        have hg := know 81 (.bool false) (by kernel_rfl) rfl
        exact wpOp_not hop ((wanted_bool rfl rfl hg).trans rfl) ⟨_, rfl, (hk.go (by decide)), (fun d hd => by injection hd with hd; subst hd; exact ⟨tab rfl, trivial⟩), fun _ _ h => h⟩
      · intro hop L a w5 hs hk hl ha keep know spec
        have h81 := know 81 (.bool false) (by kernel_rfl) rfl
        have h89 := know 89 (undef) (by kernel_rfl) rfl
        exact wpOp_value hop (wanted_none rfl) (v := .bool false) (by simp only [execOp, Act.eval, h81, h89]; rfl) ⟨_, rfl, (hk.go (by decide)), (fun d hd => by injection hd with hd; subst hd; exact ⟨tab rfl, trivial⟩), fun _ _ h => h⟩
      · intro hop L a w5 hs hk hl ha keep know spec
        have h79 := know 79 (.pointer (some ⟨H, 0, none⟩)) (by kernel_rfl) rfl
        exact wpOp_value hop (wanted_none rfl) (v := .pointer (some ⟨H, 0, none⟩)) (by simp only [execOp, Act.eval, h79]; go_simp) ⟨_, rfl, (hk.go (by decide)), (fun d hd => by injection hd with hd; subst hd; exact ⟨tab rfl, trivial⟩), fun _ _ h => h⟩
      · intro hop L a w5 hs hk hl ha keep know spec
        have h91 := know 91 (.pointer (some ⟨H, 0, none⟩)) (by kernel_rfl) rfl
        exact wpOp_value hop (wanted_none rfl) (v := .pointer (some ⟨H, 5, none⟩)) (by simp only [execOp, Act.eval, h91]; go_simp) ⟨_, rfl, (hk.go (by decide)), (fun d hd => by injection hd with hd; subst hd; exact ⟨tab rfl, trivial⟩), fun _ _ h => h⟩
      · intro hop L a w5 hs hk hl ha keep know spec
        have h92 := know 92 (.pointer (some ⟨H, 5, none⟩)) (by kernel_rfl) rfl
        have h90 := know 90 (.bool false) (by kernel_rfl) rfl
        obtain ⟨⟨n5, e5⟩, hk2⟩ := hk.st1 hl (p := ⟨H, 5, none⟩) (v := .bool false) hW1
        have q : w5.cell? ⟨H, 5, none⟩ = some _ := (congrArg (fun W : World => W.cell? ⟨H, 5, none⟩) e5).trans S1
        have r : w5.frozen? ⟨H, 5, none⟩ = false := (congrArg (fun W : World => W.frozen? ⟨H, 5, none⟩) e5).trans T1
        exact wpOp_skip hop (wanted_none rfl) (w' := w5.setCell ⟨H, 5, none⟩ (.bool false)) (by simp only [execOp, Act.eval, h92, h90]; go_simp) ⟨_, rfl, hk2, (fun d hd => by cases hd), fun _ _ h => h⟩
    · intro a' w7 e1x e2x hk keep know spec
      obtain ⟨tm, df⟩ := a'
      obtain ⟨f, hf⟩ := frame_puts (D := [79, 80, 81, 82, 83, 84, 85, 86, 87, 88, 89, 90, 91, 92]) e2x keep
      have e3x : df = [] := e1x
      obtain ⟨n7, e6⟩ := hk.done (n := 15) (by decide)
      have r5 := r4 n7
      rw [← e6] at r5
      clear keep know spec e1x e2x hk r4 B0 B4 BM S1 T1 hW0 hW1 e6
      simp only [List.foldl_cons, List.foldl_nil] at hf
      subst e3x
      rw [hf]
      clear hf
      go_wp2
      exact HE.out _ r5
  | true =>
    go_enter Try.func55, Try.ntmps55
    go_wp2_with fail
    go_quiet ((go_at_call 40; exact Calls.quiet_of (HK.out _ (by (focus ((repeat (first | (with_reducible assumption) | (with_reducible exact Kp.refl _) | (with_reducible apply Kp.drew) | (with_reducible apply Kp.drewN) | ((with_reducible apply Kp.setR); (focus (first | (with_reducible assumption) | (simp; done) | (simp; omega)))) | (with_reducible apply Kp.alloc) | ((with_reducible apply Kp.call); (with_reducible assumption)) | ((with_reducible apply Kp.app); (with_reducible assumption)))); done))))))
    obtain ⟨w1, hw1⟩ : ∃ x, x = w.drewN nq := ⟨_, rfl⟩
    rw [← hw1]
    have kw1 : Kp w w1 := by rw [hw1]; exact (Kp.refl w).drewN
    have HEQw1 := hide hw1
    clear hw1 c1 h4 b0
    obtain ⟨c1, h4, b0, b2, h5, f5⟩ := HF.out _ kw1
    go_wp2_with fail
    refine (HKd.out _ kw1).mono ?_
    rintro e w2x ⟨rfl, m2, rfl⟩
    obtain ⟨w2, hw1⟩ : ∃ x, x = w1.drewN m2 := ⟨_, rfl⟩
    rw [← hw1]
    have kw2 : Kp w w2 := by rw [hw1]; exact kw1.drewN
    have HEQw2 := hide hw1
    clear hw1 c1 h4 b0 b2 h5 f5
    obtain ⟨c1, h4, b0, b2, h5, f5⟩ := HF.out _ kw2
    go_wp2_with fail
    go_quiet ((go_at_call 40; exact Calls.quiet_of (HK.out _ (by (focus ((repeat (first | (with_reducible assumption) | (with_reducible exact Kp.refl _) | (with_reducible apply Kp.drew) | (with_reducible apply Kp.drewN) | ((with_reducible apply Kp.setR); (focus (first | (with_reducible assumption) | (simp; done) | (simp; omega)))) | (with_reducible apply Kp.alloc) | ((with_reducible apply Kp.call); (with_reducible assumption)) | ((with_reducible apply Kp.app); (with_reducible assumption)))); done))))))
    obtain ⟨w3, hw1⟩ : ∃ x, x = w2.drewN nq := ⟨_, rfl⟩
    rw [← hw1]
    have kw3 : Kp w w3 := by rw [hw1]; exact kw2.drewN
    have HEQw3 := hide hw1
    clear hw1 c1 h4 b0 b2 h5 f5
    obtain ⟨c1, h4, b0, b2, h5, f5⟩ := HF.out _ kw3
    go_wp2_with fail
    refine (HKd.out _ kw3).mono ?_
    rintro e w4x ⟨rfl, m4, rfl⟩
    obtain ⟨w4, hw1⟩ : ∃ x, x = w3.drewN m4 := ⟨_, rfl⟩
    rw [← hw1]
    have kw4 : Kp w w4 := by rw [hw1]; exact kw3.drewN
    have HEQw4 := hide hw1
    clear hw1 c1 h4 b0 b2 h5 f5
    obtain ⟨c1, h4, b0, b2, h5, f5⟩ := HF.out _ kw4
    go_wp2_with fail
    obtain ⟨W0, hW0⟩ : ∃ W0, W0 = w4.drew := ⟨_, rfl⟩
    obtain ⟨W1, hW1⟩ : ∃ W1, W1 = W0.setCell ⟨H, 5, none⟩ (.bool false) := ⟨_, rfl⟩
    have r4 : ∀ n, Kp (w.setCell ⟨H, 5, none⟩ (.bool false)) (W1.drewN n) := fun n => by
      rw [hW1, hW0]
      first | (rw [HEQw4.out, HEQw3.out, HEQw2.out, HEQw1.out]; exact (((((Kp.refl _).drewN).drewN).drewN).drewN).drew.drewN) | (rw [HEQw3.out, HEQw2.out, HEQw1.out]; exact ((((Kp.refl _).drewN).drewN).drewN).drew.drewN)
    have B0 : W0.cell? ⟨e1, 0, none⟩ = some (.pointer (some ⟨H, 0, none⟩)) ∧ W1.cell? ⟨e1, 0, none⟩ = some (.pointer (some ⟨H, 0, none⟩)) := by
      rw [hW1, hW0]; refine ⟨c1, ?_⟩; simp [go_sem, c1, n1]
    have B4 : W0.cell? ⟨H, 4, none⟩ = some (.pointer (some ⟨b, 0, none⟩)) ∧ W1.cell? ⟨H, 4, none⟩ = some (.pointer (some ⟨b, 0, none⟩)) := by
      rw [hW1, hW0]; refine ⟨h4, ?_⟩; simp [go_sem, h4]
    have BM : W0.cell? ⟨b, 2, none⟩ = some (.bool true) ∧ W1.cell? ⟨b, 2, none⟩ = some (.bool true) := by
      rw [hW1, hW0]; refine ⟨b2, ?_⟩; simp [go_sem, b2, n2]
    have S1 : W0.cell? ⟨H, 5, none⟩ = some (.bool bb) := by rw [hW0]; exact h5
    have T1 : W0.frozen? ⟨H, 5, none⟩ = false := by rw [hW0]; exact f5
    refine wp_region_tab (by kernel_rfl) [(79, .pointer (some ⟨H, 0, none⟩)), (80, .bool false), (81, .bool false), (82, undef), (83, undef), (84, undef), (85, undef), (86, undef), (87, undef), (88, undef), (89, undef), (90, .bool false), (91, .pointer (some ⟨H, 0, none⟩)), (92, .pointer (some ⟨H, 5, none⟩))] (fun _ _ _ => True) (J1 W0 W1 14) (by rw [hW0]; exact J1.start (by decide)) (by kernel_rfl) (by kernel_rfl) ?_ ?_
    · refine ⟨?_, ?_, ?_, ?_, ?_, ?_, ?_, ?_, ?_, ?_, ?_, ?_, ?_, ?_, ?_, trivial⟩
      · intro hop L a w5 hs hk hl ha keep know spec
        have h0 := keep 0 (.pointer (some ⟨e1, 0, none⟩)) (by kernel_rfl) rfl
        have q := hk.cell B0
        exact wpOp_value hop (wanted_none rfl) (v := .pointer (some ⟨H, 0, none⟩)) (by simp only [execOp, Act.eval, h0]; go_simp) ⟨_, rfl, (hk.go (by decide)), (fun d hd => by injection hd with hd; subst hd; exact ⟨tab rfl, trivial⟩), fun _ _ h => h⟩
      · intro hop L a w5 hs hk hl ha keep know spec
        have h5 := keep 5 (.bool false) (by kernel_rfl) rfl
        exact wpOp_value hop (wanted_none rfl) (v := .bool false) (by simp only [execOp, Act.eval, h5]; rfl) ⟨_, rfl, (hk.go (by decide)), (fun d hd => by injection hd with hd; subst hd; exact ⟨tab rfl, trivial⟩), fun _ _ h => h⟩
      · intro hop L a w5 hs hk hl ha keep know spec
        have h80 := know 80 (.bool false) (by kernel_rfl) rfl
        exact wpOp_value hop (wanted_none rfl) (v := .bool false) (by simp only [execOp, Act.eval, h80]; rfl) ⟨_, rfl, (hk.go (by decide)), (fun d hd => by injection hd with hd; subst hd; exact ⟨tab rfl, trivial⟩), fun _ _ h => h⟩
      · intro hop L a w5 hs hk hl ha keep know spec
        have hg := know 81 (.bool false) (by kernel_rfl) rfl
        exact wpOp_not hop ((wanted_bool rfl rfl hg).trans rfl) ⟨_, rfl, (hk.go (by decide)), (fun d hd => by injection hd with hd; subst hd; exact ⟨tab rfl, trivial⟩), fun _ _ h => h⟩
      · intro hop L a w5 hs hk hl ha keep know spec
        have hg := know 81 (.bool false) (by kernel_rfl) rfl
        exact wpOp_not hop ((wanted_bool rfl rfl hg).trans rfl) ⟨_, rfl, (hk.go (by decide)), (fun d hd => by injection hd with hd; subst hd; exact ⟨tab rfl, trivial⟩), fun _ _ h => h⟩
      · intro hop L a w5 hs hk hl ha keep know spec
        have hg := know 81 (.bool false) (by kernel_rfl) rfl
        exact wpOp_not hop ((wanted_bool rfl rfl hg).trans rfl) ⟨_, rfl, (hk.go (by decide)), (fun d hd => by injection hd with hd; subst hd; exact ⟨tab rfl, trivial⟩), fun _ _ h => h⟩
      · intro hop L a w5 hs hk hl ha keep know spec
        have hg := know 81 (.bool false) (by kernel_rfl) rfl
        exact wpOp_not hop ((wanted_bool rfl rfl hg).trans rfl) ⟨_, rfl, (hk.go (by decide)), (fun d hd => by injection hd with hd; subst hd; exact ⟨tab rfl, trivial⟩), fun _ _ h => h⟩
      · intro hop L a w5 hs hk hl ha keep know spec
        have hg := know 81 (.bool false) (by kernel_rfl) rfl
        exact wpOp_not hop ((wanted_bool rfl rfl hg).trans rfl) ⟨_, rfl, (hk.go (by decide)), (fun d hd => by injection hd with hd; subst hd; exact ⟨tab rfl, trivial⟩), fun _ _ h => h⟩
      · intro hop L a w5 hs hk hl ha keep know spec
        have hg := know 81 (.bool false) (by kernel_rfl) rfl
        exact wpOp_not hop ((wanted_bool rfl rfl hg).trans rfl) ⟨_, rfl, (hk.go (by decide)), (fun d hd => by injection hd with hd; subst hd; exact ⟨tab rfl, trivial⟩), fun _ _ h => h⟩
      · intro hop L a w5 hs hk hl ha keep know spec
        have hg := know 81 (.bool false) (by kernel_rfl) rfl
        exact wpOp_not hop ((wanted_bool rfl rfl hg).trans rfl) ⟨_, rfl, (hk.go (by decide)), (fun d hd => by injection hd with hd; subst hd; exact ⟨tab rfl, trivial⟩), fun _ _ h => h⟩
      · intro hop L a w5 hs hk hl ha keep know spec
        have hg := know 81 (.bool false) (by kernel_rfl) rfl
        exact wpOp_not hop ((wanted_bool rfl rfl hg).trans rfl) ⟨_, rfl, (hk.go (by decide)), (fun d hd => by injection hd with hd; subst hd; exact ⟨tab rfl, trivial⟩), fun _ _ h => h⟩
      · intro hop L a w5 hs hk hl ha keep know spec
        have h81 := know 81 (.bool false) (by kernel_rfl) rfl
        have h89 := know 89 (undef) (by kernel_rfl) rfl
        exact wpOp_value hop (wanted_none rfl) (v := .bool false) (by simp only [execOp, Act.eval, h81, h89]; rfl) ⟨_, rfl, (hk.go (by decide)), (fun d hd => by injection hd with hd; subst hd; exact ⟨tab rfl, trivial⟩), fun _ _ h => h⟩
      · intro hop L a w5 hs hk hl ha keep know spec
        have h79 := know 79 (.pointer (some ⟨H, 0, none⟩)) (by kernel_rfl) rfl
        exact wpOp_value hop (wanted_none rfl) (v := .pointer (some ⟨H, 0, none⟩)) (by simp only [execOp, Act.eval, h79]; go_simp) ⟨_, rfl, (hk.go (by decide)), (fun d hd => by injection hd with hd; subst hd; exact ⟨tab rfl, trivial⟩), fun _ _ h => h⟩
      · intro hop L a w5 hs hk hl ha keep know spec
        have h91 := know 91 (.pointer (some ⟨H, 0, none⟩)) (by kernel_rfl) rfl
        exact wpOp_value hop (wanted_none rfl) (v := .pointer (some ⟨H, 5, none⟩)) (by simp only [execOp, Act.eval, h91]; go_simp) ⟨_, rfl, (hk.go (by decide)), (fun d hd => by injection hd with hd; subst hd; exact ⟨tab rfl, trivial⟩), fun _ _ h => h⟩
      · intro hop L a w5 hs hk hl ha keep know spec
        have h92 := know 92 (.pointer (some ⟨H, 5, none⟩)) (by kernel_rfl) rfl
        have h90 := know 90 (.bool false) (by kernel_rfl) rfl
        obtain ⟨⟨n5, e5⟩, hk2⟩ := hk.st1 hl (p := ⟨H, 5, none⟩) (v := .bool false) hW1
        have q : w5.cell? ⟨H, 5, none⟩ = some _ := (congrArg (fun W : World => W.cell? ⟨H, 5, none⟩) e5).trans S1
        have r : w5.frozen? ⟨H, 5, none⟩ = false := (congrArg (fun W : World => W.frozen? ⟨H, 5, none⟩) e5).trans T1
        exact wpOp_skip hop (wanted_none rfl) (w' := w5.setCell ⟨H, 5, none⟩ (.bool false)) (by simp only [execOp, Act.eval, h92, h90]; go_simp) ⟨_, rfl, hk2, (fun d hd => by cases hd), fun _ _ h => h⟩
    · intro a' w7 e1x e2x hk keep know spec
      obtain ⟨tm, df⟩ := a'
      obtain ⟨f, hf⟩ := frame_puts (D := [79, 80, 81, 82, 83, 84, 85, 86, 87, 88, 89, 90, 91, 92]) e2x keep
      have e3x : df = [] := e1x
      obtain ⟨n7, e6⟩ := hk.done (n := 15) (by decide)
      have r5 := r4 n7
      rw [← e6] at r5
      clear keep know spec e1x e2x hk r4 B0 B4 BM S1 T1 hW0 hW1 e6
      simp only [List.foldl_cons, List.foldl_nil] at hf
      subst e3x
      rw [hf]
      clear hf
      go_wp2
      exact HE.out _ r5
end Go.Proofs.Ytoihdnekkgpcoaa
