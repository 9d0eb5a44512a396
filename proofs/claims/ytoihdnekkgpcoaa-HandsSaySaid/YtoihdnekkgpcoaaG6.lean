/-
  The closure that looks, of one that looks twice: whether the key is there. Conditions: the table lies as WN says.
  The closure that checks, of one that looks twice. Conditions: the table lies as WN says.
  The closure that checks, of one that looks twice: the deed. Conditions: the table lies as WN says.
  The closure that checks, of one that looks twice: a new bead, a mark. Conditions: the table lies as WN says.
  The closures of one that marks: how they are made, begin, whether the way is as it was. Conditions: the table lies as WN says.
-/
import Derived.Test.YtoihdnekkgpcoaaG5

namespace Go.Proofs.Ytoihdnekkgpcoaa
open Go.ChangeShapes Go.WideShapes Go.ChangeAt Go.RowKit
set_option linter.unusedVariables false
set_option linter.unusedSimpArgs false

variable {L : Lay} {s : St} {dv : Nat → Value} {w w' : World}
set_option maxRecDepth 100000 in
set_option maxHeartbeats 2000000 in
theorem lz2_hasY (h : WN L s dv w) {i : Nat} (hi : i < L.nh) {d : Dd} (hd : (L.P i)[s.deed i]? = some d) (hp : (s.hd i).plc = 1) (hlt : ¬ s.m.ky (s.hd i).c < d.key) (hk3 : d.kind = 3) (hke : s.m.ky (s.hd i).c = d.key) {e0 e1 e2 e3 e4 e5 e6 e7 : Nat} (he : ELz L (L.Hb i) e0 e1 e2 e3 e4 e5 e6 e7) (hvn : dv i ≠ .nilFunc) :
    Calls Try.prog 48 #[ptr e1, ptr e4] w (CP DLz L s dv i (lazyS s.m (s.hd i) d)) := by
  have c1 := h.cst he.c1
  obtain ⟨pv, cv, bb, -, -, -, -, h4, h5, hz, -, hpc, -⟩ := h.hand hi
  obtain ⟨-, rfl, -, p2⟩ := hpc (by omega)
  obtain ⟨b0, -, b2, -, -, -⟩ := h.bead p2
  have f5 := hz 5
  have er : lazyS s.m (s.hd i) d = (s.m, { s.hd i with is := (!s.m.mr (s.hd i).c) }, true) := by unfold lazyS; rw [hp]; simp [hlt, hk3, hke, hp]
  rw [er]
  have HK := hide (fun W (k : Kp w W) => key_quiet (h.kpw k) hi hd)
  have HKd := hide (fun W (k : Kp w W) => kind_quiet (h.kpw k) hi hd)
  have hs := h.setis hi (!s.m.mr (s.hd i).c)
  have HKJ : Hid (∀ W, (Kp w W ∨ Kp (w.setCell ⟨L.Hb i, 5, none⟩ (.bool (!s.m.mr (s.hd i).c))) W) → Calls Try.prog 40 #[ptr (L.Hb i)] W (fun e w' => e = .returned (.int .i64 d.key) ∧ ∃ m, w' = W.drewN m)) := hide (fun W k => k.elim (fun k => key_quiet (h.kpw k) hi hd) (fun k => key_quiet (hs.kpw k) hi hd))
  have HE : Hid (∀ W, Kp (w.setCell ⟨L.Hb i, 5, none⟩ (.bool (!s.m.mr (s.hd i).c))) W → CP DLz L s dv i (s.m, { s.hd i with is := (!s.m.mr (s.hd i).c) }, true) (.returned (.bool true)) W) := hide (fun W k => ⟨rfl, L, dv, Lx.refl _ _, hs.kpw k, fun _ _ => rfl, hvn, fun e => absurd e (by simp)⟩)
  have n1 : ¬ e1 = L.Hb i := by obtain ⟨_, _, _, a, _⟩ := h.hn i hi; exact BC.ne (h.cs _ _ _ he.c1).1 a (by decide)
  have n2 : ¬ L.B (s.hd i).c = L.Hb i := by obtain ⟨_, _, _, a, _⟩ := h.hn i hi; exact BC.ne (h.bd _ p2).1 a (by decide)
  obtain ⟨R, hR⟩ : ∃ R, R = CP DLz L s dv i (s.m, { s.hd i with is := (!s.m.mr (s.hd i).c) }, true) := ⟨_, rfl⟩
  rw [← hR] at HE ⊢
  obtain ⟨b, hb⟩ : ∃ b, b = L.B (s.hd i).c := ⟨_, rfl⟩
  obtain ⟨H, hH⟩ : ∃ b, b = L.Hb i := ⟨_, rfl⟩
  obtain ⟨K, hK⟩ : ∃ b, b = s.m.ky (s.hd i).c := ⟨_, rfl⟩
  obtain ⟨M, hM⟩ : ∃ b, b = s.m.mr (s.hd i).c := ⟨_, rfl⟩
  obtain ⟨D, hD⟩ : ∃ b, b = d.key := ⟨_, rfl⟩
  obtain ⟨Q, hQ⟩ : ∃ b, b = d.kind := ⟨_, rfl⟩
  rw [← hb] at h4 b0 b2 n2
  rw [← hH] at c1 h4 h5 f5 n1 n2 HK HKd HKJ HE
  rw [← hK] at b0 hlt hke
  rw [← hM] at b2 HKJ HE
  rw [← hD] at HK HKJ hlt hke
  rw [← hQ] at HKd hk3
  have hE : (K == D) = true := by rw [beq_dec, decide_eq_true hke]
  have q3 : (Q == 3) = true := by rw [hk3]; rfl
  clear h hi hd hp hk3 hke he hvn er hR hb hH hK hM hD hQ hpc p2 hz hs
  unfold ptr at *
  go_enter Try.func48, Try.ntmps48
  go_wp2_with fail
  go_quiet ((go_at_call 40; exact Calls.quiet_of (HK.out _ (by (focus ((repeat (first | (with_reducible assumption) | (with_reducible exact Kp.refl _) | (with_reducible apply Kp.drew) | (with_reducible apply Kp.drewN) | ((with_reducible apply Kp.setR); (focus (first | (with_reducible assumption) | (simp; done) | (simp; omega)))) | (with_reducible apply Kp.alloc) | ((with_reducible apply Kp.call); (with_reducible assumption)) | ((with_reducible apply Kp.app); (with_reducible assumption)))); done))))))
  obtain ⟨w1, hw1⟩ : ∃ x, x = w.drewN nq := ⟨_, rfl⟩
  rw [← hw1]
  have k1 : Kp w w1 := by rw [hw1]; exact (Kp.refl w).drewN
  have e1' : w1.cell? ⟨e1, 0, none⟩ = _ := k1.cell c1
  have HW1 := hide hw1
  clear hw1
  go_wp2_with fail
  refine (HKd.out _ k1).mono ?_
  rintro e w2 ⟨rfl, m2, rfl⟩
  obtain ⟨w3, hw3⟩ : ∃ x, x = w1.drewN m2 := ⟨_, rfl⟩
  rw [← hw3]
  have k3 : w3 = (w.drewN nq).drewN m2 := by rw [hw3, HW1.out]
  have c12 : w3.cell? ⟨e1, 0, none⟩ = some (.pointer (some ⟨H, 0, none⟩)) := by rw [k3]; exact c1
  have h42 : w3.cell? ⟨H, 4, none⟩ = some (.pointer (some ⟨b, 0, none⟩)) := by rw [k3]; exact h4
  have h52 : w3.cell? ⟨H, 5, none⟩ = some (.bool bb) := by rw [k3]; exact h5
  have b02 : w3.cell? ⟨b, 0, none⟩ = some (.int .i64 K) := by rw [k3]; exact b0
  have b22 : w3.cell? ⟨b, 2, none⟩ = some (.bool M) := by rw [k3]; exact b2
  have f52 : w3.frozen? ⟨H, 5, none⟩ = false := by rw [k3]; exact f5
  have HK3 := hide k3
  clear hw3 k3
  go_wp2_with fail
  have k3 := HK3.out
  obtain ⟨W0, hW0⟩ : ∃ W0, W0 = w3.drew := ⟨_, rfl⟩
  obtain ⟨W1, hW1⟩ : ∃ W1, W1 = W0.setCell ⟨H, 5, none⟩ (.bool (!M)) := ⟨_, rfl⟩
  have hj : ∀ {L' : Array Bool} {w5 : World}, J1 W0 W1 23 L' w5 → Kp w w5 ∨ Kp (w.setCell ⟨H, 5, none⟩ (.bool (!M))) w5 := by
    rintro L' w5 (⟨_, n, rfl⟩ | ⟨_, n, rfl⟩)
    · left; rw [hW0, k3]; exact ((((Kp.refl w).drewN).drewN).drew).drewN
    · right; rw [hW1, hW0, k3]; exact ((((Kp.refl (w.setCell ⟨H, 5, none⟩ (.bool (!M)))).drewN).drewN).drew).drewN
  have r4 : ∀ n, Kp (w.setCell ⟨H, 5, none⟩ (.bool (!M))) (W1.drewN n) := fun n => by rw [hW1, hW0, k3]; exact ((((Kp.refl (w.setCell ⟨H, 5, none⟩ (.bool (!M)))).drewN).drewN).drew).drewN
  have B0 : W0.cell? ⟨e1, 0, none⟩ = some (.pointer (some ⟨H, 0, none⟩)) ∧ W1.cell? ⟨e1, 0, none⟩ = some (.pointer (some ⟨H, 0, none⟩)) := by
    rw [hW1, hW0]; refine ⟨c12, ?_⟩; simp [go_sem, c12, n1]
  have B4 : W0.cell? ⟨H, 4, none⟩ = some (.pointer (some ⟨b, 0, none⟩)) ∧ W1.cell? ⟨H, 4, none⟩ = some (.pointer (some ⟨b, 0, none⟩)) := by
    rw [hW1, hW0]; refine ⟨h42, ?_⟩; simp [go_sem, h42]
  have BK : W0.cell? ⟨b, 0, none⟩ = some (.int .i64 K) ∧ W1.cell? ⟨b, 0, none⟩ = some (.int .i64 K) := by
    rw [hW1, hW0]; refine ⟨b02, ?_⟩; simp [go_sem, b02, n2]
  have BM : W0.cell? ⟨b, 2, none⟩ = some (.bool M) ∧ W1.cell? ⟨b, 2, none⟩ = some (.bool M) := by
    rw [hW1, hW0]; refine ⟨b22, ?_⟩; simp [go_sem, b22, n2]
  have S1 : W0.cell? ⟨H, 5, none⟩ = some (.bool bb) := by rw [hW0]; exact h52
  have T1 : W0.frozen? ⟨H, 5, none⟩ = false := by rw [hW0]; exact f52
  refine wp_region_tab (by kernel_rfl) [(22, .pointer (some ⟨H, 0, none⟩)), (23, .pointer (some ⟨H, 0, none⟩)), (24, .pointer (some ⟨H, 0, none⟩)), (25, .pointer (some ⟨H, 4, none⟩)), (26, .pointer (some ⟨b, 0, none⟩)), (27, .pointer (some ⟨b, 0, none⟩)), (28, .pointer (some ⟨b, 0, none⟩)), (29, .int .i64 K), (30, .pointer (some ⟨H, 0, none⟩)), (31, .int .i64 D), (32, .bool true), (33, .bool true), (34, .pointer (some ⟨H, 0, none⟩)), (35, .pointer (some ⟨H, 0, none⟩)), (36, .pointer (some ⟨H, 4, none⟩)), (37, .pointer (some ⟨b, 0, none⟩)), (38, .pointer (some ⟨b, 0, none⟩)), (39, .pointer (some ⟨b, 2, none⟩)), (40, .bool M), (41, .bool (!M)), (42, .bool (!M)), (43, .pointer (some ⟨H, 0, none⟩)), (44, .pointer (some ⟨H, 5, none⟩))] (fun _ _ _ => True) (J1 W0 W1 23) (by rw [hW0]; exact J1.start (by decide)) (by kernel_rfl) (by kernel_rfl) ?_ ?_
  · refine ⟨?_, ?_, ?_, ?_, ?_, ?_, ?_, ?_, ?_, ?_, ?_, ?_, ?_, ?_, ?_, ?_, ?_, ?_, ?_, ?_, ?_, ?_, ?_, ?_, trivial⟩
    · intro hop L a w5 hs hk hl ha keep know spec
      have h0 := keep 0 (.pointer (some ⟨e1, 0, none⟩)) (by kernel_rfl) rfl
      have q := hk.cell B0
      exact wpOp_value hop (wanted_none rfl) (v := .pointer (some ⟨H, 0, none⟩)) (by simp only [execOp, Act.eval, h0]; go_simp) ⟨_, rfl, (hk.go (by decide)), (fun d hd => by injection hd with hd; subst hd; exact ⟨tab rfl, trivial⟩), fun _ _ h => h⟩
    · intro hop L a w5 hs hk hl ha keep know spec
      have h0 := keep 0 (.pointer (some ⟨e1, 0, none⟩)) (by kernel_rfl) rfl
      have q := hk.cell B0
      exact wpOp_value hop (wanted_none rfl) (v := .pointer (some ⟨H, 0, none⟩)) (by simp only [execOp, Act.eval, h0]; go_simp) ⟨_, rfl, (hk.go (by decide)), (fun d hd => by injection hd with hd; subst hd; exact ⟨tab rfl, trivial⟩), fun _ _ h => h⟩
    · intro hop L a w5 hs hk hl ha keep know spec
      have h23 := know 23 (.pointer (some ⟨H, 0, none⟩)) (by kernel_rfl) rfl
      exact wpOp_value hop (wanted_none rfl) (v := .pointer (some ⟨H, 0, none⟩)) (by simp only [execOp, Act.eval, h23]; go_simp) ⟨_, rfl, (hk.go (by decide)), (fun d hd => by injection hd with hd; subst hd; exact ⟨tab rfl, trivial⟩), fun _ _ h => h⟩
    · intro hop L a w5 hs hk hl ha keep know spec
      have h24 := know 24 (.pointer (some ⟨H, 0, none⟩)) (by kernel_rfl) rfl
      exact wpOp_value hop (wanted_none rfl) (v := .pointer (some ⟨H, 4, none⟩)) (by simp only [execOp, Act.eval, h24]; go_simp) ⟨_, rfl, (hk.go (by decide)), (fun d hd => by injection hd with hd; subst hd; exact ⟨tab rfl, trivial⟩), fun _ _ h => h⟩
    · intro hop L a w5 hs hk hl ha keep know spec
      have h25 := know 25 (.pointer (some ⟨H, 4, none⟩)) (by kernel_rfl) rfl
      have q := hk.cell B4
      exact wpOp_value hop (wanted_none rfl) (v := .pointer (some ⟨b, 0, none⟩)) (by simp only [execOp, Act.eval, h25]; go_simp) ⟨_, rfl, (hk.go (by decide)), (fun d hd => by injection hd with hd; subst hd; exact ⟨tab rfl, trivial⟩), fun _ _ h => h⟩
    · intro hop L a w5 hs hk hl ha keep know spec
      have h26 := know 26 (.pointer (some ⟨b, 0, none⟩)) (by kernel_rfl) rfl
      exact wpOp_value hop (wanted_none rfl) (v := .pointer (some ⟨b, 0, none⟩)) (by simp only [execOp, Act.eval, h26]; go_simp) ⟨_, rfl, (hk.go (by decide)), (fun d hd => by injection hd with hd; subst hd; exact ⟨tab rfl, trivial⟩), fun _ _ h => h⟩
    · intro hop L a w5 hs hk hl ha keep know spec
      have h27 := know 27 (.pointer (some ⟨b, 0, none⟩)) (by kernel_rfl) rfl
      exact wpOp_value hop (wanted_none rfl) (v := .pointer (some ⟨b, 0, none⟩)) (by simp only [execOp, Act.eval, h27]; go_simp) ⟨_, rfl, (hk.go (by decide)), (fun d hd => by injection hd with hd; subst hd; exact ⟨tab rfl, trivial⟩), fun _ _ h => h⟩
    · intro hop L a w5 hs hk hl ha keep know spec
      have h28 := know 28 (.pointer (some ⟨b, 0, none⟩)) (by kernel_rfl) rfl
      have q := hk.cell BK
      exact wpOp_value hop (wanted_none rfl) (v := .int .i64 K) (by simp only [execOp, Act.eval, h28]; go_simp) ⟨_, rfl, (hk.go (by decide)), (fun d hd => by injection hd with hd; subst hd; exact ⟨tab rfl, trivial⟩), fun _ _ h => h⟩
    · intro hop L a w5 hs hk hl ha keep know spec
      have h0 := keep 0 (.pointer (some ⟨e1, 0, none⟩)) (by kernel_rfl) rfl
      have q := hk.cell B0
      exact wpOp_value hop (wanted_none rfl) (v := .pointer (some ⟨H, 0, none⟩)) (by simp only [execOp, Act.eval, h0]; go_simp) ⟨_, rfl, (hk.go (by decide)), (fun d hd => by injection hd with hd; subst hd; exact ⟨tab rfl, trivial⟩), fun _ _ h => h⟩
    · intro hop L a w5 hs hk hl ha keep know spec
      have h30 := know 30 (.pointer (some ⟨H, 0, none⟩)) (by kernel_rfl) rfl
      exact wpOp_call hop (wanted_none rfl) (by simp only [execOp, resolve, Act.eval, List.map_toArray, List.map_cons, List.map_nil, h30]; rfl) (HKJ.out w5 (hj hk)) fun r w6 hR => by
        obtain ⟨rfl, m6, rfl⟩ := hR
        exact ⟨_, rfl, _, rfl, (hk.draw m6).go (by decide), (fun d hd => by injection hd with hd; subst hd; exact ⟨tab rfl, trivial⟩), fun _ _ h => h⟩
    · intro hop L a w5 hs hk hl ha keep know spec
      have h29 := know 29 (.int .i64 K) (by kernel_rfl) rfl
      have h31 := know 31 (.int .i64 D) (by kernel_rfl) rfl
      exact wpOp_value hop (wanted_none rfl) (v := .bool true) (by simp only [execOp, Act.eval, h29, h31]; go_simp) ⟨_, rfl, (hk.go (by decide)), (fun d hd => by injection hd with hd; subst hd; exact ⟨tab rfl, trivial⟩), fun _ _ h => h⟩
    · intro hop L a w5 hs hk hl ha keep know spec
      have h32 := know 32 (.bool true) (by kernel_rfl) rfl
      exact wpOp_value hop (wanted_none rfl) (v := .bool true) (by simp only [execOp, Act.eval, h32]; rfl) ⟨_, rfl, (hk.go (by decide)), (fun d hd => by injection hd with hd; subst hd; exact ⟨tab rfl, trivial⟩), fun _ _ h => h⟩
    · intro hop L a w5 hs hk hl ha keep know spec
      have h0 := keep 0 (.pointer (some ⟨e1, 0, none⟩)) (by kernel_rfl) rfl
      have hg := know 33 (.bool true) (by kernel_rfl) rfl
      have q := hk.cell B0
      exact wpOp_value hop ((wanted_bool rfl rfl hg).trans rfl) (v := .pointer (some ⟨H, 0, none⟩)) (by simp only [execOp, Act.eval, h0]; go_simp) ⟨_, rfl, (hk.go (by decide)), (fun d hd => by injection hd with hd; subst hd; exact ⟨tab rfl, trivial⟩), fun _ _ h => h⟩
    · intro hop L a w5 hs hk hl ha keep know spec
      have h34 := know 34 (.pointer (some ⟨H, 0, none⟩)) (by kernel_rfl) rfl
      have hg := know 33 (.bool true) (by kernel_rfl) rfl
      exact wpOp_value hop ((wanted_bool rfl rfl hg).trans rfl) (v := .pointer (some ⟨H, 0, none⟩)) (by simp only [execOp, Act.eval, h34]; go_simp) ⟨_, rfl, (hk.go (by decide)), (fun d hd => by injection hd with hd; subst hd; exact ⟨tab rfl, trivial⟩), fun _ _ h => h⟩
    · intro hop L a w5 hs hk hl ha keep know spec
      have h35 := know 35 (.pointer (some ⟨H, 0, none⟩)) (by kernel_rfl) rfl
      have hg := know 33 (.bool true) (by kernel_rfl) rfl
      exact wpOp_value hop ((wanted_bool rfl rfl hg).trans rfl) (v := .pointer (some ⟨H, 4, none⟩)) (by simp only [execOp, Act.eval, h35]; go_simp) ⟨_, rfl, (hk.go (by decide)), (fun d hd => by injection hd with hd; subst hd; exact ⟨tab rfl, trivial⟩), fun _ _ h => h⟩
    · intro hop L a w5 hs hk hl ha keep know spec
      have h36 := know 36 (.pointer (some ⟨H, 4, none⟩)) (by kernel_rfl) rfl
      have hg := know 33 (.bool true) (by kernel_rfl) rfl
      have q := hk.cell B4
      exact wpOp_value hop ((wanted_bool rfl rfl hg).trans rfl) (v := .pointer (some ⟨b, 0, none⟩)) (by simp only [execOp, Act.eval, h36]; go_simp) ⟨_, rfl, (hk.go (by decide)), (fun d hd => by injection hd with hd; subst hd; exact ⟨tab rfl, trivial⟩), fun _ _ h => h⟩
    · intro hop L a w5 hs hk hl ha keep know spec
      have h37 := know 37 (.pointer (some ⟨b, 0, none⟩)) (by kernel_rfl) rfl
      have hg := know 33 (.bool true) (by kernel_rfl) rfl
      exact wpOp_value hop ((wanted_bool rfl rfl hg).trans rfl) (v := .pointer (some ⟨b, 0, none⟩)) (by simp only [execOp, Act.eval, h37]; go_simp) ⟨_, rfl, (hk.go (by decide)), (fun d hd => by injection hd with hd; subst hd; exact ⟨tab rfl, trivial⟩), fun _ _ h => h⟩
    · intro hop L a w5 hs hk hl ha keep know spec
      have h38 := know 38 (.pointer (some ⟨b, 0, none⟩)) (by kernel_rfl) rfl
      have hg := know 33 (.bool true) (by kernel_rfl) rfl
      exact wpOp_value hop ((wanted_bool rfl rfl hg).trans rfl) (v := .pointer (some ⟨b, 2, none⟩)) (by simp only [execOp, Act.eval, h38]; go_simp) ⟨_, rfl, (hk.go (by decide)), (fun d hd => by injection hd with hd; subst hd; exact ⟨tab rfl, trivial⟩), fun _ _ h => h⟩
    · intro hop L a w5 hs hk hl ha keep know spec
      have h39 := know 39 (.pointer (some ⟨b, 2, none⟩)) (by kernel_rfl) rfl
      have hg := know 33 (.bool true) (by kernel_rfl) rfl
      have q := hk.cell BM
      exact wpOp_value hop ((wanted_bool rfl rfl hg).trans rfl) (v := .bool M) (by simp only [execOp, Act.eval, h39]; go_simp) ⟨_, rfl, (hk.go (by decide)), (fun d hd => by injection hd with hd; subst hd; exact ⟨tab rfl, trivial⟩), fun _ _ h => h⟩
    · intro hop L a w5 hs hk hl ha keep know spec
      have h40 := know 40 (.bool M) (by kernel_rfl) rfl
      have hg := know 33 (.bool true) (by kernel_rfl) rfl
      exact wpOp_value hop ((wanted_bool rfl rfl hg).trans rfl) (v := .bool (!M)) (by simp only [execOp, Act.eval, h40]; go_simp) ⟨_, rfl, (hk.go (by decide)), (fun d hd => by injection hd with hd; subst hd; exact ⟨tab rfl, trivial⟩), fun _ _ h => h⟩
    · intro hop L a w5 hs hk hl ha keep know spec
      have h33 := know 33 (.bool true) (by kernel_rfl) rfl
      have h41 := know 41 (.bool (!M)) (by kernel_rfl) rfl
      exact wpOp_value hop (wanted_none rfl) (v := .bool (!M)) (by simp only [execOp, Act.eval, h33, h41]; rfl) ⟨_, rfl, (hk.go (by decide)), (fun d hd => by injection hd with hd; subst hd; exact ⟨tab rfl, trivial⟩), fun _ _ h => h⟩
    · intro hop L a w5 hs hk hl ha keep know spec
      have h22 := know 22 (.pointer (some ⟨H, 0, none⟩)) (by kernel_rfl) rfl
      exact wpOp_value hop (wanted_none rfl) (v := .pointer (some ⟨H, 0, none⟩)) (by simp only [execOp, Act.eval, h22]; go_simp) ⟨_, rfl, (hk.go (by decide)), (fun d hd => by injection hd with hd; subst hd; exact ⟨tab rfl, trivial⟩), fun _ _ h => h⟩
    · intro hop L a w5 hs hk hl ha keep know spec
      have h43 := know 43 (.pointer (some ⟨H, 0, none⟩)) (by kernel_rfl) rfl
      exact wpOp_value hop (wanted_none rfl) (v := .pointer (some ⟨H, 5, none⟩)) (by simp only [execOp, Act.eval, h43]; go_simp) ⟨_, rfl, (hk.go (by decide)), (fun d hd => by injection hd with hd; subst hd; exact ⟨tab rfl, trivial⟩), fun _ _ h => h⟩
    · intro hop L a w5 hs hk hl ha keep know spec
      have h44 := know 44 (.pointer (some ⟨H, 5, none⟩)) (by kernel_rfl) rfl
      have h42 := know 42 (.bool (!M)) (by kernel_rfl) rfl
      obtain ⟨⟨n5, e5⟩, hk2⟩ := hk.st1 hl (p := ⟨H, 5, none⟩) (v := .bool (!M)) hW1
      have q : w5.cell? ⟨H, 5, none⟩ = some _ := (congrArg (fun W : World => W.cell? ⟨H, 5, none⟩) e5).trans S1
      have r : w5.frozen? ⟨H, 5, none⟩ = false := (congrArg (fun W : World => W.frozen? ⟨H, 5, none⟩) e5).trans T1
      exact wpOp_skip hop (wanted_none rfl) (w' := w5.setCell ⟨H, 5, none⟩ (.bool (!M))) (by simp only [execOp, Act.eval, h44, h42]; go_simp) ⟨_, rfl, hk2, (fun d hd => by cases hd), fun _ _ h => h⟩
  · intro a' w7 e1x e2x hk keep know spec
    obtain ⟨tm, df⟩ := a'
    obtain ⟨f, hf⟩ := frame_puts (D := [22, 23, 24, 25, 26, 27, 28, 29, 30, 31, 32, 33, 34, 35, 36, 37, 38, 39, 40, 41, 42, 43, 44]) e2x keep
    have e3x : df = [] := e1x
    obtain ⟨n7, e6⟩ := hk.done (n := 24) (by decide)
    have r5 := r4 n7
    rw [← e6] at r5
    clear keep know spec e1x e2x hk r4 B0 B4 BK BM S1 T1 hW0 hW1 e6 hj
    simp only [List.foldl_cons, List.foldl_nil] at hf
    subst e3x
    rw [hf]
    clear hf
    go_wp2
    exact HE.out _ r5
set_option maxRecDepth 100000 in
set_option maxHeartbeats 2000000 in
theorem lz2_hasN (h : WN L s dv w) {i : Nat} (hi : i < L.nh) {d : Dd} (hd : (L.P i)[s.deed i]? = some d) (hp : (s.hd i).plc = 1) (hlt : ¬ s.m.ky (s.hd i).c < d.key) (hk3 : d.kind = 3) (hke : s.m.ky (s.hd i).c ≠ d.key) {e0 e1 e2 e3 e4 e5 e6 e7 : Nat} (he : ELz L (L.Hb i) e0 e1 e2 e3 e4 e5 e6 e7) (hvn : dv i ≠ .nilFunc) :
    Calls Try.prog 48 #[ptr e1, ptr e4] w (CP DLz L s dv i (lazyS s.m (s.hd i) d)) := by
  have c1 := h.cst he.c1
  obtain ⟨pv, cv, bb, -, -, -, -, h4, h5, hz, -, hpc, -⟩ := h.hand hi
  obtain ⟨-, rfl, -, p2⟩ := hpc (by omega)
  obtain ⟨b0, -, b2, -, -, -⟩ := h.bead p2
  have f5 := hz 5
  have er : lazyS s.m (s.hd i) d = (s.m, { s.hd i with is := false }, true) := by unfold lazyS; rw [hp]; simp [hlt, hk3, hke, hp]
  rw [er]
  have HK := hide (fun W (k : Kp w W) => key_quiet (h.kpw k) hi hd)
  have HKd := hide (fun W (k : Kp w W) => kind_quiet (h.kpw k) hi hd)
  have hs := h.setis hi false
  have HKJ : Hid (∀ W, (Kp w W ∨ Kp (w.setCell ⟨L.Hb i, 5, none⟩ (.bool false)) W) → Calls Try.prog 40 #[ptr (L.Hb i)] W (fun e w' => e = .returned (.int .i64 d.key) ∧ ∃ m, w' = W.drewN m)) := hide (fun W k => k.elim (fun k => key_quiet (h.kpw k) hi hd) (fun k => key_quiet (hs.kpw k) hi hd))
  have HE : Hid (∀ W, Kp (w.setCell ⟨L.Hb i, 5, none⟩ (.bool false)) W → CP DLz L s dv i (s.m, { s.hd i with is := false }, true) (.returned (.bool true)) W) := hide (fun W k => ⟨rfl, L, dv, Lx.refl _ _, hs.kpw k, fun _ _ => rfl, hvn, fun e => absurd e (by simp)⟩)
  have n1 : ¬ e1 = L.Hb i := by obtain ⟨_, _, _, a, _⟩ := h.hn i hi; exact BC.ne (h.cs _ _ _ he.c1).1 a (by decide)
  have n2 : ¬ L.B (s.hd i).c = L.Hb i := by obtain ⟨_, _, _, a, _⟩ := h.hn i hi; exact BC.ne (h.bd _ p2).1 a (by decide)
  obtain ⟨R, hR⟩ : ∃ R, R = CP DLz L s dv i (s.m, { s.hd i with is := false }, true) := ⟨_, rfl⟩
  rw [← hR] at HE ⊢
  obtain ⟨b, hb⟩ : ∃ b, b = L.B (s.hd i).c := ⟨_, rfl⟩
  obtain ⟨H, hH⟩ : ∃ b, b = L.Hb i := ⟨_, rfl⟩
  obtain ⟨K, hK⟩ : ∃ b, b = s.m.ky (s.hd i).c := ⟨_, rfl⟩
  obtain ⟨M, hM⟩ : ∃ b, b = s.m.mr (s.hd i).c := ⟨_, rfl⟩
  obtain ⟨D, hD⟩ : ∃ b, b = d.key := ⟨_, rfl⟩
  obtain ⟨Q, hQ⟩ : ∃ b, b = d.kind := ⟨_, rfl⟩
  rw [← hb] at h4 b0 b2 n2
  rw [← hH] at c1 h4 h5 f5 n1 n2 HK HKd HKJ HE
  rw [← hK] at b0 hlt hke
  rw [← hM] at b2
  rw [← hD] at HK HKJ hlt hke
  rw [← hQ] at HKd hk3
  have hE : (K == D) = false := by rw [beq_dec, decide_eq_false hke]
  have q3 : (Q == 3) = true := by rw [hk3]; rfl
  clear h hi hd hp hk3 hke he hvn er hR hb hH hK hM hD hQ hpc p2 hz hs
  unfold ptr at *
  go_enter Try.func48, Try.ntmps48
  go_wp2_with fail
  go_quiet ((go_at_call 40; exact Calls.quiet_of (HK.out _ (by (focus ((repeat (first | (with_reducible assumption) | (with_reducible exact Kp.refl _) | (with_reducible apply Kp.drew) | (with_reducible apply Kp.drewN) | ((with_reducible apply Kp.setR); (focus (first | (with_reducible assumption) | (simp; done) | (simp; omega)))) | (with_reducible apply Kp.alloc) | ((with_reducible apply Kp.call); (with_reducible assumption)) | ((with_reducible apply Kp.app); (with_reducible assumption)))); done))))))
  obtain ⟨w1, hw1⟩ : ∃ x, x = w.drewN nq := ⟨_, rfl⟩
  rw [← hw1]
  have k1 : Kp w w1 := by rw [hw1]; exact (Kp.refl w).drewN
  have e1' : w1.cell? ⟨e1, 0, none⟩ = _ := k1.cell c1
  have HW1 := hide hw1
  clear hw1
  go_wp2_with fail
  refine (HKd.out _ k1).mono ?_
  rintro e w2 ⟨rfl, m2, rfl⟩
  obtain ⟨w3, hw3⟩ : ∃ x, x = w1.drewN m2 := ⟨_, rfl⟩
  rw [← hw3]
  have k3 : w3 = (w.drewN nq).drewN m2 := by rw [hw3, HW1.out]
  have c12 : w3.cell? ⟨e1, 0, none⟩ = some (.pointer (some ⟨H, 0, none⟩)) := by rw [k3]; exact c1
  have h42 : w3.cell? ⟨H, 4, none⟩ = some (.pointer (some ⟨b, 0, none⟩)) := by rw [k3]; exact h4
  have h52 : w3.cell? ⟨H, 5, none⟩ = some (.bool bb) := by rw [k3]; exact h5
  have b02 : w3.cell? ⟨b, 0, none⟩ = some (.int .i64 K) := by rw [k3]; exact b0
  have b22 : w3.cell? ⟨b, 2, none⟩ = some (.bool M) := by rw [k3]; exact b2
  have f52 : w3.frozen? ⟨H, 5, none⟩ = false := by rw [k3]; exact f5
  have HK3 := hide k3
  clear hw3 k3
  go_wp2_with fail
  have k3 := HK3.out
  obtain ⟨W0, hW0⟩ : ∃ W0, W0 = w3.drew := ⟨_, rfl⟩
  obtain ⟨W1, hW1⟩ : ∃ W1, W1 = W0.setCell ⟨H, 5, none⟩ (.bool false) := ⟨_, rfl⟩
  have hj : ∀ {L' : Array Bool} {w5 : World}, J1 W0 W1 23 L' w5 → Kp w w5 ∨ Kp (w.setCell ⟨H, 5, none⟩ (.bool false)) w5 := by
    rintro L' w5 (⟨_, n, rfl⟩ | ⟨_, n, rfl⟩)
    · left; rw [hW0, k3]; exact ((((Kp.refl w).drewN).drewN).drew).drewN
    · right; rw [hW1, hW0, k3]; exact ((((Kp.refl (w.setCell ⟨H, 5, none⟩ (.bool false))).drewN).drewN).drew).drewN
  have r4 : ∀ n, Kp (w.setCell ⟨H, 5, none⟩ (.bool false)) (W1.drewN n) := fun n => by rw [hW1, hW0, k3]; exact ((((Kp.refl (w.setCell ⟨H, 5, none⟩ (.bool false))).drewN).drewN).drew).drewN
  have B0 : W0.cell? ⟨e1, 0, none⟩ = some (.pointer (some ⟨H, 0, none⟩)) ∧ W1.cell? ⟨e1, 0, none⟩ = some (.pointer (some ⟨H, 0, none⟩)) := by
    rw [hW1, hW0]; refine ⟨c12, ?_⟩; simp [go_sem, c12, n1]
  have B4 : W0.cell? ⟨H, 4, none⟩ = some (.pointer (some ⟨b, 0, none⟩)) ∧ W1.cell? ⟨H, 4, none⟩ = some (.pointer (some ⟨b, 0, none⟩)) := by
    rw [hW1, hW0]; refine ⟨h42, ?_⟩; simp [go_sem, h42]
  have BK : W0.cell? ⟨b, 0, none⟩ = some (.int .i64 K) ∧ W1.cell? ⟨b, 0, none⟩ = some (.int .i64 K) := by
    rw [hW1, hW0]; refine ⟨b02, ?_⟩; simp [go_sem, b02, n2]
  have BM : W0.cell? ⟨b, 2, none⟩ = some (.bool M) ∧ W1.cell? ⟨b, 2, none⟩ = some (.bool M) := by
    rw [hW1, hW0]; refine ⟨b22, ?_⟩; simp [go_sem, b22, n2]
  have S1 : W0.cell? ⟨H, 5, none⟩ = some (.bool bb) := by rw [hW0]; exact h52
  have T1 : W0.frozen? ⟨H, 5, none⟩ = false := by rw [hW0]; exact f52
  refine wp_region_tab (by kernel_rfl) [(22, .pointer (some ⟨H, 0, none⟩)), (23, .pointer (some ⟨H, 0, none⟩)), (24, .pointer (some ⟨H, 0, none⟩)), (25, .pointer (some ⟨H, 4, none⟩)), (26, .pointer (some ⟨b, 0, none⟩)), (27, .pointer (some ⟨b, 0, none⟩)), (28, .pointer (some ⟨b, 0, none⟩)), (29, .int .i64 K), (30, .pointer (some ⟨H, 0, none⟩)), (31, .int .i64 D), (32, .bool false), (33, .bool false), (34, undef), (35, undef), (36, undef), (37, undef), (38, undef), (39, undef), (40, undef), (41, undef), (42, .bool false), (43, .pointer (some ⟨H, 0, none⟩)), (44, .pointer (some ⟨H, 5, none⟩))] (fun _ _ _ => True) (J1 W0 W1 23) (by rw [hW0]; exact J1.start (by decide)) (by kernel_rfl) (by kernel_rfl) ?_ ?_
  · refine ⟨?_, ?_, ?_, ?_, ?_, ?_, ?_, ?_, ?_, ?_, ?_, ?_, ?_, ?_, ?_, ?_, ?_, ?_, ?_, ?_, ?_, ?_, ?_, ?_, trivial⟩
    · intro hop L a w5 hs hk hl ha keep know spec
      have h0 := keep 0 (.pointer (some ⟨e1, 0, none⟩)) (by kernel_rfl) rfl
      have q := hk.cell B0
      exact wpOp_value hop (wanted_none rfl) (v := .pointer (some ⟨H, 0, none⟩)) (by simp only [execOp, Act.eval, h0]; go_simp) ⟨_, rfl, (hk.go (by decide)), (fun d hd => by injection hd with hd; subst hd; exact ⟨tab rfl, trivial⟩), fun _ _ h => h⟩
    · intro hop L a w5 hs hk hl ha keep know spec
      have h0 := keep 0 (.pointer (some ⟨e1, 0, none⟩)) (by kernel_rfl) rfl
      have q := hk.cell B0
      exact wpOp_value hop (wanted_none rfl) (v := .pointer (some ⟨H, 0, none⟩)) (by simp only [execOp, Act.eval, h0]; go_simp) ⟨_, rfl, (hk.go (by decide)), (fun d hd => by injection hd with hd; subst hd; exact ⟨tab rfl, trivial⟩), fun _ _ h => h⟩
    · intro hop L a w5 hs hk hl ha keep know spec
      have h23 := know 23 (.pointer (some ⟨H, 0, none⟩)) (by kernel_rfl) rfl
      exact wpOp_value hop (wanted_none rfl) (v := .pointer (some ⟨H, 0, none⟩)) (by simp only [execOp, Act.eval, h23]; go_simp) ⟨_, rfl, (hk.go (by decide)), (fun d hd => by injection hd with hd; subst hd; exact ⟨tab rfl, trivial⟩), fun _ _ h => h⟩
    · intro hop L a w5 hs hk hl ha keep know spec
      have h24 := know 24 (.pointer (some ⟨H, 0, none⟩)) (by kernel_rfl) rfl
      exact wpOp_value hop (wanted_none rfl) (v := .pointer (some ⟨H, 4, none⟩)) (by simp only [execOp, Act.eval, h24]; go_simp) ⟨_, rfl, (hk.go (by decide)), (fun d hd => by injection hd with hd; subst hd; exact ⟨tab rfl, trivial⟩), fun _ _ h => h⟩
    · intro hop L a w5 hs hk hl ha keep know spec
      have h25 := know 25 (.pointer (some ⟨H, 4, none⟩)) (by kernel_rfl) rfl
      have q := hk.cell B4
      exact wpOp_value hop (wanted_none rfl) (v := .pointer (some ⟨b, 0, none⟩)) (by simp only [execOp, Act.eval, h25]; go_simp) ⟨_, rfl, (hk.go (by decide)), (fun d hd => by injection hd with hd; subst hd; exact ⟨tab rfl, trivial⟩), fun _ _ h => h⟩
    · intro hop L a w5 hs hk hl ha keep know spec
      have h26 := know 26 (.pointer (some ⟨b, 0, none⟩)) (by kernel_rfl) rfl
      exact wpOp_value hop (wanted_none rfl) (v := .pointer (some ⟨b, 0, none⟩)) (by simp only [execOp, Act.eval, h26]; go_simp) ⟨_, rfl, (hk.go (by decide)), (fun d hd => by injection hd with hd; subst hd; exact ⟨tab rfl, trivial⟩), fun _ _ h => h⟩
    · intro hop L a w5 hs hk hl ha keep know spec
      have h27 := know 27 (.pointer (some ⟨b, 0, none⟩)) (by kernel_rfl) rfl
      exact wpOp_value hop (wanted_none rfl) (v := .pointer (some ⟨b, 0, none⟩)) (by simp only [execOp, Act.eval, h27]; go_simp) ⟨_, rfl, (hk.go (by decide)), (fun d hd => by injection hd with hd; subst hd; exact ⟨tab rfl, trivial⟩), fun _ _ h => h⟩
    · intro hop L a w5 hs hk hl ha keep know spec
      have h28 := know 28 (.pointer (some ⟨b, 0, none⟩)) (by kernel_rfl) rfl
      have q := hk.cell BK
      exact wpOp_value hop (wanted_none rfl) (v := .int .i64 K) (by simp only [execOp, Act.eval, h28]; go_simp) ⟨_, rfl, (hk.go (by decide)), (fun d hd => by injection hd with hd; subst hd; exact ⟨tab rfl, trivial⟩), fun _ _ h => h⟩
    · intro hop L a w5 hs hk hl ha keep know spec
      have h0 := keep 0 (.pointer (some ⟨e1, 0, none⟩)) (by kernel_rfl) rfl
      have q := hk.cell B0
      exact wpOp_value hop (wanted_none rfl) (v := .pointer (some ⟨H, 0, none⟩)) (by simp only [execOp, Act.eval, h0]; go_simp) ⟨_, rfl, (hk.go (by decide)), (fun d hd => by injection hd with hd; subst hd; exact ⟨tab rfl, trivial⟩), fun _ _ h => h⟩
    · intro hop L a w5 hs hk hl ha keep know spec
      have h30 := know 30 (.pointer (some ⟨H, 0, none⟩)) (by kernel_rfl) rfl
      exact wpOp_call hop (wanted_none rfl) (by simp only [execOp, resolve, Act.eval, List.map_toArray, List.map_cons, List.map_nil, h30]; rfl) (HKJ.out w5 (hj hk)) fun r w6 hR => by
        obtain ⟨rfl, m6, rfl⟩ := hR
        exact ⟨_, rfl, _, rfl, (hk.draw m6).go (by decide), (fun d hd => by injection hd with hd; subst hd; exact ⟨tab rfl, trivial⟩), fun _ _ h => h⟩
    · intro hop L a w5 hs hk hl ha keep know spec
      have h29 := know 29 (.int .i64 K) (by kernel_rfl) rfl
      have h31 := know 31 (.int .i64 D) (by kernel_rfl) rfl
      exact wpOp_value hop (wanted_none rfl) (v := .bool false) (by simp only [execOp, Act.eval, h29, h31]; go_simp) ⟨_, rfl, (hk.go (by decide)), (fun d hd => by injection hd with hd; subst hd; exact ⟨tab rfl, trivial⟩), fun _ _ h => h⟩
    · intro hop L a w5 hs hk hl ha keep know spec
      have h32 := know 32 (.bool false) (by kernel_rfl) rfl
      exact wpOp_value hop (wanted_none rfl) (v := .bool false) (by simp only [execOp, Act.eval, h32]; rfl) ⟨_, rfl, (hk.go (by decide)), (fun d hd => by injection hd with hd; subst hd; exact ⟨tab rfl, trivial⟩), fun _ _ h => h⟩
    · intro hop L a w5 hs hk hl ha keep know spec
      have hg := know 33 (.bool false) (by kernel_rfl) rfl
      exact wpOp_not hop ((wanted_bool rfl rfl hg).trans rfl) ⟨_, rfl, (hk.go (by decide)), (fun d hd => by injection hd with hd; subst hd; exact ⟨tab rfl, trivial⟩), fun _ _ h => h⟩
    · intro hop L a w5 hs hk hl ha keep know spec
      have hg := know 33 (.bool false) (by kernel_rfl) rfl
      exact wpOp_not hop ((wanted_bool rfl rfl hg).trans rfl) ⟨_, rfl, (hk.go (by decide)), (fun d hd => by injection hd with hd; subst hd; exact ⟨tab rfl, trivial⟩), fun _ _ h => h⟩
    · intro hop L a w5 hs hk hl ha keep know spec
      have hg := know 33 (.bool false) (by kernel_rfl) rfl
      exact wpOp_not hop ((wanted_bool rfl rfl hg).trans rfl) ⟨_, rfl, (hk.go (by decide)), (fun d hd => by injection hd with hd; subst hd; exact ⟨tab rfl, trivial⟩), fun _ _ h => h⟩
    · intro hop L a w5 hs hk hl ha keep know spec
      have hg := know 33 (.bool false) (by kernel_rfl) rfl
      exact wpOp_not hop ((wanted_bool rfl rfl hg).trans rfl) ⟨_, rfl, (hk.go (by decide)), (fun d hd => by injection hd with hd; subst hd; exact ⟨tab rfl, trivial⟩), fun _ _ h => h⟩
    · intro hop L a w5 hs hk hl ha keep know spec
      have hg := know 33 (.bool false) (by kernel_rfl) rfl
      exact wpOp_not hop ((wanted_bool rfl rfl hg).trans rfl) ⟨_, rfl, (hk.go (by decide)), (fun d hd => by injection hd with hd; subst hd; exact ⟨tab rfl, trivial⟩), fun _ _ h => h⟩
    · intro hop L a w5 hs hk hl ha keep know spec
      have hg := know 33 (.bool false) (by kernel_rfl) rfl
      exact wpOp_not hop ((wanted_bool rfl rfl hg).trans rfl) ⟨_, rfl, (hk.go (by decide)), (fun d hd => by injection hd with hd; subst hd; exact ⟨tab rfl, trivial⟩), fun _ _ h => h⟩
    · intro hop L a w5 hs hk hl ha keep know spec
      have hg := know 33 (.bool false) (by kernel_rfl) rfl
      exact wpOp_not hop ((wanted_bool rfl rfl hg).trans rfl) ⟨_, rfl, (hk.go (by decide)), (fun d hd => by injection hd with hd; subst hd; exact ⟨tab rfl, trivial⟩), fun _ _ h => h⟩
    · intro hop L a w5 hs hk hl ha keep know spec
      have hg := know 33 (.bool false) (by kernel_rfl) rfl
      exact wpOp_not hop ((wanted_bool rfl rfl hg).trans rfl) ⟨_, rfl, (hk.go (by decide)), (fun d hd => by injection hd with hd; subst hd; exact ⟨tab rfl, trivial⟩), fun _ _ h => h⟩
    · intro hop L a w5 hs hk hl ha keep know spec
      have h33 := know 33 (.bool false) (by kernel_rfl) rfl
      have h41 := know 41 (undef) (by kernel_rfl) rfl
      exact wpOp_value hop (wanted_none rfl) (v := .bool false) (by simp only [execOp, Act.eval, h33, h41]; rfl) ⟨_, rfl, (hk.go (by decide)), (fun d hd => by injection hd with hd; subst hd; exact ⟨tab rfl, trivial⟩), fun _ _ h => h⟩
    · intro hop L a w5 hs hk hl ha keep know spec
      have h22 := know 22 (.pointer (some ⟨H, 0, none⟩)) (by kernel_rfl) rfl
      exact wpOp_value hop (wanted_none rfl) (v := .pointer (some ⟨H, 0, none⟩)) (by simp only [execOp, Act.eval, h22]; go_simp) ⟨_, rfl, (hk.go (by decide)), (fun d hd => by injection hd with hd; subst hd; exact ⟨tab rfl, trivial⟩), fun _ _ h => h⟩
    · intro hop L a w5 hs hk hl ha keep know spec
      have h43 := know 43 (.pointer (some ⟨H, 0, none⟩)) (by kernel_rfl) rfl
      exact wpOp_value hop (wanted_none rfl) (v := .pointer (some ⟨H, 5, none⟩)) (by simp only [execOp, Act.eval, h43]; go_simp) ⟨_, rfl, (hk.go (by decide)), (fun d hd => by injection hd with hd; subst hd; exact ⟨tab rfl, trivial⟩), fun _ _ h => h⟩
    · intro hop L a w5 hs hk hl ha keep know spec
      have h44 := know 44 (.pointer (some ⟨H, 5, none⟩)) (by kernel_rfl) rfl
      have h42 := know 42 (.bool false) (by kernel_rfl) rfl
      obtain ⟨⟨n5, e5⟩, hk2⟩ := hk.st1 hl (p := ⟨H, 5, none⟩) (v := .bool false) hW1
      have q : w5.cell? ⟨H, 5, none⟩ = some _ := (congrArg (fun W : World => W.cell? ⟨H, 5, none⟩) e5).trans S1
      have r : w5.frozen? ⟨H, 5, none⟩ = false := (congrArg (fun W : World => W.frozen? ⟨H, 5, none⟩) e5).trans T1
      exact wpOp_skip hop (wanted_none rfl) (w' := w5.setCell ⟨H, 5, none⟩ (.bool false)) (by simp only [execOp, Act.eval, h44, h42]; go_simp) ⟨_, rfl, hk2, (fun d hd => by cases hd), fun _ _ h => h⟩
  · intro a' w7 e1x e2x hk keep know spec
    obtain ⟨tm, df⟩ := a'
    obtain ⟨f, hf⟩ := frame_puts (D := [22, 23, 24, 25, 26, 27, 28, 29, 30, 31, 32, 33, 34, 35, 36, 37, 38, 39, 40, 41, 42, 43, 44]) e2x keep
    have e3x : df = [] := e1x
    obtain ⟨n7, e6⟩ := hk.done (n := 24) (by decide)
    have r5 := r4 n7
    rw [← e6] at r5
    clear keep know spec e1x e2x hk r4 B0 B4 BK BM S1 T1 hW0 hW1 e6 hj
    simp only [List.foldl_cons, List.foldl_nil] at hf
    subst e3x
    rw [hf]
    clear hf
    go_wp2
    exact HE.out _ r5
end Go.Proofs.Ytoihdnekkgpcoaa
namespace Go.Proofs.Ytoihdnekkgpcoaa
open Go.ChangeShapes Go.WideShapes Go.ChangeAt Go.RowKit
set_option linter.unusedVariables false
set_option linter.unusedSimpArgs false

variable {L : Lay} {s : St} {dv : Nat → Value} {w w' : World}
set_option maxRecDepth 100000 in
theorem info_node : (Try.prog.info? 48).map (fun i => (i.zero, i.size, i.bytes)) = some (some (.agg #[.int .i64 0, .pointer none, .bool false, .bool false]), 4, 24) := by kernel_rfl
/-- Two beads are not the same pointer. -/
theorem nd_neq_other (w : World) {b c : Nat} {cb cc : List Value} (hne : ¬ b = c) (hb : BC w b 48 cb) (hc : BC w c 48 cc) : (binOp .neq 46 (.pointer (some ⟨b, 0, none⟩)) (.pointer (some ⟨c, 0, none⟩))).run Try.prog w = .ok (.bool true) w := by
  obtain ⟨j, hj, _, hs, _⟩ := info_parts info_node
  have hd : ∀ d : Nat, (Op.equalIn (d + 1) 46 (.pointer (some ⟨b, 0, none⟩)) (.pointer (some ⟨c, 0, none⟩))).run Try.prog w = .ok false w := fun d => by
    simp [Op.equalIn, run_underlying Try.underlying46, sizeOf, typeInfo, hj, hs, run_sameAddr_other w (a := ⟨b, 0, none⟩) (b := ⟨c, 0, none⟩) (fun e => hne (by injection e)) hb hc]
  simp only [binOp, Op.equal, Op.maxDepth]
  simp [hd 9999]
theorem nd_neq_same (w : World) (a : Addr) : (binOp .neq 46 (.pointer (some a)) (.pointer (some a))).run Try.prog w = .ok (.bool false) w := by
  obtain ⟨j, hj, _, hs, _⟩ := info_parts info_node
  have hd : ∀ d : Nat, (Op.equalIn (d + 1) 46 (.pointer (some a)) (.pointer (some a))).run Try.prog w = .ok true w := fun d => by
    simp [Op.equalIn, run_underlying Try.underlying46, sizeOf, typeInfo, hj, run_sameAddr_same]
  simp only [binOp, Op.equal, Op.maxDepth]
  simp [hd 9999]
set_option maxRecDepth 100000 in
set_option maxHeartbeats 2000000 in
theorem lz5_fail (h : WN L s dv w) {i : Nat} (hi : i < L.nh) {d : Dd} (hd : (L.P i)[s.deed i]? = some d) (hp : (s.hd i).plc = 4) (hne : (s.hd i).p ≠ (s.hd i).c) (hkp : s.m.ky (s.hd i).p ≠ 10) (hch : (s.m.mr (s.hd i).p || s.m.mr (s.hd i).c || s.m.nx (s.hd i).p != (s.hd i).c) = true) {e0 e1 e2 e3 e4 e5 e6 e7 : Nat} (he : ELz L (L.Hb i) e0 e1 e2 e3 e4 e5 e6 e7) (hvn : dv i ≠ .nilFunc) :
    Calls Try.prog 51 #[ptr e1, ptr e2, ptr e7] w (CP DLz L s dv i (lazyS s.m (s.hd i) d)) := by
  have c1 := h.cst he.c1
  obtain ⟨pv, cv, bb, -, -, -, h3, h4, -, -, -, hpc, -⟩ := h.hand hi
  obtain ⟨rfl, rfl, p1, p2⟩ := hpc (by omega)
  obtain ⟨b0, -, b2, -⟩ := h.bead p2
  obtain ⟨-, q1, q2, -⟩ := h.bead p1
  rw [if_neg hkp] at q1
  have er : lazyS s.m (s.hd i) d = (s.m.free (s.hd i).p (s.hd i).c, { s.hd i with plc := 0 }, false) := by unfold lazyS; rw [hp]; simp only [hch, if_true]
  rw [er]
  have HK := hide (fun W (k : Kp w W) => key_quiet (h.kpw k) hi hd)
  have HX : ∃ R1 : World → Prop, (∀ W, Kp w W → Calls Try.prog 44 #[ptr (L.Hb i)] W (fun e w' => e = .returned (.tuple #[]) ∧ R1 w')) ∧
      (∀ w1, R1 w1 → w1.cell? ⟨e1, 0, none⟩ = some (ptr (L.Hb i)) ∧ w1.cell? ⟨e2, 0, none⟩ = some (clo 47 #[ptr e0, ptr e1, ptr e3]) ∧ (∃ x, w1.cell? ⟨L.Hb i, 2, none⟩ = some x) ∧ w1.frozen? ⟨L.Hb i, 2, none⟩ = false) ∧
      (∀ w1, R1 w1 → CP DLz L s dv i (s.m.free (s.hd i).p (s.hd i).c, { s.hd i with plc := 0 }, false) (.returned (.bool false)) (w1.setCell ⟨L.Hb i, 2, none⟩ (clo 47 #[ptr e0, ptr e1, ptr e3]))) := by
    refine ⟨fun w1 => WN L { s with m := s.m.free (s.hd i).p (s.hd i).c } dv w1, fun W k => free_any (h.kpw k) hi (by omega) hne, fun w1 h1 => ⟨h1.cst he.c1, h1.cst he.c2, by obtain ⟨_, _, _, _, _, x, _, _, _, y, _⟩ := h1.hand hi; exact ⟨⟨_, x⟩, y 2⟩⟩, fun w1 h1 => ?_⟩
    have h2 := h1.setdo hi (clo 47 #[ptr e0, ptr e1, ptr e3]) 0 (fun e => absurd rfl e) hvn
    exact ⟨rfl, L, up dv i (clo 47 #[ptr e0, ptr e1, ptr e3]), Lx.refl _ _, h2, fun j hj => up_ne _ _ hj, by rw [up_same]; exact clo_nil _ _, fun _ => ⟨e0, e1, e2, e3, e4, e5, e6, e7, he, by rw [up_same]; rfl⟩⟩
  have HN : Hid (∀ W, Kp w W → ¬ L.B (s.m.nx (s.hd i).p) = L.B (s.hd i).c → (binOp .neq 46 (.pointer (some ⟨L.B (s.m.nx (s.hd i).p), 0, none⟩)) (.pointer (some ⟨L.B (s.hd i).c, 0, none⟩))).run Try.prog W = .ok (.bool true) W) := hide (fun W k hne => nd_neq_other W hne ((h.kpw k).bd _ (h.nn _ p1)).1 ((h.kpw k).bd _ p2).1)
  have HC : Hid (s.m.mr (s.hd i).p = true ∨ (s.m.mr (s.hd i).p = false ∧ s.m.mr (s.hd i).c = true) ∨ (s.m.mr (s.hd i).p = false ∧ s.m.mr (s.hd i).c = false ∧ ¬ L.B (s.m.nx (s.hd i).p) = L.B (s.hd i).c)) := hide (by
    cases a1 : s.m.mr (s.hd i).p with
    | true => exact Or.inl rfl
    | false =>
      cases a2 : s.m.mr (s.hd i).c with
      | true => exact Or.inr (Or.inl ⟨rfl, rfl⟩)
      | false =>
        rw [a1, a2] at hch
        refine Or.inr (Or.inr ⟨rfl, rfl, fun e => ?_⟩)
        have := h.bi _ _ (h.nn _ p1) p2 e
        rw [this] at hch
        simp at hch)
  obtain ⟨R1, h11, h12, h13⟩ := HX
  have H11 := hide h11
  have H12 := hide h12
  have H13 := hide h13
  obtain ⟨R, hR⟩ : ∃ R, R = CP DLz L s dv i (s.m.free (s.hd i).p (s.hd i).c, { s.hd i with plc := 0 }, false) := ⟨_, rfl⟩
  rw [← hR] at H13 ⊢
  obtain ⟨b, hb⟩ : ∃ b, b = L.B (s.hd i).c := ⟨_, rfl⟩
  obtain ⟨b9, hb9⟩ : ∃ b, b = L.B (s.hd i).p := ⟨_, rfl⟩
  obtain ⟨b7, hb7⟩ : ∃ b, b = L.B (s.m.nx (s.hd i).p) := ⟨_, rfl⟩
  obtain ⟨H, hH⟩ : ∃ b, b = L.Hb i := ⟨_, rfl⟩
  obtain ⟨K, hK⟩ : ∃ b, b = s.m.ky (s.hd i).c := ⟨_, rfl⟩
  obtain ⟨D, hD⟩ : ∃ b, b = d.key := ⟨_, rfl⟩
  obtain ⟨MP, hMP⟩ : ∃ b, b = s.m.mr (s.hd i).p := ⟨_, rfl⟩
  obtain ⟨MC, hMC⟩ : ∃ b, b = s.m.mr (s.hd i).c := ⟨_, rfl⟩
  rw [← hb] at h4 b0 b2 HN HC
  rw [← hb9] at h3 q1 q2
  rw [← hb7] at q1 HN HC
  rw [← hH] at c1 h3 h4 HK H11 H12 H13
  rw [← hK] at b0
  rw [← hD] at HK
  rw [← hMP] at q2 HC
  rw [← hMC] at b2 HC
  have HF : Hid (∀ W, Kp w W → W.cell? ⟨e1, 0, none⟩ = some (ptr H) ∧ W.cell? ⟨H, 3, none⟩ = some (ptr b9) ∧ W.cell? ⟨H, 4, none⟩ = some (ptr b) ∧ W.cell? ⟨b, 0, none⟩ = some (.int .i64 K) ∧ W.cell? ⟨b, 2, none⟩ = some (.bool MC) ∧ W.cell? ⟨b9, 1, none⟩ = some (ptr b7) ∧ W.cell? ⟨b9, 2, none⟩ = some (.bool MP)) := hide (fun W k => ⟨k.cell c1, k.cell h3, k.cell h4, k.cell b0, k.cell b2, k.cell q1, k.cell q2⟩)
  clear h hi hd hp hne hkp hch he hvn er hR hb hb9 hb7 hH hK hD hMP hMC hpc p1 p2 h11 h12 h13 q1 q2 b2
  unfold ptr clo at *
  rcases HC.out with rfl | ⟨rfl, rfl⟩ | ⟨rfl, rfl, hneb⟩
  all_goals
    clear HC
    go_enter Try.func51, Try.ntmps51
    go_wp2_with fail
    go_quiet ((go_at_call 40; exact Calls.quiet_of (HK.out _ (by (focus ((repeat (first | (with_reducible assumption) | (with_reducible exact Kp.refl _) | (with_reducible apply Kp.drew) | (with_reducible apply Kp.drewN) | ((with_reducible apply Kp.setR); (focus (first | (with_reducible assumption) | (simp; done) | (simp; omega)))) | (with_reducible apply Kp.alloc) | ((with_reducible apply Kp.call); (with_reducible assumption)) | ((with_reducible apply Kp.app); (with_reducible assumption)))); done))))))
    obtain ⟨w1, hw1⟩ : ∃ x, x = w.drewN nq := ⟨_, rfl⟩
    rw [← hw1]
    have k1 : Kp w w1 := by rw [hw1]; exact (Kp.refl w).drewN
    clear hw1 c1 h3 h4 b0
    obtain ⟨c1, h3, h4, b0, b2, q1, q2⟩ := HF.out _ k1
    first | (have hN := fun n => HN.out (w1.drewN n) k1.drewN hneb) | skip
    go_wp2_with fail
    go_quiet (fail)
    obtain ⟨w2, hw2⟩ : ∃ x, x = w1.drewN nq := ⟨_, rfl⟩
    rw [← hw2]
    have k2 : Kp w w2 := by rw [hw2]; exact k1.drewN
    clear hw2 c1 h3 h4 b0 b2 q1 q2
    obtain ⟨c1, h3, h4, b0, b2, q1, q2⟩ := HF.out _ k2
    go_wp2_with fail
    refine (H11.out _ k2).mono ?_
    rintro e w3 ⟨rfl, r3⟩
    obtain ⟨g1, g2, ⟨g3, g4⟩, g5⟩ := H12.out _ r3
    go_wp2
    exact H13.out _ r3
end Go.Proofs.Ytoihdnekkgpcoaa
namespace Go.Proofs.Ytoihdnekkgpcoaa
open Go.ChangeShapes Go.WideShapes Go.ChangeAt Go.RowKit
set_option linter.unusedVariables false
set_option linter.unusedSimpArgs false

variable {L : Lay} {s : St} {dv : Nat → Value} {w w' : World}
set_option maxRecDepth 100000 in
set_option maxHeartbeats 4000000 in
theorem lz5_there (h : WN L s dv w) {i : Nat} (hi : i < L.nh) {d : Dd} (hd : (L.P i)[s.deed i]? = some d) (hp : (s.hd i).plc = 4) (hne : (s.hd i).p ≠ (s.hd i).c) (hkp : s.m.ky (s.hd i).p ≠ 10) (hmp : s.m.mr (s.hd i).p = false) (hmc : s.m.mr (s.hd i).c = false) (hnx : s.m.nx (s.hd i).p = (s.hd i).c) (hkk : d.kind = 1) (hke : s.m.ky (s.hd i).c = d.key) {e0 e1 e2 e3 e4 e5 e6 e7 : Nat} (he : ELz L (L.Hb i) e0 e1 e2 e3 e4 e5 e6 e7) (hvn : dv i ≠ .nilFunc) :
    Calls Try.prog 51 #[ptr e1, ptr e2, ptr e7] w (CP DLz L s dv i (lazyS s.m (s.hd i) d)) := by
  have c1 := h.cst he.c1
  obtain ⟨pv, cv, bb, -, -, -, h3, h4, h5, hz, -, hpc, -⟩ := h.hand hi
  obtain ⟨rfl, rfl, p1, p2⟩ := hpc (by omega)
  obtain ⟨b0, -, b2, -, fc, -⟩ := h.bead p2
  obtain ⟨-, q1, q2, -⟩ := h.bead p1
  rw [if_neg hkp, hnx] at q1
  rw [hmp] at q2
  rw [hmc] at b2
  have f5 := hz 5
  have f2 := fc 2
  have er : lazyS s.m (s.hd i) d = (s.m.free (s.hd i).p (s.hd i).c, { s.hd i with is := false }, true) := by unfold lazyS; rw [hp]; simp [hmp, hmc, hnx, hp, hkk, hke]
  rw [er]
  have HK := hide (fun W (k : Kp w W) => key_quiet (h.kpw k) hi hd)
  have HKd := hide (fun W (k : Kp w W) => kind_quiet (h.kpw k) hi hd)
  have HX : ∃ R1 R2 : World → Prop, (∀ W, Kp w W → R1 (W.setCell ⟨L.Hb i, 5, none⟩ (.bool false))) ∧ (∀ w1, R1 w1 → Calls Try.prog 44 #[ptr (L.Hb i)] w1 (fun e w' => e = .returned (.tuple #[]) ∧ R2 w')) ∧
      (∀ w1, R1 w1 → w1.cell? ⟨e1, 0, none⟩ = some (ptr (L.Hb i)) ∧ w1.cell? ⟨L.Hb i, 5, none⟩ = some (.bool false)) ∧ (∀ w1, R2 w1 → CP DLz L s dv i (s.m.free (s.hd i).p (s.hd i).c, { s.hd i with is := false }, true) (.returned (.bool true)) w1) := by
    refine ⟨fun w1 => WN L { s with hd := up s.hd i { s.hd i with is := false } } dv w1, fun w1 => WN L { s with m := s.m.free (s.hd i).p (s.hd i).c, hd := up s.hd i { s.hd i with is := false } } dv w1, fun W k => (h.kpw k).setis hi false, fun w1 h1 => ?_, fun w1 h1 => ⟨h1.cst he.c1, ?_⟩, fun w1 h1 => ⟨rfl, L, dv, Lx.refl _ _, h1, fun _ _ => rfl, hvn, fun e => absurd e (by simp)⟩⟩
    · have h2 := free_any h1 hi (by show (up s.hd i _ i).plc ≠ 0; rw [up_same]; show (s.hd i).plc ≠ 0; omega) (by show (up s.hd i _ i).p ≠ (up s.hd i _ i).c; rw [up_same]; exact hne)
      have h2 : Calls Try.prog 44 #[ptr (L.Hb i)] w1 (fun e w' => e = .returned (.tuple #[]) ∧ WN L { s with m := s.m.free (up s.hd i { s.hd i with is := false } i).p (up s.hd i { s.hd i with is := false } i).c, hd := up s.hd i { s.hd i with is := false } } dv w') := h2
      rw [up_same] at h2
      exact h2
    · obtain ⟨_, _, b, _, _, _, _, _, y, _, _, _, z⟩ := h1.hand hi
      rw [y, z hvn]
      show some (Value.bool (up s.hd i _ i).is) = _
      rw [up_same]
  obtain ⟨R1, R2, h10, h11, h12, h13⟩ := HX
  have HN : Hid (∀ W, (binOp .neq 46 (.pointer (some ⟨L.B (s.hd i).c, 0, none⟩)) (.pointer (some ⟨L.B (s.hd i).c, 0, none⟩))).run Try.prog W = .ok (.bool false) W) := hide (fun W => nd_neq_same W _)
  have H10 := hide h10
  have H11 := hide h11
  have H12 := hide h12
  have HE := hide h13
  obtain ⟨R, hR⟩ : ∃ R, R = CP DLz L s dv i (s.m.free (s.hd i).p (s.hd i).c, { s.hd i with is := false }, true) := ⟨_, rfl⟩
  rw [← hR] at HE ⊢
  obtain ⟨b, hb⟩ : ∃ b, b = L.B (s.hd i).c := ⟨_, rfl⟩
  obtain ⟨b9, hb9⟩ : ∃ b, b = L.B (s.hd i).p := ⟨_, rfl⟩
  obtain ⟨H, hH⟩ : ∃ b, b = L.Hb i := ⟨_, rfl⟩
  obtain ⟨K, hK⟩ : ∃ b, b = s.m.ky (s.hd i).c := ⟨_, rfl⟩
  obtain ⟨D, hD⟩ : ∃ b, b = d.key := ⟨_, rfl⟩
  obtain ⟨Q, hQ⟩ : ∃ b, b = d.kind := ⟨_, rfl⟩
  rw [← hb] at h4 b0 b2 q1 f2 HN
  rw [← hb9] at h3 q1 q2
  rw [← hH] at c1 h3 h4 h5 f5 HK HKd H10 H11 H12
  rw [← hK] at b0 hke
  rw [← hD] at HK hke
  rw [← hQ] at HKd hkk
  have HF : Hid (∀ W, Kp w W → W.cell? ⟨e1, 0, none⟩ = some (ptr H) ∧ W.cell? ⟨H, 3, none⟩ = some (ptr b9) ∧ W.cell? ⟨H, 4, none⟩ = some (ptr b) ∧ W.cell? ⟨b, 0, none⟩ = some (.int .i64 K) ∧ W.cell? ⟨b, 2, none⟩ = some (.bool false) ∧ W.cell? ⟨b9, 1, none⟩ = some (ptr b) ∧ W.cell? ⟨b9, 2, none⟩ = some (.bool false) ∧ W.cell? ⟨H, 5, none⟩ = some (.bool bb) ∧ W.frozen? ⟨H, 5, none⟩ = false ∧ W.frozen? ⟨b, 2, none⟩ = false) := hide (fun W k => ⟨k.cell c1, k.cell h3, k.cell h4, k.cell b0, k.cell b2, k.cell q1, k.cell q2, k.cell h5, (k.frozen (World.block_lt_of_cell? _ _ h5)).trans f5, (k.frozen (World.block_lt_of_cell? _ _ b2)).trans f2⟩)
  have hE : (K == D) = true := by rw [beq_dec, decide_eq_true hke]
  have hQ1 : (Q == 1) = true := by rw [hkk]; rfl
  clear h hi hd hp hne hkp hmp hmc hnx hke hkk he hvn er hR hb hb9 hH hK hD hQ hpc p1 p2 q1 q2 b2 hz fc f5 f2 h5 h10 h11 h12 h13
  unfold ptr at *
  go_enter Try.func51, Try.ntmps51
  go_wp2_with fail
  go_quiet ((go_at_call 40; exact Calls.quiet_of (HK.out _ (by (focus ((repeat (first | (with_reducible assumption) | (with_reducible exact Kp.refl _) | (with_reducible apply Kp.drew) | (with_reducible apply Kp.drewN) | ((with_reducible apply Kp.setR); (focus (first | (with_reducible assumption) | (simp; done) | (simp; omega)))) | (with_reducible apply Kp.alloc) | ((with_reducible apply Kp.call); (with_reducible assumption)) | ((with_reducible apply Kp.app); (with_reducible assumption)))); done))))))
  obtain ⟨w1, hw1⟩ : ∃ x, x = w.drewN nq := ⟨_, rfl⟩
  rw [← hw1]
  have k1 : Kp w w1 := by rw [hw1]; exact (Kp.refl w).drewN
  clear hw1 c1 h3 h4 b0
  obtain ⟨c1, h3, h4, b0, b2, q1, q2, h5, f5, f2⟩ := HF.out _ k1
  have hN := fun n => HN.out (w1.drewN n)
  go_wp2_with fail
  go_quiet (fail)
  obtain ⟨w2, hw2⟩ : ∃ x, x = w1.drewN nq := ⟨_, rfl⟩
  rw [← hw2]
  have k2 : Kp w w2 := by rw [hw2]; exact k1.drewN
  clear hw2 c1 h3 h4 b0 b2 q1 q2 h5 f5 f2 hN
  obtain ⟨c1, h3, h4, b0, b2, q1, q2, h5, f5, f2⟩ := HF.out _ k2
  go_wp2_with fail
  refine (HKd.out _ k2).mono ?_
  rintro e w3 ⟨rfl, m3, rfl⟩
  obtain ⟨w4, hw4⟩ : ∃ x, x = w2.drewN m3 := ⟨_, rfl⟩
  rw [← hw4]
  have k4 : Kp w w4 := by rw [hw4]; exact k2.drewN
  clear hw4 c1 h3 h4 b0 b2 q1 q2 h5 f5 f2
  obtain ⟨c1, h3, h4, b0, b2, q1, q2, h5, f5, f2⟩ := HF.out _ k4
  have r1 := H10.out _ k4
  go_wp2_with fail
  refine (H11.out _ r1).mono ?_
  rintro e w5 ⟨rfl, r2⟩
  go_wp2
  exact HE.out _ r2
set_option maxRecDepth 100000 in
set_option maxHeartbeats 4000000 in
theorem lz5_none (h : WN L s dv w) {i : Nat} (hi : i < L.nh) {d : Dd} (hd : (L.P i)[s.deed i]? = some d) (hp : (s.hd i).plc = 4) (hne : (s.hd i).p ≠ (s.hd i).c) (hkp : s.m.ky (s.hd i).p ≠ 10) (hmp : s.m.mr (s.hd i).p = false) (hmc : s.m.mr (s.hd i).c = false) (hnx : s.m.nx (s.hd i).p = (s.hd i).c) (hkk : d.kind ≠ 1) (hke : s.m.ky (s.hd i).c ≠ d.key) {e0 e1 e2 e3 e4 e5 e6 e7 : Nat} (he : ELz L (L.Hb i) e0 e1 e2 e3 e4 e5 e6 e7) (hvn : dv i ≠ .nilFunc) :
    Calls Try.prog 51 #[ptr e1, ptr e2, ptr e7] w (CP DLz L s dv i (lazyS s.m (s.hd i) d)) := by
  have c1 := h.cst he.c1
  obtain ⟨pv, cv, bb, -, -, -, h3, h4, h5, hz, -, hpc, -⟩ := h.hand hi
  obtain ⟨rfl, rfl, p1, p2⟩ := hpc (by omega)
  obtain ⟨b0, -, b2, -, fc, -⟩ := h.bead p2
  obtain ⟨-, q1, q2, -⟩ := h.bead p1
  rw [if_neg hkp, hnx] at q1
  rw [hmp] at q2
  rw [hmc] at b2
  have f5 := hz 5
  have f2 := fc 2
  have er : lazyS s.m (s.hd i) d = (s.m.free (s.hd i).p (s.hd i).c, { s.hd i with is := false }, true) := by unfold lazyS; rw [hp]; simp [hmp, hmc, hnx, hp, hkk, hke]
  rw [er]
  have HK := hide (fun W (k : Kp w W) => key_quiet (h.kpw k) hi hd)
  have HKd := hide (fun W (k : Kp w W) => kind_quiet (h.kpw k) hi hd)
  have HX : ∃ R1 R2 : World → Prop, (∀ W, Kp w W → R1 (W.setCell ⟨L.Hb i, 5, none⟩ (.bool false))) ∧ (∀ w1, R1 w1 → Calls Try.prog 44 #[ptr (L.Hb i)] w1 (fun e w' => e = .returned (.tuple #[]) ∧ R2 w')) ∧
      (∀ w1, R1 w1 → w1.cell? ⟨e1, 0, none⟩ = some (ptr (L.Hb i)) ∧ w1.cell? ⟨L.Hb i, 5, none⟩ = some (.bool false)) ∧ (∀ w1, R2 w1 → CP DLz L s dv i (s.m.free (s.hd i).p (s.hd i).c, { s.hd i with is := false }, true) (.returned (.bool true)) w1) := by
    refine ⟨fun w1 => WN L { s with hd := up s.hd i { s.hd i with is := false } } dv w1, fun w1 => WN L { s with m := s.m.free (s.hd i).p (s.hd i).c, hd := up s.hd i { s.hd i with is := false } } dv w1, fun W k => (h.kpw k).setis hi false, fun w1 h1 => ?_, fun w1 h1 => ⟨h1.cst he.c1, ?_⟩, fun w1 h1 => ⟨rfl, L, dv, Lx.refl _ _, h1, fun _ _ => rfl, hvn, fun e => absurd e (by simp)⟩⟩
    · have h2 := free_any h1 hi (by show (up s.hd i _ i).plc ≠ 0; rw [up_same]; show (s.hd i).plc ≠ 0; omega) (by show (up s.hd i _ i).p ≠ (up s.hd i _ i).c; rw [up_same]; exact hne)
      have h2 : Calls Try.prog 44 #[ptr (L.Hb i)] w1 (fun e w' => e = .returned (.tuple #[]) ∧ WN L { s with m := s.m.free (up s.hd i { s.hd i with is := false } i).p (up s.hd i { s.hd i with is := false } i).c, hd := up s.hd i { s.hd i with is := false } } dv w') := h2
      rw [up_same] at h2
      exact h2
    · obtain ⟨_, _, b, _, _, _, _, _, y, _, _, _, z⟩ := h1.hand hi
      rw [y, z hvn]
      show some (Value.bool (up s.hd i _ i).is) = _
      rw [up_same]
  obtain ⟨R1, R2, h10, h11, h12, h13⟩ := HX
  have HN : Hid (∀ W, (binOp .neq 46 (.pointer (some ⟨L.B (s.hd i).c, 0, none⟩)) (.pointer (some ⟨L.B (s.hd i).c, 0, none⟩))).run Try.prog W = .ok (.bool false) W) := hide (fun W => nd_neq_same W _)
  have H10 := hide h10
  have H11 := hide h11
  have H12 := hide h12
  have HE := hide h13
  obtain ⟨R, hR⟩ : ∃ R, R = CP DLz L s dv i (s.m.free (s.hd i).p (s.hd i).c, { s.hd i with is := false }, true) := ⟨_, rfl⟩
  rw [← hR] at HE ⊢
  obtain ⟨b, hb⟩ : ∃ b, b = L.B (s.hd i).c := ⟨_, rfl⟩
  obtain ⟨b9, hb9⟩ : ∃ b, b = L.B (s.hd i).p := ⟨_, rfl⟩
  obtain ⟨H, hH⟩ : ∃ b, b = L.Hb i := ⟨_, rfl⟩
  obtain ⟨K, hK⟩ : ∃ b, b = s.m.ky (s.hd i).c := ⟨_, rfl⟩
  obtain ⟨D, hD⟩ : ∃ b, b = d.key := ⟨_, rfl⟩
  obtain ⟨Q, hQ⟩ : ∃ b, b = d.kind := ⟨_, rfl⟩
  rw [← hb] at h4 b0 b2 q1 f2 HN
  rw [← hb9] at h3 q1 q2
  rw [← hH] at c1 h3 h4 h5 f5 HK HKd H10 H11 H12
  rw [← hK] at b0 hke
  rw [← hD] at HK hke
  rw [← hQ] at HKd hkk
  have HF : Hid (∀ W, Kp w W → W.cell? ⟨e1, 0, none⟩ = some (ptr H) ∧ W.cell? ⟨H, 3, none⟩ = some (ptr b9) ∧ W.cell? ⟨H, 4, none⟩ = some (ptr b) ∧ W.cell? ⟨b, 0, none⟩ = some (.int .i64 K) ∧ W.cell? ⟨b, 2, none⟩ = some (.bool false) ∧ W.cell? ⟨b9, 1, none⟩ = some (ptr b) ∧ W.cell? ⟨b9, 2, none⟩ = some (.bool false) ∧ W.cell? ⟨H, 5, none⟩ = some (.bool bb) ∧ W.frozen? ⟨H, 5, none⟩ = false ∧ W.frozen? ⟨b, 2, none⟩ = false) := hide (fun W k => ⟨k.cell c1, k.cell h3, k.cell h4, k.cell b0, k.cell b2, k.cell q1, k.cell q2, k.cell h5, (k.frozen (World.block_lt_of_cell? _ _ h5)).trans f5, (k.frozen (World.block_lt_of_cell? _ _ b2)).trans f2⟩)
  have hE : (K == D) = false := by rw [beq_dec, decide_eq_false hke]
  have hQ1 : (Q == 1) = false := beq_eq_false_iff_ne.2 hkk
  clear h hi hd hp hne hkp hmp hmc hnx hke hkk he hvn er hR hb hb9 hH hK hD hQ hpc p1 p2 q1 q2 b2 hz fc f5 f2 h5 h10 h11 h12 h13
  unfold ptr at *
  go_enter Try.func51, Try.ntmps51
  go_wp2_with fail
  go_quiet ((go_at_call 40; exact Calls.quiet_of (HK.out _ (by (focus ((repeat (first | (with_reducible assumption) | (with_reducible exact Kp.refl _) | (with_reducible apply Kp.drew) | (with_reducible apply Kp.drewN) | ((with_reducible apply Kp.setR); (focus (first | (with_reducible assumption) | (simp; done) | (simp; omega)))) | (with_reducible apply Kp.alloc) | ((with_reducible apply Kp.call); (with_reducible assumption)) | ((with_reducible apply Kp.app); (with_reducible assumption)))); done))))))
  obtain ⟨w1, hw1⟩ : ∃ x, x = w.drewN nq := ⟨_, rfl⟩
  rw [← hw1]
  have k1 : Kp w w1 := by rw [hw1]; exact (Kp.refl w).drewN
  clear hw1 c1 h3 h4 b0
  obtain ⟨c1, h3, h4, b0, b2, q1, q2, h5, f5, f2⟩ := HF.out _ k1
  have hN := fun n => HN.out (w1.drewN n)
  go_wp2_with fail
  go_quiet (fail)
  obtain ⟨w2, hw2⟩ : ∃ x, x = w1.drewN nq := ⟨_, rfl⟩
  rw [← hw2]
  have k2 : Kp w w2 := by rw [hw2]; exact k1.drewN
  clear hw2 c1 h3 h4 b0 b2 q1 q2 h5 f5 f2 hN
  obtain ⟨c1, h3, h4, b0, b2, q1, q2, h5, f5, f2⟩ := HF.out _ k2
  go_wp2_with fail
  refine (HKd.out _ k2).mono ?_
  rintro e w3 ⟨rfl, m3, rfl⟩
  obtain ⟨w4, hw4⟩ : ∃ x, x = w2.drewN m3 := ⟨_, rfl⟩
  rw [← hw4]
  have k4 : Kp w w4 := by rw [hw4]; exact k2.drewN
  clear hw4 c1 h3 h4 b0 b2 q1 q2 h5 f5 f2
  obtain ⟨c1, h3, h4, b0, b2, q1, q2, h5, f5, f2⟩ := HF.out _ k4
  have r1 := H10.out _ k4
  go_wp2_with fail
  refine (H11.out _ r1).mono ?_
  rintro e w5 ⟨rfl, r2⟩
  go_wp2
  exact HE.out _ r2
end Go.Proofs.Ytoihdnekkgpcoaa
namespace Go.Proofs.Ytoihdnekkgpcoaa
open Go.ChangeShapes Go.WideShapes Go.ChangeAt Go.RowKit
set_option linter.unusedVariables false
set_option linter.unusedSimpArgs false

variable {L : Lay} {s : St} {dv : Nat → Value} {w w' : World}
set_option maxRecDepth 100000 in
set_option maxHeartbeats 4000000 in
theorem lz5_add (h : WN L s dv w) {i : Nat} (hi : i < L.nh) {d : Dd} (hd : (L.P i)[s.deed i]? = some d) (hp : (s.hd i).plc = 4) (hne : (s.hd i).p ≠ (s.hd i).c) (hkp : s.m.ky (s.hd i).p ≠ 10) (hmp : s.m.mr (s.hd i).p = false) (hmc : s.m.mr (s.hd i).c = false) (hnx : s.m.nx (s.hd i).p = (s.hd i).c) (hd10 : d.key ≤ 9) (hkk : d.kind = 1) (hke : s.m.ky (s.hd i).c ≠ d.key) {e0 e1 e2 e3 e4 e5 e6 e7 : Nat} (he : ELz L (L.Hb i) e0 e1 e2 e3 e4 e5 e6 e7) (hvn : dv i ≠ .nilFunc) :
    Calls Try.prog 51 #[ptr e1, ptr e2, ptr e7] w (CP DLz L s dv i (lazyS s.m (s.hd i) d)) := by
  have c1 := h.cst he.c1
  obtain ⟨pv, cv, bb, -, -, -, h3, h4, h5, hz, -, hpc, -⟩ := h.hand hi
  obtain ⟨rfl, rfl, p1, p2⟩ := hpc (by omega)
  obtain ⟨b0, -, b2, -, fc, -⟩ := h.bead p2
  obtain ⟨-, q1, q2, -⟩ := h.bead p1
  rw [if_neg hkp, hnx] at q1
  rw [hmp] at q2
  rw [hmc] at b2
  have f5 := hz 5
  have f2 := fc 2
  have er : lazyS s.m (s.hd i) d = ((s.m.free (s.hd i).p (s.hd i).c).ins (s.hd i).p (s.hd i).c d.key, { s.hd i with is := true }, true) := by unfold lazyS; rw [hp]; simp [hmp, hmc, hnx, hp, hkk, hke]
  rw [er]
  have HK := hide (fun W (k : Kp w W) => key_quiet (h.kpw k) hi hd)
  have HKd := hide (fun W (k : Kp w W) => kind_quiet (h.kpw k) hi hd)
  have HX : ∃ R1 R2 R3 : World → Prop, (∀ W, Kp w W → R1 (W.setCell ⟨L.Hb i, 5, none⟩ (.bool true))) ∧ (∀ w1, R1 w1 → Calls Try.prog 43 #[ptr (L.Hb i)] w1 (fun e w' => e = .returned (.tuple #[]) ∧ R2 w')) ∧
      (∀ w1, R2 w1 → Calls Try.prog 44 #[ptr (L.Hb i)] w1 (fun e w' => e = .returned (.tuple #[]) ∧ R3 w')) ∧
      (∀ w1, R1 w1 → w1.cell? ⟨e1, 0, none⟩ = some (ptr (L.Hb i)) ∧ w1.cell? ⟨L.Hb i, 5, none⟩ = some (.bool true)) ∧ (∀ w1, R2 w1 → w1.cell? ⟨e1, 0, none⟩ = some (ptr (L.Hb i))) ∧
      (∀ w1, R3 w1 → CP DLz L s dv i ((s.m.free (s.hd i).p (s.hd i).c).ins (s.hd i).p (s.hd i).c d.key, { s.hd i with is := true }, true) (.returned (.bool true)) w1) := by
    refine ⟨fun w1 => WN L { s with hd := up s.hd i { s.hd i with is := true } } dv w1, fun w1 => ∃ L', Lx L L' s.m.n ∧ WN L' { s with m := s.m.ins (s.hd i).p (s.hd i).c d.key, hd := up s.hd i { s.hd i with is := true } } dv w1, fun w1 => ∃ L', Lx L L' s.m.n ∧ WN L' { s with m := (s.m.free (s.hd i).p (s.hd i).c).ins (s.hd i).p (s.hd i).c d.key, hd := up s.hd i { s.hd i with is := true } } dv w1, fun W k => (h.kpw k).setis hi true, fun w1 h1 => ?_, fun w1 h1 => ?_, fun w1 h1 => ⟨h1.cst he.c1, ?_⟩, fun w1 h1 => ?_, fun w1 h1 => ?_⟩
    · have h2 := add_any h1 hi hd (by show (up s.hd i _ i).plc ≠ 0; rw [up_same]; show (s.hd i).plc ≠ 0; omega) (by show s.m.ky (up s.hd i _ i).p ≠ 10; rw [up_same]; exact hkp) (by omega)
      have h2 : Calls Try.prog 43 #[ptr (L.Hb i)] w1 (fun e w' => e = .returned (.tuple #[]) ∧ ∃ L', Lx L L' s.m.n ∧ WN L' { s with m := s.m.ins (up s.hd i { s.hd i with is := true } i).p (up s.hd i { s.hd i with is := true } i).c d.key, hd := up s.hd i { s.hd i with is := true } } dv w') := h2
      rw [up_same] at h2
      exact h2
    · obtain ⟨L', l1, h1⟩ := h1
      have h2 := free_any h1 (i := i) (by rw [l1.2.2.2.1]; exact hi) (by show (up s.hd i _ i).plc ≠ 0; rw [up_same]; show (s.hd i).plc ≠ 0; omega) (by show (up s.hd i _ i).p ≠ (up s.hd i _ i).c; rw [up_same]; exact hne)
      have e4 : (s.m.ins (s.hd i).p (s.hd i).c d.key).free (up s.hd i { s.hd i with is := true } i).p (up s.hd i { s.hd i with is := true } i).c = (s.m.free (s.hd i).p (s.hd i).c).ins (s.hd i).p (s.hd i).c d.key := by
        rw [up_same]; exact ins_free s.m p1 p2 d.key
      have h2 : Calls Try.prog 44 #[ptr (L'.Hb i)] w1 (fun e w' => e = .returned (.tuple #[]) ∧ WN L' { s with m := (s.m.ins (s.hd i).p (s.hd i).c d.key).free (up s.hd i { s.hd i with is := true } i).p (up s.hd i { s.hd i with is := true } i).c, hd := up s.hd i { s.hd i with is := true } } dv w') := h2
      rw [e4, l1.2.1] at h2
      exact h2.mono (fun e w' q => ⟨q.1, L', l1, q.2⟩)
    · obtain ⟨_, _, b, _, _, _, _, _, y, _, _, _, z⟩ := h1.hand hi
      rw [y, z hvn]
      show some (Value.bool (up s.hd i _ i).is) = _
      rw [up_same]
    · obtain ⟨L', l1, h1⟩ := h1
      have := h1.cst (he.lx l1).c1
      exact this
    · obtain ⟨L', l1, h1⟩ := h1
      exact ⟨rfl, L', dv, l1, h1, fun _ _ => rfl, hvn, fun e => absurd e (by simp)⟩
  obtain ⟨R1, R2, R3, h10, h11, h11b, h12, h12b, h13⟩ := HX
  have HN : Hid (∀ W, (binOp .neq 46 (.pointer (some ⟨L.B (s.hd i).c, 0, none⟩)) (.pointer (some ⟨L.B (s.hd i).c, 0, none⟩))).run Try.prog W = .ok (.bool false) W) := hide (fun W => nd_neq_same W _)
  have H10 := hide h10
  have H11 := hide h11
  have H11b := hide h11b
  have H12 := hide h12
  have H12b := hide h12b
  have HE := hide h13
  obtain ⟨R, hR⟩ : ∃ R, R = CP DLz L s dv i ((s.m.free (s.hd i).p (s.hd i).c).ins (s.hd i).p (s.hd i).c d.key, { s.hd i with is := true }, true) := ⟨_, rfl⟩
  rw [← hR] at HE ⊢
  obtain ⟨b, hb⟩ : ∃ b, b = L.B (s.hd i).c := ⟨_, rfl⟩
  obtain ⟨b9, hb9⟩ : ∃ b, b = L.B (s.hd i).p := ⟨_, rfl⟩
  obtain ⟨H, hH⟩ : ∃ b, b = L.Hb i := ⟨_, rfl⟩
  obtain ⟨K, hK⟩ : ∃ b, b = s.m.ky (s.hd i).c := ⟨_, rfl⟩
  obtain ⟨D, hD⟩ : ∃ b, b = d.key := ⟨_, rfl⟩
  obtain ⟨Q, hQ⟩ : ∃ b, b = d.kind := ⟨_, rfl⟩
  rw [← hb] at h4 b0 b2 q1 f2 HN
  rw [← hb9] at h3 q1 q2
  rw [← hH] at c1 h3 h4 h5 f5 HK HKd H10 H11 H11b H12 H12b
  rw [← hK] at b0 hke
  rw [← hD] at HK hke
  rw [← hQ] at HKd hkk
  have HF : Hid (∀ W, Kp w W → W.cell? ⟨e1, 0, none⟩ = some (ptr H) ∧ W.cell? ⟨H, 3, none⟩ = some (ptr b9) ∧ W.cell? ⟨H, 4, none⟩ = some (ptr b) ∧ W.cell? ⟨b, 0, none⟩ = some (.int .i64 K) ∧ W.cell? ⟨b, 2, none⟩ = some (.bool false) ∧ W.cell? ⟨b9, 1, none⟩ = some (ptr b) ∧ W.cell? ⟨b9, 2, none⟩ = some (.bool false) ∧ W.cell? ⟨H, 5, none⟩ = some (.bool bb) ∧ W.frozen? ⟨H, 5, none⟩ = false ∧ W.frozen? ⟨b, 2, none⟩ = false) := hide (fun W k => ⟨k.cell c1, k.cell h3, k.cell h4, k.cell b0, k.cell b2, k.cell q1, k.cell q2, k.cell h5, (k.frozen (World.block_lt_of_cell? _ _ h5)).trans f5, (k.frozen (World.block_lt_of_cell? _ _ b2)).trans f2⟩)
  have hE : (K == D) = false := by rw [beq_dec, decide_eq_false hke]
  have hQ1 : (Q == 1) = true := by rw [hkk]; rfl
  clear h hi hd hp hne hkp hmp hmc hnx hke hkk he hvn er hR hb hb9 hH hK hD hQ hpc p1 p2 q1 q2 b2 hz fc f5 f2 h5 h10 h11 h11b h12 h12b h13 hd10
  unfold ptr at *
  go_enter Try.func51, Try.ntmps51
  go_wp2_with fail
  go_quiet ((go_at_call 40; exact Calls.quiet_of (HK.out _ (by (focus ((repeat (first | (with_reducible assumption) | (with_reducible exact Kp.refl _) | (with_reducible apply Kp.drew) | (with_reducible apply Kp.drewN) | ((with_reducible apply Kp.setR); (focus (first | (with_reducible assumption) | (simp; done) | (simp; omega)))) | (with_reducible apply Kp.alloc) | ((with_reducible apply Kp.call); (with_reducible assumption)) | ((with_reducible apply Kp.app); (with_reducible assumption)))); done))))))
  obtain ⟨w1, hw1⟩ : ∃ x, x = w.drewN nq := ⟨_, rfl⟩
  rw [← hw1]
  have k1 : Kp w w1 := by rw [hw1]; exact (Kp.refl w).drewN
  clear hw1 c1 h3 h4 b0
  obtain ⟨c1, h3, h4, b0, b2, q1, q2, h5, f5, f2⟩ := HF.out _ k1
  have hN := fun n => HN.out (w1.drewN n)
  go_wp2_with fail
  go_quiet (fail)
  obtain ⟨w2, hw2⟩ : ∃ x, x = w1.drewN nq := ⟨_, rfl⟩
  rw [← hw2]
  have k2 : Kp w w2 := by rw [hw2]; exact k1.drewN
  clear hw2 c1 h3 h4 b0 b2 q1 q2 h5 f5 f2 hN
  obtain ⟨c1, h3, h4, b0, b2, q1, q2, h5, f5, f2⟩ := HF.out _ k2
  go_wp2_with fail
  refine (HKd.out _ k2).mono ?_
  rintro e w3 ⟨rfl, m3, rfl⟩
  obtain ⟨w4, hw4⟩ : ∃ x, x = w2.drewN m3 := ⟨_, rfl⟩
  rw [← hw4]
  have k4 : Kp w w4 := by rw [hw4]; exact k2.drewN
  clear hw4 c1 h3 h4 b0 b2 q1 q2 h5 f5 f2
  obtain ⟨c1, h3, h4, b0, b2, q1, q2, h5, f5, f2⟩ := HF.out _ k4
  have r1 := H10.out _ k4
  generalize w4.setCell ⟨H, 5, none⟩ (.bool true) = w5 at r1
  obtain ⟨c15, h55⟩ := H12.out _ r1
  clear r1 c15 h55
  have r1 := H10.out _ k4
  obtain ⟨c15, h55⟩ := H12.out _ r1
  go_wp2_with fail
  refine (H11.out _ r1).mono ?_
  rintro e w6 ⟨rfl, r2⟩
  have c16 := H12b.out _ r2
  go_wp2_with fail
  refine (H11b.out _ r2).mono ?_
  rintro e w7 ⟨rfl, r3⟩
  go_wp2
  exact HE.out _ r3
set_option maxRecDepth 100000 in
set_option maxHeartbeats 4000000 in
theorem lz5_cut (h : WN L s dv w) {i : Nat} (hi : i < L.nh) {d : Dd} (hd : (L.P i)[s.deed i]? = some d) (hp : (s.hd i).plc = 4) (hne : (s.hd i).p ≠ (s.hd i).c) (hkp : s.m.ky (s.hd i).p ≠ 10) (hmp : s.m.mr (s.hd i).p = false) (hmc : s.m.mr (s.hd i).c = false) (hnx : s.m.nx (s.hd i).p = (s.hd i).c) (hkk : d.kind ≠ 1) (hke : s.m.ky (s.hd i).c = d.key) {e0 e1 e2 e3 e4 e5 e6 e7 : Nat} (he : ELz L (L.Hb i) e0 e1 e2 e3 e4 e5 e6 e7) (hvn : dv i ≠ .nilFunc) :
    Calls Try.prog 51 #[ptr e1, ptr e2, ptr e7] w (CP DLz L s dv i (lazyS s.m (s.hd i) d)) := by
  have c1 := h.cst he.c1
  obtain ⟨pv, cv, bb, -, -, -, h3, h4, h5, hz, -, hpc, -⟩ := h.hand hi
  obtain ⟨rfl, rfl, p1, p2⟩ := hpc (by omega)
  obtain ⟨b0, -, b2, -, fc, -⟩ := h.bead p2
  obtain ⟨-, q1, q2, -⟩ := h.bead p1
  rw [if_neg hkp, hnx] at q1
  rw [hmp] at q2
  rw [hmc] at b2
  have f5 := hz 5
  have f2 := fc 2
  have er : lazyS s.m (s.hd i) d = (s.m.mark (s.hd i).c, { s.hd i with plc := 5, is := true }, false) := by unfold lazyS; rw [hp]; simp [hmp, hmc, hnx, hp, hkk, hke]
  rw [er]
  have HK := hide (fun W (k : Kp w W) => key_quiet (h.kpw k) hi hd)
  have HKd := hide (fun W (k : Kp w W) => kind_quiet (h.kpw k) hi hd)
  have n2 : ¬ L.B (s.hd i).c = L.Hb i := by obtain ⟨_, _, _, a, _⟩ := h.hn i hi; exact BC.ne (h.bd _ p2).1 a (by decide)
  have n3 : ¬ e1 = L.B (s.hd i).c := BC.ne (h.cs _ _ _ he.c1).1 (h.bd _ p2).1 (by decide)
  have HX : ∃ R1 : World → Prop, (∀ W W', Kp w W → Kp ((W.setCell ⟨L.B (s.hd i).c, 2, none⟩ (.bool true)).setCell ⟨L.Hb i, 5, none⟩ (.bool true)) W' → R1 W') ∧
      (∀ w1, R1 w1 → w1.cell? ⟨e1, 0, none⟩ = some (ptr (L.Hb i)) ∧ w1.cell? ⟨e7, 0, none⟩ = some (clo 52 #[ptr e1]) ∧ (∃ x, w1.cell? ⟨L.Hb i, 2, none⟩ = some x) ∧ w1.frozen? ⟨L.Hb i, 2, none⟩ = false) ∧
      (∀ w1, R1 w1 → CP DLz L s dv i (s.m.mark (s.hd i).c, { s.hd i with plc := 5, is := true }, false) (.returned (.bool false)) (w1.setCell ⟨L.Hb i, 2, none⟩ (clo 52 #[ptr e1]))) := by
    refine ⟨fun w1 => WN L { s with m := s.m.mark (s.hd i).c, hd := up s.hd i { s.hd i with is := true } } dv w1, fun W W' k k' => ?_, fun w1 h1 => ⟨h1.cst he.c1, h1.cst he.c7, by obtain ⟨_, _, _, _, _, x, _, _, _, y, _⟩ := h1.hand hi; exact ⟨⟨_, x⟩, y 2⟩⟩, fun w1 h1 => ?_⟩
    · exact (((h.kpw k).setmr p2).setis hi true).kpw k'
    · have h2 := h1.setdo hi (clo 52 #[ptr e1]) 5 (fun _ => by show (up s.hd i _ i).plc ≠ 0; rw [up_same]; show (s.hd i).plc ≠ 0; omega) hvn
      have h2 : WN L { s with m := s.m.mark (s.hd i).c, hd := up (up s.hd i { s.hd i with is := true }) i { up s.hd i { s.hd i with is := true } i with plc := 5 } } _ _ := h2
      rw [up_same, up_up] at h2
      exact ⟨rfl, L, up dv i (clo 52 #[ptr e1]), Lx.refl _ _, h2, fun j hj => up_ne _ _ hj, by rw [up_same]; exact clo_nil _ _, fun _ => ⟨e0, e1, e2, e3, e4, e5, e6, e7, he, by rw [up_same]; rfl⟩⟩
  obtain ⟨R1, h10, h12, h13⟩ := HX
  have HN : Hid (∀ W, (binOp .neq 46 (.pointer (some ⟨L.B (s.hd i).c, 0, none⟩)) (.pointer (some ⟨L.B (s.hd i).c, 0, none⟩))).run Try.prog W = .ok (.bool false) W) := hide (fun W => nd_neq_same W _)
  have H10 := hide h10
  have H12 := hide h12
  have HE := hide h13
  obtain ⟨R, hR⟩ : ∃ R, R = CP DLz L s dv i (s.m.mark (s.hd i).c, { s.hd i with plc := 5, is := true }, false) := ⟨_, rfl⟩
  rw [← hR] at HE ⊢
  obtain ⟨b, hb⟩ : ∃ b, b = L.B (s.hd i).c := ⟨_, rfl⟩
  obtain ⟨b9, hb9⟩ : ∃ b, b = L.B (s.hd i).p := ⟨_, rfl⟩
  obtain ⟨H, hH⟩ : ∃ b, b = L.Hb i := ⟨_, rfl⟩
  obtain ⟨K, hK⟩ : ∃ b, b = s.m.ky (s.hd i).c := ⟨_, rfl⟩
  obtain ⟨D, hD⟩ : ∃ b, b = d.key := ⟨_, rfl⟩
  obtain ⟨Q, hQ⟩ : ∃ b, b = d.kind := ⟨_, rfl⟩
  rw [← hb] at h4 b0 b2 q1 f2 HN H10 n2 n3
  rw [← hb9] at h3 q1 q2
  rw [← hH] at c1 h3 h4 h5 f5 HK HKd H10 H12 HE n2
  rw [← hK] at b0 hke
  rw [← hD] at HK hke
  rw [← hQ] at HKd hkk
  have HF : Hid (∀ W, Kp w W → W.cell? ⟨e1, 0, none⟩ = some (ptr H) ∧ W.cell? ⟨H, 3, none⟩ = some (ptr b9) ∧ W.cell? ⟨H, 4, none⟩ = some (ptr b) ∧ W.cell? ⟨b, 0, none⟩ = some (.int .i64 K) ∧ W.cell? ⟨b, 2, none⟩ = some (.bool false) ∧ W.cell? ⟨b9, 1, none⟩ = some (ptr b) ∧ W.cell? ⟨b9, 2, none⟩ = some (.bool false) ∧ W.cell? ⟨H, 5, none⟩ = some (.bool bb) ∧ W.frozen? ⟨H, 5, none⟩ = false ∧ W.frozen? ⟨b, 2, none⟩ = false) := hide (fun W k => ⟨k.cell c1, k.cell h3, k.cell h4, k.cell b0, k.cell b2, k.cell q1, k.cell q2, k.cell h5, (k.frozen (World.block_lt_of_cell? _ _ h5)).trans f5, (k.frozen (World.block_lt_of_cell? _ _ b2)).trans f2⟩)
  have hE : (K == D) = true := by rw [beq_dec, decide_eq_true hke]
  have hQ1 : (Q == 1) = false := beq_eq_false_iff_ne.2 hkk
  clear h hi hd hp hne hkp hmp hmc hnx hke hkk he hvn er hR hb hb9 hH hK hD hQ hpc p1 p2 q1 q2 b2 hz fc f5 f2 h5 h10 h12 h13
  unfold ptr clo at *
  go_enter Try.func51, Try.ntmps51
  go_wp2_with fail
  go_quiet ((go_at_call 40; exact Calls.quiet_of (HK.out _ (by (focus ((repeat (first | (with_reducible assumption) | (with_reducible exact Kp.refl _) | (with_reducible apply Kp.drew) | (with_reducible apply Kp.drewN) | ((with_reducible apply Kp.setR); (focus (first | (with_reducible assumption) | (simp; done) | (simp; omega)))) | (with_reducible apply Kp.alloc) | ((with_reducible apply Kp.call); (with_reducible assumption)) | ((with_reducible apply Kp.app); (with_reducible assumption)))); done))))))
  obtain ⟨w1, hw1⟩ : ∃ x, x = w.drewN nq := ⟨_, rfl⟩
  rw [← hw1]
  have k1 : Kp w w1 := by rw [hw1]; exact (Kp.refl w).drewN
  clear hw1 c1 h3 h4 b0
  obtain ⟨c1, h3, h4, b0, b2, q1, q2, h5, f5, f2⟩ := HF.out _ k1
  have hN := fun n => HN.out (w1.drewN n)
  go_wp2_with fail
  go_quiet (fail)
  obtain ⟨w2, hw2⟩ : ∃ x, x = w1.drewN nq := ⟨_, rfl⟩
  rw [← hw2]
  have k2 : Kp w w2 := by rw [hw2]; exact k1.drewN
  clear hw2 c1 h3 h4 b0 b2 q1 q2 h5 f5 f2 hN
  obtain ⟨c1, h3, h4, b0, b2, q1, q2, h5, f5, f2⟩ := HF.out _ k2
  go_wp2_with fail
  refine (HKd.out _ k2).mono ?_
  rintro e w3 ⟨rfl, m3, rfl⟩
  obtain ⟨w4, hw4⟩ : ∃ x, x = w2.drewN m3 := ⟨_, rfl⟩
  rw [← hw4]
  have k4 : Kp w w4 := by rw [hw4]; exact k2.drewN
  clear hw4 c1 h3 h4 b0 b2 q1 q2 h5 f5 f2
  obtain ⟨c1, h3, h4, b0, b2, q1, q2, h5, f5, f2⟩ := HF.out _ k4
  go_wp2_with fail
  go_region_law (fail)
  all_goals
    have r1 : R1 _ := H10.out w4 _ k4 (Kp.refl _).drew
    obtain ⟨g1, g2, ⟨g3, g4⟩, g5⟩ := H12.out _ r1
    go_wp2
    exact HE.out _ r1
end Go.Proofs.Ytoihdnekkgpcoaa
namespace Go.Proofs.Ytoihdnekkgpcoaa
open Go.ChangeShapes Go.WideShapes Go.ChangeAt Go.RowKit
set_option linter.unusedVariables false
set_option linter.unusedSimpArgs false

variable {L : Lay} {s : St} {dv : Nat → Value} {w w' : World}
/-- What a hand that marks does next. -/
structure EMk (L : Lay) (H e0 e1 e2 e3 e4 e5 e6 : Nat) : Prop where
  c0 : L.cst e0 = some (49, [ptr L.T])
  c1 : L.cst e1 = some (54, [ptr H])
  c2 : L.cst e2 = some (33, [clo 54 #[ptr e0, ptr e1, ptr e3]])
  c3 : L.cst e3 = some (33, [clo 55 #[ptr e1, ptr e6, ptr e2, ptr e4]])
  c4 : L.cst e4 = some (33, [clo 56 #[ptr e0, ptr e1, ptr e6, ptr e5, ptr e2]])
  c5 : L.cst e5 = some (33, [clo 57 #[ptr e6, ptr e1]])
  c6 : L.cst e6 = some (33, [clo 53 #[ptr e1]])
def vMk (q e0 e1 e2 e3 e4 e5 e6 : Nat) : Value := if q = 0 then clo 54 #[ptr e0, ptr e1, ptr e3] else if q = 1 then clo 55 #[ptr e1, ptr e6, ptr e2, ptr e4] else if q = 2 then clo 56 #[ptr e0, ptr e1, ptr e6, ptr e5, ptr e2] else clo 57 #[ptr e6, ptr e1]
def DMk (L : Lay) (i q : Nat) (v : Value) : Prop := ∃ e0 e1 e2 e3 e4 e5 e6, EMk L (L.Hb i) e0 e1 e2 e3 e4 e5 e6 ∧ v = vMk q e0 e1 e2 e3 e4 e5 e6
theorem EMk.lx {L L' : Lay} {n H e0 e1 e2 e3 e4 e5 e6 : Nat} (h : EMk L H e0 e1 e2 e3 e4 e5 e6) (hl : Lx L L' n) : EMk L' H e0 e1 e2 e3 e4 e5 e6 := by
  obtain ⟨_, _, a, _, _, _, b, _⟩ := hl
  exact ⟨by rw [a, b]; exact h.c0, by rw [b]; exact h.c1, by rw [b]; exact h.c2, by rw [b]; exact h.c3, by rw [b]; exact h.c4, by rw [b]; exact h.c5, by rw [b]; exact h.c6⟩
theorem vMk_nil (q e0 e1 e2 e3 e4 e5 e6 : Nat) : vMk q e0 e1 e2 e3 e4 e5 e6 ≠ .nilFunc := by
  unfold vMk
  repeat' split
  all_goals exact clo_nil _ _
set_option maxRecDepth 100000 in
set_option maxHeartbeats 4000000 in
theorem mark_any (T H : Nat) (w : World) : Calls Try.prog 31 #[ptr T, ptr H] w (fun e w' => ∃ e0 e1 e2 e3 e4 e5 e6, e = .returned (vMk 0 e0 e1 e2 e3 e4 e5 e6) ∧ Kp w w' ∧ BC w' e0 49 [ptr T] ∧ BC w' e1 54 [ptr H] ∧
    BC w' e2 33 [clo 54 #[ptr e0, ptr e1, ptr e3]] ∧ BC w' e3 33 [clo 55 #[ptr e1, ptr e6, ptr e2, ptr e4]] ∧ BC w' e4 33 [clo 56 #[ptr e0, ptr e1, ptr e6, ptr e5, ptr e2]] ∧ BC w' e5 33 [clo 57 #[ptr e6, ptr e1]] ∧ BC w' e6 33 [clo 53 #[ptr e1]]) := by
  unfold vMk clo
  simp only [reduceIte]
  unfold ptr
  go_enter Try.func31, Try.ntmps31
  go_wp2
  go_ret
  obtain ⟨os, hos⟩ : ∃ os : List Obj, os = [.cells #[.pointer (some ⟨T, 0, none⟩)] 49, .cells #[.pointer (some ⟨H, 0, none⟩)] 54, .cells #[.func (.func 54) #[] #[.pointer (some ⟨w.heap.size, 0, none⟩), .pointer (some ⟨w.heap.size + 1, 0, none⟩), .pointer (some ⟨w.heap.size + 1 + 1 + 1, 0, none⟩)]] 33, .cells #[.func (.func 55) #[] #[.pointer (some ⟨w.heap.size + 1, 0, none⟩), .pointer (some ⟨w.heap.size + 1 + 1 + 1 + 1 + 1 + 1, 0, none⟩), .pointer (some ⟨w.heap.size + 1 + 1, 0, none⟩), .pointer (some ⟨w.heap.size + 1 + 1 + 1 + 1, 0, none⟩)]] 33, .cells #[.func (.func 56) #[] #[.pointer (some ⟨w.heap.size, 0, none⟩), .pointer (some ⟨w.heap.size + 1, 0, none⟩), .pointer (some ⟨w.heap.size + 1 + 1 + 1 + 1 + 1 + 1, 0, none⟩), .pointer (some ⟨w.heap.size + 1 + 1 + 1 + 1 + 1, 0, none⟩), .pointer (some ⟨w.heap.size + 1 + 1, 0, none⟩)]] 33, .cells #[.func (.func 57) #[] #[.pointer (some ⟨w.heap.size + 1 + 1 + 1 + 1 + 1 + 1, 0, none⟩), .pointer (some ⟨w.heap.size + 1, 0, none⟩)]] 33, .cells #[.func (.func 53) #[] #[.pointer (some ⟨w.heap.size + 1, 0, none⟩)]] 33] := ⟨_, rfl⟩
  have b0 : BC (os.foldl (fun w o => w.alloc o) w) (w.heap.size + 0) 49 [.pointer (some ⟨T, 0, none⟩)] := BC.made os w 0 (by rw [hos]; rfl)
  have b1 : BC (os.foldl (fun w o => w.alloc o) w) (w.heap.size + 1) 54 [.pointer (some ⟨H, 0, none⟩)] := BC.made os w 1 (by rw [hos]; rfl)
  have b2 : BC (os.foldl (fun w o => w.alloc o) w) (w.heap.size + 2) 33 [.func (.func 54) #[] #[.pointer (some ⟨w.heap.size, 0, none⟩), .pointer (some ⟨w.heap.size + 1, 0, none⟩), .pointer (some ⟨w.heap.size + 1 + 1 + 1, 0, none⟩)]] := BC.made os w 2 (by rw [hos]; rfl)
  have b3 : BC (os.foldl (fun w o => w.alloc o) w) (w.heap.size + 3) 33 [.func (.func 55) #[] #[.pointer (some ⟨w.heap.size + 1, 0, none⟩), .pointer (some ⟨w.heap.size + 1 + 1 + 1 + 1 + 1 + 1, 0, none⟩), .pointer (some ⟨w.heap.size + 1 + 1, 0, none⟩), .pointer (some ⟨w.heap.size + 1 + 1 + 1 + 1, 0, none⟩)]] := BC.made os w 3 (by rw [hos]; rfl)
  have b4 : BC (os.foldl (fun w o => w.alloc o) w) (w.heap.size + 4) 33 [.func (.func 56) #[] #[.pointer (some ⟨w.heap.size, 0, none⟩), .pointer (some ⟨w.heap.size + 1, 0, none⟩), .pointer (some ⟨w.heap.size + 1 + 1 + 1 + 1 + 1 + 1, 0, none⟩), .pointer (some ⟨w.heap.size + 1 + 1 + 1 + 1 + 1, 0, none⟩), .pointer (some ⟨w.heap.size + 1 + 1, 0, none⟩)]] := BC.made os w 4 (by rw [hos]; rfl)
  have b5 : BC (os.foldl (fun w o => w.alloc o) w) (w.heap.size + 5) 33 [.func (.func 57) #[] #[.pointer (some ⟨w.heap.size + 1 + 1 + 1 + 1 + 1 + 1, 0, none⟩), .pointer (some ⟨w.heap.size + 1, 0, none⟩)]] := BC.made os w 5 (by rw [hos]; rfl)
  have b6 : BC (os.foldl (fun w o => w.alloc o) w) (w.heap.size + 6) 33 [.func (.func 53) #[] #[.pointer (some ⟨w.heap.size + 1, 0, none⟩)]] := BC.made os w 6 (by rw [hos]; rfl)
  rw [hos] at b0 b1 b2 b3 b4 b5 b6
  exact ⟨w.heap.size, w.heap.size + 1, w.heap.size + 1 + 1, w.heap.size + 1 + 1 + 1, w.heap.size + 1 + 1 + 1 + 1, w.heap.size + 1 + 1 + 1 + 1 + 1, w.heap.size + 1 + 1 + 1 + 1 + 1 + 1, rfl, by (focus ((repeat (first | (with_reducible assumption) | (with_reducible exact Kp.refl _) | (with_reducible apply Kp.drew) | (with_reducible apply Kp.drewN) | ((with_reducible apply Kp.setR); (focus (first | (with_reducible assumption) | (simp; done) | (simp; omega)))) | (with_reducible apply Kp.alloc) | ((with_reducible apply Kp.call); (with_reducible assumption)) | ((with_reducible apply Kp.app); (with_reducible assumption)))); done)), b0, b1, b2, b3, b4, b5, b6⟩
set_option maxRecDepth 100000 in
theorem mk2_any (h : WN L s dv w) {i : Nat} (hi : i < L.nh) {d : Dd} (nv : Bool) (hp : (s.hd i).plc = 0) (hk : s.m.ky 0 ≠ 10) {e0 e1 e2 e3 e4 e5 e6 : Nat} (he : EMk L (L.Hb i) e0 e1 e2 e3 e4 e5 e6) (hv : dv i = vMk 0 e0 e1 e2 e3 e4 e5 e6) :
    Calls Try.prog 54 #[ptr e0, ptr e1, ptr e3] w (CP DMk L s dv i (markS nv s.m (s.hd i) d)) := by
  have c0 := h.cst he.c0
  have c1 := h.cst he.c1
  have er : markS nv s.m (s.hd i) d = (s.m, (s.hd i).again s.m, false) := by unfold markS; rw [hp]; rfl
  rw [er]
  have HX : ∃ R2 : World → Prop, Calls Try.prog 46 #[ptr L.T, ptr (L.Hb i)] w (fun e w' => e = .returned (.tuple #[]) ∧ R2 w') ∧
      (∀ w1, R2 w1 → w1.cell? ⟨e1, 0, none⟩ = some (ptr (L.Hb i)) ∧ w1.cell? ⟨e3, 0, none⟩ = some (clo 55 #[ptr e1, ptr e6, ptr e2, ptr e4]) ∧ (∃ x, w1.cell? ⟨L.Hb i, 2, none⟩ = some x) ∧ w1.frozen? ⟨L.Hb i, 2, none⟩ = false) ∧
      (∀ w1, R2 w1 → CP DMk L s dv i (s.m, (s.hd i).again s.m, false) (.returned (.bool false)) (w1.setCell ⟨L.Hb i, 2, none⟩ (clo 55 #[ptr e1, ptr e6, ptr e2, ptr e4]))) := by
    refine ⟨fun w1 => WN L { s with hd := up s.hd i ((s.hd i).again s.m) } dv w1, begin_any h hi hk, fun w1 h1 => ⟨h1.cst he.c1, h1.cst he.c3, by obtain ⟨_, _, _, _, _, x, _, _, _, y, _⟩ := h1.hand hi; exact ⟨⟨_, x⟩, y 2⟩⟩, fun w1 h1 => ?_⟩
    have h2 := h1.setdo hi (clo 55 #[ptr e1, ptr e6, ptr e2, ptr e4]) 1 (fun _ => by show (up s.hd i ((s.hd i).again s.m) i).plc ≠ 0; rw [up_same]; exact Nat.one_ne_zero) (by rw [hv]; exact vMk_nil _ _ _ _ _ _ _ _)
    have e9 : up (up s.hd i ((s.hd i).again s.m)) i { up s.hd i ((s.hd i).again s.m) i with plc := 1 } = up s.hd i ((s.hd i).again s.m) := by
      funext j
      by_cases e : j = i
      · subst e; simp only [up_same]; rfl
      · simp only [up_ne _ _ e]
    have h2 : WN L { s with hd := up (up s.hd i ((s.hd i).again s.m)) i { up s.hd i ((s.hd i).again s.m) i with plc := 1 } } _ _ := h2
    rw [e9] at h2
    exact ⟨rfl, L, up dv i (clo 55 #[ptr e1, ptr e6, ptr e2, ptr e4]), Lx.refl _ _, h2, fun j hj => up_ne _ _ hj, by rw [up_same]; exact clo_nil _ _, fun _ => ⟨e0, e1, e2, e3, e4, e5, e6, he, by rw [up_same]; rfl⟩⟩
  obtain ⟨R2, h11, h12, h13⟩ := HX
  have H11 := hide h11
  have H12 := hide h12
  have H13 := hide h13
  obtain ⟨R, hR⟩ : ∃ R, R = CP DMk L s dv i (s.m, (s.hd i).again s.m, false) := ⟨_, rfl⟩
  rw [← hR] at H13 ⊢
  obtain ⟨T, hT⟩ : ∃ T, T = L.T := ⟨_, rfl⟩
  obtain ⟨H, hH⟩ : ∃ b, b = L.Hb i := ⟨_, rfl⟩
  rw [← hT] at c0 H11
  rw [← hH] at c1 H11 H12 H13
  clear h hi hp hk he hv er hR hT hH h11 h12 h13
  unfold ptr clo at *
  go_enter Try.func54, Try.ntmps54
  go_wp2_with fail
  refine (H11.out).mono ?_
  rintro e w1 ⟨rfl, h1⟩
  obtain ⟨g1, g2, ⟨g3, g4⟩, g5⟩ := H12.out _ h1
  go_wp2
  exact H13.out _ h1
theorem nd_eql_other (w : World) {b c : Nat} {cb cc : List Value} (hne : ¬ b = c) (hb : BC w b 48 cb) (hc : BC w c 48 cc) : (binOp .eql 46 (.pointer (some ⟨b, 0, none⟩)) (.pointer (some ⟨c, 0, none⟩))).run Try.prog w = .ok (.bool false) w := by
  obtain ⟨j, hj, _, hs, _⟩ := info_parts info_node
  have hd : ∀ d : Nat, (Op.equalIn (d + 1) 46 (.pointer (some ⟨b, 0, none⟩)) (.pointer (some ⟨c, 0, none⟩))).run Try.prog w = .ok false w := fun d => by
    simp [Op.equalIn, run_underlying Try.underlying46, sizeOf, typeInfo, hj, hs, run_sameAddr_other w (a := ⟨b, 0, none⟩) (b := ⟨c, 0, none⟩) (fun e => hne (by injection e)) hb hc]
  simp only [binOp, Op.equal, Op.maxDepth]
  simp [hd 9999]
theorem nd_eql_same (w : World) (a : Addr) : (binOp .eql 46 (.pointer (some a)) (.pointer (some a))).run Try.prog w = .ok (.bool true) w := by
  obtain ⟨j, hj, _, hs, _⟩ := info_parts info_node
  have hd : ∀ d : Nat, (Op.equalIn (d + 1) 46 (.pointer (some a)) (.pointer (some a))).run Try.prog w = .ok true w := fun d => by
    simp [Op.equalIn, run_underlying Try.underlying46, sizeOf, typeInfo, hj, run_sameAddr_same]
  simp only [binOp, Op.equal, Op.maxDepth]
  simp [hd 9999]
set_option maxRecDepth 100000 in
set_option maxHeartbeats 2000000 in
theorem clean_any (h : WN L s dv w) {i : Nat} (hi : i < L.nh) (hp : (s.hd i).plc ≠ 0) (hkp : s.m.ky (s.hd i).p ≠ 10) {e0 e1 e2 e3 e4 e5 e6 : Nat} (he : EMk L (L.Hb i) e0 e1 e2 e3 e4 e5 e6) :
    Calls Try.prog 53 #[ptr e1] w (fun e w' => e = .returned (.bool (clean s.m (s.hd i))) ∧ ∃ m, w' = w.drewN m) := by
  have c1 := h.cst he.c1
  obtain ⟨pv, cv, bb, -, -, -, h3, h4, -, -, -, hpc, -⟩ := h.hand hi
  obtain ⟨rfl, rfl, p1, p2⟩ := hpc hp
  obtain ⟨-, q1, q2, -⟩ := h.bead p1
  rw [if_neg hkp] at q1
  have HN : Hid (∀ W, Kp w W → ¬ L.B (s.m.nx (s.hd i).p) = L.B (s.hd i).c → (binOp .eql 46 (.pointer (some ⟨L.B (s.m.nx (s.hd i).p), 0, none⟩)) (.pointer (some ⟨L.B (s.hd i).c, 0, none⟩))).run Try.prog W = .ok (.bool false) W) := hide (fun W k hne => nd_eql_other W hne ((h.kpw k).bd _ (h.nn _ p1)).1 ((h.kpw k).bd _ p2).1)
  have HC : Hid ((s.m.mr (s.hd i).p = true ∧ clean s.m (s.hd i) = false) ∨ (s.m.mr (s.hd i).p = false ∧ L.B (s.m.nx (s.hd i).p) = L.B (s.hd i).c ∧ clean s.m (s.hd i) = true) ∨ (s.m.mr (s.hd i).p = false ∧ ¬ L.B (s.m.nx (s.hd i).p) = L.B (s.hd i).c ∧ clean s.m (s.hd i) = false)) := hide (by
    cases a1 : s.m.mr (s.hd i).p with
    | true => exact Or.inl ⟨rfl, by simp [clean, a1]⟩
    | false =>
      by_cases e : s.m.nx (s.hd i).p = (s.hd i).c
      · exact Or.inr (Or.inl ⟨rfl, by rw [e], clean_iff.2 ⟨a1, e⟩⟩)
      · refine Or.inr (Or.inr ⟨rfl, fun e2 => e (h.bi _ _ (h.nn _ p1) p2 e2), ?_⟩)
        cases hx : clean s.m (s.hd i) with
        | false => rfl
        | true => exact absurd (clean_iff.1 hx).2 e)
  obtain ⟨C, hC⟩ : ∃ c, c = clean s.m (s.hd i) := ⟨_, rfl⟩
  obtain ⟨b, hb⟩ : ∃ b, b = L.B (s.hd i).c := ⟨_, rfl⟩
  obtain ⟨b9, hb9⟩ : ∃ b, b = L.B (s.hd i).p := ⟨_, rfl⟩
  obtain ⟨b7, hb7⟩ : ∃ b, b = L.B (s.m.nx (s.hd i).p) := ⟨_, rfl⟩
  obtain ⟨H, hH⟩ : ∃ b, b = L.Hb i := ⟨_, rfl⟩
  obtain ⟨MP, hMP⟩ : ∃ b, b = s.m.mr (s.hd i).p := ⟨_, rfl⟩
  rw [← hC] at HC ⊢
  rw [← hb] at h4 HN HC
  rw [← hb9] at h3 q1 q2
  rw [← hb7] at q1 HN HC
  rw [← hH] at c1 h3 h4
  rw [← hMP] at q2 HC
  clear h hi hp hkp he hC hb hb9 hb7 hH hMP hpc p1 p2
  unfold ptr at *
  rcases HC.out with ⟨rfl, rfl⟩ | ⟨rfl, rfl, rfl⟩ | ⟨rfl, hneb, rfl⟩
  · clear HC
    go_enter Try.func53, Try.ntmps53
    go_wp2_with fail
    go_quiet (fail)
    go_wp2
    go_ret
    exact ⟨rfl, _, rfl⟩
  · clear HC HN
    have hN := fun n => nd_eql_same (w.drewN n) ⟨b7, 0, none⟩
    go_enter Try.func53, Try.ntmps53
    go_wp2_with fail
    go_quiet (fail)
    go_wp2
    go_ret
    exact ⟨rfl, _, rfl⟩
  · clear HC
    have hN := fun n => HN.out (w.drewN n) ((Kp.refl w).drewN) hneb
    go_enter Try.func53, Try.ntmps53
    go_wp2_with fail
    go_quiet (fail)
    go_wp2
    go_ret
    exact ⟨rfl, _, rfl⟩
end Go.Proofs.Ytoihdnekkgpcoaa
