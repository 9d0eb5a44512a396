/-
  The closure that does the deed, of one that marks or of the naive one; off the way.  Conditions: the table lies as WN says.
  The closures of one that marks, or of the naive one: a bead goes. Conditions: the table lies as WN says.
  What the walk must know of the list and of each hand, for all four ways: a weaker invariant that the naive way keeps too. Conditions: as each theorem says.
  The method left of the table: the keys without a mark. Conditions: the table lies as WN says, the list is sound.
-/
import Derived.Test.YtoihdnekkgpcoaaG11
import Derived.Test.YtoihdnekkgpcoaaG7
import Derived.Test.YtoihdnekkgpcoaaG4
import Derived.Deep.LoopGhost

namespace Go.Proofs.Ytoihdnekkgpcoaa
open Go.ChangeShapes Go.WideShapes Go.ChangeAt Go.RowKit
set_option linter.unusedVariables false
set_option linter.unusedSimpArgs false

variable {L : Lay} {s : St} {dv : Nat → Value} {w w' : World}
set_option maxRecDepth 100000 in
set_option maxHeartbeats 4000000 in
theorem mk4_addN (h : WN L s dv w) {i : Nat} (hi : i < L.nh) {d : Dd} (nv : Bool) (hnv : ((L.alg : Int) == 4) = nv) (hd : (L.P i)[s.deed i]? = some d) (hp : (s.hd i).plc = 2) (hkp : s.m.ky (s.hd i).p ≠ 10) (hd10 : d.key ≤ 9) (hkk : d.kind = 1) (hnt : nv = true) {e0 e1 e2 e3 e4 e5 e6 : Nat} (he : EMk L (L.Hb i) e0 e1 e2 e3 e4 e5 e6) (hvn : dv i ≠ .nilFunc) :
    Calls Try.prog 56 #[ptr e0, ptr e1, ptr e6, ptr e5, ptr e2] w (CP DMk L s dv i (markS nv s.m (s.hd i) d)) := by
  have c0 := h.cst he.c0
  have c1 := h.cst he.c1
  have c6 := h.cst he.c6
  have t0 : w.cell? ⟨L.T, 0, none⟩ = some (.int .i64 L.alg) := h.tb.1.cell 0
  obtain ⟨pv, cv, bb, -, -, -, h3, h4, h5, hz, -, hpc, -⟩ := h.hand hi
  obtain ⟨rfl, rfl, p1, p2⟩ := hpc (by omega)
  obtain ⟨-, -, b2, -, fc, -⟩ := h.bead p2
  have f5 := hz 5
  have f2 := fc 2
  have er : markS nv s.m (s.hd i) d = (s.m.ins (s.hd i).p (s.hd i).c d.key, { s.hd i with is := true }, true) := by unfold markS; rw [hp]; simp [hkk, hnt, hp]
  rw [er]
  have HKd := hide (fun W (k : Kp w W) => kind_quiet (h.kpw k) hi hd)
  have HX : ∃ R2 : World → Prop, (∀ W, Kp w W → Calls Try.prog 43 #[ptr (L.Hb i)] W (fun e w' => e = .returned (.tuple #[]) ∧ R2 w')) ∧
      (∀ w1, R2 w1 → w1.cell? ⟨e1, 0, none⟩ = some (ptr (L.Hb i)) ∧ (∃ x, w1.cell? ⟨L.Hb i, 5, none⟩ = some x) ∧ w1.frozen? ⟨L.Hb i, 5, none⟩ = false) ∧
      (∀ w1, R2 w1 → CP DMk L s dv i (s.m.ins (s.hd i).p (s.hd i).c d.key, { s.hd i with is := true }, true) (.returned (.bool true)) (w1.setCell ⟨L.Hb i, 5, none⟩ (.bool true))) := by
    refine ⟨fun w1 => ∃ L', Lx L L' s.m.n ∧ WN L' { s with m := s.m.ins (s.hd i).p (s.hd i).c d.key } dv w1, fun W k => add_any (h.kpw k) hi hd (by omega) hkp (by omega), fun w1 h1 => ?_, fun w1 h1 => ?_⟩
    · obtain ⟨L', l1, h1⟩ := h1
      have a1 := h1.cst (he.lx l1).c1
      obtain ⟨_, _, _, _, _, _, _, _, x, y, _⟩ := h1.hand (i := i) (by rw [l1.2.2.2.1]; exact hi)
      rw [l1.2.1] at x y
      exact ⟨a1, ⟨_, x⟩, y 5⟩
    · obtain ⟨L', l1, h1⟩ := h1
      have h2 := h1.setis (i := i) (by rw [l1.2.2.2.1]; exact hi) true
      rw [l1.2.1] at h2
      exact ⟨rfl, L', dv, l1, h2, fun _ _ => rfl, hvn, fun e => absurd e (by simp)⟩
  obtain ⟨R2, h11, h12, h13⟩ := HX
  have H11 := hide h11
  have H12 := hide h12
  have HE := hide h13
  obtain ⟨R, hR⟩ : ∃ R, R = CP DMk L s dv i (s.m.ins (s.hd i).p (s.hd i).c d.key, { s.hd i with is := true }, true) := ⟨_, rfl⟩
  rw [← hR] at HE ⊢
  obtain ⟨b, hb⟩ : ∃ b, b = L.B (s.hd i).c := ⟨_, rfl⟩
  obtain ⟨H, hH⟩ : ∃ b, b = L.Hb i := ⟨_, rfl⟩
  obtain ⟨T, hT⟩ : ∃ b, b = L.T := ⟨_, rfl⟩
  obtain ⟨G, hG⟩ : ∃ b, b = (L.alg : Int) := ⟨_, rfl⟩
  obtain ⟨Q, hQ⟩ : ∃ b, b = d.kind := ⟨_, rfl⟩
  obtain ⟨MC, hMC⟩ : ∃ b, b = s.m.mr (s.hd i).c := ⟨_, rfl⟩
  rw [← hb] at h4 b2 f2
  rw [← hH] at c1 h3 h4 h5 f5 HKd H11 H12 HE
  rw [← hT] at c0 t0
  rw [← hG] at t0 hnv
  rw [← hQ] at HKd hkk
  rw [← hMC] at b2
  have q1 : (Q == 1) = true := by rw [hkk]; rfl
  have HF : Hid (∀ W, Kp w W → W.cell? ⟨e1, 0, none⟩ = some (ptr H) ∧ W.cell? ⟨H, 4, none⟩ = some (ptr b) ∧ W.cell? ⟨b, 2, none⟩ = some (.bool MC) ∧ W.cell? ⟨H, 5, none⟩ = some (.bool bb) ∧ W.frozen? ⟨H, 5, none⟩ = false ∧ W.frozen? ⟨b, 2, none⟩ = false ∧ W.cell? ⟨e6, 0, none⟩ = some (clo 53 #[ptr e1])) := hide (fun W k => ⟨k.cell c1, k.cell h4, k.cell b2, k.cell h5, (k.frozen (World.block_lt_of_cell? _ _ h5)).trans f5, (k.frozen (World.block_lt_of_cell? _ _ b2)).trans f2, k.cell c6⟩)
  clear h hi hd hp hkp hkk he hvn er hR hb hH hT hG hQ hMC hpc p1 p2 hz fc h3 hd10 h11 h12 h13
  unfold ptr clo at *
  subst hnt
  go_enter Try.func56, Try.ntmps56
  go_wp2_with fail
  refine (HKd.out _ (Kp.refl w)).mono ?_
  rintro e wx ⟨rfl, mx, rfl⟩
  obtain ⟨w1, hw1⟩ : ∃ x, x = w.drewN mx := ⟨_, rfl⟩
  rw [← hw1]
  have kw1 : Kp w w1 := by rw [hw1]; exact (Kp.refl w).drewN
  clear hw1 c1 h4 b2 h5 f5 f2 c6
  obtain ⟨c1, h4, b2, h5, f5, f2, c6⟩ := HF.out _ kw1

  go_wp2_with fail
  refine (H11.out _ kw1).mono ?_
  rintro e wy ⟨rfl, r2⟩
  obtain ⟨g1, ⟨g2, g3⟩, g4⟩ := H12.out _ r2
  go_wp2
  exact HE.out _ r2
set_option maxRecDepth 100000 in
set_option maxHeartbeats 4000000 in
theorem mk4_addC (h : WN L s dv w) {i : Nat} (hi : i < L.nh) {d : Dd} (nv : Bool) (hnv : ((L.alg : Int) == 4) = nv) (hd : (L.P i)[s.deed i]? = some d) (hp : (s.hd i).plc = 2) (hkp : s.m.ky (s.hd i).p ≠ 10) (hd10 : d.key ≤ 9) (hkk : d.kind = 1) (hnt : nv = false) (hcl : clean s.m (s.hd i) = true) {e0 e1 e2 e3 e4 e5 e6 : Nat} (he : EMk L (L.Hb i) e0 e1 e2 e3 e4 e5 e6) (hvn : dv i ≠ .nilFunc) :
    Calls Try.prog 56 #[ptr e0, ptr e1, ptr e6, ptr e5, ptr e2] w (CP DMk L s dv i (markS nv s.m (s.hd i) d)) := by
  have c0 := h.cst he.c0
  have c1 := h.cst he.c1
  have c6 := h.cst he.c6
  have t0 : w.cell? ⟨L.T, 0, none⟩ = some (.int .i64 L.alg) := h.tb.1.cell 0
  obtain ⟨pv, cv, bb, -, -, -, h3, h4, h5, hz, -, hpc, -⟩ := h.hand hi
  obtain ⟨rfl, rfl, p1, p2⟩ := hpc (by omega)
  obtain ⟨-, -, b2, -, fc, -⟩ := h.bead p2
  have f5 := hz 5
  have f2 := fc 2
  have er : markS nv s.m (s.hd i) d = (s.m.ins (s.hd i).p (s.hd i).c d.key, { s.hd i with is := true }, true) := by unfold markS; rw [hp]; simp [hkk, hnt, hcl, hp]
  rw [er]
  have HKd := hide (fun W (k : Kp w W) => kind_quiet (h.kpw k) hi hd)
  have HCl : Hid (∀ W, Kp w W → Calls Try.prog 53 #[ptr e1] W (fun e w' => e = .returned (.bool true) ∧ ∃ m, w' = W.drewN m)) := hide (fun W k => by have := clean_any (h.kpw k) hi (by omega) hkp he; rw [hcl] at this; exact this)
  have HX : ∃ R2 : World → Prop, (∀ W, Kp w W → Calls Try.prog 43 #[ptr (L.Hb i)] W (fun e w' => e = .returned (.tuple #[]) ∧ R2 w')) ∧
      (∀ w1, R2 w1 → w1.cell? ⟨e1, 0, none⟩ = some (ptr (L.Hb i)) ∧ (∃ x, w1.cell? ⟨L.Hb i, 5, none⟩ = some x) ∧ w1.frozen? ⟨L.Hb i, 5, none⟩ = false) ∧
      (∀ w1, R2 w1 → CP DMk L s dv i (s.m.ins (s.hd i).p (s.hd i).c d.key, { s.hd i with is := true }, true) (.returned (.bool true)) (w1.setCell ⟨L.Hb i, 5, none⟩ (.bool true))) := by
    refine ⟨fun w1 => ∃ L', Lx L L' s.m.n ∧ WN L' { s with m := s.m.ins (s.hd i).p (s.hd i).c d.key } dv w1, fun W k => add_any (h.kpw k) hi hd (by omega) hkp (by omega), fun w1 h1 => ?_, fun w1 h1 => ?_⟩
    · obtain ⟨L', l1, h1⟩ := h1
      have a1 := h1.cst (he.lx l1).c1
      obtain ⟨_, _, _, _, _, _, _, _, x, y, _⟩ := h1.hand (i := i) (by rw [l1.2.2.2.1]; exact hi)
      rw [l1.2.1] at x y
      exact ⟨a1, ⟨_, x⟩, y 5⟩
    · obtain ⟨L', l1, h1⟩ := h1
      have h2 := h1.setis (i := i) (by rw [l1.2.2.2.1]; exact hi) true
      rw [l1.2.1] at h2
      exact ⟨rfl, L', dv, l1, h2, fun _ _ => rfl, hvn, fun e => absurd e (by simp)⟩
  obtain ⟨R2, h11, h12, h13⟩ := HX
  have H11 := hide h11
  have H12 := hide h12
  have HE := hide h13
  obtain ⟨R, hR⟩ : ∃ R, R = CP DMk L s dv i (s.m.ins (s.hd i).p (s.hd i).c d.key, { s.hd i with is := true }, true) := ⟨_, rfl⟩
  rw [← hR] at HE ⊢
  obtain ⟨b, hb⟩ : ∃ b, b = L.B (s.hd i).c := ⟨_, rfl⟩
  obtain ⟨H, hH⟩ : ∃ b, b = L.Hb i := ⟨_, rfl⟩
  obtain ⟨T, hT⟩ : ∃ b, b = L.T := ⟨_, rfl⟩
  obtain ⟨G, hG⟩ : ∃ b, b = (L.alg : Int) := ⟨_, rfl⟩
  obtain ⟨Q, hQ⟩ : ∃ b, b = d.kind := ⟨_, rfl⟩
  obtain ⟨MC, hMC⟩ : ∃ b, b = s.m.mr (s.hd i).c := ⟨_, rfl⟩
  rw [← hb] at h4 b2 f2
  rw [← hH] at c1 h3 h4 h5 f5 HKd H11 H12 HE
  rw [← hT] at c0 t0
  rw [← hG] at t0 hnv
  rw [← hQ] at HKd hkk
  rw [← hMC] at b2
  have q1 : (Q == 1) = true := by rw [hkk]; rfl
  have HF : Hid (∀ W, Kp w W → W.cell? ⟨e1, 0, none⟩ = some (ptr H) ∧ W.cell? ⟨H, 4, none⟩ = some (ptr b) ∧ W.cell? ⟨b, 2, none⟩ = some (.bool MC) ∧ W.cell? ⟨H, 5, none⟩ = some (.bool bb) ∧ W.frozen? ⟨H, 5, none⟩ = false ∧ W.frozen? ⟨b, 2, none⟩ = false ∧ W.cell? ⟨e6, 0, none⟩ = some (clo 53 #[ptr e1])) := hide (fun W k => ⟨k.cell c1, k.cell h4, k.cell b2, k.cell h5, (k.frozen (World.block_lt_of_cell? _ _ h5)).trans f5, (k.frozen (World.block_lt_of_cell? _ _ b2)).trans f2, k.cell c6⟩)
  clear h hi hd hp hkp hkk he hvn er hR hb hH hT hG hQ hMC hpc p1 p2 hz fc h3 hd10 hcl h11 h12 h13
  unfold ptr clo at *
  subst hnt
  go_enter Try.func56, Try.ntmps56
  go_wp2_with fail
  refine (HKd.out _ (Kp.refl w)).mono ?_
  rintro e wx ⟨rfl, mx, rfl⟩
  obtain ⟨w1, hw1⟩ : ∃ x, x = w.drewN mx := ⟨_, rfl⟩
  rw [← hw1]
  have kw1 : Kp w w1 := by rw [hw1]; exact (Kp.refl w).drewN
  clear hw1 c1 h4 b2 h5 f5 f2 c6
  obtain ⟨c1, h4, b2, h5, f5, f2, c6⟩ := HF.out _ kw1

  go_wp2_with fail
  refine (HCl.out _ kw1).mono ?_
  rintro e w2x ⟨rfl, mc, rfl⟩
  obtain ⟨w2, hw1⟩ : ∃ x, x = w1.drewN mc := ⟨_, rfl⟩
  rw [← hw1]
  have kw2 : Kp w w2 := by rw [hw1]; exact kw1.drewN
  clear hw1 c1 h4 b2 h5 f5 f2 c6
  obtain ⟨c1, h4, b2, h5, f5, f2, c6⟩ := HF.out _ kw2
  go_wp2_with fail
  refine (H11.out _ kw2).mono ?_
  rintro e wy ⟨rfl, r2⟩
  obtain ⟨g1, ⟨g2, g3⟩, g4⟩ := H12.out _ r2
  go_wp2
  exact HE.out _ r2
set_option maxRecDepth 100000 in
set_option maxHeartbeats 4000000 in
theorem mk4_addF (h : WN L s dv w) {i : Nat} (hi : i < L.nh) {d : Dd} (nv : Bool) (hnv : ((L.alg : Int) == 4) = nv) (hd : (L.P i)[s.deed i]? = some d) (hp : (s.hd i).plc = 2) (hkp : s.m.ky (s.hd i).p ≠ 10) (hkk : d.kind = 1) (hnt : nv = false) (hcl : clean s.m (s.hd i) = false) {e0 e1 e2 e3 e4 e5 e6 : Nat} (he : EMk L (L.Hb i) e0 e1 e2 e3 e4 e5 e6) (hvn : dv i ≠ .nilFunc) :
    Calls Try.prog 56 #[ptr e0, ptr e1, ptr e6, ptr e5, ptr e2] w (CP DMk L s dv i (markS nv s.m (s.hd i) d)) := by
  have c0 := h.cst he.c0
  have c1 := h.cst he.c1
  have c6 := h.cst he.c6
  have t0 : w.cell? ⟨L.T, 0, none⟩ = some (.int .i64 L.alg) := h.tb.1.cell 0
  obtain ⟨pv, cv, bb, -, -, -, h3, h4, h5, hz, -, hpc, -⟩ := h.hand hi
  obtain ⟨rfl, rfl, p1, p2⟩ := hpc (by omega)
  obtain ⟨-, -, b2, -, fc, -⟩ := h.bead p2
  have f5 := hz 5
  have f2 := fc 2
  have er : markS nv s.m (s.hd i) d = (s.m, { s.hd i with plc := 0 }, false) := by unfold markS; rw [hp]; simp [hkk, hnt, hcl, hp]
  rw [er]
  have HKd := hide (fun W (k : Kp w W) => kind_quiet (h.kpw k) hi hd)
  have HCl : Hid (∀ W, Kp w W → Calls Try.prog 53 #[ptr e1] W (fun e w' => e = .returned (.bool false) ∧ ∃ m, w' = W.drewN m)) := hide (fun W k => by have := clean_any (h.kpw k) hi (by omega) hkp he; rw [hcl] at this; exact this)
  have HX : ∃ R1 : World → Prop, (∀ W, Kp w W → R1 W) ∧ (∀ w1, R1 w1 → w1.cell? ⟨e1, 0, none⟩ = some (ptr (L.Hb i)) ∧ w1.cell? ⟨e2, 0, none⟩ = some (clo 54 #[ptr e0, ptr e1, ptr e3]) ∧ (∃ x, w1.cell? ⟨L.Hb i, 2, none⟩ = some x) ∧ w1.frozen? ⟨L.Hb i, 2, none⟩ = false) ∧
      (∀ w1, R1 w1 → CP DMk L s dv i (s.m, { s.hd i with plc := 0 }, false) (.returned (.bool false)) (w1.setCell ⟨L.Hb i, 2, none⟩ (clo 54 #[ptr e0, ptr e1, ptr e3]))) := by
    refine ⟨fun w1 => WN L s dv w1, fun W k => h.kpw k, fun w1 h1 => ⟨h1.cst he.c1, h1.cst he.c2, by obtain ⟨_, _, _, _, _, x, _, _, _, y, _⟩ := h1.hand hi; exact ⟨⟨_, x⟩, y 2⟩⟩, fun w1 h1 => ?_⟩
    have h2 := h1.setdo hi (clo 54 #[ptr e0, ptr e1, ptr e3]) 0 (fun e => absurd rfl e) hvn
    exact ⟨rfl, L, up dv i (clo 54 #[ptr e0, ptr e1, ptr e3]), Lx.refl _ _, h2, fun j hj => up_ne _ _ hj, by rw [up_same]; exact clo_nil _ _, fun _ => ⟨e0, e1, e2, e3, e4, e5, e6, he, by rw [up_same]; rfl⟩⟩
  obtain ⟨R1, h10, h12, h13⟩ := HX
  have H10 := hide h10
  have H12 := hide h12
  have HE := hide h13
  obtain ⟨R, hR⟩ : ∃ R, R = CP DMk L s dv i (s.m, { s.hd i with plc := 0 }, false) := ⟨_, rfl⟩
  rw [← hR] at HE ⊢
  obtain ⟨b, hb⟩ : ∃ b, b = L.B (s.hd i).c := ⟨_, rfl⟩
  obtain ⟨H, hH⟩ : ∃ b, b = L.Hb i := ⟨_, rfl⟩
  obtain ⟨T, hT⟩ : ∃ b, b = L.T := ⟨_, rfl⟩
  obtain ⟨G, hG⟩ : ∃ b, b = (L.alg : Int) := ⟨_, rfl⟩
  obtain ⟨Q, hQ⟩ : ∃ b, b = d.kind := ⟨_, rfl⟩
  obtain ⟨MC, hMC⟩ : ∃ b, b = s.m.mr (s.hd i).c := ⟨_, rfl⟩
  rw [← hb] at h4 b2 f2
  rw [← hH] at c1 h3 h4 h5 f5 HKd H12 HE
  rw [← hT] at c0 t0
  rw [← hG] at t0 hnv
  rw [← hQ] at HKd hkk
  rw [← hMC] at b2
  have q1 : (Q == 1) = true := by rw [hkk]; rfl
  have q2 : (Q == 2) = false := by rw [hkk]; rfl
  have HF : Hid (∀ W, Kp w W → W.cell? ⟨e1, 0, none⟩ = some (ptr H) ∧ W.cell? ⟨H, 4, none⟩ = some (ptr b) ∧ W.cell? ⟨b, 2, none⟩ = some (.bool MC) ∧ W.cell? ⟨H, 5, none⟩ = some (.bool bb) ∧ W.frozen? ⟨H, 5, none⟩ = false ∧ W.frozen? ⟨b, 2, none⟩ = false ∧ W.cell? ⟨e6, 0, none⟩ = some (clo 53 #[ptr e1])) := hide (fun W k => ⟨k.cell c1, k.cell h4, k.cell b2, k.cell h5, (k.frozen (World.block_lt_of_cell? _ _ h5)).trans f5, (k.frozen (World.block_lt_of_cell? _ _ b2)).trans f2, k.cell c6⟩)
  clear h hi hd hp hkp hkk he hvn er hR hb hH hT hG hQ hMC hpc p1 p2 hz fc h3 hcl h10 h12 h13
  unfold ptr clo at *
  subst hnt
  go_enter Try.func56, Try.ntmps56
  go_wp2_with fail
  refine (HKd.out _ (Kp.refl w)).mono ?_
  rintro e wx ⟨rfl, mx, rfl⟩
  obtain ⟨w1, hw1⟩ : ∃ x, x = w.drewN mx := ⟨_, rfl⟩
  rw [← hw1]
  have kw1 : Kp w w1 := by rw [hw1]; exact (Kp.refl w).drewN
  clear hw1 c1 h4 b2 h5 f5 f2 c6
  obtain ⟨c1, h4, b2, h5, f5, f2, c6⟩ := HF.out _ kw1

  go_wp2_with fail
  refine (HCl.out _ kw1).mono ?_
  rintro e w2x ⟨rfl, mc, rfl⟩
  obtain ⟨w2, hw1⟩ : ∃ x, x = w1.drewN mc := ⟨_, rfl⟩
  rw [← hw1]
  have kw2 : Kp w w2 := by rw [hw1]; exact kw1.drewN
  clear hw1 c1 h4 b2 h5 f5 f2 c6
  obtain ⟨c1, h4, b2, h5, f5, f2, c6⟩ := HF.out _ kw2
  go_wp2_with fail
  refine (HKd.out _ kw2).mono ?_
  rintro e w3x ⟨rfl, md, rfl⟩
  obtain ⟨w3, hw1⟩ : ∃ x, x = w2.drewN md := ⟨_, rfl⟩
  rw [← hw1]
  have kw3 : Kp w w3 := by rw [hw1]; exact kw2.drewN
  clear hw1 c1 h4 b2 h5 f5 f2 c6
  obtain ⟨c1, h4, b2, h5, f5, f2, c6⟩ := HF.out _ kw3
  go_wp2_with fail
  refine (HKd.out _ kw3).mono ?_
  rintro e w4x ⟨rfl, me, rfl⟩
  obtain ⟨w4, hw1⟩ : ∃ x, x = w3.drewN me := ⟨_, rfl⟩
  rw [← hw1]
  have kw4 : Kp w w4 := by rw [hw1]; exact kw3.drewN
  clear hw1 c1 h4 b2 h5 f5 f2 c6
  obtain ⟨c1, h4, b2, h5, f5, f2, c6⟩ := HF.out _ kw4
  have r1 := H10.out _ kw4
  obtain ⟨g1, g2, ⟨g3, g4⟩, g5⟩ := H12.out _ r1
  go_wp2
  exact HE.out _ r1
set_option maxRecDepth 100000 in
set_option maxHeartbeats 4000000 in
theorem mk4_cutF (h : WN L s dv w) {i : Nat} (hi : i < L.nh) {d : Dd} (nv : Bool) (hnv : ((L.alg : Int) == 4) = nv) (hd : (L.P i)[s.deed i]? = some d) (hp : (s.hd i).plc = 2) (hkp : s.m.ky (s.hd i).p ≠ 10) (hkk : d.kind = 2) (hnt : nv = false) (hmc : s.m.mr (s.hd i).c = true) {e0 e1 e2 e3 e4 e5 e6 : Nat} (he : EMk L (L.Hb i) e0 e1 e2 e3 e4 e5 e6) (hvn : dv i ≠ .nilFunc) :
    Calls Try.prog 56 #[ptr e0, ptr e1, ptr e6, ptr e5, ptr e2] w (CP DMk L s dv i (markS nv s.m (s.hd i) d)) := by
  have c0 := h.cst he.c0
  have c1 := h.cst he.c1
  have c6 := h.cst he.c6
  have t0 : w.cell? ⟨L.T, 0, none⟩ = some (.int .i64 L.alg) := h.tb.1.cell 0
  obtain ⟨pv, cv, bb, -, -, -, h3, h4, h5, hz, -, hpc, -⟩ := h.hand hi
  obtain ⟨rfl, rfl, p1, p2⟩ := hpc (by omega)
  obtain ⟨-, -, b2, -, fc, -⟩ := h.bead p2
  have f5 := hz 5
  have f2 := fc 2
  have er : markS nv s.m (s.hd i) d = (s.m, { s.hd i with plc := 0 }, false) := by unfold markS; rw [hp]; simp [hkk, hnt, hmc, hp]
  rw [er]
  have HKd := hide (fun W (k : Kp w W) => kind_quiet (h.kpw k) hi hd)
  have HX : ∃ R1 : World → Prop, (∀ W, Kp w W → R1 W) ∧ (∀ w1, R1 w1 → w1.cell? ⟨e1, 0, none⟩ = some (ptr (L.Hb i)) ∧ w1.cell? ⟨e2, 0, none⟩ = some (clo 54 #[ptr e0, ptr e1, ptr e3]) ∧ (∃ x, w1.cell? ⟨L.Hb i, 2, none⟩ = some x) ∧ w1.frozen? ⟨L.Hb i, 2, none⟩ = false) ∧
      (∀ w1, R1 w1 → CP DMk L s dv i (s.m, { s.hd i with plc := 0 }, false) (.returned (.bool false)) (w1.setCell ⟨L.Hb i, 2, none⟩ (clo 54 #[ptr e0, ptr e1, ptr e3]))) := by
    refine ⟨fun w1 => WN L s dv w1, fun W k => h.kpw k, fun w1 h1 => ⟨h1.cst he.c1, h1.cst he.c2, by obtain ⟨_, _, _, _, _, x, _, _, _, y, _⟩ := h1.hand hi; exact ⟨⟨_, x⟩, y 2⟩⟩, fun w1 h1 => ?_⟩
    have h2 := h1.setdo hi (clo 54 #[ptr e0, ptr e1, ptr e3]) 0 (fun e => absurd rfl e) hvn
    exact ⟨rfl, L, up dv i (clo 54 #[ptr e0, ptr e1, ptr e3]), Lx.refl _ _, h2, fun j hj => up_ne _ _ hj, by rw [up_same]; exact clo_nil _ _, fun _ => ⟨e0, e1, e2, e3, e4, e5, e6, he, by rw [up_same]; rfl⟩⟩
  obtain ⟨R1, h10, h12, h13⟩ := HX
  have H10 := hide h10
  have H12 := hide h12
  have HE := hide h13
  obtain ⟨R, hR⟩ : ∃ R, R = CP DMk L s dv i (s.m, { s.hd i with plc := 0 }, false) := ⟨_, rfl⟩
  rw [← hR] at HE ⊢
  obtain ⟨b, hb⟩ : ∃ b, b = L.B (s.hd i).c := ⟨_, rfl⟩
  obtain ⟨H, hH⟩ : ∃ b, b = L.Hb i := ⟨_, rfl⟩
  obtain ⟨T, hT⟩ : ∃ b, b = L.T := ⟨_, rfl⟩
  obtain ⟨G, hG⟩ : ∃ b, b = (L.alg : Int) := ⟨_, rfl⟩
  obtain ⟨Q, hQ⟩ : ∃ b, b = d.kind := ⟨_, rfl⟩
  obtain ⟨MC, hMC⟩ : ∃ b, b = s.m.mr (s.hd i).c := ⟨_, rfl⟩
  rw [← hb] at h4 b2 f2
  rw [← hH] at c1 h3 h4 h5 f5 HKd H12 HE
  rw [← hT] at c0 t0
  rw [← hG] at t0 hnv
  rw [← hQ] at HKd hkk
  rw [← hMC] at b2 hmc
  have q1 : (Q == 1) = false := by rw [hkk]; rfl
  have q2 : (Q == 2) = true := by rw [hkk]; rfl
  have HF : Hid (∀ W, Kp w W → W.cell? ⟨e1, 0, none⟩ = some (ptr H) ∧ W.cell? ⟨H, 4, none⟩ = some (ptr b) ∧ W.cell? ⟨b, 2, none⟩ = some (.bool MC) ∧ W.cell? ⟨H, 5, none⟩ = some (.bool bb) ∧ W.frozen? ⟨H, 5, none⟩ = false ∧ W.frozen? ⟨b, 2, none⟩ = false ∧ W.cell? ⟨e6, 0, none⟩ = some (clo 53 #[ptr e1])) := hide (fun W k => ⟨k.cell c1, k.cell h4, k.cell b2, k.cell h5, (k.frozen (World.block_lt_of_cell? _ _ h5)).trans f5, (k.frozen (World.block_lt_of_cell? _ _ b2)).trans f2, k.cell c6⟩)
  clear h hi hd hp hkp hkk he hvn er hR hb hH hT hG hQ hMC hpc p1 p2 hz fc h3 h10 h12 h13
  unfold ptr clo at *
  subst hnt hmc
  go_enter Try.func56, Try.ntmps56
  go_wp2_with fail
  refine (HKd.out _ (Kp.refl w)).mono ?_
  rintro e wx ⟨rfl, mx, rfl⟩
  obtain ⟨w1, hw1⟩ : ∃ x, x = w.drewN mx := ⟨_, rfl⟩
  rw [← hw1]
  have kw1 : Kp w w1 := by rw [hw1]; exact (Kp.refl w).drewN
  clear hw1 c1 h4 b2 h5 f5 f2 c6
  obtain ⟨c1, h4, b2, h5, f5, f2, c6⟩ := HF.out _ kw1

  go_wp2_with fail
  refine (HKd.out _ kw1).mono ?_
  rintro e w2x ⟨rfl, md, rfl⟩
  obtain ⟨w2, hw1⟩ : ∃ x, x = w1.drewN md := ⟨_, rfl⟩
  rw [← hw1]
  have kw2 : Kp w w2 := by rw [hw1]; exact kw1.drewN
  clear hw1 c1 h4 b2 h5 f5 f2 c6
  obtain ⟨c1, h4, b2, h5, f5, f2, c6⟩ := HF.out _ kw2
  go_wp2_with fail
  refine (HKd.out _ kw2).mono ?_
  rintro e w3x ⟨rfl, me, rfl⟩
  obtain ⟨w3, hw1⟩ : ∃ x, x = w2.drewN me := ⟨_, rfl⟩
  rw [← hw1]
  have kw3 : Kp w w3 := by rw [hw1]; exact kw2.drewN
  clear hw1 c1 h4 b2 h5 f5 f2 c6
  obtain ⟨c1, h4, b2, h5, f5, f2, c6⟩ := HF.out _ kw3
  have r1 := H10.out _ kw3
  obtain ⟨g1, g2, ⟨g3, g4⟩, g5⟩ := H12.out _ r1
  go_wp2
  exact HE.out _ r1
set_option maxRecDepth 100000 in
set_option maxHeartbeats 4000000 in
theorem mk4_mark (h : WN L s dv w) {i : Nat} (hi : i < L.nh) {d : Dd} (nv : Bool) (hnv : ((L.alg : Int) == 4) = nv) (hd : (L.P i)[s.deed i]? = some d) (hp : (s.hd i).plc = 2) (hkp : s.m.ky (s.hd i).p ≠ 10) (hkk : d.kind = 2) (hnt : nv = false) (hmc : s.m.mr (s.hd i).c = false) {e0 e1 e2 e3 e4 e5 e6 : Nat} (he : EMk L (L.Hb i) e0 e1 e2 e3 e4 e5 e6) (hvn : dv i ≠ .nilFunc) :
    Calls Try.prog 56 #[ptr e0, ptr e1, ptr e6, ptr e5, ptr e2] w (CP DMk L s dv i (markS nv s.m (s.hd i) d)) := by
  have c0 := h.cst he.c0
  have c1 := h.cst he.c1
  have c6 := h.cst he.c6
  have t0 : w.cell? ⟨L.T, 0, none⟩ = some (.int .i64 L.alg) := h.tb.1.cell 0
  obtain ⟨pv, cv, bb, -, -, -, h3, h4, h5, hz, -, hpc, -⟩ := h.hand hi
  obtain ⟨rfl, rfl, p1, p2⟩ := hpc (by omega)
  obtain ⟨-, -, b2, -, fc, -⟩ := h.bead p2
  have f5 := hz 5
  have f2 := fc 2
  have er : markS nv s.m (s.hd i) d = (s.m.mark (s.hd i).c, { s.hd i with plc := 3, is := true }, false) := by unfold markS; rw [hp]; simp [hkk, hnt, hmc, hp]
  rw [er]
  have HKd := hide (fun W (k : Kp w W) => kind_quiet (h.kpw k) hi hd)
  have n2 : ¬ L.B (s.hd i).c = L.Hb i := by obtain ⟨_, _, _, a, _⟩ := h.hn i hi; exact BC.ne (h.bd _ p2).1 a (by decide)
  have n3 : ¬ e1 = L.B (s.hd i).c := BC.ne (h.cs _ _ _ he.c1).1 (h.bd _ p2).1 (by decide)
  have HX : ∃ R1 : World → Prop, (∀ W W', Kp w W → Kp ((W.setCell ⟨L.B (s.hd i).c, 2, none⟩ (.bool true)).setCell ⟨L.Hb i, 5, none⟩ (.bool true)) W' → R1 W') ∧
      (∀ w1, R1 w1 → w1.cell? ⟨e1, 0, none⟩ = some (ptr (L.Hb i)) ∧ w1.cell? ⟨e5, 0, none⟩ = some (clo 57 #[ptr e6, ptr e1]) ∧ (∃ x, w1.cell? ⟨L.Hb i, 2, none⟩ = some x) ∧ w1.frozen? ⟨L.Hb i, 2, none⟩ = false) ∧
      (∀ w1, R1 w1 → CP DMk L s dv i (s.m.mark (s.hd i).c, { s.hd i with plc := 3, is := true }, false) (.returned (.bool false)) (w1.setCell ⟨L.Hb i, 2, none⟩ (clo 57 #[ptr e6, ptr e1]))) := by
    refine ⟨fun w1 => WN L { s with m := s.m.mark (s.hd i).c, hd := up s.hd i { s.hd i with is := true } } dv w1, fun W W' k k' => (((h.kpw k).setmr p2).setis hi true).kpw k', fun w1 h1 => ⟨h1.cst he.c1, h1.cst he.c5, by obtain ⟨_, _, _, _, _, x, _, _, _, y, _⟩ := h1.hand hi; exact ⟨⟨_, x⟩, y 2⟩⟩, fun w1 h1 => ?_⟩
    have h2 := h1.setdo hi (clo 57 #[ptr e6, ptr e1]) 3 (fun _ => by show (up s.hd i _ i).plc ≠ 0; rw [up_same]; show (s.hd i).plc ≠ 0; omega) hvn
    have h2 : WN L { s with m := s.m.mark (s.hd i).c, hd := up (up s.hd i { s.hd i with is := true }) i { up s.hd i { s.hd i with is := true } i with plc := 3 } } _ _ := h2
    rw [up_same, up_up] at h2
    exact ⟨rfl, L, up dv i (clo 57 #[ptr e6, ptr e1]), Lx.refl _ _, h2, fun j hj => up_ne _ _ hj, by rw [up_same]; exact clo_nil _ _, fun _ => ⟨e0, e1, e2, e3, e4, e5, e6, he, by rw [up_same]; rfl⟩⟩
  obtain ⟨R1, h10, h12, h13⟩ := HX
  have H10 := hide h10
  have H12 := hide h12
  have HE := hide h13
  obtain ⟨R, hR⟩ : ∃ R, R = CP DMk L s dv i (s.m.mark (s.hd i).c, { s.hd i with plc := 3, is := true }, false) := ⟨_, rfl⟩
  rw [← hR] at HE ⊢
  obtain ⟨b, hb⟩ : ∃ b, b = L.B (s.hd i).c := ⟨_, rfl⟩
  obtain ⟨H, hH⟩ : ∃ b, b = L.Hb i := ⟨_, rfl⟩
  obtain ⟨T, hT⟩ : ∃ b, b = L.T := ⟨_, rfl⟩
  obtain ⟨G, hG⟩ : ∃ b, b = (L.alg : Int) := ⟨_, rfl⟩
  obtain ⟨Q, hQ⟩ : ∃ b, b = d.kind := ⟨_, rfl⟩
  obtain ⟨MC, hMC⟩ : ∃ b, b = s.m.mr (s.hd i).c := ⟨_, rfl⟩
  rw [← hb] at h4 b2 f2 n2 n3 H10
  rw [← hH] at c1 h3 h4 h5 f5 HKd n2 H10 H12 HE
  rw [← hT] at c0 t0
  rw [← hG] at t0 hnv
  rw [← hQ] at HKd hkk
  rw [← hMC] at b2 hmc
  have q1 : (Q == 1) = false := by rw [hkk]; rfl
  have q2 : (Q == 2) = true := by rw [hkk]; rfl
  have HF : Hid (∀ W, Kp w W → W.cell? ⟨e1, 0, none⟩ = some (ptr H) ∧ W.cell? ⟨H, 4, none⟩ = some (ptr b) ∧ W.cell? ⟨b, 2, none⟩ = some (.bool MC) ∧ W.cell? ⟨H, 5, none⟩ = some (.bool bb) ∧ W.frozen? ⟨H, 5, none⟩ = false ∧ W.frozen? ⟨b, 2, none⟩ = false ∧ W.cell? ⟨e6, 0, none⟩ = some (clo 53 #[ptr e1])) := hide (fun W k => ⟨k.cell c1, k.cell h4, k.cell b2, k.cell h5, (k.frozen (World.block_lt_of_cell? _ _ h5)).trans f5, (k.frozen (World.block_lt_of_cell? _ _ b2)).trans f2, k.cell c6⟩)
  clear h hi hd hp hkp hkk he hvn er hR hb hH hT hG hQ hMC hpc p1 p2 hz fc h3 h10 h12 h13
  unfold ptr clo at *
  subst hnt hmc
  go_enter Try.func56, Try.ntmps56
  go_wp2_with fail
  refine (HKd.out _ (Kp.refl w)).mono ?_
  rintro e wx ⟨rfl, mx, rfl⟩
  obtain ⟨w1, hw1⟩ : ∃ x, x = w.drewN mx := ⟨_, rfl⟩
  rw [← hw1]
  have kw1 : Kp w w1 := by rw [hw1]; exact (Kp.refl w).drewN
  clear hw1 c1 h4 b2 h5 f5 f2 c6
  obtain ⟨c1, h4, b2, h5, f5, f2, c6⟩ := HF.out _ kw1

  go_wp2_with fail
  refine (HKd.out _ kw1).mono ?_
  rintro e w2x ⟨rfl, md, rfl⟩
  obtain ⟨w2, hw1⟩ : ∃ x, x = w1.drewN md := ⟨_, rfl⟩
  rw [← hw1]
  have kw2 : Kp w w2 := by rw [hw1]; exact kw1.drewN
  clear hw1 c1 h4 b2 h5 f5 f2 c6
  obtain ⟨c1, h4, b2, h5, f5, f2, c6⟩ := HF.out _ kw2
  go_wp2_with fail
  refine (HKd.out _ kw2).mono ?_
  rintro e w3x ⟨rfl, me, rfl⟩
  obtain ⟨w3, hw1⟩ : ∃ x, x = w2.drewN me := ⟨_, rfl⟩
  rw [← hw1]
  have kw3 : Kp w w3 := by rw [hw1]; exact kw2.drewN
  clear hw1 c1 h4 b2 h5 f5 f2 c6
  obtain ⟨c1, h4, b2, h5, f5, f2, c6⟩ := HF.out _ kw3
  go_wp2_with fail
  go_region_law (fail)
  all_goals
    have r1 : R1 _ := H10.out w3 _ kw3 (Kp.refl _).drew
    obtain ⟨g1, g2, ⟨g3, g4⟩, g5⟩ := H12.out _ r1
    go_wp2
    exact HE.out _ r1
end Go.Proofs.Ytoihdnekkgpcoaa
namespace Go.Proofs.Ytoihdnekkgpcoaa
open Go.ChangeShapes Go.WideShapes Go.ChangeAt Go.RowKit
set_option linter.unusedVariables false
set_option linter.unusedSimpArgs false

variable {L : Lay} {s : St} {dv : Nat → Value} {w w' : World}
set_option maxRecDepth 100000 in
set_option maxHeartbeats 4000000 in
theorem mk4_cutN (h : WN L s dv w) {i : Nat} (hi : i < L.nh) {d : Dd} (nv : Bool) (hnv : ((L.alg : Int) == 4) = nv) (hd : (L.P i)[s.deed i]? = some d) (hp : (s.hd i).plc = 2) (hkp : s.m.ky (s.hd i).p ≠ 10) (hkc : s.m.ky (s.hd i).c ≠ 10) (hne : (s.hd i).p ≠ (s.hd i).c) (hkk : d.kind = 2) (hnt : nv = true) {e0 e1 e2 e3 e4 e5 e6 : Nat} (he : EMk L (L.Hb i) e0 e1 e2 e3 e4 e5 e6) (hvn : dv i ≠ .nilFunc) :
    Calls Try.prog 56 #[ptr e0, ptr e1, ptr e6, ptr e5, ptr e2] w (CP DMk L s dv i (markS nv s.m (s.hd i) d)) := by
  have c0 := h.cst he.c0
  have c1 := h.cst he.c1
  have c6 := h.cst he.c6
  have t0 : w.cell? ⟨L.T, 0, none⟩ = some (.int .i64 L.alg) := h.tb.1.cell 0
  obtain ⟨pv, cv, bb, -, -, -, h3, h4, h5, hz, -, hpc, -⟩ := h.hand hi
  obtain ⟨rfl, rfl, p1, p2⟩ := hpc (by omega)
  obtain ⟨-, -, b2, -, fc, -⟩ := h.bead p2
  have f5 := hz 5
  have f2 := fc 2
  have er : markS nv s.m (s.hd i) d = (s.m.drop (s.hd i).p (s.hd i).c, { s.hd i with is := true }, true) := by unfold markS; rw [hp]; simp [hkk, hnt, hp]
  rw [er]
  have HKd := hide (fun W (k : Kp w W) => kind_quiet (h.kpw k) hi hd)
  obtain ⟨-, v1, -⟩ := h.bead p2
  rw [if_neg hkc] at v1
  obtain ⟨-, u1, -, -, u4, -⟩ := h.bead p1
  rw [if_neg hkp] at u1
  have u41 := u4 1
  have n2 : ¬ L.B (s.hd i).p = L.Hb i := by obtain ⟨_, _, _, a, _⟩ := h.hn i hi; exact BC.ne (h.bd _ p1).1 a (by decide)
  have n3 : ¬ e1 = L.B (s.hd i).p := BC.ne (h.cs _ _ _ he.c1).1 (h.bd _ p1).1 (by decide)
  have n4 : ¬ L.B (s.hd i).c = L.Hb i := by obtain ⟨_, _, _, a, _⟩ := h.hn i hi; exact BC.ne (h.bd _ p2).1 a (by decide)
  have n5 : ¬ e1 = L.Hb i := by obtain ⟨_, _, _, a, _⟩ := h.hn i hi; exact BC.ne (h.cs _ _ _ he.c1).1 a (by decide)
  have n6 : ¬ L.B (s.hd i).c = L.B (s.hd i).p := fun e => hne (h.bi _ _ p2 p1 e).symm
  have HE : Hid (∀ W W', Kp w W → Kp ((W.setCell ⟨L.B (s.hd i).p, 1, none⟩ (ptr (L.B (s.m.nx (s.hd i).c)))).setCell ⟨L.Hb i, 5, none⟩ (.bool true)) W' → CP DMk L s dv i (s.m.drop (s.hd i).p (s.hd i).c, { s.hd i with is := true }, true) (.returned (.bool true)) W') := hide (fun W W' k k' => ⟨rfl, L, dv, Lx.refl _ _, (((h.kpw k).setnx p1 (h.nn _ p2) hkp).setis hi true).kpw k', fun _ _ => rfl, hvn, fun e => absurd e (by simp)⟩)
  obtain ⟨b9, hb9⟩ : ∃ b, b = L.B (s.hd i).p := ⟨_, rfl⟩
  obtain ⟨b8, hb8⟩ : ∃ b, b = L.B (s.m.nx (s.hd i).c) := ⟨_, rfl⟩
  rw [← hb9] at h3 u1 u41 n2 n3 n6 HE
  rw [← hb8] at v1 HE
  have HG0 : Hid (∀ W, Kp w W → W.cell? ⟨L.Hb i, 3, none⟩ = some (ptr b9) ∧ W.cell? ⟨L.B (s.hd i).c, 1, none⟩ = some (ptr b8) ∧ (∃ x, W.cell? ⟨b9, 1, none⟩ = some x) ∧ W.frozen? ⟨b9, 1, none⟩ = false) := hide (fun W k => ⟨k.cell h3, k.cell v1, ⟨_, k.cell u1⟩, (k.frozen (World.block_lt_of_cell? _ _ u1)).trans u41⟩)
  clear v1 u1 u4 u41 hb9 hb8
  obtain ⟨R, hR⟩ : ∃ R, R = CP DMk L s dv i (s.m.drop (s.hd i).p (s.hd i).c, { s.hd i with is := true }, true) := ⟨_, rfl⟩
  rw [← hR] at HE ⊢
  obtain ⟨b, hb⟩ : ∃ b, b = L.B (s.hd i).c := ⟨_, rfl⟩
  obtain ⟨H, hH⟩ : ∃ b, b = L.Hb i := ⟨_, rfl⟩
  obtain ⟨T, hT⟩ : ∃ b, b = L.T := ⟨_, rfl⟩
  obtain ⟨G, hG⟩ : ∃ b, b = (L.alg : Int) := ⟨_, rfl⟩
  obtain ⟨Q, hQ⟩ : ∃ b, b = d.kind := ⟨_, rfl⟩
  obtain ⟨MC, hMC⟩ : ∃ b, b = s.m.mr (s.hd i).c := ⟨_, rfl⟩
  rw [← hb] at h4 b2 f2 HG0 n4 n6
  rw [← hH] at c1 h3 h4 h5 f5 HKd HE HG0 n2 n4 n5
  rw [← hT] at c0 t0
  rw [← hG] at t0 hnv
  rw [← hQ] at HKd hkk
  rw [← hMC] at b2
  have q1 : (Q == 1) = false := by rw [hkk]; rfl
  have q2 : (Q == 2) = true := by rw [hkk]; rfl
  have HF : Hid (∀ W, Kp w W → W.cell? ⟨e1, 0, none⟩ = some (ptr H) ∧ W.cell? ⟨H, 4, none⟩ = some (ptr b) ∧ W.cell? ⟨b, 2, none⟩ = some (.bool MC) ∧ W.cell? ⟨H, 5, none⟩ = some (.bool bb) ∧ W.frozen? ⟨H, 5, none⟩ = false ∧ W.frozen? ⟨b, 2, none⟩ = false ∧ W.cell? ⟨e6, 0, none⟩ = some (clo 53 #[ptr e1])) := hide (fun W k => ⟨k.cell c1, k.cell h4, k.cell b2, k.cell h5, (k.frozen (World.block_lt_of_cell? _ _ h5)).trans f5, (k.frozen (World.block_lt_of_cell? _ _ b2)).trans f2, k.cell c6⟩)
  clear h hi hd hp hkp hkk he hvn er hR hb hH hT hG hQ hMC hpc p1 p2 hz fc h3 hkc hne
  unfold ptr clo at *
  subst hnt
  go_enter Try.func56, Try.ntmps56
  go_wp2_with fail
  refine (HKd.out _ (Kp.refl w)).mono ?_
  rintro e wx ⟨rfl, mx, rfl⟩
  obtain ⟨w1, hw1⟩ : ∃ x, x = w.drewN mx := ⟨_, rfl⟩
  rw [← hw1]
  have kw1 : Kp w w1 := by rw [hw1]; exact (Kp.refl w).drewN
  clear hw1 c1 h4 b2 h5 f5 f2 c6
  obtain ⟨c1, h4, b2, h5, f5, f2, c6⟩ := HF.out _ kw1

  go_wp2_with fail
  refine (HKd.out _ kw1).mono ?_
  rintro e w2x ⟨rfl, md, rfl⟩
  obtain ⟨w2, hw1⟩ : ∃ x, x = w1.drewN md := ⟨_, rfl⟩
  rw [← hw1]
  have kw2 : Kp w w2 := by rw [hw1]; exact kw1.drewN
  clear hw1 c1 h4 b2 h5 f5 f2 c6
  obtain ⟨c1, h4, b2, h5, f5, f2, c6⟩ := HF.out _ kw2
  go_wp2_with fail
  obtain ⟨g3, g1, ⟨x1, g5⟩, g7⟩ := HG0.out _ kw2
  obtain ⟨W0, hW0⟩ : ∃ W0, W0 = w2.drew := ⟨_, rfl⟩
  obtain ⟨W1, hW1⟩ : ∃ W1, W1 = W0.setCell ⟨b9, 1, none⟩ (.pointer (some ⟨b8, 0, none⟩)) := ⟨_, rfl⟩
  obtain ⟨W2, hW2⟩ : ∃ W2, W2 = W1.setCell ⟨H, 5, none⟩ (.bool true) := ⟨_, rfl⟩
  have n47 : ¬ H = b9 := fun e => n2 e.symm
  have r4 : ∀ n, R (.returned (.bool true)) (W2.drewN n) := fun n => HE.out w2 _ kw2 (by rw [hW2, hW1, hW0]; exact ((Kp.refl _).drew).drewN)
  have B0 : W0.cell? ⟨e1, 0, none⟩ = some (.pointer (some ⟨H, 0, none⟩)) ∧ W1.cell? ⟨e1, 0, none⟩ = some (.pointer (some ⟨H, 0, none⟩)) ∧ W2.cell? ⟨e1, 0, none⟩ = some (.pointer (some ⟨H, 0, none⟩)) := by
    rw [hW2, hW1, hW0]; refine ⟨c1, ?_, ?_⟩ <;> simp [go_sem, c1, n3, n5]
  have B3 : W0.cell? ⟨H, 3, none⟩ = some (.pointer (some ⟨b9, 0, none⟩)) ∧ W1.cell? ⟨H, 3, none⟩ = some (.pointer (some ⟨b9, 0, none⟩)) ∧ W2.cell? ⟨H, 3, none⟩ = some (.pointer (some ⟨b9, 0, none⟩)) := by
    rw [hW2, hW1, hW0]; refine ⟨g3, ?_, ?_⟩ <;> simp [go_sem, g3, n47]
  have B4 : W0.cell? ⟨H, 4, none⟩ = some (.pointer (some ⟨b, 0, none⟩)) ∧ W1.cell? ⟨H, 4, none⟩ = some (.pointer (some ⟨b, 0, none⟩)) ∧ W2.cell? ⟨H, 4, none⟩ = some (.pointer (some ⟨b, 0, none⟩)) := by
    rw [hW2, hW1, hW0]; refine ⟨h4, ?_, ?_⟩ <;> simp [go_sem, h4, n47]
  have B1 : W0.cell? ⟨b, 1, none⟩ = some (.pointer (some ⟨b8, 0, none⟩)) ∧ W1.cell? ⟨b, 1, none⟩ = some (.pointer (some ⟨b8, 0, none⟩)) ∧ W2.cell? ⟨b, 1, none⟩ = some (.pointer (some ⟨b8, 0, none⟩)) := by
    rw [hW2, hW1, hW0]; refine ⟨g1, ?_, ?_⟩ <;> simp [go_sem, g1, n6, n4]
  have S1 : W0.cell? ⟨b9, 1, none⟩ = some x1 := by rw [hW0]; exact g5
  have T1 : W0.frozen? ⟨b9, 1, none⟩ = false := by rw [hW0]; exact g7
  have S2 : W1.cell? ⟨H, 5, none⟩ = some (.bool bb) := by rw [hW1, hW0]; simp [go_sem, h5, n47]
  have T2 : W1.frozen? ⟨H, 5, none⟩ = false := by rw [hW1, hW0]; simp [go_sem, f5]
  refine wp_region_tab (by kernel_rfl) [(39, .pointer (some ⟨H, 0, none⟩)), (40, .pointer (some ⟨H, 0, none⟩)), (41, .pointer (some ⟨H, 3, none⟩)), (42, .pointer (some ⟨b9, 0, none⟩)), (43, .pointer (some ⟨H, 0, none⟩)), (44, .pointer (some ⟨H, 0, none⟩)), (45, .pointer (some ⟨H, 0, none⟩)), (46, .pointer (some ⟨H, 4, none⟩)), (47, .pointer (some ⟨b, 0, none⟩)), (48, .pointer (some ⟨b, 0, none⟩)), (49, .pointer (some ⟨b, 1, none⟩)), (50, .pointer (some ⟨b8, 0, none⟩)), (51, .pointer (some ⟨b9, 0, none⟩)), (52, .pointer (some ⟨b9, 1, none⟩)), (53, .pointer (some ⟨H, 0, none⟩)), (54, .pointer (some ⟨H, 5, none⟩))] (fun _ _ _ => True) (JN W0 W1 W2 14 17) (by rw [hW0]; exact JN.start (by decide) (by decide)) (by kernel_rfl) (by kernel_rfl) ?_ ?_
  · refine ⟨?_, ?_, ?_, ?_, ?_, ?_, ?_, ?_, ?_, ?_, ?_, ?_, ?_, ?_, ?_, ?_, ?_, ?_, trivial⟩
    · intro hop L a w5 hs hk hl ha keep know spec
      have h1 := keep 1 (.pointer (some ⟨e1, 0, none⟩)) (by kernel_rfl) rfl
      have q := hk.cell B0
      exact wpOp_value hop (wanted_none rfl) (v := .pointer (some ⟨H, 0, none⟩)) (by simp only [execOp, Act.eval, h1]; go_simp) ⟨_, rfl, (hk.go (by decide) (by decide)), (fun d hd => by injection hd with hd; subst hd; exact ⟨tab rfl, trivial⟩), fun _ _ h => h⟩
    · intro hop L a w5 hs hk hl ha keep know spec
      have h39 := know 39 (.pointer (some ⟨H, 0, none⟩)) (by kernel_rfl) rfl
      exact wpOp_value hop (wanted_none rfl) (v := .pointer (some ⟨H, 0, none⟩)) (by simp only [execOp, Act.eval, h39]; go_simp) ⟨_, rfl, (hk.go (by decide) (by decide)), (fun d hd => by injection hd with hd; subst hd; exact ⟨tab rfl, trivial⟩), fun _ _ h => h⟩
    · intro hop L a w5 hs hk hl ha keep know spec
      have h40 := know 40 (.pointer (some ⟨H, 0, none⟩)) (by kernel_rfl) rfl
      exact wpOp_value hop (wanted_none rfl) (v := .pointer (some ⟨H, 3, none⟩)) (by simp only [execOp, Act.eval, h40]; go_simp) ⟨_, rfl, (hk.go (by decide) (by decide)), (fun d hd => by injection hd with hd; subst hd; exact ⟨tab rfl, trivial⟩), fun _ _ h => h⟩
    · intro hop L a w5 hs hk hl ha keep know spec
      have h41 := know 41 (.pointer (some ⟨H, 3, none⟩)) (by kernel_rfl) rfl
      have q := hk.cell B3
      exact wpOp_value hop (wanted_none rfl) (v := .pointer (some ⟨b9, 0, none⟩)) (by simp only [execOp, Act.eval, h41]; go_simp) ⟨_, rfl, (hk.go (by decide) (by decide)), (fun d hd => by injection hd with hd; subst hd; exact ⟨tab rfl, trivial⟩), fun _ _ h => h⟩
    · intro hop L a w5 hs hk hl ha keep know spec
      have h1 := keep 1 (.pointer (some ⟨e1, 0, none⟩)) (by kernel_rfl) rfl
      have q := hk.cell B0
      exact wpOp_value hop (wanted_none rfl) (v := .pointer (some ⟨H, 0, none⟩)) (by simp only [execOp, Act.eval, h1]; go_simp) ⟨_, rfl, (hk.go (by decide) (by decide)), (fun d hd => by injection hd with hd; subst hd; exact ⟨tab rfl, trivial⟩), fun _ _ h => h⟩
    · intro hop L a w5 hs hk hl ha keep know spec
      have h1 := keep 1 (.pointer (some ⟨e1, 0, none⟩)) (by kernel_rfl) rfl
      have q := hk.cell B0
      exact wpOp_value hop (wanted_none rfl) (v := .pointer (some ⟨H, 0, none⟩)) (by simp only [execOp, Act.eval, h1]; go_simp) ⟨_, rfl, (hk.go (by decide) (by decide)), (fun d hd => by injection hd with hd; subst hd; exact ⟨tab rfl, trivial⟩), fun _ _ h => h⟩
    · intro hop L a w5 hs hk hl ha keep know spec
      have h44 := know 44 (.pointer (some ⟨H, 0, none⟩)) (by kernel_rfl) rfl
      exact wpOp_value hop (wanted_none rfl) (v := .pointer (some ⟨H, 0, none⟩)) (by simp only [execOp, Act.eval, h44]; go_simp) ⟨_, rfl, (hk.go (by decide) (by decide)), (fun d hd => by injection hd with hd; subst hd; exact ⟨tab rfl, trivial⟩), fun _ _ h => h⟩
    · intro hop L a w5 hs hk hl ha keep know spec
      have h45 := know 45 (.pointer (some ⟨H, 0, none⟩)) (by kernel_rfl) rfl
      exact wpOp_value hop (wanted_none rfl) (v := .pointer (some ⟨H, 4, none⟩)) (by simp only [execOp, Act.eval, h45]; go_simp) ⟨_, rfl, (hk.go (by decide) (by decide)), (fun d hd => by injection hd with hd; subst hd; exact ⟨tab rfl, trivial⟩), fun _ _ h => h⟩
    · intro hop L a w5 hs hk hl ha keep know spec
      have h46 := know 46 (.pointer (some ⟨H, 4, none⟩)) (by kernel_rfl) rfl
      have q := hk.cell B4
      exact wpOp_value hop (wanted_none rfl) (v := .pointer (some ⟨b, 0, none⟩)) (by simp only [execOp, Act.eval, h46]; go_simp) ⟨_, rfl, (hk.go (by decide) (by decide)), (fun d hd => by injection hd with hd; subst hd; exact ⟨tab rfl, trivial⟩), fun _ _ h => h⟩
    · intro hop L a w5 hs hk hl ha keep know spec
      have h47 := know 47 (.pointer (some ⟨b, 0, none⟩)) (by kernel_rfl) rfl
      exact wpOp_value hop (wanted_none rfl) (v := .pointer (some ⟨b, 0, none⟩)) (by simp only [execOp, Act.eval, h47]; go_simp) ⟨_, rfl, (hk.go (by decide) (by decide)), (fun d hd => by injection hd with hd; subst hd; exact ⟨tab rfl, trivial⟩), fun _ _ h => h⟩
    · intro hop L a w5 hs hk hl ha keep know spec
      have h48 := know 48 (.pointer (some ⟨b, 0, none⟩)) (by kernel_rfl) rfl
      exact wpOp_value hop (wanted_none rfl) (v := .pointer (some ⟨b, 1, none⟩)) (by simp only [execOp, Act.eval, h48]; go_simp) ⟨_, rfl, (hk.go (by decide) (by decide)), (fun d hd => by injection hd with hd; subst hd; exact ⟨tab rfl, trivial⟩), fun _ _ h => h⟩
    · intro hop L a w5 hs hk hl ha keep know spec
      have h49 := know 49 (.pointer (some ⟨b, 1, none⟩)) (by kernel_rfl) rfl
      have q := hk.cell B1
      exact wpOp_value hop (wanted_none rfl) (v := .pointer (some ⟨b8, 0, none⟩)) (by simp only [execOp, Act.eval, h49]; go_simp) ⟨_, rfl, (hk.go (by decide) (by decide)), (fun d hd => by injection hd with hd; subst hd; exact ⟨tab rfl, trivial⟩), fun _ _ h => h⟩
    · intro hop L a w5 hs hk hl ha keep know spec
      have h42 := know 42 (.pointer (some ⟨b9, 0, none⟩)) (by kernel_rfl) rfl
      exact wpOp_value hop (wanted_none rfl) (v := .pointer (some ⟨b9, 0, none⟩)) (by simp only [execOp, Act.eval, h42]; go_simp) ⟨_, rfl, (hk.go (by decide) (by decide)), (fun d hd => by injection hd with hd; subst hd; exact ⟨tab rfl, trivial⟩), fun _ _ h => h⟩
    · intro hop L a w5 hs hk hl ha keep know spec
      have h51 := know 51 (.pointer (some ⟨b9, 0, none⟩)) (by kernel_rfl) rfl
      exact wpOp_value hop (wanted_none rfl) (v := .pointer (some ⟨b9, 1, none⟩)) (by simp only [execOp, Act.eval, h51]; go_simp) ⟨_, rfl, (hk.go (by decide) (by decide)), (fun d hd => by injection hd with hd; subst hd; exact ⟨tab rfl, trivial⟩), fun _ _ h => h⟩
    · intro hop L a w5 hs hk hl ha keep know spec
      have h52 := know 52 (.pointer (some ⟨b9, 1, none⟩)) (by kernel_rfl) rfl
      have h50 := know 50 (.pointer (some ⟨b8, 0, none⟩)) (by kernel_rfl) rfl
      obtain ⟨⟨n5, e5⟩, hk2⟩ := hk.st1 hl (by decide) (p := ⟨b9, 1, none⟩) (v := .pointer (some ⟨b8, 0, none⟩)) hW1
      have q : w5.cell? ⟨b9, 1, none⟩ = some _ := (congrArg (fun W : World => W.cell? ⟨b9, 1, none⟩) e5).trans S1
      have r : w5.frozen? ⟨b9, 1, none⟩ = false := (congrArg (fun W : World => W.frozen? ⟨b9, 1, none⟩) e5).trans T1
      exact wpOp_skip hop (wanted_none rfl) (w' := w5.setCell ⟨b9, 1, none⟩ (.pointer (some ⟨b8, 0, none⟩))) (by simp only [execOp, Act.eval, h52, h50]; go_simp) ⟨_, rfl, hk2, (fun d hd => by cases hd), fun _ _ h => h⟩
    · intro hop L a w5 hs hk hl ha keep know spec
      have h43 := know 43 (.pointer (some ⟨H, 0, none⟩)) (by kernel_rfl) rfl
      exact wpOp_value hop (wanted_none rfl) (v := .pointer (some ⟨H, 0, none⟩)) (by simp only [execOp, Act.eval, h43]; go_simp) ⟨_, rfl, (hk.go (by decide) (by decide)), (fun d hd => by injection hd with hd; subst hd; exact ⟨tab rfl, trivial⟩), fun _ _ h => h⟩
    · intro hop L a w5 hs hk hl ha keep know spec
      have h53 := know 53 (.pointer (some ⟨H, 0, none⟩)) (by kernel_rfl) rfl
      exact wpOp_value hop (wanted_none rfl) (v := .pointer (some ⟨H, 5, none⟩)) (by simp only [execOp, Act.eval, h53]; go_simp) ⟨_, rfl, (hk.go (by decide) (by decide)), (fun d hd => by injection hd with hd; subst hd; exact ⟨tab rfl, trivial⟩), fun _ _ h => h⟩
    · intro hop L a w5 hs hk hl ha keep know spec
      have h54 := know 54 (.pointer (some ⟨H, 5, none⟩)) (by kernel_rfl) rfl
      obtain ⟨⟨n5, e5⟩, hk2⟩ := hk.st2 hl (after_done ha (k := 14) (by kernel_rfl)) (p := ⟨H, 5, none⟩) (v := .bool true) hW2
      have q : w5.cell? ⟨H, 5, none⟩ = some _ := (congrArg (fun W : World => W.cell? ⟨H, 5, none⟩) e5).trans S2
      have r : w5.frozen? ⟨H, 5, none⟩ = false := (congrArg (fun W : World => W.frozen? ⟨H, 5, none⟩) e5).trans T2
      exact wpOp_skip hop (wanted_none rfl) (w' := w5.setCell ⟨H, 5, none⟩ (.bool true)) (by simp only [execOp, Act.eval, h54]; go_simp) ⟨_, rfl, hk2, (fun d hd => by cases hd), fun _ _ h => h⟩
  · intro a' w7 e1x e2x hk keep know spec
    obtain ⟨tm, df⟩ := a'
    obtain ⟨f, hf⟩ := frame_puts (D := [39, 40, 41, 42, 43, 44, 45, 46, 47, 48, 49, 50, 51, 52, 53, 54]) e2x keep
    have e3x : df = [] := e1x
    obtain ⟨n7, e6x⟩ := hk.done (n := 18) (by decide) (by decide)
    have r5 := r4 n7
    rw [← e6x] at r5
    clear keep know spec e1x e2x hk r4 B0 B1 B3 B4 S1 S2 T1 T2 hW0 hW1 hW2 e6x
    simp only [List.foldl_cons, List.foldl_nil] at hf
    subst e3x
    rw [hf]
    clear hf
    go_wp2
    exact r5
set_option maxRecDepth 100000 in
set_option maxHeartbeats 4000000 in
theorem mk5_any (h : WN L s dv w) {i : Nat} (hi : i < L.nh) {d : Dd} (nv : Bool) (hp : (s.hd i).plc = 3) (hne : (s.hd i).p ≠ (s.hd i).c) (hkp : s.m.ky (s.hd i).p ≠ 10) (hkc : s.m.ky (s.hd i).c ≠ 10) {e0 e1 e2 e3 e4 e5 e6 : Nat} (he : EMk L (L.Hb i) e0 e1 e2 e3 e4 e5 e6) (hvn : dv i ≠ .nilFunc) :
    Calls Try.prog 57 #[ptr e6, ptr e1] w (CP DMk L s dv i (markS nv s.m (s.hd i) d)) := by
  have c1 := h.cst he.c1
  have c6 := h.cst he.c6
  obtain ⟨pv, cv, bb, -, -, -, h3, h4, -, hz, n1, hpc, -⟩ := h.hand hi
  obtain ⟨rfl, rfl, p1, p2⟩ := hpc (by omega)
  obtain ⟨-, b1, -⟩ := h.bead p2
  obtain ⟨-, q1, -, -, fp, -⟩ := h.bead p1
  rw [if_neg hkc] at b1
  rw [if_neg hkp] at q1
  have f1 := fp 1
  have HCl : Hid (∀ W, Kp w W → Calls Try.prog 53 #[ptr e1] W (fun e w' => e = .returned (.bool (clean s.m (s.hd i))) ∧ ∃ m, w' = W.drewN m)) := hide (fun W k => clean_any (h.kpw k) hi (by omega) hkp he)
  have n3 : ¬ e1 = L.B (s.hd i).p := BC.ne (h.cs _ _ _ he.c1).1 (h.bd _ p1).1 (by decide)
  have n4 : ¬ L.B (s.hd i).p = L.B (s.hd i).c := fun e => hne (h.bi _ _ p1 p2 e)
  have n5 : ¬ L.B (s.hd i).p = L.Hb i := by obtain ⟨_, _, _, a, _⟩ := h.hn i hi; exact BC.ne (h.bd _ p1).1 a (by decide)
  have er : markS nv s.m (s.hd i) d = (if clean s.m (s.hd i) then s.m.drop (s.hd i).p (s.hd i).c else s.m, s.hd i, true) := by unfold markS; rw [hp]; rfl
  have H0 : Hid (clean s.m (s.hd i) = true → ∀ W W', Kp w W → Kp (W.setCell ⟨L.B (s.hd i).p, 1, none⟩ (ptr (L.B (s.m.nx (s.hd i).c)))) W' → CP DMk L s dv i (markS nv s.m (s.hd i) d) (.returned (.bool true)) W') := hide (fun hcl W W' k k' => by
    rw [er, if_pos hcl]
    refine ⟨rfl, L, dv, Lx.refl _ _, ?_, fun _ _ => rfl, hvn, fun e => absurd e (by simp)⟩
    simp only [up_self]
    exact ((h.kpw k).setnx p1 (h.nn _ p2) hkp).kpw k')
  have H1 : Hid (clean s.m (s.hd i) = false → ∀ W, Kp w W → CP DMk L s dv i (markS nv s.m (s.hd i) d) (.returned (.bool true)) W) := hide (fun hcl W k => by
    rw [er, hcl]
    refine ⟨rfl, L, dv, Lx.refl _ _, ?_, fun _ _ => rfl, hvn, fun e => absurd e (by simp)⟩
    simp only [up_self]
    exact h.kpw k)
  obtain ⟨R, hR⟩ : ∃ R, R = CP DMk L s dv i (markS nv s.m (s.hd i) d) := ⟨_, rfl⟩
  rw [← hR] at H0 H1 ⊢
  obtain ⟨b, hb⟩ : ∃ b, b = L.B (s.hd i).c := ⟨_, rfl⟩
  obtain ⟨b9, hb9⟩ : ∃ b, b = L.B (s.hd i).p := ⟨_, rfl⟩
  obtain ⟨b8, hb8⟩ : ∃ b, b = L.B (s.m.nx (s.hd i).c) := ⟨_, rfl⟩
  obtain ⟨b7, hb7⟩ : ∃ b, b = L.B (s.m.nx (s.hd i).p) := ⟨_, rfl⟩
  obtain ⟨H, hH⟩ : ∃ b, b = L.Hb i := ⟨_, rfl⟩
  obtain ⟨C, hC⟩ : ∃ c, c = clean s.m (s.hd i) := ⟨_, rfl⟩
  rw [← hb] at h4 b1 n4
  rw [← hb9] at h3 q1 f1 n3 n4 n5 H0
  rw [← hb8] at b1 H0
  rw [← hb7] at q1
  rw [← hH] at c1 h3 h4 n5
  rw [← hC] at HCl H0 H1
  have HF : Hid (∀ W, Kp w W → W.cell? ⟨e1, 0, none⟩ = some (ptr H) ∧ W.cell? ⟨H, 3, none⟩ = some (ptr b9) ∧ W.cell? ⟨H, 4, none⟩ = some (ptr b) ∧ W.cell? ⟨b, 1, none⟩ = some (ptr b8) ∧ W.cell? ⟨b9, 1, none⟩ = some (ptr b7) ∧ W.frozen? ⟨b9, 1, none⟩ = false) := hide (fun W k => ⟨k.cell c1, k.cell h3, k.cell h4, k.cell b1, k.cell q1, (k.frozen (World.block_lt_of_cell? _ _ q1)).trans f1⟩)
  clear h hi hp hne hkp hkc he hvn er hR hb hb9 hb8 hb7 hH hC hpc p1 p2 hz n1 fp c1 h3 h4 b1 q1 f1
  unfold ptr clo at *
  go_enter Try.func57, Try.ntmps57
  go_wp2_with fail
  refine (HCl.out _ (Kp.refl w)).mono ?_
  rintro e wx ⟨rfl, mx, rfl⟩
  obtain ⟨w1, hw1⟩ : ∃ x, x = w.drewN mx := ⟨_, rfl⟩
  rw [← hw1]
  have k1 : Kp w w1 := by rw [hw1]; exact (Kp.refl w).drewN
  clear hw1
  obtain ⟨c1, h3, h4, b1, q1, f1⟩ := HF.out _ k1
  cases C with
  | false =>
    go_wp2
    exact H1.out (by trivial) _ k1
  | true =>
    go_wp2_with fail
    go_region_law (fail)
    all_goals
      go_wp2
      exact H0.out (by trivial) w1 _ k1 (Kp.refl _).drew
end Go.Proofs.Ytoihdnekkgpcoaa
namespace Go.Proofs.Ytoihdnekkgpcoaa
set_option linter.unusedVariables false
set_option linter.unusedSimpArgs false

/-- Keys rise along each way. -/
structure MW (m : Mm) : Prop where
  pos : 0 < m.n
  k0 : m.ky 0 = -1
  kl : ∀ i, i < m.n → m.ky i ≤ 10
  nl : ∀ i, i < m.n → m.nx i < m.n
  ri : ∀ i, i < m.n → m.ky i ≠ 10 → m.ky i < m.ky (m.nx i)
  md : ∀ i, i < m.n → m.mr i = true → 0 ≤ m.ky i ∧ m.ky i ≤ 9
theorem MI.mw {m : Mm} (h : MI m) : MW m := ⟨h.pos, h.k0, h.kl, h.nl, h.ri, h.md⟩
/-- What a hand that marks, or a naive one, knows. -/
def QN (m : Mm) (h : Hd) (d : Dd) : Prop :=
  h.plc ≤ 3 ∧ (h.plc ≠ 0 → h.p < m.n ∧ h.c < m.n ∧ m.ky h.p < d.key) ∧ (h.plc = 2 → d.kind ≠ 3 ∧ (d.kind = 2 → m.ky h.c = d.key) ∧ (d.kind = 1 → d.key < m.ky h.c)) ∧ (h.plc = 3 → d.kind = 2 ∧ m.ky h.c = d.key)
def Ext (m m' : Mm) : Prop := m.n ≤ m'.n ∧ ∀ i, i < m.n → m'.ky i = m.ky i
theorem Ext.refl (m : Mm) : Ext m m := ⟨Nat.le_refl _, fun _ _ => rfl⟩
theorem QN.ext {m m' : Mm} {h : Hd} {d : Dd} (q : QN m h d) (e : Ext m m') : QN m' h d := by
  obtain ⟨q1, q2, q3, q4⟩ := q
  refine ⟨q1, fun hp => ?_, fun hp => ?_, fun hp => ?_⟩
  · obtain ⟨a, b, c⟩ := q2 hp
    exact ⟨Nat.lt_of_lt_of_le a e.1, Nat.lt_of_lt_of_le b e.1, by rw [e.2 _ a]; exact c⟩
  · obtain ⟨a, b, c⟩ := q2 (by omega)
    rw [e.2 _ b]; exact q3 hp
  · obtain ⟨a, b, c⟩ := q2 (by omega)
    rw [e.2 _ b]; exact q4 hp
theorem MW.drop {m : Mm} (h : MW m) {p c : Nat} (hp : p < m.n) (hc : c < m.n) (hk : m.ky p < m.ky c) (h10 : m.ky c ≠ 10) : MW (m.drop p c) := by
  refine ⟨h.pos, h.k0, h.kl, fun i hi => ?_, fun i hi hk2 => ?_, h.md⟩
  · show up m.nx p (m.nx c) i < m.n
    unfold up; split
    · exact h.nl c hc
    · exact h.nl i hi
  · show m.ky i < m.ky (up m.nx p (m.nx c) i)
    unfold up; split
    · rename_i e; subst e
      have := h.ri c hc h10; omega
    · exact h.ri i hi hk2
theorem MW.mark {m : Mm} (h : MW m) {c : Nat} (hk : 0 ≤ m.ky c ∧ m.ky c ≤ 9) : MW (m.mark c) := by
  refine ⟨h.pos, h.k0, h.kl, h.nl, h.ri, fun i hi hm => ?_⟩
  have hm : up m.mr c true i = true := hm
  unfold up at hm
  split at hm
  · rename_i e; subst e; exact hk
  · exact h.md i hi hm
theorem MW.ins {m : Mm} (h : MW m) {p c : Nat} {k : Int} (hp : p < m.n) (hc : c < m.n) (h1 : m.ky p < k) (h2 : k < m.ky c) : MW (m.ins p c k) ∧ Ext m (m.ins p c k) := by
  have hky : ∀ i, i < m.n → (m.ins p c k).ky i = m.ky i := fun i hi => up_ne _ _ (by omega)
  have hkn : (m.ins p c k).ky m.n = k := up_same _ _ _
  have h3 := h.kl c hc
  refine ⟨⟨Nat.succ_pos _, ?_, ?_, ?_, ?_, ?_⟩, Nat.le_succ _, hky⟩
  · rw [hky 0 h.pos]; exact h.k0
  · intro i hi
    have hi : i < m.n + 1 := hi
    by_cases e : i = m.n
    · rw [e, hkn]; omega
    · rw [hky i (by omega)]; exact h.kl i (by omega)
  · intro i hi
    have hi : i < m.n + 1 := hi
    show up (up m.nx m.n c) p m.n i < m.n + 1
    unfold up; split
    · omega
    · split
      · omega
      · have := h.nl i (by omega); omega
  · intro i hi hk2
    have hi : i < m.n + 1 := hi
    have hnx : (m.ins p c k).nx i = up (up m.nx m.n c) p m.n i := rfl
    rw [hnx]
    unfold up; split
    · rename_i e; subst e; rw [hky _ hp, hkn]; exact h1
    · split
      · rename_i e; rw [e, hkn, hky c hc]; exact h2
      · rename_i e1 e2
        have hi2 : i < m.n := by omega
        rw [hky i hi2] at hk2
        rw [hky i hi2, hky _ (h.nl i hi2)]
        exact h.ri i hi2 hk2
  · intro i hi hm
    have hi : i < m.n + 1 := hi
    have hm : up m.mr m.n false i = true := hm
    by_cases e : i = m.n
    · rw [e, up_same] at hm; exact absurd hm (by simp)
    · rw [up_ne _ _ e] at hm
      rw [hky i (by omega)]; exact h.md i (by omega) hm
theorem qn_hd0 (m : Mm) (d : Dd) : QN m hd0 d := ⟨Nat.zero_le _, fun e => absurd rfl e, fun e => absurd e (by simp [hd0]), fun e => absurd e (by simp [hd0])⟩
theorem qn_plc0 (m : Mm) (h : Hd) (d : Dd) (e : h.plc = 0) : QN m h d := ⟨by omega, fun x => absurd e x, fun x => absurd x (by omega), fun x => absurd x (by omega)⟩
/-- A step of one that marks, or of the naive one. -/
theorem marks_keep (nv : Bool) {m : Mm} (hm : MW m) {h : Hd} {d : Dd} (hd : okD d) (q : QN m h d) : MW (markS nv m h d).1 ∧ Ext m (markS nv m h d).1 ∧ ((markS nv m h d).2.2 = false → QN (markS nv m h d).1 (markS nv m h d).2.1 d) := by
  obtain ⟨q1, q2, q3, q4⟩ := q
  obtain ⟨d1, d2, d3⟩ := hd
  have hR := Ext.refl m
  have q0 : ∀ (m' : Mm) (h' : Hd), h'.plc = 0 → QN m' h' d := fun m' h' e => qn_plc0 m' h' d e
  have c4 : h.plc = 0 ∨ h.plc = 1 ∨ h.plc = 2 ∨ h.plc = 3 := by omega
  rcases c4 with e | e | e | e
  · have er : markS nv m h d = (m, h.again m, false) := by unfold markS; rw [e]; rfl
    rw [er]
    exact ⟨hm, hR, fun _ => ⟨by show 1 ≤ 3; omega, fun _ => ⟨hm.pos, hm.nl 0 hm.pos, by show m.ky 0 < _; rw [hm.k0]; omega⟩, fun x => absurd (show (1 : Nat) = 2 from x) (by omega), fun x => absurd (show (1 : Nat) = 3 from x) (by omega)⟩⟩
  · obtain ⟨p1, p2, p3⟩ := q2 (by omega)
    unfold markS; rw [e]; simp only []
    split
    · rename_i h1
      simp only [Bool.and_eq_true] at h1
      split
      · rename_i h2
        obtain ⟨a, b⟩ := clean_iff.1 h2
        have h3 := hm.ri _ p1 (by omega)
        rw [b] at h3
        have h4 := hm.md _ p2 h1.1
        exact ⟨hm.drop p1 p2 h3 (by omega), ⟨Nat.le_refl _, fun _ _ => rfl⟩, fun _ => ⟨by show (1 : Nat) ≤ 3; omega, fun _ => ⟨p1, hm.nl _ p2, p3⟩, fun x => absurd (show (1 : Nat) = 2 from x) (by omega), fun x => absurd (show (1 : Nat) = 3 from x) (by omega)⟩⟩
      · exact ⟨hm, hR, fun _ => q0 _ _ rfl⟩
    · split
      · rename_i h1 h2
        exact ⟨hm, hR, fun _ => ⟨by show h.plc ≤ 3; omega, fun _ => ⟨p2, hm.nl _ p2, h2⟩, fun x => absurd (show h.plc = 2 from x) (by omega), fun x => absurd (show h.plc = 3 from x) (by omega)⟩⟩
      · split
        · exact ⟨hm, hR, fun x => absurd x (by simp)⟩
        · split
          · exact ⟨hm, hR, fun x => absurd x (by simp)⟩
          · rename_i h1 h2 h3 h4
            refine ⟨hm, hR, fun _ => ⟨by show (2 : Nat) ≤ 3; omega, fun _ => ⟨p1, p2, p3⟩, fun _ => ⟨h3, fun hk => ?_, fun hk => ?_⟩, fun x => absurd (show (2 : Nat) = 3 from x) (by omega)⟩⟩
            · by_cases hh : m.ky h.c = d.key
              · exact hh
              · exact absurd (by simp [hh, hk]) h4
            · by_cases hh : m.ky h.c = d.key
              · exact absurd (by simp [hh, hk]) h4
              · show d.key < m.ky h.c; omega
  · obtain ⟨p1, p2, p3⟩ := q2 (by omega)
    obtain ⟨r1, r2, r3⟩ := q3 e
    unfold markS; rw [e]; simp only []
    split
    · rename_i hk
      split
      · obtain ⟨a, b⟩ := hm.ins p1 p2 p3 (r3 hk)
        exact ⟨a, b, fun x => absurd x (by simp)⟩
      · exact ⟨hm, hR, fun _ => q0 _ _ rfl⟩
    · rename_i hk
      have hk2 : d.kind = 2 := by omega
      have h5 := r2 hk2
      split
      · exact ⟨hm.drop p1 p2 (by omega) (by omega), ⟨Nat.le_refl _, fun _ _ => rfl⟩, fun x => absurd x (by simp)⟩
      · split
        · exact ⟨hm, hR, fun _ => q0 _ _ rfl⟩
        · exact ⟨hm.mark (by omega), ⟨Nat.le_refl _, fun _ _ => rfl⟩, fun _ => ⟨by show (3 : Nat) ≤ 3; omega, fun _ => ⟨p1, p2, p3⟩, fun x => absurd (show (3 : Nat) = 2 from x) (by omega), fun _ => ⟨hk2, h5⟩⟩⟩
  · obtain ⟨p1, p2, p3⟩ := q2 (by omega)
    obtain ⟨r1, r2⟩ := q4 e
    unfold markS; rw [e]; simp only []
    split
    · exact ⟨hm.drop p1 p2 (by omega) (by omega), ⟨Nat.le_refl _, fun _ _ => rfl⟩, fun x => absurd x (by simp)⟩
    · exact ⟨hm, hR, fun x => absurd x (by simp)⟩
/-- The whole bench, of those that mark and of the naive ones. -/
def NI (P : List (List Dd)) (s : St) : Prop := MW s.m ∧ ∀ j, QN s.m (s.hd j) (dd P j (s.deed j))
theorem NI.step {P : List (List Dd)} (hP : ∀ l ∈ P, ∀ d ∈ l, okD d) {s : St} (h : NI P s) {alg : Nat} (ha : alg = 3 ∨ alg = 4) (i : Nat) : NI P (stp alg (dd P i (s.deed i)) s i) := by
  have ea : algS alg s.m (s.hd i) (dd P i (s.deed i)) = markS (alg == 4) s.m (s.hd i) (dd P i (s.deed i)) := by rcases ha with rfl | rfl <;> rfl
  obtain ⟨k1, k2, k3⟩ := marks_keep (alg == 4) h.1 (dd_ok hP i (s.deed i)) (h.2 i)
  unfold stp
  rw [ea]
  simp only []
  split
  · refine ⟨k1, fun j => ?_⟩
    by_cases e : j = i
    · subst e
      show QN _ (up s.hd j hd0 j) _
      rw [up_same]; exact qn_hd0 _ _
    · show QN _ (up s.hd i hd0 j) (dd P j (up s.deed i _ j))
      rw [up_ne _ _ e, up_ne _ _ e]; exact (h.2 j).ext k2
  · rename_i hf
    refine ⟨k1, fun j => ?_⟩
    by_cases e : j = i
    · subst e
      show QN _ (up s.hd j _ j) _
      rw [up_same]; exact k3 (by simpa using hf)
    · show QN _ (up s.hd i _ j) _
      rw [up_ne _ _ e]; exact (h.2 j).ext k2
theorem mm0_MW (l : List Int) (h1 : ∀ x ∈ l, 0 ≤ x ∧ x ≤ 9) (h2 : l.Pairwise (· < ·)) : MW (mm0 l) := (mm0_MI l h1 h2).mw
/-- What holds of the bench, whatever the way. -/
def WInv (alg : Nat) (P : List (List Dd)) (l : List Int) (s : St) : Prop :=
  (alg = 1 ∧ StI (fun S pos s => LkJ P.length (dd P) S pos s) P l s) ∨ (alg = 2 ∧ StI (fun S pos s => LzI P.length (dd P) S pos s) P l s) ∨ ((alg = 3 ∨ alg = 4) ∧ NI P s)
theorem winv0 {alg : Nat} {P : List (List Dd)} {l : List Int} (h : OkIn l P) (h1 : 1 ≤ alg) (h4 : alg ≤ 4) : WInv alg P l (st0 l) := by
  have c : alg = 1 ∨ alg = 2 ∨ (alg = 3 ∨ alg = 4) := by omega
  rcases c with e | e | e
  · exact .inl ⟨e, st0_ex (lk0 h)⟩
  · exact .inr (.inl ⟨e, st0_ex (lz0 h)⟩)
  · exact .inr (.inr ⟨e, mm0_MW l h.keys h.sort, fun j => qn_hd0 _ _⟩)
theorem WInv.step {alg : Nat} {P : List (List Dd)} {l : List Int} (h : OkIn l P) {s : St} (I : WInv alg P l s) (i : Nat) (hc : can P s i = true) : WInv alg P l (stp alg (dd P i (s.deed i)) s i) := by
  rcases I with ⟨rfl, I⟩ | ⟨rfl, I⟩ | ⟨e, I⟩
  · exact .inl ⟨rfl, (lockPot h.deeds l).keep s i I hc⟩
  · exact .inr (.inl ⟨rfl, (lazyPot h.deeds h.len l).keep s i I hc⟩)
  · exact .inr (.inr ⟨e, I.step h.deeds e i⟩)
theorem WInv.mw {alg : Nat} {P : List (List Dd)} {l : List Int} {s : St} (I : WInv alg P l s) : MW s.m := by
  rcases I with ⟨rfl, I⟩ | ⟨rfl, I⟩ | ⟨e, I⟩
  · obtain ⟨_, _, j, _⟩ := I.ex; exact j.mi.mw
  · obtain ⟨_, _, j, _⟩ := I.ex; exact j.mi.mw
  · exact I.1
end Go.Proofs.Ytoihdnekkgpcoaa
namespace Go.Proofs.Ytoihdnekkgpcoaa
open Go.ChangeShapes Go.WideShapes Go.ChangeAt Go.RowKit
set_option linter.unusedVariables false
set_option linter.unusedSimpArgs false

variable {L : Lay} {s : St} {dv : Nat → Value} {w w' : World}
theorem leftF_len (m : Mm) : ∀ (f i : Nat), (leftF m f i).length ≤ f := by
  intro f
  induction f with
  | zero => intro i; exact Nat.le_refl _
  | succ f ih =>
    intro i
    unfold leftF
    split
    · exact Nat.zero_le _
    · rw [List.length_append]
      have := ih (m.nx i)
      split <;> simp <;> omega
/-- The loop's state: what is met is told, from bead i on there is the rest. -/
def LfRel (L : Lay) (s : St) (w : World) (f : Nat) (ov nv : Value) (wr : World) : Prop :=
  ∃ (i : Nat) (acc : List Int), i < s.m.n ∧ 11 - s.m.ky i ≤ (f : Int) ∧ nv = ptr (L.B i) ∧ OW wr w.heap.size 3 eInt ov acc ∧ Kp w wr ∧ acc ++ leftF s.m f i = leftM s.m
theorem leftF_step (m : Mm) (f i : Nat) (hk : m.ky i ≠ 10) : leftF m (f + 1) i = (if m.mr i then [] else [m.ky i]) ++ leftF m f (m.nx i) := by
  show (if m.ky i = 10 then [] else _) = _
  rw [if_neg hk]
set_option maxRecDepth 100000 in
set_option maxHeartbeats 2000000 in
theorem left_any (h : WN L s dv w) (mi : MW s.m) : Calls Try.prog 19 #[ptr L.T] w (fun e w' => ∃ v, e = .returned v ∧ OW w' w.heap.size 3 eInt v (leftM s.m) ∧ Kp w w') := by
  have t1 : w.cell? ⟨L.T, 1, none⟩ = some (ptr (L.B 0)) := h.tb.1.cell 1
  obtain ⟨-, b1, -⟩ := h.bead h.n0
  rw [if_neg (by rw [mi.k0]; omega)] at b1
  have HW := hide (fun W (k : Kp w W) => h.kpw k)
  have HMI := hide mi
  have h0 := mi.ri 0 mi.pos (by rw [mi.k0]; omega)
  rw [mi.k0] at h0
  have HST : Hid (LfRel L s w 12 (.slice none 0 0) (ptr (L.B (s.m.nx 0))) w) := hide ⟨s.m.nx 0, [], mi.nl 0 mi.pos, by omega, rfl, OW.nil, Kp.refl _, rfl⟩
  clear h mi h0
  unfold ptr at t1 b1 HST ⊢
  go_enter Try.func19, Try.ntmps19
  go_wp2
  go_loopg [3, 4] 12 (fun g ov nv wx => LfRel L s w g ov nv wx)
  case atStart => exact HST.out
  case round =>
    obtain ⟨i, acc, hi, hf, rfl, ho, hkp, hacc⟩ := hrel
    have hm := HMI.out
    have hleft : (leftM s.m).length ≤ 12 := leftF_len _ _ _
    have hal : acc.length ≤ 12 := by rw [← hacc, List.length_append] at hleft; omega
    obtain ⟨x0, x1, x2, -⟩ := (HW.out _ hkp).bead hi
    obtain ⟨gq, hgq⟩ : ∃ g, g = gk := ⟨_, rfl⟩
    rw [← hgq] at hf hacc
    have HGQ := hide hgq
    clear hgq
    obtain ⟨fq, rfl⟩ : ∃ f, gq = f + 1 := ⟨gq - 1, by have := hm.kl i hi; omega⟩
    by_cases hk : s.m.ky i = 10
    · rw [if_pos hk] at x1
      have hE : acc = leftM s.m := by
        have e : leftF s.m (fq + 1) i = [] := by show (if s.m.ky i = 10 then [] else _) = _; rw [if_pos hk]
        rw [e, List.append_nil] at hacc; exact hacc
      subst hE
      have HO := hide ho
      have HKP := hide hkp
      clear ho hkp hm hleft hal hf hi hacc hk x0 x2
      unfold ptr at *
      go_wp2
      go_ret
      exact ⟨_, rfl, HO.out, HKP.out⟩
    · rw [if_neg hk] at x1
      rw [leftF_step _ _ _ hk] at hacc
      have hnl := hm.nl i hi
      have hri := hm.ri i hi hk
      obtain ⟨X, hX⟩ : ∃ x, x = s.m.ky i := ⟨_, rfl⟩
      obtain ⟨bi, hbi⟩ : ∃ x, x = L.B i := ⟨_, rfl⟩
      obtain ⟨bn, hbn⟩ : ∃ x, x = L.B (s.m.nx i) := ⟨_, rfl⟩
      rw [← hX] at x0
      rw [← hbi] at x0 x1 x2
      rw [← hbn] at x1
      obtain ⟨A9, N9, c9, rfl⟩ := ho.rd.slice
      have HO := hide ho
      have HNE := hide (OW.bc_ne ho ((HW.out _ hkp).bd i hi).1 (by decide))
      rw [← hbi] at HNE
      have hHi := ho.hi
      have HKP := hide hkp
      have HM1 : Hid ((acc.length + [X].length) * 8 ≤ 140737488355328) := hide (by simp; omega)
      have HM2 : Hid (acc.length + [X].length ≤ maxLen) := hide (by simp [maxLen]; omega)
      unfold ptr at *
      rw [← hbi]
      cases hmr : s.m.mr i with
      | true =>
        rw [hmr] at x2 hacc
        have HR : Hid (∀ wx, Kp w wx → OW wx w.heap.size 3 eInt (.slice A9 N9 c9) acc → LfRel L s w fq (.slice A9 N9 c9) (.pointer (some ⟨bn, 0, none⟩)) wx) := hide (fun wx k o => ⟨s.m.nx i, acc, hnl, by omega, by rw [hbn]; rfl, o, k, by simpa using hacc⟩)
        clear ho hkp hm hleft hal hf hi hacc hk hnl hri hX hbi hbn hmr
        go_wp2
        go_roundg (gk - 1)
        case measure => have := HGQ.out; omega
        case rel =>
          have e := HGQ.out
          show LfRel L s w (gk - 1) _ _ _
          rw [show gk - 1 = fq by omega]
          exact HR.out _ HKP.out HO.out
      | false =>
        rw [hmr] at x2 hacc
        have HR : Hid (∀ v wx, Kp w wx → OW wx w.heap.size 3 eInt v (acc ++ [X]) → LfRel L s w fq v (.pointer (some ⟨bn, 0, none⟩)) wx) := hide (fun v wx k o => ⟨s.m.nx i, acc ++ [X], hnl, by omega, by rw [hbn]; rfl, o, k, by rw [hX]; simpa using hacc⟩)
        clear ho hkp hm hleft hal hf hi hacc hk hnl hri hX hbi hbn hmr
        go_wp2_with (at_builtin; (with_reducible refine list_app (B := w.heap.size) (l := acc) (m := [X]) row_int (.slice A9 N9 c9) ?_ (.tmp 26) (.tmp 31) ?_ ?_ ?_ ?_ HM1.out HM2.out ?_ ?_); (with_reducible rfl); (with_reducible rfl); rfl; (exact HO.out.alloc _); (show RD _ _ (.slice (some ⟨_, 0, none⟩) 1 1) _; (focus ((repeat (first | (with_reducible assumption) | exact RD.new1 _ rfl | (refine RD.new1e _ ?_ rfl; simp; done) | (with_reducible apply RD.alloc) | (with_reducible apply RD.drew) | (with_reducible apply RD.drewN) | ((with_reducible apply RD.belowR); (with_reducible assumption)))); done))); (exact (HKP.out.alloc).size); intro v3 w3 ho3 hg3 hat3; have x13 := hg3.cell (((Kp.refl wr).alloc).cell x1) (fun e => HNE.out e.symm))
        go_roundg (gk - 1)
        case measure => have := HGQ.out; omega
        case rel =>
          have e := HGQ.out
          show LfRel L s w (gk - 1) _ _ _
          rw [show gk - 1 = fq by omega]
          exact HR.out _ _ (Kp.app hg3 HKP.out.alloc hHi) ho3
end Go.Proofs.Ytoihdnekkgpcoaa
