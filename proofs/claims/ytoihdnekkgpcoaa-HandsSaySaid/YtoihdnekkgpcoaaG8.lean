/-
  The closure that does the deed, of one that marks or of the naive one; off the way.  Conditions: the table lies as WN says.
  The closures of one that marks, or of the naive one: a bead goes. Conditions: the table lies as WN says.
  What the walk must know of the list and of each hand, for all four ways: a weaker invariant that the naive way keeps too. Conditions: as each theorem says.
  The method left of the table: the keys without a mark. Conditions: the table lies as WN says, the list is sound.
  What a hand does next, called: of each of the three ways. Conditions: as each theorem says.
  copy, append within the capacity, clear, append of zeros: at slices of elements of several cells, in a block that is known whole; slices.overlaps of two blocks. Conditions: those of each law.
  A store into a cell of an element of an owned slice. Conditions: none.
-/
import Derived.Test.YtoihdnekkgpcoaaG7
import Derived.Test.YtoihdnekkgpcoaaG5
import Derived.Test.YtoihdnekkgpcoaaG3
import Derived.Deep.LoopGhost
import Derived.Laws.CopyOwn
import Derived.Lib.AppendZerosOnto
import Derived.Lib.Overlaps
import Derived.Lib.SliceRun
import Derived.Test.YtoihdnekkgpcoaaG4

namespace Go.Proofs.Ytoihdnekkgpcoaa
open Go.ChangeShapes Go.WideShapes Go.ChangeAt Go.RowKit
set_option linter.unusedVariables false
set_option linter.unusedSimpArgs false

variable {L : Lay} {s : St} {dv : Nat → Value} {w w' : World}
set_option maxRecDepth 100000 in
set_option maxHeartbeats 4000000 in
theorem mk4_addN (h : WN L s dv w) {i : Nat} (hi : i < L.nh) {d : Dd} (nv : Bool) (hnv : ((L.alg : Int) == 4) = nv) (hd : (L.P i)[s.deed i]? = some d) (hp : (s.hd i).plc = 2) (hkp : s.m.ky (s.hd i).p ≠ 10) (hd10 : d.key ≤ 9) (hkk : d.kind = 1) (hnt : nv = true) {e0 e1 e2 e3 e4 e5 e6 : Nat} (he : EMk L (L.Hb i) e0 e1 e2 e3 e4 e5 e6) (hvn : dv i ≠ .nilFunc) :
    Calls Try.prog 56 #[ptr e0, ptr e1, ptr e6, ptr e5, ptr e2] w (CP DMk L s dv i (markS nv s.m (s.hd i) d)) := by
  have c0 := h.cst he.c0
  have c1 := h.cst he.c1
  have c6 := h.cst he.c6
  have t0 : w.cell? ⟨L.T, 0, none⟩ = some (.int .i64 L.alg) := h.tb.1.cell 0
  obtain ⟨pv, cv, bb, -, -, -, h3, h4, h5, hz, -, hpc, -⟩ := h.hand hi
  obtain ⟨rfl, rfl, p1, p2⟩ := hpc (by omega)
  obtain ⟨-, -, b2, -, fc, -⟩ := h.bead p2
  have f5 := hz 5
  have f2 := fc 2
  have er : markS nv s.m (s.hd i) d = (s.m.ins (s.hd i).p (s.hd i).c d.key, { s.hd i with is := true }, true) := by unfold markS; rw [hp]; simp [hkk, hnt, hp]
  rw [er]
  have HKd := hide (fun W (k : Kp w W) => kind_quiet (h.kpw k) hi hd)
  have HX : ∃ R2 : World → Prop, (∀ W, Kp w W → Calls Try.prog 43 #[ptr (L.Hb i)] W (fun e w' => e = .returned (.tuple #[]) ∧ R2 w')) ∧
      (∀ w1, R2 w1 → w1.cell? ⟨e1, 0, none⟩ = some (ptr (L.Hb i)) ∧ (∃ x, w1.cell? ⟨L.Hb i, 5, none⟩ = some x) ∧ w1.frozen? ⟨L.Hb i, 5, none⟩ = false) ∧
      (∀ w1, R2 w1 → CP DMk L s dv i (s.m.ins (s.hd i).p (s.hd i).c d.key, { s.hd i with is := true }, true) (.returned (.bool true)) (w1.setCell ⟨L.Hb i, 5, none⟩ (.bool true))) := by
    refine ⟨fun w1 => ∃ L', Lx L L' s.m.n ∧ WN L' { s with m := s.m.ins (s.hd i).p (s.hd i).c d.key } dv w1, fun W k => add_any (h.kpw k) hi hd (by omega) hkp (by omega), fun w1 h1 => ?_, fun w1 h1 => ?_⟩
    · obtain ⟨L', l1, h1⟩ := h1
      have a1 := h1.cst (he.lx l1).c1
      obtain ⟨_, _, _, _, _, _, _, _, x, y, _⟩ := h1.hand (i := i) (by rw [l1.2.2.2.1]; exact hi)
      rw [l1.2.1] at x y
      exact ⟨a1, ⟨_, x⟩, y 5⟩
    · obtain ⟨L', l1, h1⟩ := h1
      have h2 := h1.setis (i := i) (by rw [l1.2.2.2.1]; exact hi) true
      rw [l1.2.1] at h2
      exact ⟨rfl, L', dv, l1, h2, fun _ _ => rfl, hvn, fun e => absurd e (by simp)⟩
  obtain ⟨R2, h11, h12, h13⟩ := HX
  have H11 := hide h11
  have H12 := hide h12
  have HE := hide h13
  obtain ⟨R, hR⟩ : ∃ R, R = CP DMk L s dv i (s.m.ins (s.hd i).p (s.hd i).c d.key, { s.hd i with is := true }, true) := ⟨_, rfl⟩
  rw [← hR] at HE ⊢
  obtain ⟨b, hb⟩ : ∃ b, b = L.B (s.hd i).c := ⟨_, rfl⟩
  obtain ⟨H, hH⟩ : ∃ b, b = L.Hb i := ⟨_, rfl⟩
  obtain ⟨T, hT⟩ : ∃ b, b = L.T := ⟨_, rfl⟩
  obtain ⟨G, hG⟩ : ∃ b, b = (L.alg : Int) := ⟨_, rfl⟩
  obtain ⟨Q, hQ⟩ : ∃ b, b = d.kind := ⟨_, rfl⟩
  obtain ⟨MC, hMC⟩ : ∃ b, b = s.m.mr (s.hd i).c := ⟨_, rfl⟩
  rw [← hb] at h4 b2 f2
  rw [← hH] at c1 h3 h4 h5 f5 HKd H11 H12 HE
  rw [← hT] at c0 t0
  rw [← hG] at t0 hnv
  rw [← hQ] at HKd hkk
  rw [← hMC] at b2
  have q1 : (Q == 1) = true := by rw [hkk]; rfl
  have HF : Hid (∀ W, Kp w W → W.cell? ⟨e1, 0, none⟩ = some (ptr H) ∧ W.cell? ⟨H, 4, none⟩ = some (ptr b) ∧ W.cell? ⟨b, 2, none⟩ = some (.bool MC) ∧ W.cell? ⟨H, 5, none⟩ = some (.bool bb) ∧ W.frozen? ⟨H, 5, none⟩ = false ∧ W.frozen? ⟨b, 2, none⟩ = false ∧ W.cell? ⟨e6, 0, none⟩ = some (clo 53 #[ptr e1])) := hide (fun W k => ⟨k.cell c1, k.cell h4, k.cell b2, k.cell h5, (k.frozen (World.block_lt_of_cell? _ _ h5)).trans f5, (k.frozen (World.block_lt_of_cell? _ _ b2)).trans f2, k.cell c6⟩)
  clear h hi hd hp hkp hkk he hvn er hR hb hH hT hG hQ hMC hpc p1 p2 hz fc h3 hd10 h11 h12 h13
  unfold ptr clo at *
  subst hnt
  go_enter Try.func56, Try.ntmps56
  go_wp2_with fail
  refine (HKd.out _ (Kp.refl w)).mono ?_
  rintro e wx ⟨rfl, mx, rfl⟩
  obtain ⟨w1, hw1⟩ : ∃ x, x = w.drewN mx := ⟨_, rfl⟩
  rw [← hw1]
  have kw1 : Kp w w1 := by rw [hw1]; exact (Kp.refl w).drewN
  clear hw1 c1 h4 b2 h5 f5 f2 c6
  obtain ⟨c1, h4, b2, h5, f5, f2, c6⟩ := HF.out _ kw1

  go_wp2_with fail
  refine (H11.out _ kw1).mono ?_
  rintro e wy ⟨rfl, r2⟩
  obtain ⟨g1, ⟨g2, g3⟩, g4⟩ := H12.out _ r2
  go_wp2
  exact HE.out _ r2
set_option maxRecDepth 100000 in
set_option maxHeartbeats 4000000 in
theorem mk4_addC (h : WN L s dv w) {i : Nat} (hi : i < L.nh) {d : Dd} (nv : Bool) (hnv : ((L.alg : Int) == 4) = nv) (hd : (L.P i)[s.deed i]? = some d) (hp : (s.hd i).plc = 2) (hkp : s.m.ky (s.hd i).p ≠ 10) (hd10 : d.key ≤ 9) (hkk : d.kind = 1) (hnt : nv = false) (hcl : clean s.m (s.hd i) = true) {e0 e1 e2 e3 e4 e5 e6 : Nat} (he : EMk L (L.Hb i) e0 e1 e2 e3 e4 e5 e6) (hvn : dv i ≠ .nilFunc) :
    Calls Try.prog 56 #[ptr e0, ptr e1, ptr e6, ptr e5, ptr e2] w (CP DMk L s dv i (markS nv s.m (s.hd i) d)) := by
  have c0 := h.cst he.c0
  have c1 := h.cst he.c1
  have c6 := h.cst he.c6
  have t0 : w.cell? ⟨L.T, 0, none⟩ = some (.int .i64 L.alg) := h.tb.1.cell 0
  obtain ⟨pv, cv, bb, -, -, -, h3, h4, h5, hz, -, hpc, -⟩ := h.hand hi
  obtain ⟨rfl, rfl, p1, p2⟩ := hpc (by omega)
  obtain ⟨-, -, b2, -, fc, -⟩ := h.bead p2
  have f5 := hz 5
  have f2 := fc 2
  have er : markS nv s.m (s.hd i) d = (s.m.ins (s.hd i).p (s.hd i).c d.key, { s.hd i with is := true }, true) := by unfold markS; rw [hp]; simp [hkk, hnt, hcl, hp]
  rw [er]
  have HKd := hide (fun W (k : Kp w W) => kind_quiet (h.kpw k) hi hd)
  have HCl : Hid (∀ W, Kp w W → Calls Try.prog 53 #[ptr e1] W (fun e w' => e = .returned (.bool true) ∧ ∃ m, w' = W.drewN m)) := hide (fun W k => by have := clean_any (h.kpw k) hi (by omega) hkp he; rw [hcl] at this; exact this)
  have HX : ∃ R2 : World → Prop, (∀ W, Kp w W → Calls Try.prog 43 #[ptr (L.Hb i)] W (fun e w' => e = .returned (.tuple #[]) ∧ R2 w')) ∧
      (∀ w1, R2 w1 → w1.cell? ⟨e1, 0, none⟩ = some (ptr (L.Hb i)) ∧ (∃ x, w1.cell? ⟨L.Hb i, 5, none⟩ = some x) ∧ w1.frozen? ⟨L.Hb i, 5, none⟩ = false) ∧
      (∀ w1, R2 w1 → CP DMk L s dv i (s.m.ins (s.hd i).p (s.hd i).c d.key, { s.hd i with is := true }, true) (.returned (.bool true)) (w1.setCell ⟨L.Hb i, 5, none⟩ (.bool true))) := by
    refine ⟨fun w1 => ∃ L', Lx L L' s.m.n ∧ WN L' { s with m := s.m.ins (s.hd i).p (s.hd i).c d.key } dv w1, fun W k => add_any (h.kpw k) hi hd (by omega) hkp (by omega), fun w1 h1 => ?_, fun w1 h1 => ?_⟩
    · obtain ⟨L', l1, h1⟩ := h1
      have a1 := h1.cst (he.lx l1).c1
      obtain ⟨_, _, _, _, _, _, _, _, x, y, _⟩ := h1.hand (i := i) (by rw [l1.2.2.2.1]; exact hi)
      rw [l1.2.1] at x y
      exact ⟨a1, ⟨_, x⟩, y 5⟩
    · obtain ⟨L', l1, h1⟩ := h1
      have h2 := h1.setis (i := i) (by rw [l1.2.2.2.1]; exact hi) true
      rw [l1.2.1] at h2
      exact ⟨rfl, L', dv, l1, h2, fun _ _ => rfl, hvn, fun e => absurd e (by simp)⟩
  obtain ⟨R2, h11, h12, h13⟩ := HX
  have H11 := hide h11
  have H12 := hide h12
  have HE := hide h13
  obtain ⟨R, hR⟩ : ∃ R, R = CP DMk L s dv i (s.m.ins (s.hd i).p (s.hd i).c d.key, { s.hd i with is := true }, true) := ⟨_, rfl⟩
  rw [← hR] at HE ⊢
  obtain ⟨b, hb⟩ : ∃ b, b = L.B (s.hd i).c := ⟨_, rfl⟩
  obtain ⟨H, hH⟩ : ∃ b, b = L.Hb i := ⟨_, rfl⟩
  obtain ⟨T, hT⟩ : ∃ b, b = L.T := ⟨_, rfl⟩
  obtain ⟨G, hG⟩ : ∃ b, b = (L.alg : Int) := ⟨_, rfl⟩
  obtain ⟨Q, hQ⟩ : ∃ b, b = d.kind := ⟨_, rfl⟩
  obtain ⟨MC, hMC⟩ : ∃ b, b = s.m.mr (s.hd i).c := ⟨_, rfl⟩
  rw [← hb] at h4 b2 f2
  rw [← hH] at c1 h3 h4 h5 f5 HKd H11 H12 HE
  rw [← hT] at c0 t0
  rw [← hG] at t0 hnv
  rw [← hQ] at HKd hkk
  rw [← hMC] at b2
  have q1 : (Q == 1) = true := by rw [hkk]; rfl
  have HF : Hid (∀ W, Kp w W → W.cell? ⟨e1, 0, none⟩ = some (ptr H) ∧ W.cell? ⟨H, 4, none⟩ = some (ptr b) ∧ W.cell? ⟨b, 2, none⟩ = some (.bool MC) ∧ W.cell? ⟨H, 5, none⟩ = some (.bool bb) ∧ W.frozen? ⟨H, 5, none⟩ = false ∧ W.frozen? ⟨b, 2, none⟩ = false ∧ W.cell? ⟨e6, 0, none⟩ = some (clo 53 #[ptr e1])) := hide (fun W k => ⟨k.cell c1, k.cell h4, k.cell b2, k.cell h5, (k.frozen (World.block_lt_of_cell? _ _ h5)).trans f5, (k.frozen (World.block_lt_of_cell? _ _ b2)).trans f2, k.cell c6⟩)
  clear h hi hd hp hkp hkk he hvn er hR hb hH hT hG hQ hMC hpc p1 p2 hz fc h3 hd10 hcl h11 h12 h13
  unfold ptr clo at *
  subst hnt
  go_enter Try.func56, Try.ntmps56
  go_wp2_with fail
  refine (HKd.out _ (Kp.refl w)).mono ?_
  rintro e wx ⟨rfl, mx, rfl⟩
  obtain ⟨w1, hw1⟩ : ∃ x, x = w.drewN mx := ⟨_, rfl⟩
  rw [← hw1]
  have kw1 : Kp w w1 := by rw [hw1]; exact (Kp.refl w).drewN
  clear hw1 c1 h4 b2 h5 f5 f2 c6
  obtain ⟨c1, h4, b2, h5, f5, f2, c6⟩ := HF.out _ kw1

  go_wp2_with fail
  refine (HCl.out _ kw1).mono ?_
  rintro e w2x ⟨rfl, mc, rfl⟩
  obtain ⟨w2, hw1⟩ : ∃ x, x = w1.drewN mc := ⟨_, rfl⟩
  rw [← hw1]
  have kw2 : Kp w w2 := by rw [hw1]; exact kw1.drewN
  clear hw1 c1 h4 b2 h5 f5 f2 c6
  obtain ⟨c1, h4, b2, h5, f5, f2, c6⟩ := HF.out _ kw2
  go_wp2_with fail
  refine (H11.out _ kw2).mono ?_
  rintro e wy ⟨rfl, r2⟩
  obtain ⟨g1, ⟨g2, g3⟩, g4⟩ := H12.out _ r2
  go_wp2
  exact HE.out _ r2
set_option maxRecDepth 100000 in
set_option maxHeartbeats 4000000 in
theorem mk4_addF (h : WN L s dv w) {i : Nat} (hi : i < L.nh) {d : Dd} (nv : Bool) (hnv : ((L.alg : Int) == 4) = nv) (hd : (L.P i)[s.deed i]? = some d) (hp : (s.hd i).plc = 2) (hkp : s.m.ky (s.hd i).p ≠ 10) (hkk : d.kind = 1) (hnt : nv = false) (hcl : clean s.m (s.hd i) = false) {e0 e1 e2 e3 e4 e5 e6 : Nat} (he : EMk L (L.Hb i) e0 e1 e2 e3 e4 e5 e6) (hvn : dv i ≠ .nilFunc) :
    Calls Try.prog 56 #[ptr e0, ptr e1, ptr e6, ptr e5, ptr e2] w (CP DMk L s dv i (markS nv s.m (s.hd i) d)) := by
  have c0 := h.cst he.c0
  have c1 := h.cst he.c1
  have c6 := h.cst he.c6
  have t0 : w.cell? ⟨L.T, 0, none⟩ = some (.int .i64 L.alg) := h.tb.1.cell 0
  obtain ⟨pv, cv, bb, -, -, -, h3, h4, h5, hz, -, hpc, -⟩ := h.hand hi
  obtain ⟨rfl, rfl, p1, p2⟩ := hpc (by omega)
  obtain ⟨-, -, b2, -, fc, -⟩ := h.bead p2
  have f5 := hz 5
  have f2 := fc 2
  have er : markS nv s.m (s.hd i) d = (s.m, { s.hd i with plc := 0 }, false) := by unfold markS; rw [hp]; simp [hkk, hnt, hcl, hp]
  rw [er]
  have HKd := hide (fun W (k : Kp w W) => kind_quiet (h.kpw k) hi hd)
  have HCl : Hid (∀ W, Kp w W → Calls Try.prog 53 #[ptr e1] W (fun e w' => e = .returned (.bool false) ∧ ∃ m, w' = W.drewN m)) := hide (fun W k => by have := clean_any (h.kpw k) hi (by omega) hkp he; rw [hcl] at this; exact this)
  have HX : ∃ R1 : World → Prop, (∀ W, Kp w W → R1 W) ∧ (∀ w1, R1 w1 → w1.cell? ⟨e1, 0, none⟩ = some (ptr (L.Hb i)) ∧ w1.cell? ⟨e2, 0, none⟩ = some (clo 54 #[ptr e0, ptr e1, ptr e3]) ∧ (∃ x, w1.cell? ⟨L.Hb i, 2, none⟩ = some x) ∧ w1.frozen? ⟨L.Hb i, 2, none⟩ = false) ∧
      (∀ w1, R1 w1 → CP DMk L s dv i (s.m, { s.hd i with plc := 0 }, false) (.returned (.bool false)) (w1.setCell ⟨L.Hb i, 2, none⟩ (clo 54 #[ptr e0, ptr e1, ptr e3]))) := by
    refine ⟨fun w1 => WN L s dv w1, fun W k => h.kpw k, fun w1 h1 => ⟨h1.cst he.c1, h1.cst he.c2, by obtain ⟨_, _, _, _, _, x, _, _, _, y, _⟩ := h1.hand hi; exact ⟨⟨_, x⟩, y 2⟩⟩, fun w1 h1 => ?_⟩
    have h2 := h1.setdo hi (clo 54 #[ptr e0, ptr e1, ptr e3]) 0 (fun e => absurd rfl e) hvn
    exact ⟨rfl, L, up dv i (clo 54 #[ptr e0, ptr e1, ptr e3]), Lx.refl _ _, h2, fun j hj => up_ne _ _ hj, by rw [up_same]; exact clo_nil _ _, fun _ => ⟨e0, e1, e2, e3, e4, e5, e6, he, by rw [up_same]; rfl⟩⟩
  obtain ⟨R1, h10, h12, h13⟩ := HX
  have H10 := hide h10
  have H12 := hide h12
  have HE := hide h13
  obtain ⟨R, hR⟩ : ∃ R, R = CP DMk L s dv i (s.m, { s.hd i with plc := 0 }, false) := ⟨_, rfl⟩
  rw [← hR] at HE ⊢
  obtain ⟨b, hb⟩ : ∃ b, b = L.B (s.hd i).c := ⟨_, rfl⟩
  obtain ⟨H, hH⟩ : ∃ b, b = L.Hb i := ⟨_, rfl⟩
  obtain ⟨T, hT⟩ : ∃ b, b = L.T := ⟨_, rfl⟩
  obtain ⟨G, hG⟩ : ∃ b, b = (L.alg : Int) := ⟨_, rfl⟩
  obtain ⟨Q, hQ⟩ : ∃ b, b = d.kind := ⟨_, rfl⟩
  obtain ⟨MC, hMC⟩ : ∃ b, b = s.m.mr (s.hd i).c := ⟨_, rfl⟩
  rw [← hb] at h4 b2 f2
  rw [← hH] at c1 h3 h4 h5 f5 HKd H12 HE
  rw [← hT] at c0 t0
  rw [← hG] at t0 hnv
  rw [← hQ] at HKd hkk
  rw [← hMC] at b2
  have q1 : (Q == 1) = true := by rw [hkk]; rfl
  have q2 : (Q == 2) = false := by rw [hkk]; rfl
  have HF : Hid (∀ W, Kp w W → W.cell? ⟨e1, 0, none⟩ = some (ptr H) ∧ W.cell? ⟨H, 4, none⟩ = some (ptr b) ∧ W.cell? ⟨b, 2, none⟩ = some (.bool MC) ∧ W.cell? ⟨H, 5, none⟩ = some (.bool bb) ∧ W.frozen? ⟨H, 5, none⟩ = false ∧ W.frozen? ⟨b, 2, none⟩ = false ∧ W.cell? ⟨e6, 0, none⟩ = some (clo 53 #[ptr e1])) := hide (fun W k => ⟨k.cell c1, k.cell h4, k.cell b2, k.cell h5, (k.frozen (World.block_lt_of_cell? _ _ h5)).trans f5, (k.frozen (World.block_lt_of_cell? _ _ b2)).trans f2, k.cell c6⟩)
  clear h hi hd hp hkp hkk he hvn er hR hb hH hT hG hQ hMC hpc p1 p2 hz fc h3 hcl h10 h12 h13
  unfold ptr clo at *
  subst hnt
  go_enter Try.func56, Try.ntmps56
  go_wp2_with fail
  refine (HKd.out _ (Kp.refl w)).mono ?_
  rintro e wx ⟨rfl, mx, rfl⟩
  obtain ⟨w1, hw1⟩ : ∃ x, x = w.drewN mx := ⟨_, rfl⟩
  rw [← hw1]
  have kw1 : Kp w w1 := by rw [hw1]; exact (Kp.refl w).drewN
  clear hw1 c1 h4 b2 h5 f5 f2 c6
  obtain ⟨c1, h4, b2, h5, f5, f2, c6⟩ := HF.out _ kw1

  go_wp2_with fail
  refine (HCl.out _ kw1).mono ?_
  rintro e w2x ⟨rfl, mc, rfl⟩
  obtain ⟨w2, hw1⟩ : ∃ x, x = w1.drewN mc := ⟨_, rfl⟩
  rw [← hw1]
  have kw2 : Kp w w2 := by rw [hw1]; exact kw1.drewN
  clear hw1 c1 h4 b2 h5 f5 f2 c6
  obtain ⟨c1, h4, b2, h5, f5, f2, c6⟩ := HF.out _ kw2
  go_wp2_with fail
  refine (HKd.out _ kw2).mono ?_
  rintro e w3x ⟨rfl, md, rfl⟩
  obtain ⟨w3, hw1⟩ : ∃ x, x = w2.drewN md := ⟨_, rfl⟩
  rw [← hw1]
  have kw3 : Kp w w3 := by rw [hw1]; exact kw2.drewN
  clear hw1 c1 h4 b2 h5 f5 f2 c6
  obtain ⟨c1, h4, b2, h5, f5, f2, c6⟩ := HF.out _ kw3
  go_wp2_with fail
  refine (HKd.out _ kw3).mono ?_
  rintro e w4x ⟨rfl, me, rfl⟩
  obtain ⟨w4, hw1⟩ : ∃ x, x = w3.drewN me := ⟨_, rfl⟩
  rw [← hw1]
  have kw4 : Kp w w4 := by rw [hw1]; exact kw3.drewN
  clear hw1 c1 h4 b2 h5 f5 f2 c6
  obtain ⟨c1, h4, b2, h5, f5, f2, c6⟩ := HF.out _ kw4
  have r1 := H10.out _ kw4
  obtain ⟨g1, g2, ⟨g3, g4⟩, g5⟩ := H12.out _ r1
  go_wp2
  exact HE.out _ r1
set_option maxRecDepth 100000 in
set_option maxHeartbeats 4000000 in
theorem mk4_cutF (h : WN L s dv w) {i : Nat} (hi : i < L.nh) {d : Dd} (nv : Bool) (hnv : ((L.alg : Int) == 4) = nv) (hd : (L.P i)[s.deed i]? = some d) (hp : (s.hd i).plc = 2) (hkp : s.m.ky (s.hd i).p ≠ 10) (hkk : d.kind = 2) (hnt : nv = false) (hmc : s.m.mr (s.hd i).c = true) {e0 e1 e2 e3 e4 e5 e6 : Nat} (he : EMk L (L.Hb i) e0 e1 e2 e3 e4 e5 e6) (hvn : dv i ≠ .nilFunc) :
    Calls Try.prog 56 #[ptr e0, ptr e1, ptr e6, ptr e5, ptr e2] w (CP DMk L s dv i (markS nv s.m (s.hd i) d)) := by
  have c0 := h.cst he.c0
  have c1 := h.cst he.c1
  have c6 := h.cst he.c6
  have t0 : w.cell? ⟨L.T, 0, none⟩ = some (.int .i64 L.alg) := h.tb.1.cell 0
  obtain ⟨pv, cv, bb, -, -, -, h3, h4, h5, hz, -, hpc, -⟩ := h.hand hi
  obtain ⟨rfl, rfl, p1, p2⟩ := hpc (by omega)
  obtain ⟨-, -, b2, -, fc, -⟩ := h.bead p2
  have f5 := hz 5
  have f2 := fc 2
  have er : markS nv s.m (s.hd i) d = (s.m, { s.hd i with plc := 0 }, false) := by unfold markS; rw [hp]; simp [hkk, hnt, hmc, hp]
  rw [er]
  have HKd := hide (fun W (k : Kp w W) => kind_quiet (h.kpw k) hi hd)
  have HX : ∃ R1 : World → Prop, (∀ W, Kp w W → R1 W) ∧ (∀ w1, R1 w1 → w1.cell? ⟨e1, 0, none⟩ = some (ptr (L.Hb i)) ∧ w1.cell? ⟨e2, 0, none⟩ = some (clo 54 #[ptr e0, ptr e1, ptr e3]) ∧ (∃ x, w1.cell? ⟨L.Hb i, 2, none⟩ = some x) ∧ w1.frozen? ⟨L.Hb i, 2, none⟩ = false) ∧
      (∀ w1, R1 w1 → CP DMk L s dv i (s.m, { s.hd i with plc := 0 }, false) (.returned (.bool false)) (w1.setCell ⟨L.Hb i, 2, none⟩ (clo 54 #[ptr e0, ptr e1, ptr e3]))) := by
    refine ⟨fun w1 => WN L s dv w1, fun W k => h.kpw k, fun w1 h1 => ⟨h1.cst he.c1, h1.cst he.c2, by obtain ⟨_, _, _, _, _, x, _, _, _, y, _⟩ := h1.hand hi; exact ⟨⟨_, x⟩, y 2⟩⟩, fun w1 h1 => ?_⟩
    have h2 := h1.setdo hi (clo 54 #[ptr e0, ptr e1, ptr e3]) 0 (fun e => absurd rfl e) hvn
    exact ⟨rfl, L, up dv i (clo 54 #[ptr e0, ptr e1, ptr e3]), Lx.refl _ _, h2, fun j hj => up_ne _ _ hj, by rw [up_same]; exact clo_nil _ _, fun _ => ⟨e0, e1, e2, e3, e4, e5, e6, he, by rw [up_same]; rfl⟩⟩
  obtain ⟨R1, h10, h12, h13⟩ := HX
  have H10 := hide h10
  have H12 := hide h12
  have HE := hide h13
  obtain ⟨R, hR⟩ : ∃ R, R = CP DMk L s dv i (s.m, { s.hd i with plc := 0 }, false) := ⟨_, rfl⟩
  rw [← hR] at HE ⊢
  obtain ⟨b, hb⟩ : ∃ b, b = L.B (s.hd i).c := ⟨_, rfl⟩
  obtain ⟨H, hH⟩ : ∃ b, b = L.Hb i := ⟨_, rfl⟩
  obtain ⟨T, hT⟩ : ∃ b, b = L.T := ⟨_, rfl⟩
  obtain ⟨G, hG⟩ : ∃ b, b = (L.alg : Int) := ⟨_, rfl⟩
  obtain ⟨Q, hQ⟩ : ∃ b, b = d.kind := ⟨_, rfl⟩
  obtain ⟨MC, hMC⟩ : ∃ b, b = s.m.mr (s.hd i).c := ⟨_, rfl⟩
  rw [← hb] at h4 b2 f2
  rw [← hH] at c1 h3 h4 h5 f5 HKd H12 HE
  rw [← hT] at c0 t0
  rw [← hG] at t0 hnv
  rw [← hQ] at HKd hkk
  rw [← hMC] at b2 hmc
  have q1 : (Q == 1) = false := by rw [hkk]; rfl
  have q2 : (Q == 2) = true := by rw [hkk]; rfl
  have HF : Hid (∀ W, Kp w W → W.cell? ⟨e1, 0, none⟩ = some (ptr H) ∧ W.cell? ⟨H, 4, none⟩ = some (ptr b) ∧ W.cell? ⟨b, 2, none⟩ = some (.bool MC) ∧ W.cell? ⟨H, 5, none⟩ = some (.bool bb) ∧ W.frozen? ⟨H, 5, none⟩ = false ∧ W.frozen? ⟨b, 2, none⟩ = false ∧ W.cell? ⟨e6, 0, none⟩ = some (clo 53 #[ptr e1])) := hide (fun W k => ⟨k.cell c1, k.cell h4, k.cell b2, k.cell h5, (k.frozen (World.block_lt_of_cell? _ _ h5)).trans f5, (k.frozen (World.block_lt_of_cell? _ _ b2)).trans f2, k.cell c6⟩)
  clear h hi hd hp hkp hkk he hvn er hR hb hH hT hG hQ hMC hpc p1 p2 hz fc h3 h10 h12 h13
  unfold ptr clo at *
  subst hnt hmc
  go_enter Try.func56, Try.ntmps56
  go_wp2_with fail
  refine (HKd.out _ (Kp.refl w)).mono ?_
  rintro e wx ⟨rfl, mx, rfl⟩
  obtain ⟨w1, hw1⟩ : ∃ x, x = w.drewN mx := ⟨_, rfl⟩
  rw [← hw1]
  have kw1 : Kp w w1 := by rw [hw1]; exact (Kp.refl w).drewN
  clear hw1 c1 h4 b2 h5 f5 f2 c6
  obtain ⟨c1, h4, b2, h5, f5, f2, c6⟩ := HF.out _ kw1

  go_wp2_with fail
  refine (HKd.out _ kw1).mono ?_
  rintro e w2x ⟨rfl, md, rfl⟩
  obtain ⟨w2, hw1⟩ : ∃ x, x = w1.drewN md := ⟨_, rfl⟩
  rw [← hw1]
  have kw2 : Kp w w2 := by rw [hw1]; exact kw1.drewN
  clear hw1 c1 h4 b2 h5 f5 f2 c6
  obtain ⟨c1, h4, b2, h5, f5, f2, c6⟩ := HF.out _ kw2
  go_wp2_with fail
  refine (HKd.out _ kw2).mono ?_
  rintro e w3x ⟨rfl, me, rfl⟩
  obtain ⟨w3, hw1⟩ : ∃ x, x = w2.drewN me := ⟨_, rfl⟩
  rw [← hw1]
  have kw3 : Kp w w3 := by rw [hw1]; exact kw2.drewN
  clear hw1 c1 h4 b2 h5 f5 f2 c6
  obtain ⟨c1, h4, b2, h5, f5, f2, c6⟩ := HF.out _ kw3
  have r1 := H10.out _ kw3
  obtain ⟨g1, g2, ⟨g3, g4⟩, g5⟩ := H12.out _ r1
  go_wp2
  exact HE.out _ r1
set_option maxRecDepth 100000 in
set_option maxHeartbeats 4000000 in
theorem mk4_mark (h : WN L s dv w) {i : Nat} (hi : i < L.nh) {d : Dd} (nv : Bool) (hnv : ((L.alg : Int) == 4) = nv) (hd : (L.P i)[s.deed i]? = some d) (hp : (s.hd i).plc = 2) (hkp : s.m.ky (s.hd i).p ≠ 10) (hkk : d.kind = 2) (hnt : nv = false) (hmc : s.m.mr (s.hd i).c = false) {e0 e1 e2 e3 e4 e5 e6 : Nat} (he : EMk L (L.Hb i) e0 e1 e2 e3 e4 e5 e6) (hvn : dv i ≠ .nilFunc) :
    Calls Try.prog 56 #[ptr e0, ptr e1, ptr e6, ptr e5, ptr e2] w (CP DMk L s dv i (markS nv s.m (s.hd i) d)) := by
  have c0 := h.cst he.c0
  have c1 := h.cst he.c1
  have c6 := h.cst he.c6
  have t0 : w.cell? ⟨L.T, 0, none⟩ = some (.int .i64 L.alg) := h.tb.1.cell 0
  obtain ⟨pv, cv, bb, -, -, -, h3, h4, h5, hz, -, hpc, -⟩ := h.hand hi
  obtain ⟨rfl, rfl, p1, p2⟩ := hpc (by omega)
  obtain ⟨-, -, b2, -, fc, -⟩ := h.bead p2
  have f5 := hz 5
  have f2 := fc 2
  have er : markS nv s.m (s.hd i) d = (s.m.mark (s.hd i).c, { s.hd i with plc := 3, is := true }, false) := by unfold markS; rw [hp]; simp [hkk, hnt, hmc, hp]
  rw [er]
  have HKd := hide (fun W (k : Kp w W) => kind_quiet (h.kpw k) hi hd)
  have n2 : ¬ L.B (s.hd i).c = L.Hb i := by obtain ⟨_, _, _, a, _⟩ := h.hn i hi; exact BC.ne (h.bd _ p2).1 a (by decide)
  have n3 : ¬ e1 = L.B (s.hd i).c := BC.ne (h.cs _ _ _ he.c1).1 (h.bd _ p2).1 (by decide)
  have HX : ∃ R1 : World → Prop, (∀ W W', Kp w W → Kp ((W.setCell ⟨L.B (s.hd i).c, 2, none⟩ (.bool true)).setCell ⟨L.Hb i, 5, none⟩ (.bool true)) W' → R1 W') ∧
      (∀ w1, R1 w1 → w1.cell? ⟨e1, 0, none⟩ = some (ptr (L.Hb i)) ∧ w1.cell? ⟨e5, 0, none⟩ = some (clo 57 #[ptr e6, ptr e1]) ∧ (∃ x, w1.cell? ⟨L.Hb i, 2, none⟩ = some x) ∧ w1.frozen? ⟨L.Hb i, 2, none⟩ = false) ∧
      (∀ w1, R1 w1 → CP DMk L s dv i (s.m.mark (s.hd i).c, { s.hd i with plc := 3, is := true }, false) (.returned (.bool false)) (w1.setCell ⟨L.Hb i, 2, none⟩ (clo 57 #[ptr e6, ptr e1]))) := by
    refine ⟨fun w1 => WN L { s with m := s.m.mark (s.hd i).c, hd := up s.hd i { s.hd i with is := true } } dv w1, fun W W' k k' => (((h.kpw k).setmr p2).setis hi true).kpw k', fun w1 h1 => ⟨h1.cst he.c1, h1.cst he.c5, by obtain ⟨_, _, _, _, _, x, _, _, _, y, _⟩ := h1.hand hi; exact ⟨⟨_, x⟩, y 2⟩⟩, fun w1 h1 => ?_⟩
    have h2 := h1.setdo hi (clo 57 #[ptr e6, ptr e1]) 3 (fun _ => by show (up s.hd i _ i).plc ≠ 0; rw [up_same]; show (s.hd i).plc ≠ 0; omega) hvn
    have h2 : WN L { s with m := s.m.mark (s.hd i).c, hd := up (up s.hd i { s.hd i with is := true }) i { up s.hd i { s.hd i with is := true } i with plc := 3 } } _ _ := h2
    rw [up_same, up_up] at h2
    exact ⟨rfl, L, up dv i (clo 57 #[ptr e6, ptr e1]), Lx.refl _ _, h2, fun j hj => up_ne _ _ hj, by rw [up_same]; exact clo_nil _ _, fun _ => ⟨e0, e1, e2, e3, e4, e5, e6, he, by rw [up_same]; rfl⟩⟩
  obtain ⟨R1, h10, h12, h13⟩ := HX
  have H10 := hide h10
  have H12 := hide h12
  have HE := hide h13
  obtain ⟨R, hR⟩ : ∃ R, R = CP DMk L s dv i (s.m.mark (s.hd i).c, { s.hd i with plc := 3, is := true }, false) := ⟨_, rfl⟩
  rw [← hR] at HE ⊢
  obtain ⟨b, hb⟩ : ∃ b, b = L.B (s.hd i).c := ⟨_, rfl⟩
  obtain ⟨H, hH⟩ : ∃ b, b = L.Hb i := ⟨_, rfl⟩
  obtain ⟨T, hT⟩ : ∃ b, b = L.T := ⟨_, rfl⟩
  obtain ⟨G, hG⟩ : ∃ b, b = (L.alg : Int) := ⟨_, rfl⟩
  obtain ⟨Q, hQ⟩ : ∃ b, b = d.kind := ⟨_, rfl⟩
  obtain ⟨MC, hMC⟩ : ∃ b, b = s.m.mr (s.hd i).c := ⟨_, rfl⟩
  rw [← hb] at h4 b2 f2 n2 n3 H10
  rw [← hH] at c1 h3 h4 h5 f5 HKd n2 H10 H12 HE
  rw [← hT] at c0 t0
  rw [← hG] at t0 hnv
  rw [← hQ] at HKd hkk
  rw [← hMC] at b2 hmc
  have q1 : (Q == 1) = false := by rw [hkk]; rfl
  have q2 : (Q == 2) = true := by rw [hkk]; rfl
  have HF : Hid (∀ W, Kp w W → W.cell? ⟨e1, 0, none⟩ = some (ptr H) ∧ W.cell? ⟨H, 4, none⟩ = some (ptr b) ∧ W.cell? ⟨b, 2, none⟩ = some (.bool MC) ∧ W.cell? ⟨H, 5, none⟩ = some (.bool bb) ∧ W.frozen? ⟨H, 5, none⟩ = false ∧ W.frozen? ⟨b, 2, none⟩ = false ∧ W.cell? ⟨e6, 0, none⟩ = some (clo 53 #[ptr e1])) := hide (fun W k => ⟨k.cell c1, k.cell h4, k.cell b2, k.cell h5, (k.frozen (World.block_lt_of_cell? _ _ h5)).trans f5, (k.frozen (World.block_lt_of_cell? _ _ b2)).trans f2, k.cell c6⟩)
  clear h hi hd hp hkp hkk he hvn er hR hb hH hT hG hQ hMC hpc p1 p2 hz fc h3 h10 h12 h13
  unfold ptr clo at *
  subst hnt hmc
  go_enter Try.func56, Try.ntmps56
  go_wp2_with fail
  refine (HKd.out _ (Kp.refl w)).mono ?_
  rintro e wx ⟨rfl, mx, rfl⟩
  obtain ⟨w1, hw1⟩ : ∃ x, x = w.drewN mx := ⟨_, rfl⟩
  rw [← hw1]
  have kw1 : Kp w w1 := by rw [hw1]; exact (Kp.refl w).drewN
  clear hw1 c1 h4 b2 h5 f5 f2 c6
  obtain ⟨c1, h4, b2, h5, f5, f2, c6⟩ := HF.out _ kw1

  go_wp2_with fail
  refine (HKd.out _ kw1).mono ?_
  rintro e w2x ⟨rfl, md, rfl⟩
  obtain ⟨w2, hw1⟩ : ∃ x, x = w1.drewN md := ⟨_, rfl⟩
  rw [← hw1]
  have kw2 : Kp w w2 := by rw [hw1]; exact kw1.drewN
  clear hw1 c1 h4 b2 h5 f5 f2 c6
  obtain ⟨c1, h4, b2, h5, f5, f2, c6⟩ := HF.out _ kw2
  go_wp2_with fail
  refine (HKd.out _ kw2).mono ?_
  rintro e w3x ⟨rfl, me, rfl⟩
  obtain ⟨w3, hw1⟩ : ∃ x, x = w2.drewN me := ⟨_, rfl⟩
  rw [← hw1]
  have kw3 : Kp w w3 := by rw [hw1]; exact kw2.drewN
  clear hw1 c1 h4 b2 h5 f5 f2 c6
  obtain ⟨c1, h4, b2, h5, f5, f2, c6⟩ := HF.out _ kw3
  go_wp2_with fail
  go_region_law (fail)
  all_goals
    have r1 : R1 _ := H10.out w3 _ kw3 (Kp.refl _).drew
    obtain ⟨g1, g2, ⟨g3, g4⟩, g5⟩ := H12.out _ r1
    go_wp2
    exact HE.out _ r1
end Go.Proofs.Ytoihdnekkgpcoaa
namespace Go.Proofs.Ytoihdnekkgpcoaa
open Go.ChangeShapes Go.WideShapes Go.ChangeAt Go.RowKit
set_option linter.unusedVariables false
set_option linter.unusedSimpArgs false

variable {L : Lay} {s : St} {dv : Nat → Value} {w w' : World}
set_option maxRecDepth 100000 in
set_option maxHeartbeats 4000000 in
theorem mk4_cutN (h : WN L s dv w) {i : Nat} (hi : i < L.nh) {d : Dd} (nv : Bool) (hnv : ((L.alg : Int) == 4) = nv) (hd : (L.P i)[s.deed i]? = some d) (hp : (s.hd i).plc = 2) (hkp : s.m.ky (s.hd i).p ≠ 10) (hkc : s.m.ky (s.hd i).c ≠ 10) (hne : (s.hd i).p ≠ (s.hd i).c) (hkk : d.kind = 2) (hnt : nv = true) {e0 e1 e2 e3 e4 e5 e6 : Nat} (he : EMk L (L.Hb i) e0 e1 e2 e3 e4 e5 e6) (hvn : dv i ≠ .nilFunc) :
    Calls Try.prog 56 #[ptr e0, ptr e1, ptr e6, ptr e5, ptr e2] w (CP DMk L s dv i (markS nv s.m (s.hd i) d)) := by
  have c0 := h.cst he.c0
  have c1 := h.cst he.c1
  have c6 := h.cst he.c6
  have t0 : w.cell? ⟨L.T, 0, none⟩ = some (.int .i64 L.alg) := h.tb.1.cell 0
  obtain ⟨pv, cv, bb, -, -, -, h3, h4, h5, hz, -, hpc, -⟩ := h.hand hi
  obtain ⟨rfl, rfl, p1, p2⟩ := hpc (by omega)
  obtain ⟨-, -, b2, -, fc, -⟩ := h.bead p2
  have f5 := hz 5
  have f2 := fc 2
  have er : markS nv s.m (s.hd i) d = (s.m.drop (s.hd i).p (s.hd i).c, { s.hd i with is := true }, true) := by unfold markS; rw [hp]; simp [hkk, hnt, hp]
  rw [er]
  have HKd := hide (fun W (k : Kp w W) => kind_quiet (h.kpw k) hi hd)
  obtain ⟨-, v1, -⟩ := h.bead p2
  rw [if_neg hkc] at v1
  obtain ⟨-, u1, -, -, u4, -⟩ := h.bead p1
  rw [if_neg hkp] at u1
  have u41 := u4 1
  have n2 : ¬ L.B (s.hd i).p = L.Hb i := by obtain ⟨_, _, _, a, _⟩ := h.hn i hi; exact BC.ne (h.bd _ p1).1 a (by decide)
  have n3 : ¬ e1 = L.B (s.hd i).p := BC.ne (h.cs _ _ _ he.c1).1 (h.bd _ p1).1 (by decide)
  have n4 : ¬ L.B (s.hd i).c = L.Hb i := by obtain ⟨_, _, _, a, _⟩ := h.hn i hi; exact BC.ne (h.bd _ p2).1 a (by decide)
  have n5 : ¬ e1 = L.Hb i := by obtain ⟨_, _, _, a, _⟩ := h.hn i hi; exact BC.ne (h.cs _ _ _ he.c1).1 a (by decide)
  have n6 : ¬ L.B (s.hd i).c = L.B (s.hd i).p := fun e => hne (h.bi _ _ p2 p1 e).symm
  have HE : Hid (∀ W W', Kp w W → Kp ((W.setCell ⟨L.B (s.hd i).p, 1, none⟩ (ptr (L.B (s.m.nx (s.hd i).c)))).setCell ⟨L.Hb i, 5, none⟩ (.bool true)) W' → CP DMk L s dv i (s.m.drop (s.hd i).p (s.hd i).c, { s.hd i with is := true }, true) (.returned (.bool true)) W') := hide (fun W W' k k' => ⟨rfl, L, dv, Lx.refl _ _, (((h.kpw k).setnx p1 (h.nn _ p2) hkp).setis hi true).kpw k', fun _ _ => rfl, hvn, fun e => absurd e (by simp)⟩)
  obtain ⟨b9, hb9⟩ : ∃ b, b = L.B (s.hd i).p := ⟨_, rfl⟩
  obtain ⟨b8, hb8⟩ : ∃ b, b = L.B (s.m.nx (s.hd i).c) := ⟨_, rfl⟩
  rw [← hb9] at h3 u1 u41 n2 n3 n6 HE
  rw [← hb8] at v1 HE
  have HG0 : Hid (∀ W, Kp w W → W.cell? ⟨L.Hb i, 3, none⟩ = some (ptr b9) ∧ W.cell? ⟨L.B (s.hd i).c, 1, none⟩ = some (ptr b8) ∧ (∃ x, W.cell? ⟨b9, 1, none⟩ = some x) ∧ W.frozen? ⟨b9, 1, none⟩ = false) := hide (fun W k => ⟨k.cell h3, k.cell v1, ⟨_, k.cell u1⟩, (k.frozen (World.block_lt_of_cell? _ _ u1)).trans u41⟩)
  clear v1 u1 u4 u41 hb9 hb8
  obtain ⟨R, hR⟩ : ∃ R, R = CP DMk L s dv i (s.m.drop (s.hd i).p (s.hd i).c, { s.hd i with is := true }, true) := ⟨_, rfl⟩
  rw [← hR] at HE ⊢
  obtain ⟨b, hb⟩ : ∃ b, b = L.B (s.hd i).c := ⟨_, rfl⟩
  obtain ⟨H, hH⟩ : ∃ b, b = L.Hb i := ⟨_, rfl⟩
  obtain ⟨T, hT⟩ : ∃ b, b = L.T := ⟨_, rfl⟩
  obtain ⟨G, hG⟩ : ∃ b, b = (L.alg : Int) := ⟨_, rfl⟩
  obtain ⟨Q, hQ⟩ : ∃ b, b = d.kind := ⟨_, rfl⟩
  obtain ⟨MC, hMC⟩ : ∃ b, b = s.m.mr (s.hd i).c := ⟨_, rfl⟩
  rw [← hb] at h4 b2 f2 HG0 n4 n6
  rw [← hH] at c1 h3 h4 h5 f5 HKd HE HG0 n2 n4 n5
  rw [← hT] at c0 t0
  rw [← hG] at t0 hnv
  rw [← hQ] at HKd hkk
  rw [← hMC] at b2
  have q1 : (Q == 1) = false := by rw [hkk]; rfl
  have q2 : (Q == 2) = true := by rw [hkk]; rfl
  have HF : Hid (∀ W, Kp w W → W.cell? ⟨e1, 0, none⟩ = some (ptr H) ∧ W.cell? ⟨H, 4, none⟩ = some (ptr b) ∧ W.cell? ⟨b, 2, none⟩ = some (.bool MC) ∧ W.cell? ⟨H, 5, none⟩ = some (.bool bb) ∧ W.frozen? ⟨H, 5, none⟩ = false ∧ W.frozen? ⟨b, 2, none⟩ = false ∧ W.cell? ⟨e6, 0, none⟩ = some (clo 53 #[ptr e1])) := hide (fun W k => ⟨k.cell c1, k.cell h4, k.cell b2, k.cell h5, (k.frozen (World.block_lt_of_cell? _ _ h5)).trans f5, (k.frozen (World.block_lt_of_cell? _ _ b2)).trans f2, k.cell c6⟩)
  clear h hi hd hp hkp hkk he hvn er hR hb hH hT hG hQ hMC hpc p1 p2 hz fc h3 hkc hne
  unfold ptr clo at *
  subst hnt
  go_enter Try.func56, Try.ntmps56
  go_wp2_with fail
  refine (HKd.out _ (Kp.refl w)).mono ?_
  rintro e wx ⟨rfl, mx, rfl⟩
  obtain ⟨w1, hw1⟩ : ∃ x, x = w.drewN mx := ⟨_, rfl⟩
  rw [← hw1]
  have kw1 : Kp w w1 := by rw [hw1]; exact (Kp.refl w).drewN
  clear hw1 c1 h4 b2 h5 f5 f2 c6
  obtain ⟨c1, h4, b2, h5, f5, f2, c6⟩ := HF.out _ kw1

  go_wp2_with fail
  refine (HKd.out _ kw1).mono ?_
  rintro e w2x ⟨rfl, md, rfl⟩
  obtain ⟨w2, hw1⟩ : ∃ x, x = w1.drewN md := ⟨_, rfl⟩
  rw [← hw1]
  have kw2 : Kp w w2 := by rw [hw1]; exact kw1.drewN
  clear hw1 c1 h4 b2 h5 f5 f2 c6
  obtain ⟨c1, h4, b2, h5, f5, f2, c6⟩ := HF.out _ kw2
  go_wp2_with fail
  obtain ⟨g3, g1, ⟨x1, g5⟩, g7⟩ := HG0.out _ kw2
  obtain ⟨W0, hW0⟩ : ∃ W0, W0 = w2.drew := ⟨_, rfl⟩
  obtain ⟨W1, hW1⟩ : ∃ W1, W1 = W0.setCell ⟨b9, 1, none⟩ (.pointer (some ⟨b8, 0, none⟩)) := ⟨_, rfl⟩
  obtain ⟨W2, hW2⟩ : ∃ W2, W2 = W1.setCell ⟨H, 5, none⟩ (.bool true) := ⟨_, rfl⟩
  have n47 : ¬ H = b9 := fun e => n2 e.symm
  have r4 : ∀ n, R (.returned (.bool true)) (W2.drewN n) := fun n => HE.out w2 _ kw2 (by rw [hW2, hW1, hW0]; exact ((Kp.refl _).drew).drewN)
  have B0 : W0.cell? ⟨e1, 0, none⟩ = some (.pointer (some ⟨H, 0, none⟩)) ∧ W1.cell? ⟨e1, 0, none⟩ = some (.pointer (some ⟨H, 0, none⟩)) ∧ W2.cell? ⟨e1, 0, none⟩ = some (.pointer (some ⟨H, 0, none⟩)) := by
    rw [hW2, hW1, hW0]; refine ⟨c1, ?_, ?_⟩ <;> simp [go_sem, c1, n3, n5]
  have B3 : W0.cell? ⟨H, 3, none⟩ = some (.pointer (some ⟨b9, 0, none⟩)) ∧ W1.cell? ⟨H, 3, none⟩ = some (.pointer (some ⟨b9, 0, none⟩)) ∧ W2.cell? ⟨H, 3, none⟩ = some (.pointer (some ⟨b9, 0, none⟩)) := by
    rw [hW2, hW1, hW0]; refine ⟨g3, ?_, ?_⟩ <;> simp [go_sem, g3, n47]
  have B4 : W0.cell? ⟨H, 4, none⟩ = some (.pointer (some ⟨b, 0, none⟩)) ∧ W1.cell? ⟨H, 4, none⟩ = some (.pointer (some ⟨b, 0, none⟩)) ∧ W2.cell? ⟨H, 4, none⟩ = some (.pointer (some ⟨b, 0, none⟩)) := by
    rw [hW2, hW1, hW0]; refine ⟨h4, ?_, ?_⟩ <;> simp [go_sem, h4, n47]
  have B1 : W0.cell? ⟨b, 1, none⟩ = some (.pointer (some ⟨b8, 0, none⟩)) ∧ W1.cell? ⟨b, 1, none⟩ = some (.pointer (some ⟨b8, 0, none⟩)) ∧ W2.cell? ⟨b, 1, none⟩ = some (.pointer (some ⟨b8, 0, none⟩)) := by
    rw [hW2, hW1, hW0]; refine ⟨g1, ?_, ?_⟩ <;> simp [go_sem, g1, n6, n4]
  have S1 : W0.cell? ⟨b9, 1, none⟩ = some x1 := by rw [hW0]; exact g5
  have T1 : W0.frozen? ⟨b9, 1, none⟩ = false := by rw [hW0]; exact g7
  have S2 : W1.cell? ⟨H, 5, none⟩ = some (.bool bb) := by rw [hW1, hW0]; simp [go_sem, h5, n47]
  have T2 : W1.frozen? ⟨H, 5, none⟩ = false := by rw [hW1, hW0]; simp [go_sem, f5]
  refine wp_region_tab (by kernel_rfl) [(39, .pointer (some ⟨H, 0, none⟩)), (40, .pointer (some ⟨H, 0, none⟩)), (41, .pointer (some ⟨H, 3, none⟩)), (42, .pointer (some ⟨b9, 0, none⟩)), (43, .pointer (some ⟨H, 0, none⟩)), (44, .pointer (some ⟨H, 0, none⟩)), (45, .pointer (some ⟨H, 0, none⟩)), (46, .pointer (some ⟨H, 4, none⟩)), (47, .pointer (some ⟨b, 0, none⟩)), (48, .pointer (some ⟨b, 0, none⟩)), (49, .pointer (some ⟨b, 1, none⟩)), (50, .pointer (some ⟨b8, 0, none⟩)), (51, .pointer (some ⟨b9, 0, none⟩)), (52, .pointer (some ⟨b9, 1, none⟩)), (53, .pointer (some ⟨H, 0, none⟩)), (54, .pointer (some ⟨H, 5, none⟩))] (fun _ _ _ => True) (JN W0 W1 W2 14 17) (by rw [hW0]; exact JN.start (by decide) (by decide)) (by kernel_rfl) (by kernel_rfl) ?_ ?_
  · refine ⟨?_, ?_, ?_, ?_, ?_, ?_, ?_, ?_, ?_, ?_, ?_, ?_, ?_, ?_, ?_, ?_, ?_, ?_, trivial⟩
    · intro hop L a w5 hs hk hl ha keep know spec
      have h1 := keep 1 (.pointer (some ⟨e1, 0, none⟩)) (by kernel_rfl) rfl
      have q := hk.cell B0
      exact wpOp_value hop (wanted_none rfl) (v := .pointer (some ⟨H, 0, none⟩)) (by simp only [execOp, Act.eval, h1]; go_simp) ⟨_, rfl, (hk.go (by decide) (by decide)), (fun d hd => by injection hd with hd; subst hd; exact ⟨tab rfl, trivial⟩), fun _ _ h => h⟩
    · intro hop L a w5 hs hk hl ha keep know spec
      have h39 := know 39 (.pointer (some ⟨H, 0, none⟩)) (by kernel_rfl) rfl
      exact wpOp_value hop (wanted_none rfl) (v := .pointer (some ⟨H, 0, none⟩)) (by simp only [execOp, Act.eval, h39]; go_simp) ⟨_, rfl, (hk.go (by decide) (by decide)), (fun d hd => by injection hd with hd; subst hd; exact ⟨tab rfl, trivial⟩), fun _ _ h => h⟩
    · intro hop L a w5 hs hk hl ha keep know spec
      have h40 := know 40 (.pointer (some ⟨H, 0, none⟩)) (by kernel_rfl) rfl
      exact wpOp_value hop (wanted_none rfl) (v := .pointer (some ⟨H, 3, none⟩)) (by simp only [execOp, Act.eval, h40]; go_simp) ⟨_, rfl, (hk.go (by decide) (by decide)), (fun d hd => by injection hd with hd; subst hd; exact ⟨tab rfl, trivial⟩), fun _ _ h => h⟩
    · intro hop L a w5 hs hk hl ha keep know spec
      have h41 := know 41 (.pointer (some ⟨H, 3, none⟩)) (by kernel_rfl) rfl
      have q := hk.cell B3
      exact wpOp_value hop (wanted_none rfl) (v := .pointer (some ⟨b9, 0, none⟩)) (by simp only [execOp, Act.eval, h41]; go_simp) ⟨_, rfl, (hk.go (by decide) (by decide)), (fun d hd => by injection hd with hd; subst hd; exact ⟨tab rfl, trivial⟩), fun _ _ h => h⟩
    · intro hop L a w5 hs hk hl ha keep know spec
      have h1 := keep 1 (.pointer (some ⟨e1, 0, none⟩)) (by kernel_rfl) rfl
      have q := hk.cell B0
      exact wpOp_value hop (wanted_none rfl) (v := .pointer (some ⟨H, 0, none⟩)) (by simp only [execOp, Act.eval, h1]; go_simp) ⟨_, rfl, (hk.go (by decide) (by decide)), (fun d hd => by injection hd with hd; subst hd; exact ⟨tab rfl, trivial⟩), fun _ _ h => h⟩
    · intro hop L a w5 hs hk hl ha keep know spec
      have h1 := keep 1 (.pointer (some ⟨e1, 0, none⟩)) (by kernel_rfl) rfl
      have q := hk.cell B0
      exact wpOp_value hop (wanted_none rfl) (v := .pointer (some ⟨H, 0, none⟩)) (by simp only [execOp, Act.eval, h1]; go_simp) ⟨_, rfl, (hk.go (by decide) (by decide)), (fun d hd => by injection hd with hd; subst hd; exact ⟨tab rfl, trivial⟩), fun _ _ h => h⟩
    · intro hop L a w5 hs hk hl ha keep know spec
      have h44 := know 44 (.pointer (some ⟨H, 0, none⟩)) (by kernel_rfl) rfl
      exact wpOp_value hop (wanted_none rfl) (v := .pointer (some ⟨H, 0, none⟩)) (by simp only [execOp, Act.eval, h44]; go_simp) ⟨_, rfl, (hk.go (by decide) (by decide)), (fun d hd => by injection hd with hd; subst hd; exact ⟨tab rfl, trivial⟩), fun _ _ h => h⟩
    · intro hop L a w5 hs hk hl ha keep know spec
      have h45 := know 45 (.pointer (some ⟨H, 0, none⟩)) (by kernel_rfl) rfl
      exact wpOp_value hop (wanted_none rfl) (v := .pointer (some ⟨H, 4, none⟩)) (by simp only [execOp, Act.eval, h45]; go_simp) ⟨_, rfl, (hk.go (by decide) (by decide)), (fun d hd => by injection hd with hd; subst hd; exact ⟨tab rfl, trivial⟩), fun _ _ h => h⟩
    · intro hop L a w5 hs hk hl ha keep know spec
      have h46 := know 46 (.pointer (some ⟨H, 4, none⟩)) (by kernel_rfl) rfl
      have q := hk.cell B4
      exact wpOp_value hop (wanted_none rfl) (v := .pointer (some ⟨b, 0, none⟩)) (by simp only [execOp, Act.eval, h46]; go_simp) ⟨_, rfl, (hk.go (by decide) (by decide)), (fun d hd => by injection hd with hd; subst hd; exact ⟨tab rfl, trivial⟩), fun _ _ h => h⟩
    · intro hop L a w5 hs hk hl ha keep know spec
      have h47 := know 47 (.pointer (some ⟨b, 0, none⟩)) (by kernel_rfl) rfl
      exact wpOp_value hop (wanted_none rfl) (v := .pointer (some ⟨b, 0, none⟩)) (by simp only [execOp, Act.eval, h47]; go_simp) ⟨_, rfl, (hk.go (by decide) (by decide)), (fun d hd => by injection hd with hd; subst hd; exact ⟨tab rfl, trivial⟩), fun _ _ h => h⟩
    · intro hop L a w5 hs hk hl ha keep know spec
      have h48 := know 48 (.pointer (some ⟨b, 0, none⟩)) (by kernel_rfl) rfl
      exact wpOp_value hop (wanted_none rfl) (v := .pointer (some ⟨b, 1, none⟩)) (by simp only [execOp, Act.eval, h48]; go_simp) ⟨_, rfl, (hk.go (by decide) (by decide)), (fun d hd => by injection hd with hd; subst hd; exact ⟨tab rfl, trivial⟩), fun _ _ h => h⟩
    · intro hop L a w5 hs hk hl ha keep know spec
      have h49 := know 49 (.pointer (some ⟨b, 1, none⟩)) (by kernel_rfl) rfl
      have q := hk.cell B1
      exact wpOp_value hop (wanted_none rfl) (v := .pointer (some ⟨b8, 0, none⟩)) (by simp only [execOp, Act.eval, h49]; go_simp) ⟨_, rfl, (hk.go (by decide) (by decide)), (fun d hd => by injection hd with hd; subst hd; exact ⟨tab rfl, trivial⟩), fun _ _ h => h⟩
    · intro hop L a w5 hs hk hl ha keep know spec
      have h42 := know 42 (.pointer (some ⟨b9, 0, none⟩)) (by kernel_rfl) rfl
      exact wpOp_value hop (wanted_none rfl) (v := .pointer (some ⟨b9, 0, none⟩)) (by simp only [execOp, Act.eval, h42]; go_simp) ⟨_, rfl, (hk.go (by decide) (by decide)), (fun d hd => by injection hd with hd; subst hd; exact ⟨tab rfl, trivial⟩), fun _ _ h => h⟩
    · intro hop L a w5 hs hk hl ha keep know spec
      have h51 := know 51 (.pointer (some ⟨b9, 0, none⟩)) (by kernel_rfl) rfl
      exact wpOp_value hop (wanted_none rfl) (v := .pointer (some ⟨b9, 1, none⟩)) (by simp only [execOp, Act.eval, h51]; go_simp) ⟨_, rfl, (hk.go (by decide) (by decide)), (fun d hd => by injection hd with hd; subst hd; exact ⟨tab rfl, trivial⟩), fun _ _ h => h⟩
    · intro hop L a w5 hs hk hl ha keep know spec
      have h52 := know 52 (.pointer (some ⟨b9, 1, none⟩)) (by kernel_rfl) rfl
      have h50 := know 50 (.pointer (some ⟨b8, 0, none⟩)) (by kernel_rfl) rfl
      obtain ⟨⟨n5, e5⟩, hk2⟩ := hk.st1 hl (by decide) (p := ⟨b9, 1, none⟩) (v := .pointer (some ⟨b8, 0, none⟩)) hW1
      have q : w5.cell? ⟨b9, 1, none⟩ = some _ := (congrArg (fun W : World => W.cell? ⟨b9, 1, none⟩) e5).trans S1
      have r : w5.frozen? ⟨b9, 1, none⟩ = false := (congrArg (fun W : World => W.frozen? ⟨b9, 1, none⟩) e5).trans T1
      exact wpOp_skip hop (wanted_none rfl) (w' := w5.setCell ⟨b9, 1, none⟩ (.pointer (some ⟨b8, 0, none⟩))) (by simp only [execOp, Act.eval, h52, h50]; go_simp) ⟨_, rfl, hk2, (fun d hd => by cases hd), fun _ _ h => h⟩
    · intro hop L a w5 hs hk hl ha keep know spec
      have h43 := know 43 (.pointer (some ⟨H, 0, none⟩)) (by kernel_rfl) rfl
      exact wpOp_value hop (wanted_none rfl) (v := .pointer (some ⟨H, 0, none⟩)) (by simp only [execOp, Act.eval, h43]; go_simp) ⟨_, rfl, (hk.go (by decide) (by decide)), (fun d hd => by injection hd with hd; subst hd; exact ⟨tab rfl, trivial⟩), fun _ _ h => h⟩
    · intro hop L a w5 hs hk hl ha keep know spec
      have h53 := know 53 (.pointer (some ⟨H, 0, none⟩)) (by kernel_rfl) rfl
      exact wpOp_value hop (wanted_none rfl) (v := .pointer (some ⟨H, 5, none⟩)) (by simp only [execOp, Act.eval, h53]; go_simp) ⟨_, rfl, (hk.go (by decide) (by decide)), (fun d hd => by injection hd with hd; subst hd; exact ⟨tab rfl, trivial⟩), fun _ _ h => h⟩
    · intro hop L a w5 hs hk hl ha keep know spec
      have h54 := know 54 (.pointer (some ⟨H, 5, none⟩)) (by kernel_rfl) rfl
      obtain ⟨⟨n5, e5⟩, hk2⟩ := hk.st2 hl (after_done ha (k := 14) (by kernel_rfl)) (p := ⟨H, 5, none⟩) (v := .bool true) hW2
      have q : w5.cell? ⟨H, 5, none⟩ = some _ := (congrArg (fun W : World => W.cell? ⟨H, 5, none⟩) e5).trans S2
      have r : w5.frozen? ⟨H, 5, none⟩ = false := (congrArg (fun W : World => W.frozen? ⟨H, 5, none⟩) e5).trans T2
      exact wpOp_skip hop (wanted_none rfl) (w' := w5.setCell ⟨H, 5, none⟩ (.bool true)) (by simp only [execOp, Act.eval, h54]; go_simp) ⟨_, rfl, hk2, (fun d hd => by cases hd), fun _ _ h => h⟩
  · intro a' w7 e1x e2x hk keep know spec
    obtain ⟨tm, df⟩ := a'
    obtain ⟨f, hf⟩ := frame_puts (D := [39, 40, 41, 42, 43, 44, 45, 46, 47, 48, 49, 50, 51, 52, 53, 54]) e2x keep
    have e3x : df = [] := e1x
    obtain ⟨n7, e6x⟩ := hk.done (n := 18) (by decide) (by decide)
    have r5 := r4 n7
    rw [← e6x] at r5
    clear keep know spec e1x e2x hk r4 B0 B1 B3 B4 S1 S2 T1 T2 hW0 hW1 hW2 e6x
    simp only [List.foldl_cons, List.foldl_nil] at hf
    subst e3x
    rw [hf]
    clear hf
    go_wp2
    exact r5
set_option maxRecDepth 100000 in
set_option maxHeartbeats 4000000 in
theorem mk5_any (h : WN L s dv w) {i : Nat} (hi : i < L.nh) {d : Dd} (nv : Bool) (hp : (s.hd i).plc = 3) (hne : (s.hd i).p ≠ (s.hd i).c) (hkp : s.m.ky (s.hd i).p ≠ 10) (hkc : s.m.ky (s.hd i).c ≠ 10) {e0 e1 e2 e3 e4 e5 e6 : Nat} (he : EMk L (L.Hb i) e0 e1 e2 e3 e4 e5 e6) (hvn : dv i ≠ .nilFunc) :
    Calls Try.prog 57 #[ptr e6, ptr e1] w (CP DMk L s dv i (markS nv s.m (s.hd i) d)) := by
  have c1 := h.cst he.c1
  have c6 := h.cst he.c6
  obtain ⟨pv, cv, bb, -, -, -, h3, h4, -, hz, n1, hpc, -⟩ := h.hand hi
  obtain ⟨rfl, rfl, p1, p2⟩ := hpc (by omega)
  obtain ⟨-, b1, -⟩ := h.bead p2
  obtain ⟨-, q1, -, -, fp, -⟩ := h.bead p1
  rw [if_neg hkc] at b1
  rw [if_neg hkp] at q1
  have f1 := fp 1
  have HCl : Hid (∀ W, Kp w W → Calls Try.prog 53 #[ptr e1] W (fun e w' => e = .returned (.bool (clean s.m (s.hd i))) ∧ ∃ m, w' = W.drewN m)) := hide (fun W k => clean_any (h.kpw k) hi (by omega) hkp he)
  have n3 : ¬ e1 = L.B (s.hd i).p := BC.ne (h.cs _ _ _ he.c1).1 (h.bd _ p1).1 (by decide)
  have n4 : ¬ L.B (s.hd i).p = L.B (s.hd i).c := fun e => hne (h.bi _ _ p1 p2 e)
  have n5 : ¬ L.B (s.hd i).p = L.Hb i := by obtain ⟨_, _, _, a, _⟩ := h.hn i hi; exact BC.ne (h.bd _ p1).1 a (by decide)
  have er : markS nv s.m (s.hd i) d = (if clean s.m (s.hd i) then s.m.drop (s.hd i).p (s.hd i).c else s.m, s.hd i, true) := by unfold markS; rw [hp]; rfl
  have H0 : Hid (clean s.m (s.hd i) = true → ∀ W W', Kp w W → Kp (W.setCell ⟨L.B (s.hd i).p, 1, none⟩ (ptr (L.B (s.m.nx (s.hd i).c)))) W' → CP DMk L s dv i (markS nv s.m (s.hd i) d) (.returned (.bool true)) W') := hide (fun hcl W W' k k' => by
    rw [er, if_pos hcl]
    refine ⟨rfl, L, dv, Lx.refl _ _, ?_, fun _ _ => rfl, hvn, fun e => absurd e (by simp)⟩
    simp only [up_self]
    exact ((h.kpw k).setnx p1 (h.nn _ p2) hkp).kpw k')
  have H1 : Hid (clean s.m (s.hd i) = false → ∀ W, Kp w W → CP DMk L s dv i (markS nv s.m (s.hd i) d) (.returned (.bool true)) W) := hide (fun hcl W k => by
    rw [er, hcl]
    refine ⟨rfl, L, dv, Lx.refl _ _, ?_, fun _ _ => rfl, hvn, fun e => absurd e (by simp)⟩
    simp only [up_self]
    exact h.kpw k)
  obtain ⟨R, hR⟩ : ∃ R, R = CP DMk L s dv i (markS nv s.m (s.hd i) d) := ⟨_, rfl⟩
  rw [← hR] at H0 H1 ⊢
  obtain ⟨b, hb⟩ : ∃ b, b = L.B (s.hd i).c := ⟨_, rfl⟩
  obtain ⟨b9, hb9⟩ : ∃ b, b = L.B (s.hd i).p := ⟨_, rfl⟩
  obtain ⟨b8, hb8⟩ : ∃ b, b = L.B (s.m.nx (s.hd i).c) := ⟨_, rfl⟩
  obtain ⟨b7, hb7⟩ : ∃ b, b = L.B (s.m.nx (s.hd i).p) := ⟨_, rfl⟩
  obtain ⟨H, hH⟩ : ∃ b, b = L.Hb i := ⟨_, rfl⟩
  obtain ⟨C, hC⟩ : ∃ c, c = clean s.m (s.hd i) := ⟨_, rfl⟩
  rw [← hb] at h4 b1 n4
  rw [← hb9] at h3 q1 f1 n3 n4 n5 H0
  rw [← hb8] at b1 H0
  rw [← hb7] at q1
  rw [← hH] at c1 h3 h4 n5
  rw [← hC] at HCl H0 H1
  have HF : Hid (∀ W, Kp w W → W.cell? ⟨e1, 0, none⟩ = some (ptr H) ∧ W.cell? ⟨H, 3, none⟩ = some (ptr b9) ∧ W.cell? ⟨H, 4, none⟩ = some (ptr b) ∧ W.cell? ⟨b, 1, none⟩ = some (ptr b8) ∧ W.cell? ⟨b9, 1, none⟩ = some (ptr b7) ∧ W.frozen? ⟨b9, 1, none⟩ = false) := hide (fun W k => ⟨k.cell c1, k.cell h3, k.cell h4, k.cell b1, k.cell q1, (k.frozen (World.block_lt_of_cell? _ _ q1)).trans f1⟩)
  clear h hi hp hne hkp hkc he hvn er hR hb hb9 hb8 hb7 hH hC hpc p1 p2 hz n1 fp c1 h3 h4 b1 q1 f1
  unfold ptr clo at *
  go_enter Try.func57, Try.ntmps57
  go_wp2_with fail
  refine (HCl.out _ (Kp.refl w)).mono ?_
  rintro e wx ⟨rfl, mx, rfl⟩
  obtain ⟨w1, hw1⟩ : ∃ x, x = w.drewN mx := ⟨_, rfl⟩
  rw [← hw1]
  have k1 : Kp w w1 := by rw [hw1]; exact (Kp.refl w).drewN
  clear hw1
  obtain ⟨c1, h3, h4, b1, q1, f1⟩ := HF.out _ k1
  cases C with
  | false =>
    go_wp2
    exact H1.out (by trivial) _ k1
  | true =>
    go_wp2_with fail
    go_region_law (fail)
    all_goals
      go_wp2
      exact H0.out (by trivial) w1 _ k1 (Kp.refl _).drew
end Go.Proofs.Ytoihdnekkgpcoaa
namespace Go.Proofs.Ytoihdnekkgpcoaa
set_option linter.unusedVariables false
set_option linter.unusedSimpArgs false

/-- Keys rise along each way. -/
structure MW (m : Mm) : Prop where
  pos : 0 < m.n
  k0 : m.ky 0 = -1
  kl : ∀ i, i < m.n → m.ky i ≤ 10
  nl : ∀ i, i < m.n → m.nx i < m.n
  ri : ∀ i, i < m.n → m.ky i ≠ 10 → m.ky i < m.ky (m.nx i)
  md : ∀ i, i < m.n → m.mr i = true → 0 ≤ m.ky i ∧ m.ky i ≤ 9
theorem MI.mw {m : Mm} (h : MI m) : MW m := ⟨h.pos, h.k0, h.kl, h.nl, h.ri, h.md⟩
/-- What a hand that marks, or a naive one, knows. -/
def QN (m : Mm) (h : Hd) (d : Dd) : Prop :=
  h.plc ≤ 3 ∧ (h.plc ≠ 0 → h.p < m.n ∧ h.c < m.n ∧ m.ky h.p < d.key) ∧ (h.plc = 2 → d.kind ≠ 3 ∧ (d.kind = 2 → m.ky h.c = d.key) ∧ (d.kind = 1 → d.key < m.ky h.c)) ∧ (h.plc = 3 → d.kind = 2 ∧ m.ky h.c = d.key)
def Ext (m m' : Mm) : Prop := m.n ≤ m'.n ∧ ∀ i, i < m.n → m'.ky i = m.ky i
theorem Ext.refl (m : Mm) : Ext m m := ⟨Nat.le_refl _, fun _ _ => rfl⟩
theorem QN.ext {m m' : Mm} {h : Hd} {d : Dd} (q : QN m h d) (e : Ext m m') : QN m' h d := by
  obtain ⟨q1, q2, q3, q4⟩ := q
  refine ⟨q1, fun hp => ?_, fun hp => ?_, fun hp => ?_⟩
  · obtain ⟨a, b, c⟩ := q2 hp
    exact ⟨Nat.lt_of_lt_of_le a e.1, Nat.lt_of_lt_of_le b e.1, by rw [e.2 _ a]; exact c⟩
  · obtain ⟨a, b, c⟩ := q2 (by omega)
    rw [e.2 _ b]; exact q3 hp
  · obtain ⟨a, b, c⟩ := q2 (by omega)
    rw [e.2 _ b]; exact q4 hp
theorem MW.drop {m : Mm} (h : MW m) {p c : Nat} (hp : p < m.n) (hc : c < m.n) (hk : m.ky p < m.ky c) (h10 : m.ky c ≠ 10) : MW (m.drop p c) := by
  refine ⟨h.pos, h.k0, h.kl, fun i hi => ?_, fun i hi hk2 => ?_, h.md⟩
  · show up m.nx p (m.nx c) i < m.n
    unfold up; split
    · exact h.nl c hc
    · exact h.nl i hi
  · show m.ky i < m.ky (up m.nx p (m.nx c) i)
    unfold up; split
    · rename_i e; subst e
      have := h.ri c hc h10; omega
    · exact h.ri i hi hk2
theorem MW.mark {m : Mm} (h : MW m) {c : Nat} (hk : 0 ≤ m.ky c ∧ m.ky c ≤ 9) : MW (m.mark c) := by
  refine ⟨h.pos, h.k0, h.kl, h.nl, h.ri, fun i hi hm => ?_⟩
  have hm : up m.mr c true i = true := hm
  unfold up at hm
  split at hm
  · rename_i e; subst e; exact hk
  · exact h.md i hi hm
theorem MW.ins {m : Mm} (h : MW m) {p c : Nat} {k : Int} (hp : p < m.n) (hc : c < m.n) (h1 : m.ky p < k) (h2 : k < m.ky c) : MW (m.ins p c k) ∧ Ext m (m.ins p c k) := by
  have hky : ∀ i, i < m.n → (m.ins p c k).ky i = m.ky i := fun i hi => up_ne _ _ (by omega)
  have hkn : (m.ins p c k).ky m.n = k := up_same _ _ _
  have h3 := h.kl c hc
  refine ⟨⟨Nat.succ_pos _, ?_, ?_, ?_, ?_, ?_⟩, Nat.le_succ _, hky⟩
  · rw [hky 0 h.pos]; exact h.k0
  · intro i hi
    have hi : i < m.n + 1 := hi
    by_cases e : i = m.n
    · rw [e, hkn]; omega
    · rw [hky i (by omega)]; exact h.kl i (by omega)
  · intro i hi
    have hi : i < m.n + 1 := hi
    show up (up m.nx m.n c) p m.n i < m.n + 1
    unfold up; split
    · omega
    · split
      · omega
      · have := h.nl i (by omega); omega
  · intro i hi hk2
    have hi : i < m.n + 1 := hi
    have hnx : (m.ins p c k).nx i = up (up m.nx m.n c) p m.n i := rfl
    rw [hnx]
    unfold up; split
    · rename_i e; subst e; rw [hky _ hp, hkn]; exact h1
    · split
      · rename_i e; rw [e, hkn, hky c hc]; exact h2
      · rename_i e1 e2
        have hi2 : i < m.n := by omega
        rw [hky i hi2] at hk2
        rw [hky i hi2, hky _ (h.nl i hi2)]
        exact h.ri i hi2 hk2
  · intro i hi hm
    have hi : i < m.n + 1 := hi
    have hm : up m.mr m.n false i = true := hm
    by_cases e : i = m.n
    · rw [e, up_same] at hm; exact absurd hm (by simp)
    · rw [up_ne _ _ e] at hm
      rw [hky i (by omega)]; exact h.md i (by omega) hm
theorem qn_hd0 (m : Mm) (d : Dd) : QN m hd0 d := ⟨Nat.zero_le _, fun e => absurd rfl e, fun e => absurd e (by simp [hd0]), fun e => absurd e (by simp [hd0])⟩
theorem qn_plc0 (m : Mm) (h : Hd) (d : Dd) (e : h.plc = 0) : QN m h d := ⟨by omega, fun x => absurd e x, fun x => absurd x (by omega), fun x => absurd x (by omega)⟩
/-- A step of one that marks, or of the naive one. -/
theorem marks_keep (nv : Bool) {m : Mm} (hm : MW m) {h : Hd} {d : Dd} (hd : okD d) (q : QN m h d) : MW (markS nv m h d).1 ∧ Ext m (markS nv m h d).1 ∧ ((markS nv m h d).2.2 = false → QN (markS nv m h d).1 (markS nv m h d).2.1 d) := by
  obtain ⟨q1, q2, q3, q4⟩ := q
  obtain ⟨d1, d2, d3⟩ := hd
  have hR := Ext.refl m
  have q0 : ∀ (m' : Mm) (h' : Hd), h'.plc = 0 → QN m' h' d := fun m' h' e => qn_plc0 m' h' d e
  have c4 : h.plc = 0 ∨ h.plc = 1 ∨ h.plc = 2 ∨ h.plc = 3 := by omega
  rcases c4 with e | e | e | e
  · have er : markS nv m h d = (m, h.again m, false) := by unfold markS; rw [e]; rfl
    rw [er]
    exact ⟨hm, hR, fun _ => ⟨by show 1 ≤ 3; omega, fun _ => ⟨hm.pos, hm.nl 0 hm.pos, by show m.ky 0 < _; rw [hm.k0]; omega⟩, fun x => absurd (show (1 : Nat) = 2 from x) (by omega), fun x => absurd (show (1 : Nat) = 3 from x) (by omega)⟩⟩
  · obtain ⟨p1, p2, p3⟩ := q2 (by omega)
    unfold markS; rw [e]; simp only []
    split
    · rename_i h1
      simp only [Bool.and_eq_true] at h1
      split
      · rename_i h2
        obtain ⟨a, b⟩ := clean_iff.1 h2
        have h3 := hm.ri _ p1 (by omega)
        rw [b] at h3
        have h4 := hm.md _ p2 h1.1
        exact ⟨hm.drop p1 p2 h3 (by omega), ⟨Nat.le_refl _, fun _ _ => rfl⟩, fun _ => ⟨by show (1 : Nat) ≤ 3; omega, fun _ => ⟨p1, hm.nl _ p2, p3⟩, fun x => absurd (show (1 : Nat) = 2 from x) (by omega), fun x => absurd (show (1 : Nat) = 3 from x) (by omega)⟩⟩
      · exact ⟨hm, hR, fun _ => q0 _ _ rfl⟩
    · split
      · rename_i h1 h2
        exact ⟨hm, hR, fun _ => ⟨by show h.plc ≤ 3; omega, fun _ => ⟨p2, hm.nl _ p2, h2⟩, fun x => absurd (show h.plc = 2 from x) (by omega), fun x => absurd (show h.plc = 3 from x) (by omega)⟩⟩
      · split
        · exact ⟨hm, hR, fun x => absurd x (by simp)⟩
        · split
          · exact ⟨hm, hR, fun x => absurd x (by simp)⟩
          · rename_i h1 h2 h3 h4
            refine ⟨hm, hR, fun _ => ⟨by show (2 : Nat) ≤ 3; omega, fun _ => ⟨p1, p2, p3⟩, fun _ => ⟨h3, fun hk => ?_, fun hk => ?_⟩, fun x => absurd (show (2 : Nat) = 3 from x) (by omega)⟩⟩
            · by_cases hh : m.ky h.c = d.key
              · exact hh
              · exact absurd (by simp [hh, hk]) h4
            · by_cases hh : m.ky h.c = d.key
              · exact absurd (by simp [hh, hk]) h4
              · show d.key < m.ky h.c; omega
  · obtain ⟨p1, p2, p3⟩ := q2 (by omega)
    obtain ⟨r1, r2, r3⟩ := q3 e
    unfold markS; rw [e]; simp only []
    split
    · rename_i hk
      split
      · obtain ⟨a, b⟩ := hm.ins p1 p2 p3 (r3 hk)
        exact ⟨a, b, fun x => absurd x (by simp)⟩
      · exact ⟨hm, hR, fun _ => q0 _ _ rfl⟩
    · rename_i hk
      have hk2 : d.kind = 2 := by omega
      have h5 := r2 hk2
      split
      · exact ⟨hm.drop p1 p2 (by omega) (by omega), ⟨Nat.le_refl _, fun _ _ => rfl⟩, fun x => absurd x (by simp)⟩
      · split
        · exact ⟨hm, hR, fun _ => q0 _ _ rfl⟩
        · exact ⟨hm.mark (by omega), ⟨Nat.le_refl _, fun _ _ => rfl⟩, fun _ => ⟨by show (3 : Nat) ≤ 3; omega, fun _ => ⟨p1, p2, p3⟩, fun x => absurd (show (3 : Nat) = 2 from x) (by omega), fun _ => ⟨hk2, h5⟩⟩⟩
  · obtain ⟨p1, p2, p3⟩ := q2 (by omega)
    obtain ⟨r1, r2⟩ := q4 e
    unfold markS; rw [e]; simp only []
    split
    · exact ⟨hm.drop p1 p2 (by omega) (by omega), ⟨Nat.le_refl _, fun _ _ => rfl⟩, fun x => absurd x (by simp)⟩
    · exact ⟨hm, hR, fun x => absurd x (by simp)⟩
/-- The whole bench, of those that mark and of the naive ones. -/
def NI (P : List (List Dd)) (s : St) : Prop := MW s.m ∧ ∀ j, QN s.m (s.hd j) (dd P j (s.deed j))
theorem NI.step {P : List (List Dd)} (hP : ∀ l ∈ P, ∀ d ∈ l, okD d) {s : St} (h : NI P s) {alg : Nat} (ha : alg = 3 ∨ alg = 4) (i : Nat) : NI P (stp alg (dd P i (s.deed i)) s i) := by
  have ea : algS alg s.m (s.hd i) (dd P i (s.deed i)) = markS (alg == 4) s.m (s.hd i) (dd P i (s.deed i)) := by rcases ha with rfl | rfl <;> rfl
  obtain ⟨k1, k2, k3⟩ := marks_keep (alg == 4) h.1 (dd_ok hP i (s.deed i)) (h.2 i)
  unfold stp
  rw [ea]
  simp only []
  split
  · refine ⟨k1, fun j => ?_⟩
    by_cases e : j = i
    · subst e
      show QN _ (up s.hd j hd0 j) _
      rw [up_same]; exact qn_hd0 _ _
    · show QN _ (up s.hd i hd0 j) (dd P j (up s.deed i _ j))
      rw [up_ne _ _ e, up_ne _ _ e]; exact (h.2 j).ext k2
  · rename_i hf
    refine ⟨k1, fun j => ?_⟩
    by_cases e : j = i
    · subst e
      show QN _ (up s.hd j _ j) _
      rw [up_same]; exact k3 (by simpa using hf)
    · show QN _ (up s.hd i _ j) _
      rw [up_ne _ _ e]; exact (h.2 j).ext k2
theorem mm0_MW (l : List Int) (h1 : ∀ x ∈ l, 0 ≤ x ∧ x ≤ 9) (h2 : l.Pairwise (· < ·)) : MW (mm0 l) := (mm0_MI l h1 h2).mw
/-- What holds of the bench, whatever the way. -/
def WInv (alg : Nat) (P : List (List Dd)) (l : List Int) (s : St) : Prop :=
  (alg = 1 ∧ StI (fun S pos s => LkJ P.length (dd P) S pos s) P l s) ∨ (alg = 2 ∧ StI (fun S pos s => LzI P.length (dd P) S pos s) P l s) ∨ ((alg = 3 ∨ alg = 4) ∧ NI P s)
theorem winv0 {alg : Nat} {P : List (List Dd)} {l : List Int} (h : OkIn l P) (h1 : 1 ≤ alg) (h4 : alg ≤ 4) : WInv alg P l (st0 l) := by
  have c : alg = 1 ∨ alg = 2 ∨ (alg = 3 ∨ alg = 4) := by omega
  rcases c with e | e | e
  · exact .inl ⟨e, st0_ex (lk0 h)⟩
  · exact .inr (.inl ⟨e, st0_ex (lz0 h)⟩)
  · exact .inr (.inr ⟨e, mm0_MW l h.keys h.sort, fun j => qn_hd0 _ _⟩)
theorem WInv.step {alg : Nat} {P : List (List Dd)} {l : List Int} (h : OkIn l P) {s : St} (I : WInv alg P l s) (i : Nat) (hc : can P s i = true) : WInv alg P l (stp alg (dd P i (s.deed i)) s i) := by
  rcases I with ⟨rfl, I⟩ | ⟨rfl, I⟩ | ⟨e, I⟩
  · exact .inl ⟨rfl, (lockPot h.deeds l).keep s i I hc⟩
  · exact .inr (.inl ⟨rfl, (lazyPot h.deeds h.len l).keep s i I hc⟩)
  · exact .inr (.inr ⟨e, I.step h.deeds e i⟩)
theorem WInv.mw {alg : Nat} {P : List (List Dd)} {l : List Int} {s : St} (I : WInv alg P l s) : MW s.m := by
  rcases I with ⟨rfl, I⟩ | ⟨rfl, I⟩ | ⟨e, I⟩
  · obtain ⟨_, _, j, _⟩ := I.ex; exact j.mi.mw
  · obtain ⟨_, _, j, _⟩ := I.ex; exact j.mi.mw
  · exact I.1
end Go.Proofs.Ytoihdnekkgpcoaa
namespace Go.Proofs.Ytoihdnekkgpcoaa
open Go.ChangeShapes Go.WideShapes Go.ChangeAt Go.RowKit
set_option linter.unusedVariables false
set_option linter.unusedSimpArgs false

variable {L : Lay} {s : St} {dv : Nat → Value} {w w' : World}
theorem leftF_len (m : Mm) : ∀ (f i : Nat), (leftF m f i).length ≤ f := by
  intro f
  induction f with
  | zero => intro i; exact Nat.le_refl _
  | succ f ih =>
    intro i
    unfold leftF
    split
    · exact Nat.zero_le _
    · rw [List.length_append]
      have := ih (m.nx i)
      split <;> simp <;> omega
/-- The loop's state: what is met is told, from bead i on there is the rest. -/
def LfRel (L : Lay) (s : St) (w : World) (f : Nat) (ov nv : Value) (wr : World) : Prop :=
  ∃ (i : Nat) (acc : List Int), i < s.m.n ∧ 11 - s.m.ky i ≤ (f : Int) ∧ nv = ptr (L.B i) ∧ OW wr w.heap.size 3 eInt ov acc ∧ Kp w wr ∧ acc ++ leftF s.m f i = leftM s.m
theorem leftF_step (m : Mm) (f i : Nat) (hk : m.ky i ≠ 10) : leftF m (f + 1) i = (if m.mr i then [] else [m.ky i]) ++ leftF m f (m.nx i) := by
  show (if m.ky i = 10 then [] else _) = _
  rw [if_neg hk]
set_option maxRecDepth 100000 in
set_option maxHeartbeats 2000000 in
theorem left_any (h : WN L s dv w) (mi : MW s.m) : Calls Try.prog 19 #[ptr L.T] w (fun e w' => ∃ v, e = .returned v ∧ OW w' w.heap.size 3 eInt v (leftM s.m) ∧ Kp w w') := by
  have t1 : w.cell? ⟨L.T, 1, none⟩ = some (ptr (L.B 0)) := h.tb.1.cell 1
  obtain ⟨-, b1, -⟩ := h.bead h.n0
  rw [if_neg (by rw [mi.k0]; omega)] at b1
  have HW := hide (fun W (k : Kp w W) => h.kpw k)
  have HMI := hide mi
  have h0 := mi.ri 0 mi.pos (by rw [mi.k0]; omega)
  rw [mi.k0] at h0
  have HST : Hid (LfRel L s w 12 (.slice none 0 0) (ptr (L.B (s.m.nx 0))) w) := hide ⟨s.m.nx 0, [], mi.nl 0 mi.pos, by omega, rfl, OW.nil, Kp.refl _, rfl⟩
  clear h mi h0
  unfold ptr at t1 b1 HST ⊢
  go_enter Try.func19, Try.ntmps19
  go_wp2
  go_loopg [3, 4] 12 (fun g ov nv wx => LfRel L s w g ov nv wx)
  case atStart => exact HST.out
  case round =>
    obtain ⟨i, acc, hi, hf, rfl, ho, hkp, hacc⟩ := hrel
    have hm := HMI.out
    have hleft : (leftM s.m).length ≤ 12 := leftF_len _ _ _
    have hal : acc.length ≤ 12 := by rw [← hacc, List.length_append] at hleft; omega
    obtain ⟨x0, x1, x2, -⟩ := (HW.out _ hkp).bead hi
    obtain ⟨gq, hgq⟩ : ∃ g, g = gk := ⟨_, rfl⟩
    rw [← hgq] at hf hacc
    have HGQ := hide hgq
    clear hgq
    obtain ⟨fq, rfl⟩ : ∃ f, gq = f + 1 := ⟨gq - 1, by have := hm.kl i hi; omega⟩
    by_cases hk : s.m.ky i = 10
    · rw [if_pos hk] at x1
      have hE : acc = leftM s.m := by
        have e : leftF s.m (fq + 1) i = [] := by show (if s.m.ky i = 10 then [] else _) = _; rw [if_pos hk]
        rw [e, List.append_nil] at hacc; exact hacc
      subst hE
      have HO := hide ho
      have HKP := hide hkp
      clear ho hkp hm hleft hal hf hi hacc hk x0 x2
      unfold ptr at *
      go_wp2
      go_ret
      exact ⟨_, rfl, HO.out, HKP.out⟩
    · rw [if_neg hk] at x1
      rw [leftF_step _ _ _ hk] at hacc
      have hnl := hm.nl i hi
      have hri := hm.ri i hi hk
      obtain ⟨X, hX⟩ : ∃ x, x = s.m.ky i := ⟨_, rfl⟩
      obtain ⟨bi, hbi⟩ : ∃ x, x = L.B i := ⟨_, rfl⟩
      obtain ⟨bn, hbn⟩ : ∃ x, x = L.B (s.m.nx i) := ⟨_, rfl⟩
      rw [← hX] at x0
      rw [← hbi] at x0 x1 x2
      rw [← hbn] at x1
      obtain ⟨A9, N9, c9, rfl⟩ := ho.rd.slice
      have HO := hide ho
      have HNE := hide (OW.bc_ne ho ((HW.out _ hkp).bd i hi).1 (by decide))
      rw [← hbi] at HNE
      have hHi := ho.hi
      have HKP := hide hkp
      have HM1 : Hid ((acc.length + [X].length) * 8 ≤ 140737488355328) := hide (by simp; omega)
      have HM2 : Hid (acc.length + [X].length ≤ maxLen) := hide (by simp [maxLen]; omega)
      unfold ptr at *
      rw [← hbi]
      cases hmr : s.m.mr i with
      | true =>
        rw [hmr] at x2 hacc
        have HR : Hid (∀ wx, Kp w wx → OW wx w.heap.size 3 eInt (.slice A9 N9 c9) acc → LfRel L s w fq (.slice A9 N9 c9) (.pointer (some ⟨bn, 0, none⟩)) wx) := hide (fun wx k o => ⟨s.m.nx i, acc, hnl, by omega, by rw [hbn]; rfl, o, k, by simpa using hacc⟩)
        clear ho hkp hm hleft hal hf hi hacc hk hnl hri hX hbi hbn hmr
        go_wp2
        go_roundg (gk - 1)
        case measure => have := HGQ.out; omega
        case rel =>
          have e := HGQ.out
          show LfRel L s w (gk - 1) _ _ _
          rw [show gk - 1 = fq by omega]
          exact HR.out _ HKP.out HO.out
      | false =>
        rw [hmr] at x2 hacc
        have HR : Hid (∀ v wx, Kp w wx → OW wx w.heap.size 3 eInt v (acc ++ [X]) → LfRel L s w fq v (.pointer (some ⟨bn, 0, none⟩)) wx) := hide (fun v wx k o => ⟨s.m.nx i, acc ++ [X], hnl, by omega, by rw [hbn]; rfl, o, k, by rw [hX]; simpa using hacc⟩)
        clear ho hkp hm hleft hal hf hi hacc hk hnl hri hX hbi hbn hmr
        go_wp2_with (at_builtin; (with_reducible refine list_app (B := w.heap.size) (l := acc) (m := [X]) row_int (.slice A9 N9 c9) ?_ (.tmp 26) (.tmp 31) ?_ ?_ ?_ ?_ HM1.out HM2.out ?_ ?_); (with_reducible rfl); (with_reducible rfl); rfl; (exact HO.out.alloc _); (show RD _ _ (.slice (some ⟨_, 0, none⟩) 1 1) _; (focus ((repeat (first | (with_reducible assumption) | exact RD.new1 _ rfl | (refine RD.new1e _ ?_ rfl; simp; done) | (with_reducible apply RD.alloc) | (with_reducible apply RD.drew) | (with_reducible apply RD.drewN) | ((with_reducible apply RD.belowR); (with_reducible assumption)))); done))); (exact (HKP.out.alloc).size); intro v3 w3 ho3 hg3 hat3; have x13 := hg3.cell (((Kp.refl wr).alloc).cell x1) (fun e => HNE.out e.symm))
        go_roundg (gk - 1)
        case measure => have := HGQ.out; omega
        case rel =>
          have e := HGQ.out
          show LfRel L s w (gk - 1) _ _ _
          rw [show gk - 1 = fq by omega]
          exact HR.out _ _ (Kp.app hg3 HKP.out.alloc hHi) ho3
end Go.Proofs.Ytoihdnekkgpcoaa
namespace Go.Proofs.Ytoihdnekkgpcoaa
open Go.ChangeShapes Go.WideShapes Go.ChangeAt Go.RowKit
set_option linter.unusedVariables false
set_option linter.unusedSimpArgs false

variable {L : Lay} {s : St} {dv : Nat → Value} {w w' : World}
/-- A function of Go's that is entered when it is called. -/
def Ent (F : Nat) : Prop := ∀ W args, (callFunc F args).run Try.prog W = .ok (.enter F args) W
/-- The closure that hand i holds: called it makes the step r. -/
def DoC (DO : Lay → Nat → Nat → Value → Prop) (L : Lay) (s : St) (dv : Nat → Value) (w : World) (i : Nat) (r : Mm × Hd × Bool) : Prop :=
  ∃ F caps, dv i = clo F caps ∧ Ent F ∧ ∀ W, Kp w W → Calls Try.prog F caps W (CP DO L s dv i r)
theorem lk_doc (h : WN L s dv w) (mi : MW s.m) {i : Nat} (hi : i < L.nh) {d : Dd} (hd : (L.P i)[s.deed i]? = some d) (hk : okD d) {A : Prop} (q : QLk s.m (s.hd i) d A) (hv : DLk L i (s.hd i).plc (dv i)) : DoC DLk L s dv w i (lockS s.m (s.hd i) d) := by
  obtain ⟨e0, e1, e2, e3, he, hv⟩ := hv
  obtain ⟨q1, q2⟩ := q
  have hk0 : s.m.ky 0 ≠ 10 := by rw [mi.k0]; omega
  have hky := hk.2.1
  have c3 : (s.hd i).plc = 0 ∨ (s.hd i).plc = 1 ∨ (s.hd i).plc = 2 := by omega
  rcases c3 with e | e | e
  · rw [e] at hv
    exact ⟨_, _, hv.trans rfl, fun _ _ => by kernel_rfl, fun W k => lk3_any (h.kpw k) hi hd e hk0 he hv⟩
  · rw [e] at hv
    exact ⟨_, _, hv.trans rfl, fun _ _ => by kernel_rfl, fun W k => lk1_any (h.kpw k) hi e he hv⟩
  · rw [e] at hv
    obtain ⟨p1, p2, p3, p4, p5⟩ := q2 (by omega)
    have hkp : s.m.ky (s.hd i).p ≠ 10 := by omega
    have hne : (s.hd i).p ≠ (s.hd i).c := by
      intro e2
      have := mi.ri _ p1 hkp
      rw [p5, ← e2] at this; omega
    refine ⟨_, _, hv.trans rfl, fun _ _ => by kernel_rfl, fun W k => ?_⟩
    by_cases h1 : s.m.ky (s.hd i).c < d.key
    · exact lk2_on (h.kpw k) hi hd e (by omega) h1 he hv
    · by_cases hke : s.m.ky (s.hd i).c = d.key
      · by_cases hk2 : d.kind = 2
        · exact lk2_cut (h.kpw k) hi hd e hne hkp hky h1 hk2 hke he hv
        · refine lk2_same (h.kpw k) hi hd e hne hkp hky h1 _ rfl (fun hh => ?_) he hv
          rcases hh with hh | hh
          · simp [hke, hh]
          · exact absurd hh hk2
      · by_cases hk1 : d.kind = 1
        · exact lk2_add (h.kpw k) hi hd e hne hkp hky h1 hk1 hke he hv
        · exact lk2_same (h.kpw k) hi hd e hne hkp hky h1 _ rfl (fun hh => by simp [hke, hk1]) he hv
theorem lz_doc (h : WN L s dv w) (mi : MW s.m) {i : Nat} (hi : i < L.nh) {d : Dd} (hd : (L.P i)[s.deed i]? = some d) (hk : okD d) {A : Prop} (q : QLz s.m (s.hd i) d A) (hv : DLz L i (s.hd i).plc (dv i)) : DoC DLz L s dv w i (lazyS s.m (s.hd i) d) := by
  obtain ⟨e0, e1, e2, e3, e4, e5, e6, e7, he, hv⟩ := hv
  obtain ⟨q1, q2, q3, q4, q5⟩ := q
  have hk0 : s.m.ky 0 ≠ 10 := by rw [mi.k0]; omega
  have hky := hk.2.1
  have hvn : dv i ≠ .nilFunc := by rw [hv]; exact vLz_nil _ _ _ _ _ _ _ _ _
  have c6 : (s.hd i).plc = 0 ∨ (s.hd i).plc = 1 ∨ (s.hd i).plc = 2 ∨ (s.hd i).plc = 3 ∨ (s.hd i).plc = 4 ∨ (s.hd i).plc = 5 := by omega
  rcases c6 with e | e | e | e | e | e
  · rw [e] at hv
    exact ⟨_, _, hv.trans rfl, fun _ _ => by kernel_rfl, fun W k => lz1_any (h.kpw k) hi e hk0 he hv⟩
  · rw [e] at hv
    refine ⟨_, _, hv.trans rfl, fun _ _ => by kernel_rfl, fun W k => ?_⟩
    by_cases h1 : s.m.ky (s.hd i).c < d.key
    · exact lz2_on (h.kpw k) hi hd e (by omega) h1 he hv
    · by_cases hk3 : d.kind = 3
      · by_cases hke : s.m.ky (s.hd i).c = d.key
        · exact lz2_hasY (h.kpw k) hi hd e h1 hk3 hke he hvn
        · exact lz2_hasN (h.kpw k) hi hd e h1 hk3 hke he hvn
      · exact lz2_first (h.kpw k) hi hd e h1 hk3 he hv
  · rw [e] at hv
    refine ⟨_, _, hv.trans rfl, fun _ _ => by kernel_rfl, fun W k => ?_⟩
    have er : lazyS s.m (s.hd i) d = lazy2 s.m (s.hd i) := by unfold lazyS; rw [e]; rfl
    rw [er]
    exact lz3_any (h.kpw k) hi (Or.inr e) he hvn
  · rw [e] at hv
    exact ⟨_, _, hv.trans rfl, fun _ _ => by kernel_rfl, fun W k => lz4_any (h.kpw k) hi e he hv⟩
  · rw [e] at hv
    obtain ⟨p1, p2, p3⟩ := q2 (by omega)
    obtain ⟨k1, k2⟩ := q4 (by omega)
    have hkp : s.m.ky (s.hd i).p ≠ 10 := by omega
    have hne : (s.hd i).p ≠ (s.hd i).c := by intro e2; rw [e2] at p3; omega
    refine ⟨_, _, hv.trans rfl, fun _ _ => by kernel_rfl, fun W k => ?_⟩
    cases hch : (s.m.mr (s.hd i).p || s.m.mr (s.hd i).c || s.m.nx (s.hd i).p != (s.hd i).c) with
    | true => exact lz5_fail (h.kpw k) hi hd e hne hkp hch he hvn
    | false =>
      have hm : s.m.mr (s.hd i).p = false ∧ s.m.mr (s.hd i).c = false ∧ s.m.nx (s.hd i).p = (s.hd i).c := by
        cases a1 : s.m.mr (s.hd i).p <;> cases a2 : s.m.mr (s.hd i).c <;> simp_all
      by_cases hk1 : d.kind = 1
      · by_cases hke : s.m.ky (s.hd i).c = d.key
        · exact lz5_there (h.kpw k) hi hd e hne hkp hm.1 hm.2.1 hm.2.2 hk1 hke he hvn
        · exact lz5_add (h.kpw k) hi hd e hne hkp hm.1 hm.2.1 hm.2.2 hky hk1 hke he hvn
      · by_cases hke : s.m.ky (s.hd i).c = d.key
        · exact lz5_cut (h.kpw k) hi hd e hne hkp hm.1 hm.2.1 hm.2.2 hk1 hke he hvn
        · exact lz5_none (h.kpw k) hi hd e hne hkp hm.1 hm.2.1 hm.2.2 hk1 hke he hvn
  · rw [e] at hv
    obtain ⟨p1, p2, p3⟩ := q2 (by omega)
    obtain ⟨w1, w2, w3, w4, w5, w6⟩ := q5 e
    have hne : (s.hd i).p ≠ (s.hd i).c := by intro e2; rw [e2] at p3; omega
    exact ⟨_, _, hv.trans rfl, fun _ _ => by kernel_rfl, fun W k => lz6_any (h.kpw k) hi e hne (by omega) (by omega) he hvn⟩
theorem mk_doc (h : WN L s dv w) (mi : MW s.m) {i : Nat} (hi : i < L.nh) {d : Dd} (nv : Bool) (hnv : ((L.alg : Int) == 4) = nv) (hd : (L.P i)[s.deed i]? = some d) (hk : okD d) (q : QN s.m (s.hd i) d) (hv : DMk L i (s.hd i).plc (dv i)) : DoC DMk L s dv w i (markS nv s.m (s.hd i) d) := by
  obtain ⟨e0, e1, e2, e3, e4, e5, e6, he, hv⟩ := hv
  obtain ⟨q1, q2, q3, q4⟩ := q
  have hk0 : s.m.ky 0 ≠ 10 := by rw [mi.k0]; omega
  obtain ⟨hk1, hky, hkk⟩ := hk
  have hvn : dv i ≠ .nilFunc := by rw [hv]; exact vMk_nil _ _ _ _ _ _ _ _
  have c4 : (s.hd i).plc = 0 ∨ (s.hd i).plc = 1 ∨ (s.hd i).plc = 2 ∨ (s.hd i).plc = 3 := by omega
  rcases c4 with e | e | e | e
  · rw [e] at hv
    exact ⟨_, _, hv.trans rfl, fun _ _ => by kernel_rfl, fun W k => mk2_any (h.kpw k) hi nv e hk0 he hv⟩
  · rw [e] at hv
    obtain ⟨p1, p2, p3⟩ := q2 (by omega)
    have hkp : s.m.ky (s.hd i).p ≠ 10 := by omega
    refine ⟨_, _, hv.trans rfl, fun _ _ => by kernel_rfl, fun W k => ?_⟩
    by_cases hm : s.m.mr (s.hd i).c = true ∧ d.kind ≠ 3
    · obtain ⟨hm, hk3⟩ := hm
      cases hcl : clean s.m (s.hd i) with
      | false => exact mk3_again (h.kpw k) hi nv hd e hkp hm hk3 hcl he hv
      | true =>
        obtain ⟨a, b⟩ := clean_iff.1 hcl
        have h3 := mi.ri _ p1 hkp
        rw [b] at h3
        have h4 := mi.md _ p2 hm
        exact mk3_off (h.kpw k) hi nv hd e hkp hm hk3 hcl (by intro e2; rw [e2] at h3; omega) (by omega) he hv
    · have hmk : s.m.mr (s.hd i).c = true → d.kind = 3 := fun hh => Classical.byContradiction fun h3 => hm ⟨hh, h3⟩
      by_cases hlt : s.m.ky (s.hd i).c < d.key
      · exact mk3_on (h.kpw k) hi nv hd e (by omega) hmk hlt he hv
      · by_cases hk3 : d.kind = 3
        · by_cases hke : s.m.ky (s.hd i).c = d.key
          · exact mk3_hasY (h.kpw k) hi nv hd e hlt hk3 hke he hv
          · exact mk3_hasN (h.kpw k) hi nv hd e hlt hk3 hke he hv
        · have hmc : s.m.mr (s.hd i).c = false := by
            cases hh : s.m.mr (s.hd i).c with
            | false => rfl
            | true => exact absurd (hmk hh) hk3
          by_cases heq : decide (s.m.ky (s.hd i).c = d.key) = decide (d.kind = 1)
          · exact mk3_no (h.kpw k) hi nv hd e hmc hlt hk3 heq he hv
          · exact mk3_deed (h.kpw k) hi nv hd e hmc hlt hk3 heq he hv
  · rw [e] at hv
    obtain ⟨p1, p2, p3⟩ := q2 (by omega)
    obtain ⟨r1, r2, r3⟩ := q3 e
    have hkp : s.m.ky (s.hd i).p ≠ 10 := by omega
    refine ⟨_, _, hv.trans rfl, fun _ _ => by kernel_rfl, fun W k => ?_⟩
    by_cases hk1 : d.kind = 1
    · cases nv with
      | true => exact mk4_addN (h.kpw k) hi true hnv hd e hkp hky hk1 rfl he hvn
      | false =>
        cases hcl : clean s.m (s.hd i) with
        | true => exact mk4_addC (h.kpw k) hi false hnv hd e hkp hky hk1 rfl hcl he hvn
        | false => exact mk4_addF (h.kpw k) hi false hnv hd e hkp hk1 rfl hcl he hvn
    · have hk2 : d.kind = 2 := by omega
      have h5 := r2 hk2
      cases nv with
      | true => exact mk4_cutN (h.kpw k) hi true hnv hd e hkp (by omega) (by intro e2; rw [e2] at p3; omega) hk2 rfl he hvn
      | false =>
        cases hmc : s.m.mr (s.hd i).c with
        | true => exact mk4_cutF (h.kpw k) hi false hnv hd e hkp hk2 rfl hmc he hvn
        | false => exact mk4_mark (h.kpw k) hi false hnv hd e hkp hk2 rfl hmc he hvn
  · rw [e] at hv
    obtain ⟨p1, p2, p3⟩ := q2 (by omega)
    obtain ⟨r1, r2⟩ := q4 e
    exact ⟨_, _, hv.trans rfl, fun _ _ => by kernel_rfl, fun W k => mk5_any (h.kpw k) hi nv e (by intro e2; rw [e2] at p3; omega) (by omega) (by omega) he hvn⟩

/-- All else lies as it did; what stays may be more. -/
structure ExL (L L' : Lay) (n : Nat) : Prop where
  w0 : L'.w0 = L.w0
  Hb : L'.Hb = L.Hb
  T : L'.T = L.T
  nh : L'.nh = L.nh
  alg : L'.alg = L.alg
  P : L'.P = L.P
  cst : ∀ b x, L.cst b = some x → L'.cst b = some x
  B : ∀ i, i < n → L'.B i = L.B i
theorem Lx.ex {L L' : Lay} {n : Nat} (h : Lx L L' n) : ExL L L' n := by
  obtain ⟨a, b, c, d, e, f, g, k⟩ := h
  exact ⟨a, b, c, d, e, f, fun b x hx => by rw [g]; exact hx, k⟩
theorem ExL.refl (L : Lay) (n : Nat) : ExL L L n := ⟨rfl, rfl, rfl, rfl, rfl, rfl, fun _ _ h => h, fun _ _ => rfl⟩
theorem ExL.trans {L L' L2 : Lay} {n n' : Nat} (h : ExL L L' n) (k : ExL L' L2 n') (hn : n ≤ n') : ExL L L2 n :=
  ⟨k.w0.trans h.w0, k.Hb.trans h.Hb, k.T.trans h.T, k.nh.trans h.nh, k.alg.trans h.alg, k.P.trans h.P, fun b x hx => k.cst b x (h.cst b x hx), fun i hi => (k.B i (Nat.lt_of_lt_of_le hi hn)).trans (h.B i hi)⟩
/-- What a hand does next, whatever the way. -/
def DD (L : Lay) (i q : Nat) (v : Value) : Prop := (L.alg = 1 ∧ DLk L i q v) ∨ (L.alg = 2 ∧ DLz L i q v) ∨ ((L.alg = 3 ∨ L.alg = 4) ∧ DMk L i q v)
theorem DD.ex {L L' : Lay} {n i q : Nat} {v : Value} (h : DD L i q v) (x : ExL L L' n) : DD L' i q v := by
  unfold DD
  rw [x.alg]
  rcases h with ⟨a, e0, e1, e2, e3, ⟨c0, c1, c2, c3⟩, ev⟩ | ⟨a, e0, e1, e2, e3, e4, e5, e6, e7, ⟨c0, c1, c2, c3, c4, c5, c6, c7⟩, ev⟩ | ⟨a, e0, e1, e2, e3, e4, e5, e6, ⟨c0, c1, c2, c3, c4, c5, c6⟩, ev⟩
  · exact .inl ⟨a, e0, e1, e2, e3, ⟨by rw [x.T]; exact x.cst _ _ c0, by rw [x.Hb]; exact x.cst _ _ c1, x.cst _ _ c2, x.cst _ _ c3⟩, ev⟩
  · exact .inr (.inl ⟨a, e0, e1, e2, e3, e4, e5, e6, e7, ⟨by rw [x.T]; exact x.cst _ _ c0, by rw [x.Hb]; exact x.cst _ _ c1, x.cst _ _ c2, x.cst _ _ c3, x.cst _ _ c4, x.cst _ _ c5, x.cst _ _ c6, x.cst _ _ c7⟩, ev⟩)
  · exact .inr (.inr ⟨a, e0, e1, e2, e3, e4, e5, e6, ⟨by rw [x.T]; exact x.cst _ _ c0, by rw [x.Hb]; exact x.cst _ _ c1, x.cst _ _ c2, x.cst _ _ c3, x.cst _ _ c4, x.cst _ _ c5, x.cst _ _ c6⟩, ev⟩)
theorem CP.mono {D1 D2 : Lay → Nat → Nat → Value → Prop} {i : Nat} {r : Mm × Hd × Bool} {e : Ending} (h : CP D1 L s dv i r e w') (hm : ∀ L' q v, L'.alg = L.alg → D1 L' i q v → D2 L' i q v) : CP D2 L s dv i r e w' := by
  obtain ⟨a, L', dv', x, b, c, d, f⟩ := h
  exact ⟨a, L', dv', x, b, c, d, fun hh => hm _ _ _ x.ex.alg (f hh)⟩
theorem DoC.mono {D1 D2 : Lay → Nat → Nat → Value → Prop} {i : Nat} {r : Mm × Hd × Bool} (h : DoC D1 L s dv w i r) (hm : ∀ L' q v, L'.alg = L.alg → D1 L' i q v → D2 L' i q v) : DoC D2 L s dv w i r := by
  obtain ⟨F, c, a, a2, b⟩ := h
  exact ⟨F, c, a, a2, fun W k => (b W k).mono fun e w' hc => hc.mono hm⟩
/-- What a hand does next, called: whatever the way. -/
theorem do_any {P : List (List Dd)} {l : List Int} {t : Nat → List Dn} (h : WN L { s with told := t } dv w) (ok : OkIn l P) (I : WInv L.alg P l s) {i : Nat} (hi : i < L.nh) (hd : (L.P i)[s.deed i]? = some (dd P i (s.deed i))) (hv : DD L i (s.hd i).plc (dv i)) : DoC DD L { s with told := t } dv w i (algS L.alg s.m (s.hd i) (dd P i (s.deed i))) := by
  have hk := dd_ok ok.deeds i (s.deed i)
  rcases I with ⟨e, I⟩ | ⟨e, I⟩ | ⟨e, I⟩
  · obtain ⟨_, _, j, _⟩ := I.ex
    have hv : DLk L i (s.hd i).plc (dv i) := by rcases hv with ⟨_, hv⟩ | ⟨a, _⟩ | ⟨a, _⟩; exact hv; all_goals omega
    rw [show algS L.alg s.m (s.hd i) (dd P i (s.deed i)) = lockS s.m (s.hd i) (dd P i (s.deed i)) by rw [e]; rfl]
    exact (lk_doc h j.mi.mw hi hd hk (j.hq i).1 hv).mono fun L' q v ea hh => .inl ⟨ea.trans e, hh⟩
  · obtain ⟨_, _, j, _⟩ := I.ex
    have hv : DLz L i (s.hd i).plc (dv i) := by rcases hv with ⟨a, _⟩ | ⟨_, hv⟩ | ⟨a, _⟩; omega; exact hv; omega
    rw [show algS L.alg s.m (s.hd i) (dd P i (s.deed i)) = lazyS s.m (s.hd i) (dd P i (s.deed i)) by rw [e]; rfl]
    exact (lz_doc h j.mi.mw hi hd hk (j.hq i).1 hv).mono fun L' q v ea hh => .inr (.inl ⟨ea.trans e, hh⟩)
  · have hv : DMk L i (s.hd i).plc (dv i) := by rcases hv with ⟨a, _⟩ | ⟨a, _⟩ | ⟨_, hv⟩; omega; omega; exact hv
    rw [show algS L.alg s.m (s.hd i) (dd P i (s.deed i)) = markS (L.alg == 4) s.m (s.hd i) (dd P i (s.deed i)) by rcases e with e | e <;> rw [e] <;> rfl]
    exact (mk_doc h I.1 hi (L.alg == 4) (by rcases e with e | e <;> rw [e] <;> rfl) hd hk (I.2 i) hv).mono fun L' q v ea hh => .inr (.inr ⟨by rw [ea]; exact e, hh⟩)
/-- Blocks that stay are laid down. -/
theorem WN.more (h : WN L s dv w) {b : Nat} {t : TypeId} {c : List Value} (hb : BC w b t c) (ht : okT t) : ∃ L', ExL L L' s.m.n ∧ WN L' s dv w ∧ L'.cst b = some (t, c) ∧ L'.B = L.B := by
  refine ⟨{ L with cst := up L.cst b (some (t, c)) }, ⟨rfl, rfl, rfl, rfl, rfl, rfl, fun b' x hx => ?_, fun _ _ => rfl⟩, h.addc hb ht, up_same _ _ _, rfl⟩
  show up L.cst b (some (t, c)) b' = some x
  by_cases e : b' = b
  · subst e
    rw [up_same]
    obtain ⟨t', c'⟩ := x
    have h2 := (h.cs _ _ _ hx).1
    unfold BC at hb h2
    rw [hb] at h2
    injection h2 with h2
    injection h2 with h3 h4
    rw [h4]
    have := congrArg Array.toList h3
    simp at this
    rw [this]
  · rw [up_ne _ _ e]; exact hx
/-- Several blocks that stay. -/
theorem WN.mores : ∀ (bs : List (Nat × TypeId × List Value)) {L : Lay}, WN L s dv w → (∀ x ∈ bs, BC w x.1 x.2.1 x.2.2 ∧ okT x.2.1) → ∃ L', ExL L L' s.m.n ∧ WN L' s dv w ∧ ∀ x ∈ bs, L'.cst x.1 = some x.2
  | [], L, h, _ => ⟨L, ExL.refl _ _, h, fun x hx => absurd hx (by simp)⟩
  | x :: bs, L, h, hb => by
    obtain ⟨L1, a1, a2, a3, _⟩ := h.more (hb x (by simp)).1 (hb x (by simp)).2
    obtain ⟨L2, c1, c2, c3⟩ := WN.mores bs a2 (fun y hy => hb y (by simp [hy]))
    refine ⟨L2, a1.trans c1 (Nat.le_refl _), c2, fun y hy => ?_⟩
    rcases List.mem_cons.1 hy with rfl | hy
    · exact c1.cst _ _ a3
    · exact c3 y hy
theorem okT_t : okT 49 ∧ okT 54 ∧ okT 33 := by unfold okT; decide
def wayF (alg : Nat) : Nat := if alg = 1 then 29 else if alg = 2 then 30 else 31
/-- A way, begun. -/
theorem way_any (L : Lay) (i alg : Nat) (ha : L.alg = alg) (h1 : 1 ≤ alg) (h4 : alg ≤ 4) (w : World) : Calls Try.prog (wayF alg) #[ptr L.T, ptr (L.Hb i)] w (fun e w' => ∃ v, e = .returned v ∧ Kp w w' ∧ (∃ F c, v = clo F c) ∧
    ∀ (s : St) (dv : Nat → Value) (W : World), WN L s dv W → Kp w' W → ∃ L', ExL L L' s.m.n ∧ WN L' s dv W ∧ DD L' i 0 v) := by
  obtain ⟨t1, t2, t3⟩ := okT_t
  have c : alg = 1 ∨ alg = 2 ∨ (alg = 3 ∨ alg = 4) := by omega
  rcases c with e | e | e
  · rw [show wayF alg = 29 by rw [e]; rfl]
    refine (lock_any L.T (L.Hb i) w).mono ?_
    rintro r w' ⟨e0, e1, e2, e3, rfl, k, b0, b1, b2, b3⟩
    refine ⟨_, rfl, k, ⟨_, _, rfl⟩, fun s dv W h kW => ?_⟩
    obtain ⟨L', x, h', hc⟩ := WN.mores [(e0, _, _), (e1, _, _), (e2, _, _), (e3, _, _)] h (by
      simp only [List.forall_mem_cons, List.not_mem_nil, false_implies, implies_true, and_true]
      exact ⟨⟨b0.kp kW, t1⟩, ⟨b1.kp kW, t2⟩, ⟨b2.kp kW, t3⟩, ⟨b3.kp kW, t3⟩⟩)
    simp only [List.forall_mem_cons, List.not_mem_nil, false_implies, implies_true, and_true] at hc
    obtain ⟨c0, c1, c2, c3⟩ := hc
    exact ⟨L', x, h', .inl ⟨by rw [x.alg, ha, e], e0, e1, e2, e3, ⟨by rw [x.T]; exact c0, by rw [x.Hb]; exact c1, c2, c3⟩, rfl⟩⟩
  · rw [show wayF alg = 30 by rw [e]; rfl]
    refine (lazy_any L.T (L.Hb i) w).mono ?_
    rintro r w' ⟨e0, e1, e2, e3, e4, e5, e6, e7, rfl, k, b0, b1, b2, b3, b4, b5, b6, b7⟩
    refine ⟨_, rfl, k, ⟨_, _, rfl⟩, fun s dv W h kW => ?_⟩
    obtain ⟨L', x, h', hc⟩ := WN.mores [(e0, _, _), (e1, _, _), (e2, _, _), (e3, _, _), (e4, _, _), (e5, _, _), (e6, _, _), (e7, _, _)] h (by
      simp only [List.forall_mem_cons, List.not_mem_nil, false_implies, implies_true, and_true]
      exact ⟨⟨b0.kp kW, t1⟩, ⟨b1.kp kW, t2⟩, ⟨b2.kp kW, t3⟩, ⟨b3.kp kW, t3⟩, ⟨b4.kp kW, t3⟩, ⟨b5.kp kW, t3⟩, ⟨b6.kp kW, t3⟩, ⟨b7.kp kW, t3⟩⟩)
    simp only [List.forall_mem_cons, List.not_mem_nil, false_implies, implies_true, and_true] at hc
    obtain ⟨c0, c1, c2, c3, c4, c5, c6, c7⟩ := hc
    exact ⟨L', x, h', .inr (.inl ⟨by rw [x.alg, ha, e], e0, e1, e2, e3, e4, e5, e6, e7, ⟨by rw [x.T]; exact c0, by rw [x.Hb]; exact c1, c2, c3, c4, c5, c6, c7⟩, rfl⟩)⟩
  · rw [show wayF alg = 31 by rcases e with e | e <;> rw [e] <;> rfl]
    refine (mark_any L.T (L.Hb i) w).mono ?_
    rintro r w' ⟨e0, e1, e2, e3, e4, e5, e6, rfl, k, b0, b1, b2, b3, b4, b5, b6⟩
    refine ⟨_, rfl, k, ⟨_, _, rfl⟩, fun s dv W h kW => ?_⟩
    obtain ⟨L', x, h', hc⟩ := WN.mores [(e0, _, _), (e1, _, _), (e2, _, _), (e3, _, _), (e4, _, _), (e5, _, _), (e6, _, _)] h (by
      simp only [List.forall_mem_cons, List.not_mem_nil, false_implies, implies_true, and_true]
      exact ⟨⟨b0.kp kW, t1⟩, ⟨b1.kp kW, t2⟩, ⟨b2.kp kW, t3⟩, ⟨b3.kp kW, t3⟩, ⟨b4.kp kW, t3⟩, ⟨b5.kp kW, t3⟩, ⟨b6.kp kW, t3⟩⟩)
    simp only [List.forall_mem_cons, List.not_mem_nil, false_implies, implies_true, and_true] at hc
    obtain ⟨c0, c1, c2, c3, c4, c5, c6⟩ := hc
    exact ⟨L', x, h', .inr (.inr ⟨by rw [x.alg, ha]; exact e, e0, e1, e2, e3, e4, e5, e6, ⟨by rw [x.T]; exact c0, by rw [x.Hb]; exact c1, c2, c3, c4, c5, c6⟩, rfl⟩)⟩
end Go.Proofs.Ytoihdnekkgpcoaa
namespace Go.Proofs.Ytoihdnekkgpcoaa
open Go.ChangeShapes Go.WideShapes Go.ChangeAt Go.RowKit
set_option linter.unusedVariables false
set_option linter.unusedSimpArgs false

/-- The block g is just these cells. -/
def BK (w : World) (g : Nat) (t : TypeId) (cur : List Value) : Prop := w.heap[g]? = some (.cells cur.toArray t (0, 0))
section
variable {P : Program} {w w' : World} {g : Nat} {t : TypeId} {cur cs : List Value}
theorem BK.lt (h : BK w g t cur) : g < w.heap.size := (Array.getElem?_eq_some_iff.1 h).1
theorem BK.kp (h : BK w g t cur) (hk : Kp w w') : BK w' g t cur := (hk.bel.block g h.lt).trans h
theorem BK.kg {b : Nat} (h : BK w g t cur) (hn : g ≠ b) (hk : Kg b w w') : BK w' g t cur := (hk.block h.lt hn).trans h
theorem BK.cell (h : BK w g t cur) (j : Nat) : w.cell? ⟨g, j, none⟩ = cur[j]? := by
  rw [cell_of_row w g j _ t (0, 0) h]; simp
theorem Kg.setRow (w : World) (g : Nat) (cs : Array Value) : Kg g w (w.setRow g cs) := ⟨rfl, rfl, rfl, by simp, fun k hk hn => setRow_other w g k cs (fun e => hn (by rw [e]))⟩
theorem BK.setRow (h : BK w g t cur) (cs : List Value) : BK (w.setRow g cs.toArray) g t cs := setRow_heap w g _ _ t _ h
theorem BK.of_ow {α : Type} {B : Nat} {E : Enc α} {e : TypeId} {n c : Nat} {l : List α} (h : OW w B e E (.slice (some ⟨g, 0, none⟩) n c) l) : ∃ cur : List Value, BK w g e cur ∧ B ≤ g ∧ n ≤ c ∧ c ≤ maxLen ∧ cur.length = c * E.size ∧ cur.take (n * E.size) = l.flatMap E.cells ∧ n = l.length := by
  obtain ⟨h1, h2⟩ := h
  have hn : n = l.length := by
    rcases h2 with ⟨h2, _⟩ | ⟨g', cap, cur, hv, _⟩
    · cases h2
    · injection hv
  rcases h2 with ⟨h2, _⟩ | ⟨g', cap, cur, hv, hb, hg, h3, h4, h5, h6⟩
  · cases h2
  · injection hv with e1 e2 e3
    injection e1 with e1
    injection e1 with e1 _
    subst e1 e3
    refine ⟨cur.toList, ?_, hb, by omega, h4, by simpa using h5, by rw [hn]; simpa using h6, hn⟩
    unfold BK
    simpa using hg
theorem BK.ow {α : Type} {B : Nat} {E : Enc α} {e : TypeId} {c : Nat} {l : List α} (h : BK w g e cur) (hB : B ≤ g) (hn : l.length ≤ c) (hc : c ≤ maxLen) (hl : cur.length = c * E.size) (ht : cur.take (l.length * E.size) = l.flatMap E.cells) :
    OW w B e E (.slice (some ⟨g, 0, none⟩) l.length c) l :=
  ⟨flat_len E l, .inr ⟨g, c, cur.toArray, rfl, hB, h, hn, hc, by simpa using hl, by simpa using ht⟩⟩

theorem splice_len (L : List Value) (off : Nat) (cs : List Value) (h : off + cs.length ≤ L.length) : (splice L off cs).length = L.length := length_splice L off cs h
theorem splice_at {α : Type} (L : List α) (off : Nat) (cs : List α) (h : off + cs.length ≤ L.length) (j : Nat) : (splice L off cs)[j]? = if j < off then L[j]? else if j < off + cs.length then cs[j - off]? else L[j]? := by
  unfold splice
  by_cases h1 : j < off
  · rw [if_pos h1, List.getElem?_append_left (by simp; omega), List.getElem?_take, if_pos h1]
  · rw [if_neg h1, List.getElem?_append_right (by simp; omega)]
    have e : (L.take off).length = off := by simp; omega
    rw [e]
    by_cases h2 : j < off + cs.length
    · rw [if_pos h2, List.getElem?_append_left (by omega)]
    · rw [if_neg h2, List.getElem?_append_right (by omega), List.getElem?_drop]
      congr 1; omega

theorem run_storeRow (hg : BK w g t cur) (o : Nat) (hfit : o + cs.length ≤ cur.length) (h1 : ∀ v ∈ cs, v.oneCell' = true) : (storeCells ⟨g, o, none⟩ cs).run P w = .ok () (w.setRow g (splice cur o cs).toArray) := by
  have h := run_storeCells_at P g o t cs 0 cur.toArray w hg (by simpa using hfit) h1
  rw [h]
  simp [splice]
theorem add_lit (b o j : Nat) : (⟨b, o, none⟩ : Addr).add j = ⟨b, o + j, none⟩ := by unfold Addr.add; split <;> simp_all
theorem run_copyK {dT sT ty elem : TypeId} {i0 : TypeInfo} (hi : P.info? elem = some i0) (hu : P.underlying dT = some (.slice elem)) (o dLen dCap : Nat) (a : Addr) (sLen sCap : Nat) (hg : BK w g t cur)
    (hn : cs.length = Nat.min sLen dLen * i0.size) (hsrc : ∀ j v, cs[j]? = some v → w.cell? (a.add j) = some v) (hfit : o + cs.length ≤ cur.length) (h1 : ∀ v ∈ cs, v.oneCell' = true) :
    (Builtin.copy_ #[dT, sT] ty #[.slice (some ⟨g, o, none⟩) dLen dCap, .slice (some a) sLen sCap]).run P w = .ok (goInt (Nat.min sLen dLen)) (w.setRow g (splice cur o cs).toArray) := by
  have hf := run_firstCells_some (P := P) w i0.size (Nat.min sLen dLen) a sLen sCap cs hn hsrc
  have hst := run_storeRow (P := P) hg o hfit h1
  simp [Builtin.copy_, run_underlying hu, Builtin.lenOf, sizeOf, typeInfo, hi, hf, hst]
theorem run_appendK {tt tx ty elem : TypeId} {i0 : TypeInfo} (hi : P.info? elem = some i0) (hu : P.underlying tt = some (.slice elem)) (hx : P.underlying tx = some (.slice elem)) (n c : Nat) (a : Addr) (m sCap : Nat) (hg : BK w g t cur)
    (hn : cs.length = m * i0.size) (hroom : n + m ≤ c) (hsrc : ∀ j v, cs[j]? = some v → w.cell? (a.add j) = some v) (hfit : n * i0.size + cs.length ≤ cur.length) (h1 : ∀ v ∈ cs, v.oneCell' = true) :
    (Builtin.append_ #[tt, tx] ty #[.slice (some ⟨g, 0, none⟩) n c, .slice (some a) m sCap]).run P w = .ok (.slice (some ⟨g, 0, none⟩) (n + m) c) (w.setRow g (splice cur (n * i0.size) cs).toArray) := by
  have hs : Src P i0.size tx (.slice (some a) m sCap) m cs w := Src.ofSlice w hx a m sCap cs hn hsrc h1
  have h := run_append_room_src (P := P) w tt tx ty elem i0 hu hi g 0 n c (.slice (some a) m sCap) m cs hs hroom (fun j hj => by
    rw [Nat.zero_add, hg.cell, List.getElem?_eq_getElem (by omega)]; rfl) (fun j hj => by
    unfold BK at hg
    simp [World.frozen?, hg])
  rw [h]
  have h2 := run_storeRow (P := P) hg (n * i0.size) hfit h1
  have h3 := run_storeCells_cells (P := P) g (n * i0.size) cs 0 w (fun j hj => by rw [Nat.add_zero, hg.cell, List.getElem?_eq_getElem (by omega)]; rfl) (fun j hj => by
    unfold BK at hg
    simp [World.frozen?, hg]) h1
  rw [h2] at h3
  injection h3 with _ h3
  rw [h3]
  simp
theorem run_clearK {tt ty elem : TypeId} {i0 : TypeInfo} {z : Value} (hi : P.info? elem = some i0) (hz : i0.zero = some z) (hu : P.underlying tt = some (.slice elem)) (o n c : Nat) (hn : 0 < n) (hg : BK w g t cur)
    (hzs : z.cells.size = i0.size) (hfit : o + n * i0.size ≤ cur.length) (h1 : ∀ v ∈ (Builtin.zeroCells z.cells n).toList, v.oneCell' = true) :
    (Builtin.clear_ #[tt] ty #[.slice (some ⟨g, o, none⟩) n c]).run P w = .ok (.tuple #[]) (w.setRow g (splice cur o (Builtin.zeroCells z.cells n).toList).toArray) := by
  have hl : (Builtin.zeroCells z.cells n).toList.length = n * i0.size := by rw [Array.length_toList, size_zeroCells, hzs]
  have hst := run_storeRow (P := P) hg o (cs := (Builtin.zeroCells z.cells n).toList) (by rw [hl]; exact hfit) h1
  cases n with
  | zero => omega
  | succ n => simp [Builtin.clear_, run_underlying hu, zeroValue, typeInfo, hi, hz, hst]
end
section
variable {P : Program} {w : World} {ops : Array Oper} {rest : List Oper} {o : Oper} {a : Act} {Q : Exit → Act → World → Prop} {K : Act → World → Prop} {F : Prop}
/-- A copy whose run is known, at a plain region and at a step of one that draws: the world behind it is a letter. -/
theorem list_copy (hgd : o.guard = none) (d x : Operand) {dT sT : TypeId} (ho : o.op = .call { callee := .builtin .copy, args := #[d, x], argTypes := #[dT, sT] }) (v u : Value) (hd : a.eval d = v) (hx : a.eval x = u) {n : Nat} {g : Nat} {t : TypeId} {cur : List Value}
    (hg : BK w g t cur) {cs' : List Value} (hr : ∀ ty, (Builtin.copy_ #[dT, sT] ty #[v, u]).run P w = .ok (goInt n) (w.setRow g cs'.toArray))
    (h : ∀ w', Hid (BK w' g t cs') → Kg g w w' → wpList P ops Q rest (a.put o.dst (goInt n)) w') : wpList P ops Q (o :: rest) a w := by
  refine wpList_plain hgd fun K hK => ?_
  unfold Oper.wp execOp
  simp only [ho, resolve, invoke, builtin, Sem.run_bind, Sem.run_pure, Result.andThen_ok, List.map_toArray, List.map_cons, List.map_nil, hd, hx, hr]
  exact hK _ _ (h _ (hg.setRow cs') (Kg.setRow _ _ _))
theorem step_copy (hgd : o.guard = none) (d x : Operand) {dT sT : TypeId} (ho : o.op = .call { callee := .builtin .copy, args := #[d, x], argTypes := #[dT, sT] }) (v u : Value) (hd : a.eval d = v) (hx : a.eval x = u) {n : Nat} {g : Nat} {t : TypeId} {cur : List Value}
    (hg : BK w g t cur) {cs' : List Value} (hr : ∀ ty, (Builtin.copy_ #[dT, sT] ty #[v, u]).run P w = .ok (goInt n) (w.setRow g cs'.toArray))
    (h : ∀ w', Hid (BK w' g t cs') → Kg g w w' → K (a.put o.dst (goInt n)) w') : if Region.wanted o (yielded ops a.tmps) = true then Oper.wp P o a w K Q else F := by
  have hw : Region.wanted o (yielded ops a.tmps) = true := by simp [Region.wanted, hgd]
  rw [if_pos hw]
  unfold Oper.wp execOp
  simp only [ho, resolve, invoke, builtin, Sem.run_bind, Sem.run_pure, Result.andThen_ok, List.map_toArray, List.map_cons, List.map_nil, hd, hx, hr]
  exact h _ (hg.setRow cs') (Kg.setRow _ _ _)
/-- An append whose run is known to stay in its block. -/
theorem step_appK (hgd : o.guard = none) (d x : Operand) {dT sT : TypeId} (ho : o.op = .call { callee := .builtin .append, args := #[d, x], argTypes := #[dT, sT] }) (v u r : Value) (hd : a.eval d = v) (hx : a.eval x = u) {g : Nat} {t : TypeId} {cur : List Value}
    (hg : BK w g t cur) {cs' : List Value} (hr : ∀ ty, (Builtin.append_ #[dT, sT] ty #[v, u]).run P w = .ok r (w.setRow g cs'.toArray))
    (h : ∀ w', Hid (BK w' g t cs') → Kg g w w' → K (a.put o.dst r) w') : if Region.wanted o (yielded ops a.tmps) = true then Oper.wp P o a w K Q else F := by
  have hw : Region.wanted o (yielded ops a.tmps) = true := by simp [Region.wanted, hgd]
  rw [if_pos hw]
  unfold Oper.wp execOp
  simp only [ho, resolve, invoke, builtin, Sem.run_bind, Sem.run_pure, Result.andThen_ok, List.map_toArray, List.map_cons, List.map_nil, hd, hx, hr]
  exact h _ (hg.setRow cs') (Kg.setRow _ _ _)
theorem list_clear (hgd : o.guard = none) (d : Operand) {dT : TypeId} (ho : o.op = .call { callee := .builtin .clear, args := #[d], argTypes := #[dT] }) (v : Value) (hd : a.eval d = v) {g : Nat} {t : TypeId} {cur : List Value}
    (hg : BK w g t cur) {cs' : List Value} (hr : ∀ ty, (Builtin.clear_ #[dT] ty #[v]).run P w = .ok (.tuple #[]) (w.setRow g cs'.toArray))
    (h : ∀ w', Hid (BK w' g t cs') → Kg g w w' → wpList P ops Q rest (a.put o.dst (.tuple #[])) w') : wpList P ops Q (o :: rest) a w := by
  refine wpList_plain hgd fun K hK => ?_
  unfold Oper.wp execOp
  simp only [ho, resolve, invoke, builtin, Sem.run_bind, Sem.run_pure, Result.andThen_ok, List.map_toArray, List.map_cons, List.map_nil, hd, hr]
  exact hK _ _ (h _ (hg.setRow cs') (Kg.setRow _ _ _))
end
end Go.Proofs.Ytoihdnekkgpcoaa
namespace Go.Proofs.Ytoihdnekkgpcoaa
open Go.ChangeShapes Go.WideShapes Go.ChangeAt Go.RowKit
set_option linter.unusedVariables false
set_option linter.unusedSimpArgs false

theorem flat_set_one {α : Type} (E : Enc α) (x : α) (j : Nat) (u : Value) : ∀ (l : List α) (k : Nat) (h : k < l.length), j < E.size → (E.cells l[k]).set j u = E.cells x → (l.flatMap E.cells).set (k * E.size + j) u = (l.set k x).flatMap E.cells
  | a :: t, 0, h, hj, hx => by
    simp only [List.flatMap_cons, List.set_cons_zero, Nat.zero_mul, Nat.zero_add]
    rw [List.set_append_left _ _ (by rw [E.len]; exact hj)]
    have hx : (E.cells a).set j u = E.cells x := hx
    rw [hx]
  | a :: t, k + 1, h, hj, hx => by
    simp only [List.flatMap_cons, List.set_cons_succ]
    rw [List.set_append_right _ _ (by rw [E.len, Nat.add_mul]; omega), E.len, show (k + 1) * E.size + j - E.size = k * E.size + j from by rw [Nat.add_mul]; omega]
    rw [flat_set_one E x j u t k (by simpa using h) hj hx]
theorem OW.setAt {α : Type} {E : Enc α} {w : World} {B : Nat} {e : TypeId} {g n c : Nat} {l : List α} (h : OW w B e E (.slice (some ⟨g, 0, none⟩) n c) l) (k : Nat) (hk : k < l.length) (j : Nat) (hj : j < E.size) (u : Value) (x : α) (hx : (E.cells l[k]).set j u = E.cells x) :
    OW (w.setCell ⟨g, k * E.size + j, none⟩ u) B e E (.slice (some ⟨g, 0, none⟩) n c) (l.set k x) := by
  obtain ⟨cur, hbk, hB, hnc, hcm, hcl, htk, hn⟩ := BK.of_ow h
  have hn' : n = (l.set k x).length := by simp [hn]
  have hb2 : BK (w.setCell ⟨g, k * E.size + j, none⟩ u) g e (cur.set (k * E.size + j) u) := by
    unfold BK at hbk ⊢
    simp only [World.setCell, Array.getElem?_modify, hbk]
    simp
  rw [hn']
  refine BK.ow (E := E) hb2 hB (by omega) hcm (by rw [List.length_set, hcl]) ?_
  rw [← flat_set_one E x j u l k hk hj hx, List.take_set]
  simp only [List.length_set]
  rw [← hn, htk]
theorem OW.cellAt {α : Type} {E : Enc α} {w : World} {B : Nat} {e : TypeId} {g n c : Nat} {l : List α} (h : OW w B e E (.slice (some ⟨g, 0, none⟩) n c) l) (k : Nat) (hk : k < l.length) (j : Nat) (hj : j < E.size) :
    w.cell? ⟨g, k * E.size + j, none⟩ = (E.cells l[k])[j]? ∧ w.frozen? ⟨g, k * E.size + j, none⟩ = false := by
  obtain ⟨cur, hbk, _, _, _, _, _, hn⟩ := BK.of_ow h
  subst hn
  obtain ⟨A, c', e1, _, _, _, h4⟩ := h.rd
  obtain ⟨b, o, rfl, _, hc⟩ := h4 (by omega)
  injection e1 with e1
  injection e1 with e1
  injection e1 with e2 e3
  subst e2 e3
  have := hc k hk j hj
  refine ⟨by rw [Nat.zero_add] at this; exact this, ?_⟩
  unfold BK at hbk
  simp [World.frozen?, hbk]
theorem OW.blk {α : Type} {E : Enc α} {w : World} {B : Nat} {e : TypeId} {v : Value} {l : List α} (h : OW w B e E v l) (h0 : 0 < l.length) : ∃ g c, v = .slice (some ⟨g, 0, none⟩) l.length c ∧ v.ownBlock = some g := by
  rcases h.2 with ⟨rfl, h1⟩ | ⟨g, cap, cur, rfl, hg, hh, r⟩
  · omega
  · exact ⟨g, cap, rfl, rfl⟩
end Go.Proofs.Ytoihdnekkgpcoaa
