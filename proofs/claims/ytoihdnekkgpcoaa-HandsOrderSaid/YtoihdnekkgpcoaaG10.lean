/-
  The closure that checks, of one that looks twice: a new bead, a mark. Conditions: the table lies as WN says.
  The closures of one that marks: how they are made, begin, whether the way is as it was. Conditions: the table lies as WN says.
  The closure that looks, of one that marks: farther, on to the deed, not so, from the beginning. Conditions: the table lies as WN says.
  The closure that looks, of one that marks: what bears a mark. Conditions: the table lies as WN says.
-/
import Derived.Test.YtoihdnekkgpcoaaG9

namespace Go.Proofs.Ytoihdnekkgpcoaa
open Go.ChangeShapes Go.WideShapes Go.ChangeAt Go.RowKit
set_option linter.unusedVariables false
set_option linter.unusedSimpArgs false

variable {L : Lay} {s : St} {dv : Nat → Value} {w w' : World}
set_option maxRecDepth 100000 in
set_option maxHeartbeats 4000000 in
theorem lz5_add (h : WN L s dv w) {i : Nat} (hi : i < L.nh) {d : Dd} (hd : (L.P i)[s.deed i]? = some d) (hp : (s.hd i).plc = 4) (hne : (s.hd i).p ≠ (s.hd i).c) (hkp : s.m.ky (s.hd i).p ≠ 10) (hmp : s.m.mr (s.hd i).p = false) (hmc : s.m.mr (s.hd i).c = false) (hnx : s.m.nx (s.hd i).p = (s.hd i).c) (hd10 : d.key ≤ 9) (hkk : d.kind = 1) (hke : s.m.ky (s.hd i).c ≠ d.key) {e0 e1 e2 e3 e4 e5 e6 e7 : Nat} (he : ELz L (L.Hb i) e0 e1 e2 e3 e4 e5 e6 e7) (hvn : dv i ≠ .nilFunc) :
    Calls Try.prog 51 #[ptr e1, ptr e2, ptr e7] w (CP DLz L s dv i (lazyS s.m (s.hd i) d)) := by
  have c1 := h.cst he.c1
  obtain ⟨pv, cv, bb, -, -, -, h3, h4, h5, hz, -, hpc, -⟩ := h.hand hi
  obtain ⟨rfl, rfl, p1, p2⟩ := hpc (by omega)
  obtain ⟨b0, -, b2, -, fc, -⟩ := h.bead p2
  obtain ⟨-, q1, q2, -⟩ := h.bead p1
  rw [if_neg hkp, hnx] at q1
  rw [hmp] at q2
  rw [hmc] at b2
  have f5 := hz 5
  have f2 := fc 2
  have er : lazyS s.m (s.hd i) d = ((s.m.free (s.hd i).p (s.hd i).c).ins (s.hd i).p (s.hd i).c d.key, { s.hd i with is := true }, true) := by unfold lazyS; rw [hp]; simp [hmp, hmc, hnx, hp, hkk, hke]
  rw [er]
  have HK := hide (fun W (k : Kp w W) => key_quiet (h.kpw k) hi hd)
  have HKd := hide (fun W (k : Kp w W) => kind_quiet (h.kpw k) hi hd)
  have HX : ∃ R1 R2 R3 : World → Prop, (∀ W, Kp w W → R1 (W.setCell ⟨L.Hb i, 5, none⟩ (.bool true))) ∧ (∀ w1, R1 w1 → Calls Try.prog 43 #[ptr (L.Hb i)] w1 (fun e w' => e = .returned (.tuple #[]) ∧ R2 w')) ∧
      (∀ w1, R2 w1 → Calls Try.prog 44 #[ptr (L.Hb i)] w1 (fun e w' => e = .returned (.tuple #[]) ∧ R3 w')) ∧
      (∀ w1, R1 w1 → w1.cell? ⟨e1, 0, none⟩ = some (ptr (L.Hb i)) ∧ w1.cell? ⟨L.Hb i, 5, none⟩ = some (.bool true)) ∧ (∀ w1, R2 w1 → w1.cell? ⟨e1, 0, none⟩ = some (ptr (L.Hb i))) ∧
      (∀ w1, R3 w1 → CP DLz L s dv i ((s.m.free (s.hd i).p (s.hd i).c).ins (s.hd i).p (s.hd i).c d.key, { s.hd i with is := true }, true) (.returned (.bool true)) w1) := by
    refine ⟨fun w1 => WN L { s with hd := up s.hd i { s.hd i with is := true } } dv w1, fun w1 => ∃ L', Lx L L' s.m.n ∧ WN L' { s with m := s.m.ins (s.hd i).p (s.hd i).c d.key, hd := up s.hd i { s.hd i with is := true } } dv w1, fun w1 => ∃ L', Lx L L' s.m.n ∧ WN L' { s with m := (s.m.free (s.hd i).p (s.hd i).c).ins (s.hd i).p (s.hd i).c d.key, hd := up s.hd i { s.hd i with is := true } } dv w1, fun W k => (h.kpw k).setis hi true, fun w1 h1 => ?_, fun w1 h1 => ?_, fun w1 h1 => ⟨h1.cst he.c1, ?_⟩, fun w1 h1 => ?_, fun w1 h1 => ?_⟩
    · have h2 := add_any h1 hi hd (by show (up s.hd i _ i).plc ≠ 0; rw [up_same]; show (s.hd i).plc ≠ 0; omega) (by show s.m.ky (up s.hd i _ i).p ≠ 10; rw [up_same]; exact hkp) (by omega)
      have h2 : Calls Try.prog 43 #[ptr (L.Hb i)] w1 (fun e w' => e = .returned (.tuple #[]) ∧ ∃ L', Lx L L' s.m.n ∧ WN L' { s with m := s.m.ins (up s.hd i { s.hd i with is := true } i).p (up s.hd i { s.hd i with is := true } i).c d.key, hd := up s.hd i { s.hd i with is := true } } dv w') := h2
      rw [up_same] at h2
      exact h2
    · obtain ⟨L', l1, h1⟩ := h1
      have h2 := free_any h1 (i := i) (by rw [l1.2.2.2.1]; exact hi) (by show (up s.hd i _ i).plc ≠ 0; rw [up_same]; show (s.hd i).plc ≠ 0; omega) (by show (up s.hd i _ i).p ≠ (up s.hd i _ i).c; rw [up_same]; exact hne)
      have e4 : (s.m.ins (s.hd i).p (s.hd i).c d.key).free (up s.hd i { s.hd i with is := true } i).p (up s.hd i { s.hd i with is := true } i).c = (s.m.free (s.hd i).p (s.hd i).c).ins (s.hd i).p (s.hd i).c d.key := by
        rw [up_same]; exact ins_free s.m p1 p2 d.key
      have h2 : Calls Try.prog 44 #[ptr (L'.Hb i)] w1 (fun e w' => e = .returned (.tuple #[]) ∧ WN L' { s with m := (s.m.ins (s.hd i).p (s.hd i).c d.key).free (up s.hd i { s.hd i with is := true } i).p (up s.hd i { s.hd i with is := true } i).c, hd := up s.hd i { s.hd i with is := true } } dv w') := h2
      rw [e4, l1.2.1] at h2
      exact h2.mono (fun e w' q => ⟨q.1, L', l1, q.2⟩)
    · obtain ⟨_, _, b, _, _, _, _, _, y, _, _, _, z⟩ := h1.hand hi
      rw [y, z hvn]
      show some (Value.bool (up s.hd i _ i).is) = _
      rw [up_same]
    · obtain ⟨L', l1, h1⟩ := h1
      have := h1.cst (he.lx l1).c1
      exact this
    · obtain ⟨L', l1, h1⟩ := h1
      exact ⟨rfl, L', dv, l1, h1, fun _ _ => rfl, hvn, fun e => absurd e (by simp)⟩
  obtain ⟨R1, R2, R3, h10, h11, h11b, h12, h12b, h13⟩ := HX
  have HN : Hid (∀ W, (binOp .neq 46 (.pointer (some ⟨L.B (s.hd i).c, 0, none⟩)) (.pointer (some ⟨L.B (s.hd i).c, 0, none⟩))).run Try.prog W = .ok (.bool false) W) := hide (fun W => nd_neq_same W _)
  have H10 := hide h10
  have H11 := hide h11
  have H11b := hide h11b
  have H12 := hide h12
  have H12b := hide h12b
  have HE := hide h13
  obtain ⟨R, hR⟩ : ∃ R, R = CP DLz L s dv i ((s.m.free (s.hd i).p (s.hd i).c).ins (s.hd i).p (s.hd i).c d.key, { s.hd i with is := true }, true) := ⟨_, rfl⟩
  rw [← hR] at HE ⊢
  obtain ⟨b, hb⟩ : ∃ b, b = L.B (s.hd i).c := ⟨_, rfl⟩
  obtain ⟨b9, hb9⟩ : ∃ b, b = L.B (s.hd i).p := ⟨_, rfl⟩
  obtain ⟨H, hH⟩ : ∃ b, b = L.Hb i := ⟨_, rfl⟩
  obtain ⟨K, hK⟩ : ∃ b, b = s.m.ky (s.hd i).c := ⟨_, rfl⟩
  obtain ⟨D, hD⟩ : ∃ b, b = d.key := ⟨_, rfl⟩
  obtain ⟨Q, hQ⟩ : ∃ b, b = d.kind := ⟨_, rfl⟩
  rw [← hb] at h4 b0 b2 q1 f2 HN
  rw [← hb9] at h3 q1 q2
  rw [← hH] at c1 h3 h4 h5 f5 HK HKd H10 H11 H11b H12 H12b
  rw [← hK] at b0 hke
  rw [← hD] at HK hke
  rw [← hQ] at HKd hkk
  have HF : Hid (∀ W, Kp w W → W.cell? ⟨e1, 0, none⟩ = some (ptr H) ∧ W.cell? ⟨H, 3, none⟩ = some (ptr b9) ∧ W.cell? ⟨H, 4, none⟩ = some (ptr b) ∧ W.cell? ⟨b, 0, none⟩ = some (.int .i64 K) ∧ W.cell? ⟨b, 2, none⟩ = some (.bool false) ∧ W.cell? ⟨b9, 1, none⟩ = some (ptr b) ∧ W.cell? ⟨b9, 2, none⟩ = some (.bool false) ∧ W.cell? ⟨H, 5, none⟩ = some (.bool bb) ∧ W.frozen? ⟨H, 5, none⟩ = false ∧ W.frozen? ⟨b, 2, none⟩ = false) := hide (fun W k => ⟨k.cell c1, k.cell h3, k.cell h4, k.cell b0, k.cell b2, k.cell q1, k.cell q2, k.cell h5, (k.frozen (World.block_lt_of_cell? _ _ h5)).trans f5, (k.frozen (World.block_lt_of_cell? _ _ b2)).trans f2⟩)
  have hE : (K == D) = false := by rw [beq_dec, decide_eq_false hke]
  have hQ1 : (Q == 1) = true := by rw [hkk]; rfl
  clear h hi hd hp hne hkp hmp hmc hnx hke hkk he hvn er hR hb hb9 hH hK hD hQ hpc p1 p2 q1 q2 b2 hz fc f5 f2 h5 h10 h11 h11b h12 h12b h13 hd10
  unfold ptr at *
  go_enter Try.func51, Try.ntmps51
  go_wp2_with fail
  go_quiet ((go_at_call 40; exact Calls.quiet_of (HK.out _ (by (focus ((repeat (first | (with_reducible assumption) | (with_reducible exact Kp.refl _) | (with_reducible apply Kp.drew) | (with_reducible apply Kp.drewN) | ((with_reducible apply Kp.setR); (focus (first | (with_reducible assumption) | (simp; done) | (simp; omega)))) | (with_reducible apply Kp.alloc) | ((with_reducible apply Kp.call); (with_reducible assumption)) | ((with_reducible apply Kp.app); (with_reducible assumption)))); done))))))
  obtain ⟨w1, hw1⟩ : ∃ x, x = w.drewN nq := ⟨_, rfl⟩
  rw [← hw1]
  have k1 : Kp w w1 := by rw [hw1]; exact (Kp.refl w).drewN
  clear hw1 c1 h3 h4 b0
  obtain ⟨c1, h3, h4, b0, b2, q1, q2, h5, f5, f2⟩ := HF.out _ k1
  have hN := fun n => HN.out (w1.drewN n)
  go_wp2_with fail
  go_quiet (fail)
  obtain ⟨w2, hw2⟩ : ∃ x, x = w1.drewN nq := ⟨_, rfl⟩
  rw [← hw2]
  have k2 : Kp w w2 := by rw [hw2]; exact k1.drewN
  clear hw2 c1 h3 h4 b0 b2 q1 q2 h5 f5 f2 hN
  obtain ⟨c1, h3, h4, b0, b2, q1, q2, h5, f5, f2⟩ := HF.out _ k2
  go_wp2_with fail
  refine (HKd.out _ k2).mono ?_
  rintro e w3 ⟨rfl, m3, rfl⟩
  obtain ⟨w4, hw4⟩ : ∃ x, x = w2.drewN m3 := ⟨_, rfl⟩
  rw [← hw4]
  have k4 : Kp w w4 := by rw [hw4]; exact k2.drewN
  clear hw4 c1 h3 h4 b0 b2 q1 q2 h5 f5 f2
  obtain ⟨c1, h3, h4, b0, b2, q1, q2, h5, f5, f2⟩ := HF.out _ k4
  have r1 := H10.out _ k4
  generalize w4.setCell ⟨H, 5, none⟩ (.bool true) = w5 at r1
  obtain ⟨c15, h55⟩ := H12.out _ r1
  clear r1 c15 h55
  have r1 := H10.out _ k4
  obtain ⟨c15, h55⟩ := H12.out _ r1
  go_wp2_with fail
  refine (H11.out _ r1).mono ?_
  rintro e w6 ⟨rfl, r2⟩
  have c16 := H12b.out _ r2
  go_wp2_with fail
  refine (H11b.out _ r2).mono ?_
  rintro e w7 ⟨rfl, r3⟩
  go_wp2
  exact HE.out _ r3
set_option maxRecDepth 100000 in
set_option maxHeartbeats 4000000 in
theorem lz5_cut (h : WN L s dv w) {i : Nat} (hi : i < L.nh) {d : Dd} (hd : (L.P i)[s.deed i]? = some d) (hp : (s.hd i).plc = 4) (hne : (s.hd i).p ≠ (s.hd i).c) (hkp : s.m.ky (s.hd i).p ≠ 10) (hmp : s.m.mr (s.hd i).p = false) (hmc : s.m.mr (s.hd i).c = false) (hnx : s.m.nx (s.hd i).p = (s.hd i).c) (hkk : d.kind ≠ 1) (hke : s.m.ky (s.hd i).c = d.key) {e0 e1 e2 e3 e4 e5 e6 e7 : Nat} (he : ELz L (L.Hb i) e0 e1 e2 e3 e4 e5 e6 e7) (hvn : dv i ≠ .nilFunc) :
    Calls Try.prog 51 #[ptr e1, ptr e2, ptr e7] w (CP DLz L s dv i (lazyS s.m (s.hd i) d)) := by
  have c1 := h.cst he.c1
  obtain ⟨pv, cv, bb, -, -, -, h3, h4, h5, hz, -, hpc, -⟩ := h.hand hi
  obtain ⟨rfl, rfl, p1, p2⟩ := hpc (by omega)
  obtain ⟨b0, -, b2, -, fc, -⟩ := h.bead p2
  obtain ⟨-, q1, q2, -⟩ := h.bead p1
  rw [if_neg hkp, hnx] at q1
  rw [hmp] at q2
  rw [hmc] at b2
  have f5 := hz 5
  have f2 := fc 2
  have er : lazyS s.m (s.hd i) d = (s.m.mark (s.hd i).c, { s.hd i with plc := 5, is := true }, false) := by unfold lazyS; rw [hp]; simp [hmp, hmc, hnx, hp, hkk, hke]
  rw [er]
  have HK := hide (fun W (k : Kp w W) => key_quiet (h.kpw k) hi hd)
  have HKd := hide (fun W (k : Kp w W) => kind_quiet (h.kpw k) hi hd)
  have n2 : ¬ L.B (s.hd i).c = L.Hb i := by obtain ⟨_, _, _, a, _⟩ := h.hn i hi; exact BC.ne (h.bd _ p2).1 a (by decide)
  have n3 : ¬ e1 = L.B (s.hd i).c := BC.ne (h.cs _ _ _ he.c1).1 (h.bd _ p2).1 (by decide)
  have HX : ∃ R1 : World → Prop, (∀ W W', Kp w W → Kp ((W.setCell ⟨L.B (s.hd i).c, 2, none⟩ (.bool true)).setCell ⟨L.Hb i, 5, none⟩ (.bool true)) W' → R1 W') ∧
      (∀ w1, R1 w1 → w1.cell? ⟨e1, 0, none⟩ = some (ptr (L.Hb i)) ∧ w1.cell? ⟨e7, 0, none⟩ = some (clo 52 #[ptr e1]) ∧ (∃ x, w1.cell? ⟨L.Hb i, 2, none⟩ = some x) ∧ w1.frozen? ⟨L.Hb i, 2, none⟩ = false) ∧
      (∀ w1, R1 w1 → CP DLz L s dv i (s.m.mark (s.hd i).c, { s.hd i with plc := 5, is := true }, false) (.returned (.bool false)) (w1.setCell ⟨L.Hb i, 2, none⟩ (clo 52 #[ptr e1]))) := by
    refine ⟨fun w1 => WN L { s with m := s.m.mark (s.hd i).c, hd := up s.hd i { s.hd i with is := true } } dv w1, fun W W' k k' => ?_, fun w1 h1 => ⟨h1.cst he.c1, h1.cst he.c7, by obtain ⟨_, _, _, _, _, x, _, _, _, y, _⟩ := h1.hand hi; exact ⟨⟨_, x⟩, y 2⟩⟩, fun w1 h1 => ?_⟩
    · exact (((h.kpw k).setmr p2).setis hi true).kpw k'
    · have h2 := h1.setdo hi (clo 52 #[ptr e1]) 5 (fun _ => by show (up s.hd i _ i).plc ≠ 0; rw [up_same]; show (s.hd i).plc ≠ 0; omega) hvn
      have h2 : WN L { s with m := s.m.mark (s.hd i).c, hd := up (up s.hd i { s.hd i with is := true }) i { up s.hd i { s.hd i with is := true } i with plc := 5 } } _ _ := h2
      rw [up_same, up_up] at h2
      exact ⟨rfl, L, up dv i (clo 52 #[ptr e1]), Lx.refl _ _, h2, fun j hj => up_ne _ _ hj, by rw [up_same]; exact clo_nil _ _, fun _ => ⟨e0, e1, e2, e3, e4, e5, e6, e7, he, by rw [up_same]; rfl⟩⟩
  obtain ⟨R1, h10, h12, h13⟩ := HX
  have HN : Hid (∀ W, (binOp .neq 46 (.pointer (some ⟨L.B (s.hd i).c, 0, none⟩)) (.pointer (some ⟨L.B (s.hd i).c, 0, none⟩))).run Try.prog W = .ok (.bool false) W) := hide (fun W => nd_neq_same W _)
  have H10 := hide h10
  have H12 := hide h12
  have HE := hide h13
  obtain ⟨R, hR⟩ : ∃ R, R = CP DLz L s dv i (s.m.mark (s.hd i).c, { s.hd i with plc := 5, is := true }, false) := ⟨_, rfl⟩
  rw [← hR] at HE ⊢
  obtain ⟨b, hb⟩ : ∃ b, b = L.B (s.hd i).c := ⟨_, rfl⟩
  obtain ⟨b9, hb9⟩ : ∃ b, b = L.B (s.hd i).p := ⟨_, rfl⟩
  obtain ⟨H, hH⟩ : ∃ b, b = L.Hb i := ⟨_, rfl⟩
  obtain ⟨K, hK⟩ : ∃ b, b = s.m.ky (s.hd i).c := ⟨_, rfl⟩
  obtain ⟨D, hD⟩ : ∃ b, b = d.key := ⟨_, rfl⟩
  obtain ⟨Q, hQ⟩ : ∃ b, b = d.kind := ⟨_, rfl⟩
  rw [← hb] at h4 b0 b2 q1 f2 HN H10 n2 n3
  rw [← hb9] at h3 q1 q2
  rw [← hH] at c1 h3 h4 h5 f5 HK HKd H10 H12 HE n2
  rw [← hK] at b0 hke
  rw [← hD] at HK hke
  rw [← hQ] at HKd hkk
  have HF : Hid (∀ W, Kp w W → W.cell? ⟨e1, 0, none⟩ = some (ptr H) ∧ W.cell? ⟨H, 3, none⟩ = some (ptr b9) ∧ W.cell? ⟨H, 4, none⟩ = some (ptr b) ∧ W.cell? ⟨b, 0, none⟩ = some (.int .i64 K) ∧ W.cell? ⟨b, 2, none⟩ = some (.bool false) ∧ W.cell? ⟨b9, 1, none⟩ = some (ptr b) ∧ W.cell? ⟨b9, 2, none⟩ = some (.bool false) ∧ W.cell? ⟨H, 5, none⟩ = some (.bool bb) ∧ W.frozen? ⟨H, 5, none⟩ = false ∧ W.frozen? ⟨b, 2, none⟩ = false) := hide (fun W k => ⟨k.cell c1, k.cell h3, k.cell h4, k.cell b0, k.cell b2, k.cell q1, k.cell q2, k.cell h5, (k.frozen (World.block_lt_of_cell? _ _ h5)).trans f5, (k.frozen (World.block_lt_of_cell? _ _ b2)).trans f2⟩)
  have hE : (K == D) = true := by rw [beq_dec, decide_eq_true hke]
  have hQ1 : (Q == 1) = false := beq_eq_false_iff_ne.2 hkk
  clear h hi hd hp hne hkp hmp hmc hnx hke hkk he hvn er hR hb hb9 hH hK hD hQ hpc p1 p2 q1 q2 b2 hz fc f5 f2 h5 h10 h12 h13
  unfold ptr clo at *
  go_enter Try.func51, Try.ntmps51
  go_wp2_with fail
  go_quiet ((go_at_call 40; exact Calls.quiet_of (HK.out _ (by (focus ((repeat (first | (with_reducible assumption) | (with_reducible exact Kp.refl _) | (with_reducible apply Kp.drew) | (with_reducible apply Kp.drewN) | ((with_reducible apply Kp.setR); (focus (first | (with_reducible assumption) | (simp; done) | (simp; omega)))) | (with_reducible apply Kp.alloc) | ((with_reducible apply Kp.call); (with_reducible assumption)) | ((with_reducible apply Kp.app); (with_reducible assumption)))); done))))))
  obtain ⟨w1, hw1⟩ : ∃ x, x = w.drewN nq := ⟨_, rfl⟩
  rw [← hw1]
  have k1 : Kp w w1 := by rw [hw1]; exact (Kp.refl w).drewN
  clear hw1 c1 h3 h4 b0
  obtain ⟨c1, h3, h4, b0, b2, q1, q2, h5, f5, f2⟩ := HF.out _ k1
  have hN := fun n => HN.out (w1.drewN n)
  go_wp2_with fail
  go_quiet (fail)
  obtain ⟨w2, hw2⟩ : ∃ x, x = w1.drewN nq := ⟨_, rfl⟩
  rw [← hw2]
  have k2 : Kp w w2 := by rw [hw2]; exact k1.drewN
  clear hw2 c1 h3 h4 b0 b2 q1 q2 h5 f5 f2 hN
  obtain ⟨c1, h3, h4, b0, b2, q1, q2, h5, f5, f2⟩ := HF.out _ k2
  go_wp2_with fail
  refine (HKd.out _ k2).mono ?_
  rintro e w3 ⟨rfl, m3, rfl⟩
  obtain ⟨w4, hw4⟩ : ∃ x, x = w2.drewN m3 := ⟨_, rfl⟩
  rw [← hw4]
  have k4 : Kp w w4 := by rw [hw4]; exact k2.drewN
  clear hw4 c1 h3 h4 b0 b2 q1 q2 h5 f5 f2
  obtain ⟨c1, h3, h4, b0, b2, q1, q2, h5, f5, f2⟩ := HF.out _ k4
  go_wp2_with fail
  go_region_law (fail)
  all_goals
    have r1 : R1 _ := H10.out w4 _ k4 (Kp.refl _).drew
    obtain ⟨g1, g2, ⟨g3, g4⟩, g5⟩ := H12.out _ r1
    go_wp2
    exact HE.out _ r1
end Go.Proofs.Ytoihdnekkgpcoaa
namespace Go.Proofs.Ytoihdnekkgpcoaa
open Go.ChangeShapes Go.WideShapes Go.ChangeAt Go.RowKit
set_option linter.unusedVariables false
set_option linter.unusedSimpArgs false

variable {L : Lay} {s : St} {dv : Nat → Value} {w w' : World}
/-- What a hand that marks does next. -/
structure EMk (L : Lay) (H e0 e1 e2 e3 e4 e5 e6 : Nat) : Prop where
  c0 : L.cst e0 = some (49, [ptr L.T])
  c1 : L.cst e1 = some (54, [ptr H])
  c2 : L.cst e2 = some (33, [clo 54 #[ptr e0, ptr e1, ptr e3]])
  c3 : L.cst e3 = some (33, [clo 55 #[ptr e1, ptr e6, ptr e2, ptr e4]])
  c4 : L.cst e4 = some (33, [clo 56 #[ptr e0, ptr e1, ptr e6, ptr e5, ptr e2]])
  c5 : L.cst e5 = some (33, [clo 57 #[ptr e6, ptr e1]])
  c6 : L.cst e6 = some (33, [clo 53 #[ptr e1]])
def vMk (q e0 e1 e2 e3 e4 e5 e6 : Nat) : Value := if q = 0 then clo 54 #[ptr e0, ptr e1, ptr e3] else if q = 1 then clo 55 #[ptr e1, ptr e6, ptr e2, ptr e4] else if q = 2 then clo 56 #[ptr e0, ptr e1, ptr e6, ptr e5, ptr e2] else clo 57 #[ptr e6, ptr e1]
def DMk (L : Lay) (i q : Nat) (v : Value) : Prop := ∃ e0 e1 e2 e3 e4 e5 e6, EMk L (L.Hb i) e0 e1 e2 e3 e4 e5 e6 ∧ v = vMk q e0 e1 e2 e3 e4 e5 e6
theorem EMk.lx {L L' : Lay} {n H e0 e1 e2 e3 e4 e5 e6 : Nat} (h : EMk L H e0 e1 e2 e3 e4 e5 e6) (hl : Lx L L' n) : EMk L' H e0 e1 e2 e3 e4 e5 e6 := by
  obtain ⟨_, _, a, _, _, _, b, _⟩ := hl
  exact ⟨by rw [a, b]; exact h.c0, by rw [b]; exact h.c1, by rw [b]; exact h.c2, by rw [b]; exact h.c3, by rw [b]; exact h.c4, by rw [b]; exact h.c5, by rw [b]; exact h.c6⟩
theorem vMk_nil (q e0 e1 e2 e3 e4 e5 e6 : Nat) : vMk q e0 e1 e2 e3 e4 e5 e6 ≠ .nilFunc := by
  unfold vMk
  repeat' split
  all_goals exact clo_nil _ _
set_option maxRecDepth 100000 in
set_option maxHeartbeats 4000000 in
theorem mark_any (T H : Nat) (w : World) : Calls Try.prog 31 #[ptr T, ptr H] w (fun e w' => ∃ e0 e1 e2 e3 e4 e5 e6, e = .returned (vMk 0 e0 e1 e2 e3 e4 e5 e6) ∧ Kp w w' ∧ BC w' e0 49 [ptr T] ∧ BC w' e1 54 [ptr H] ∧
    BC w' e2 33 [clo 54 #[ptr e0, ptr e1, ptr e3]] ∧ BC w' e3 33 [clo 55 #[ptr e1, ptr e6, ptr e2, ptr e4]] ∧ BC w' e4 33 [clo 56 #[ptr e0, ptr e1, ptr e6, ptr e5, ptr e2]] ∧ BC w' e5 33 [clo 57 #[ptr e6, ptr e1]] ∧ BC w' e6 33 [clo 53 #[ptr e1]]) := by
  unfold vMk clo
  simp only [reduceIte]
  unfold ptr
  go_enter Try.func31, Try.ntmps31
  go_wp2
  go_ret
  obtain ⟨os, hos⟩ : ∃ os : List Obj, os = [.cells #[.pointer (some ⟨T, 0, none⟩)] 49, .cells #[.pointer (some ⟨H, 0, none⟩)] 54, .cells #[.func (.func 54) #[] #[.pointer (some ⟨w.heap.size, 0, none⟩), .pointer (some ⟨w.heap.size + 1, 0, none⟩), .pointer (some ⟨w.heap.size + 1 + 1 + 1, 0, none⟩)]] 33, .cells #[.func (.func 55) #[] #[.pointer (some ⟨w.heap.size + 1, 0, none⟩), .pointer (some ⟨w.heap.size + 1 + 1 + 1 + 1 + 1 + 1, 0, none⟩), .pointer (some ⟨w.heap.size + 1 + 1, 0, none⟩), .pointer (some ⟨w.heap.size + 1 + 1 + 1 + 1, 0, none⟩)]] 33, .cells #[.func (.func 56) #[] #[.pointer (some ⟨w.heap.size, 0, none⟩), .pointer (some ⟨w.heap.size + 1, 0, none⟩), .pointer (some ⟨w.heap.size + 1 + 1 + 1 + 1 + 1 + 1, 0, none⟩), .pointer (some ⟨w.heap.size + 1 + 1 + 1 + 1 + 1, 0, none⟩), .pointer (some ⟨w.heap.size + 1 + 1, 0, none⟩)]] 33, .cells #[.func (.func 57) #[] #[.pointer (some ⟨w.heap.size + 1 + 1 + 1 + 1 + 1 + 1, 0, none⟩), .pointer (some ⟨w.heap.size + 1, 0, none⟩)]] 33, .cells #[.func (.func 53) #[] #[.pointer (some ⟨w.heap.size + 1, 0, none⟩)]] 33] := ⟨_, rfl⟩
  have b0 : BC (os.foldl (fun w o => w.alloc o) w) (w.heap.size + 0) 49 [.pointer (some ⟨T, 0, none⟩)] := BC.made os w 0 (by rw [hos]; rfl)
  have b1 : BC (os.foldl (fun w o => w.alloc o) w) (w.heap.size + 1) 54 [.pointer (some ⟨H, 0, none⟩)] := BC.made os w 1 (by rw [hos]; rfl)
  have b2 : BC (os.foldl (fun w o => w.alloc o) w) (w.heap.size + 2) 33 [.func (.func 54) #[] #[.pointer (some ⟨w.heap.size, 0, none⟩), .pointer (some ⟨w.heap.size + 1, 0, none⟩), .pointer (some ⟨w.heap.size + 1 + 1 + 1, 0, none⟩)]] := BC.made os w 2 (by rw [hos]; rfl)
  have b3 : BC (os.foldl (fun w o => w.alloc o) w) (w.heap.size + 3) 33 [.func (.func 55) #[] #[.pointer (some ⟨w.heap.size + 1, 0, none⟩), .pointer (some ⟨w.heap.size + 1 + 1 + 1 + 1 + 1 + 1, 0, none⟩), .pointer (some ⟨w.heap.size + 1 + 1, 0, none⟩), .pointer (some ⟨w.heap.size + 1 + 1 + 1 + 1, 0, none⟩)]] := BC.made os w 3 (by rw [hos]; rfl)
  have b4 : BC (os.foldl (fun w o => w.alloc o) w) (w.heap.size + 4) 33 [.func (.func 56) #[] #[.pointer (some ⟨w.heap.size, 0, none⟩), .pointer (some ⟨w.heap.size + 1, 0, none⟩), .pointer (some ⟨w.heap.size + 1 + 1 + 1 + 1 + 1 + 1, 0, none⟩), .pointer (some ⟨w.heap.size + 1 + 1 + 1 + 1 + 1, 0, none⟩), .pointer (some ⟨w.heap.size + 1 + 1, 0, none⟩)]] := BC.made os w 4 (by rw [hos]; rfl)
  have b5 : BC (os.foldl (fun w o => w.alloc o) w) (w.heap.size + 5) 33 [.func (.func 57) #[] #[.pointer (some ⟨w.heap.size + 1 + 1 + 1 + 1 + 1 + 1, 0, none⟩), .pointer (some ⟨w.heap.size + 1, 0, none⟩)]] := BC.made os w 5 (by rw [hos]; rfl)
  have b6 : BC (os.foldl (fun w o => w.alloc o) w) (w.heap.size + 6) 33 [.func (.func 53) #[] #[.pointer (some ⟨w.heap.size + 1, 0, none⟩)]] := BC.made os w 6 (by rw [hos]; rfl)
  rw [hos] at b0 b1 b2 b3 b4 b5 b6
  exact ⟨w.heap.size, w.heap.size + 1, w.heap.size + 1 + 1, w.heap.size + 1 + 1 + 1, w.heap.size + 1 + 1 + 1 + 1, w.heap.size + 1 + 1 + 1 + 1 + 1, w.heap.size + 1 + 1 + 1 + 1 + 1 + 1, rfl, by (focus ((repeat (first | (with_reducible assumption) | (with_reducible exact Kp.refl _) | (with_reducible apply Kp.drew) | (with_reducible apply Kp.drewN) | ((with_reducible apply Kp.setR); (focus (first | (with_reducible assumption) | (simp; done) | (simp; omega)))) | (with_reducible apply Kp.alloc) | ((with_reducible apply Kp.call); (with_reducible assumption)) | ((with_reducible apply Kp.app); (with_reducible assumption)))); done)), b0, b1, b2, b3, b4, b5, b6⟩
set_option maxRecDepth 100000 in
theorem mk2_any (h : WN L s dv w) {i : Nat} (hi : i < L.nh) {d : Dd} (nv : Bool) (hp : (s.hd i).plc = 0) (hk : s.m.ky 0 ≠ 10) {e0 e1 e2 e3 e4 e5 e6 : Nat} (he : EMk L (L.Hb i) e0 e1 e2 e3 e4 e5 e6) (hv : dv i = vMk 0 e0 e1 e2 e3 e4 e5 e6) :
    Calls Try.prog 54 #[ptr e0, ptr e1, ptr e3] w (CP DMk L s dv i (markS nv s.m (s.hd i) d)) := by
  have c0 := h.cst he.c0
  have c1 := h.cst he.c1
  have er : markS nv s.m (s.hd i) d = (s.m, (s.hd i).again s.m, false) := by unfold markS; rw [hp]; rfl
  rw [er]
  have HX : ∃ R2 : World → Prop, Calls Try.prog 46 #[ptr L.T, ptr (L.Hb i)] w (fun e w' => e = .returned (.tuple #[]) ∧ R2 w') ∧
      (∀ w1, R2 w1 → w1.cell? ⟨e1, 0, none⟩ = some (ptr (L.Hb i)) ∧ w1.cell? ⟨e3, 0, none⟩ = some (clo 55 #[ptr e1, ptr e6, ptr e2, ptr e4]) ∧ (∃ x, w1.cell? ⟨L.Hb i, 2, none⟩ = some x) ∧ w1.frozen? ⟨L.Hb i, 2, none⟩ = false) ∧
      (∀ w1, R2 w1 → CP DMk L s dv i (s.m, (s.hd i).again s.m, false) (.returned (.bool false)) (w1.setCell ⟨L.Hb i, 2, none⟩ (clo 55 #[ptr e1, ptr e6, ptr e2, ptr e4]))) := by
    refine ⟨fun w1 => WN L { s with hd := up s.hd i ((s.hd i).again s.m) } dv w1, begin_any h hi hk, fun w1 h1 => ⟨h1.cst he.c1, h1.cst he.c3, by obtain ⟨_, _, _, _, _, x, _, _, _, y, _⟩ := h1.hand hi; exact ⟨⟨_, x⟩, y 2⟩⟩, fun w1 h1 => ?_⟩
    have h2 := h1.setdo hi (clo 55 #[ptr e1, ptr e6, ptr e2, ptr e4]) 1 (fun _ => by show (up s.hd i ((s.hd i).again s.m) i).plc ≠ 0; rw [up_same]; exact Nat.one_ne_zero) (by rw [hv]; exact vMk_nil _ _ _ _ _ _ _ _)
    have e9 : up (up s.hd i ((s.hd i).again s.m)) i { up s.hd i ((s.hd i).again s.m) i with plc := 1 } = up s.hd i ((s.hd i).again s.m) := by
      funext j
      by_cases e : j = i
      · subst e; simp only [up_same]; rfl
      · simp only [up_ne _ _ e]
    have h2 : WN L { s with hd := up (up s.hd i ((s.hd i).again s.m)) i { up s.hd i ((s.hd i).again s.m) i with plc := 1 } } _ _ := h2
    rw [e9] at h2
    exact ⟨rfl, L, up dv i (clo 55 #[ptr e1, ptr e6, ptr e2, ptr e4]), Lx.refl _ _, h2, fun j hj => up_ne _ _ hj, by rw [up_same]; exact clo_nil _ _, fun _ => ⟨e0, e1, e2, e3, e4, e5, e6, he, by rw [up_same]; rfl⟩⟩
  obtain ⟨R2, h11, h12, h13⟩ := HX
  have H11 := hide h11
  have H12 := hide h12
  have H13 := hide h13
  obtain ⟨R, hR⟩ : ∃ R, R = CP DMk L s dv i (s.m, (s.hd i).again s.m, false) := ⟨_, rfl⟩
  rw [← hR] at H13 ⊢
  obtain ⟨T, hT⟩ : ∃ T, T = L.T := ⟨_, rfl⟩
  obtain ⟨H, hH⟩ : ∃ b, b = L.Hb i := ⟨_, rfl⟩
  rw [← hT] at c0 H11
  rw [← hH] at c1 H11 H12 H13
  clear h hi hp hk he hv er hR hT hH h11 h12 h13
  unfold ptr clo at *
  go_enter Try.func54, Try.ntmps54
  go_wp2_with fail
  refine (H11.out).mono ?_
  rintro e w1 ⟨rfl, h1⟩
  obtain ⟨g1, g2, ⟨g3, g4⟩, g5⟩ := H12.out _ h1
  go_wp2
  exact H13.out _ h1
theorem nd_eql_other (w : World) {b c : Nat} {cb cc : List Value} (hne : ¬ b = c) (hb : BC w b 48 cb) (hc : BC w c 48 cc) : (binOp .eql 46 (.pointer (some ⟨b, 0, none⟩)) (.pointer (some ⟨c, 0, none⟩))).run Try.prog w = .ok (.bool false) w := by
  obtain ⟨j, hj, _, hs, _⟩ := info_parts info_node
  have hd : ∀ d : Nat, (Op.equalIn (d + 1) 46 (.pointer (some ⟨b, 0, none⟩)) (.pointer (some ⟨c, 0, none⟩))).run Try.prog w = .ok false w := fun d => by
    simp [Op.equalIn, run_underlying Try.underlying46, sizeOf, typeInfo, hj, hs, run_sameAddr_other w (a := ⟨b, 0, none⟩) (b := ⟨c, 0, none⟩) (fun e => hne (by injection e)) hb hc]
  simp only [binOp, Op.equal, Op.maxDepth]
  simp [hd 9999]
theorem nd_eql_same (w : World) (a : Addr) : (binOp .eql 46 (.pointer (some a)) (.pointer (some a))).run Try.prog w = .ok (.bool true) w := by
  obtain ⟨j, hj, _, hs, _⟩ := info_parts info_node
  have hd : ∀ d : Nat, (Op.equalIn (d + 1) 46 (.pointer (some a)) (.pointer (some a))).run Try.prog w = .ok true w := fun d => by
    simp [Op.equalIn, run_underlying Try.underlying46, sizeOf, typeInfo, hj, run_sameAddr_same]
  simp only [binOp, Op.equal, Op.maxDepth]
  simp [hd 9999]
set_option maxRecDepth 100000 in
set_option maxHeartbeats 2000000 in
theorem clean_any (h : WN L s dv w) {i : Nat} (hi : i < L.nh) (hp : (s.hd i).plc ≠ 0) (hkp : s.m.ky (s.hd i).p ≠ 10) {e0 e1 e2 e3 e4 e5 e6 : Nat} (he : EMk L (L.Hb i) e0 e1 e2 e3 e4 e5 e6) :
    Calls Try.prog 53 #[ptr e1] w (fun e w' => e = .returned (.bool (clean s.m (s.hd i))) ∧ ∃ m, w' = w.drewN m) := by
  have c1 := h.cst he.c1
  obtain ⟨pv, cv, bb, -, -, -, h3, h4, -, -, -, hpc, -⟩ := h.hand hi
  obtain ⟨rfl, rfl, p1, p2⟩ := hpc hp
  obtain ⟨-, q1, q2, -⟩ := h.bead p1
  rw [if_neg hkp] at q1
  have HN : Hid (∀ W, Kp w W → ¬ L.B (s.m.nx (s.hd i).p) = L.B (s.hd i).c → (binOp .eql 46 (.pointer (some ⟨L.B (s.m.nx (s.hd i).p), 0, none⟩)) (.pointer (some ⟨L.B (s.hd i).c, 0, none⟩))).run Try.prog W = .ok (.bool false) W) := hide (fun W k hne => nd_eql_other W hne ((h.kpw k).bd _ (h.nn _ p1)).1 ((h.kpw k).bd _ p2).1)
  have HC : Hid ((s.m.mr (s.hd i).p = true ∧ clean s.m (s.hd i) = false) ∨ (s.m.mr (s.hd i).p = false ∧ L.B (s.m.nx (s.hd i).p) = L.B (s.hd i).c ∧ clean s.m (s.hd i) = true) ∨ (s.m.mr (s.hd i).p = false ∧ ¬ L.B (s.m.nx (s.hd i).p) = L.B (s.hd i).c ∧ clean s.m (s.hd i) = false)) := hide (by
    cases a1 : s.m.mr (s.hd i).p with
    | true => exact Or.inl ⟨rfl, by simp [clean, a1]⟩
    | false =>
      by_cases e : s.m.nx (s.hd i).p = (s.hd i).c
      · exact Or.inr (Or.inl ⟨rfl, by rw [e], clean_iff.2 ⟨a1, e⟩⟩)
      · refine Or.inr (Or.inr ⟨rfl, fun e2 => e (h.bi _ _ (h.nn _ p1) p2 e2), ?_⟩)
        cases hx : clean s.m (s.hd i) with
        | false => rfl
        | true => exact absurd (clean_iff.1 hx).2 e)
  obtain ⟨C, hC⟩ : ∃ c, c = clean s.m (s.hd i) := ⟨_, rfl⟩
  obtain ⟨b, hb⟩ : ∃ b, b = L.B (s.hd i).c := ⟨_, rfl⟩
  obtain ⟨b9, hb9⟩ : ∃ b, b = L.B (s.hd i).p := ⟨_, rfl⟩
  obtain ⟨b7, hb7⟩ : ∃ b, b = L.B (s.m.nx (s.hd i).p) := ⟨_, rfl⟩
  obtain ⟨H, hH⟩ : ∃ b, b = L.Hb i := ⟨_, rfl⟩
  obtain ⟨MP, hMP⟩ : ∃ b, b = s.m.mr (s.hd i).p := ⟨_, rfl⟩
  rw [← hC] at HC ⊢
  rw [← hb] at h4 HN HC
  rw [← hb9] at h3 q1 q2
  rw [← hb7] at q1 HN HC
  rw [← hH] at c1 h3 h4
  rw [← hMP] at q2 HC
  clear h hi hp hkp he hC hb hb9 hb7 hH hMP hpc p1 p2
  unfold ptr at *
  rcases HC.out with ⟨rfl, rfl⟩ | ⟨rfl, rfl, rfl⟩ | ⟨rfl, hneb, rfl⟩
  · clear HC
    go_enter Try.func53, Try.ntmps53
    go_wp2_with fail
    go_quiet (fail)
    go_wp2
    go_ret
    exact ⟨rfl, _, rfl⟩
  · clear HC HN
    have hN := fun n => nd_eql_same (w.drewN n) ⟨b7, 0, none⟩
    go_enter Try.func53, Try.ntmps53
    go_wp2_with fail
    go_quiet (fail)
    go_wp2
    go_ret
    exact ⟨rfl, _, rfl⟩
  · clear HC
    have hN := fun n => HN.out (w.drewN n) ((Kp.refl w).drewN) hneb
    go_enter Try.func53, Try.ntmps53
    go_wp2_with fail
    go_quiet (fail)
    go_wp2
    go_ret
    exact ⟨rfl, _, rfl⟩
end Go.Proofs.Ytoihdnekkgpcoaa
namespace Go.Proofs.Ytoihdnekkgpcoaa
open Go.ChangeShapes Go.WideShapes Go.ChangeAt Go.RowKit
set_option linter.unusedVariables false
set_option linter.unusedSimpArgs false

variable {L : Lay} {s : St} {dv : Nat → Value} {w w' : World}
set_option maxRecDepth 100000 in
set_option maxHeartbeats 4000000 in
theorem mk3_on (h : WN L s dv w) {i : Nat} (hi : i < L.nh) {d : Dd} (nv : Bool) (hd : (L.P i)[s.deed i]? = some d) (hp : (s.hd i).plc = 1) (hk : s.m.ky (s.hd i).c ≠ 10) (hmk : s.m.mr (s.hd i).c = true → d.kind = 3) (hlt : s.m.ky (s.hd i).c < d.key) {e0 e1 e2 e3 e4 e5 e6 : Nat} (he : EMk L (L.Hb i) e0 e1 e2 e3 e4 e5 e6) (hv : dv i = vMk 1 e0 e1 e2 e3 e4 e5 e6) :
    Calls Try.prog 55 #[ptr e1, ptr e6, ptr e2, ptr e4] w (CP DMk L s dv i (markS nv s.m (s.hd i) d)) := by
  have c1 := h.cst he.c1
  obtain ⟨pv, cv, bb, -, -, -, -, h4, h5, hz, -, hpc, -⟩ := h.hand hi
  obtain ⟨-, rfl, p1, p2⟩ := hpc (by omega)
  obtain ⟨b0, -, b2, -⟩ := h.bead p2
  have f5 := hz 5
  have hvn : dv i ≠ .nilFunc := by rw [hv]; exact vMk_nil _ _ _ _ _ _ _ _
  have er : markS nv s.m (s.hd i) d = (s.m, (s.hd i).on s.m, false) := by
    unfold markS; rw [hp]
    by_cases hm3 : s.m.mr (s.hd i).c = true
    · simp [hm3, hmk hm3, hlt]
    · simp [hm3, hlt]
  rw [er]
  have HK := hide (fun W (k : Kp w W) => key_quiet (h.kpw k) hi hd)
  have HKd := hide (fun W (k : Kp w W) => kind_quiet (h.kpw k) hi hd)
  have HX : ∃ R2 : World → Prop, (∀ W, Kp w W → Calls Try.prog 41 #[ptr (L.Hb i)] W (fun e w' => e = .returned (.tuple #[]) ∧ R2 w')) ∧
      (∀ w1, R2 w1 → CP DMk L s dv i (s.m, (s.hd i).on s.m, false) (.returned (.bool false)) w1) := by
    refine ⟨fun w1 => WN L { s with hd := up s.hd i ((s.hd i).on s.m) } dv w1, fun W k => on_any (h.kpw k) hi (by omega) hk, fun w1 h1 => ⟨rfl, L, dv, Lx.refl _ _, h1, fun _ _ => rfl, hvn, fun _ => ⟨e0, e1, e2, e3, e4, e5, e6, he, by show dv i = vMk (s.hd i).plc _ _ _ _ _ _ _; rw [hp]; exact hv⟩⟩⟩
  obtain ⟨R2, h11, h12⟩ := HX
  have H11 := hide h11
  have HE := hide h12
  obtain ⟨R, hR⟩ : ∃ R, R = CP DMk L s dv i (s.m, (s.hd i).on s.m, false) := ⟨_, rfl⟩
  rw [← hR] at HE ⊢
  obtain ⟨b, hb⟩ : ∃ b, b = L.B (s.hd i).c := ⟨_, rfl⟩
  obtain ⟨H, hH⟩ : ∃ b, b = L.Hb i := ⟨_, rfl⟩
  obtain ⟨K, hK⟩ : ∃ b, b = s.m.ky (s.hd i).c := ⟨_, rfl⟩
  obtain ⟨D, hD⟩ : ∃ b, b = d.key := ⟨_, rfl⟩
  obtain ⟨Q, hQ⟩ : ∃ b, b = d.kind := ⟨_, rfl⟩
  obtain ⟨MC, hMC⟩ : ∃ b, b = s.m.mr (s.hd i).c := ⟨_, rfl⟩
  rw [← hb] at h4 b0 b2
  rw [← hH] at c1 h4 h5 f5 HK HKd H11
  rw [← hK] at b0 hlt
  rw [← hD] at HK hlt
  rw [← hQ] at HKd hmk
  rw [← hMC] at b2 hmk
  have HF : Hid (∀ W, Kp w W → W.cell? ⟨e1, 0, none⟩ = some (ptr H) ∧ W.cell? ⟨H, 4, none⟩ = some (ptr b) ∧ W.cell? ⟨b, 0, none⟩ = some (.int .i64 K) ∧ W.cell? ⟨b, 2, none⟩ = some (.bool MC) ∧ W.cell? ⟨H, 5, none⟩ = some (.bool bb) ∧ W.frozen? ⟨H, 5, none⟩ = false) := hide (fun W k => ⟨k.cell c1, k.cell h4, k.cell b0, k.cell b2, k.cell h5, (k.frozen (World.block_lt_of_cell? _ _ h5)).trans f5⟩)

  clear h hi hd hp he hv hvn er hR hb hH hK hD hQ hMC hpc p1 p2 hz b2 h5 f5 hk h11 h12
  unfold ptr at *
  cases MC with
  | false =>
    go_enter Try.func55, Try.ntmps55
    go_wp2_with fail
    go_quiet ((go_at_call 40; exact Calls.quiet_of (HK.out _ (by (focus ((repeat (first | (with_reducible assumption) | (with_reducible exact Kp.refl _) | (with_reducible apply Kp.drew) | (with_reducible apply Kp.drewN) | ((with_reducible apply Kp.setR); (focus (first | (with_reducible assumption) | (simp; done) | (simp; omega)))) | (with_reducible apply Kp.alloc) | ((with_reducible apply Kp.call); (with_reducible assumption)) | ((with_reducible apply Kp.app); (with_reducible assumption)))); done))))))
    obtain ⟨w1, hw1⟩ : ∃ x, x = w.drewN nq := ⟨_, rfl⟩
    rw [← hw1]
    have kw1 : Kp w w1 := by rw [hw1]; exact (Kp.refl w).drewN
    clear hw1 c1 h4 b0
    obtain ⟨c1, h4, b0, b2, h5, f5⟩ := HF.out _ kw1
    go_wp2_with fail
    go_quiet ((go_at_call 40; exact Calls.quiet_of (HK.out _ (by (focus ((repeat (first | (with_reducible assumption) | (with_reducible exact Kp.refl _) | (with_reducible apply Kp.drew) | (with_reducible apply Kp.drewN) | ((with_reducible apply Kp.setR); (focus (first | (with_reducible assumption) | (simp; done) | (simp; omega)))) | (with_reducible apply Kp.alloc) | ((with_reducible apply Kp.call); (with_reducible assumption)) | ((with_reducible apply Kp.app); (with_reducible assumption)))); done))))))
    obtain ⟨w2, hw1⟩ : ∃ x, x = w1.drewN nq := ⟨_, rfl⟩
    rw [← hw1]
    have kw2 : Kp w w2 := by rw [hw1]; exact kw1.drewN
    clear hw1 c1 h4 b0 b2 h5 f5
    obtain ⟨c1, h4, b0, b2, h5, f5⟩ := HF.out _ kw2
    go_wp2_with fail
    refine (H11.out _ kw2).mono ?_
    rintro e wx ⟨rfl, h1⟩
    go_wp2
    exact HE.out _ h1
  | true =>
    have q3 : (Q == 3) = true := by rw [hmk rfl]; rfl
    have q3b : (Q != 3) = false := by rw [hmk rfl]; rfl
    clear hmk
    go_enter Try.func55, Try.ntmps55
    go_wp2_with fail
    go_quiet ((go_at_call 40; exact Calls.quiet_of (HK.out _ (by (focus ((repeat (first | (with_reducible assumption) | (with_reducible exact Kp.refl _) | (with_reducible apply Kp.drew) | (with_reducible apply Kp.drewN) | ((with_reducible apply Kp.setR); (focus (first | (with_reducible assumption) | (simp; done) | (simp; omega)))) | (with_reducible apply Kp.alloc) | ((with_reducible apply Kp.call); (with_reducible assumption)) | ((with_reducible apply Kp.app); (with_reducible assumption)))); done))))))
    obtain ⟨w1, hw1⟩ : ∃ x, x = w.drewN nq := ⟨_, rfl⟩
    rw [← hw1]
    have kw1 : Kp w w1 := by rw [hw1]; exact (Kp.refl w).drewN
    clear hw1 c1 h4 b0
    obtain ⟨c1, h4, b0, b2, h5, f5⟩ := HF.out _ kw1
    go_wp2_with fail
    refine (HKd.out _ kw1).mono ?_
    rintro e w2x ⟨rfl, m2, rfl⟩
    obtain ⟨w2, hw1⟩ : ∃ x, x = w1.drewN m2 := ⟨_, rfl⟩
    rw [← hw1]
    have kw2 : Kp w w2 := by rw [hw1]; exact kw1.drewN
    clear hw1 c1 h4 b0 b2 h5 f5
    obtain ⟨c1, h4, b0, b2, h5, f5⟩ := HF.out _ kw2
    go_wp2_with fail
    go_quiet ((go_at_call 40; exact Calls.quiet_of (HK.out _ (by (focus ((repeat (first | (with_reducible assumption) | (with_reducible exact Kp.refl _) | (with_reducible apply Kp.drew) | (with_reducible apply Kp.drewN) | ((with_reducible apply Kp.setR); (focus (first | (with_reducible assumption) | (simp; done) | (simp; omega)))) | (with_reducible apply Kp.alloc) | ((with_reducible apply Kp.call); (with_reducible assumption)) | ((with_reducible apply Kp.app); (with_reducible assumption)))); done))))))
    obtain ⟨w3, hw1⟩ : ∃ x, x = w2.drewN nq := ⟨_, rfl⟩
    rw [← hw1]
    have kw3 : Kp w w3 := by rw [hw1]; exact kw2.drewN
    clear hw1 c1 h4 b0 b2 h5 f5
    obtain ⟨c1, h4, b0, b2, h5, f5⟩ := HF.out _ kw3
    go_wp2_with fail
    refine (H11.out _ kw3).mono ?_
    rintro e wx ⟨rfl, h1⟩
    go_wp2
    exact HE.out _ h1
set_option maxRecDepth 100000 in
set_option maxHeartbeats 4000000 in
theorem mk3_no (h : WN L s dv w) {i : Nat} (hi : i < L.nh) {d : Dd} (nv : Bool) (hd : (L.P i)[s.deed i]? = some d) (hp : (s.hd i).plc = 1) (hmc : s.m.mr (s.hd i).c = false) (hlt : ¬ s.m.ky (s.hd i).c < d.key) (hk3 : d.kind ≠ 3) (heq : decide (s.m.ky (s.hd i).c = d.key) = decide (d.kind = 1)) {e0 e1 e2 e3 e4 e5 e6 : Nat} (he : EMk L (L.Hb i) e0 e1 e2 e3 e4 e5 e6) (hv : dv i = vMk 1 e0 e1 e2 e3 e4 e5 e6) :
    Calls Try.prog 55 #[ptr e1, ptr e6, ptr e2, ptr e4] w (CP DMk L s dv i (markS nv s.m (s.hd i) d)) := by
  have c1 := h.cst he.c1
  obtain ⟨pv, cv, bb, -, -, -, -, h4, h5, hz, -, hpc, -⟩ := h.hand hi
  obtain ⟨-, rfl, p1, p2⟩ := hpc (by omega)
  obtain ⟨b0, -, b2, -⟩ := h.bead p2
  have f5 := hz 5
  have hvn : dv i ≠ .nilFunc := by rw [hv]; exact vMk_nil _ _ _ _ _ _ _ _
  have er : markS nv s.m (s.hd i) d = (s.m, { s.hd i with is := false }, true) := by unfold markS; rw [hp]; simp [hmc, hlt, hk3, heq, hp]
  rw [er]
  have HK := hide (fun W (k : Kp w W) => key_quiet (h.kpw k) hi hd)
  have HKd := hide (fun W (k : Kp w W) => kind_quiet (h.kpw k) hi hd)
  have HE : Hid (∀ W W', Kp w W → Kp (W.setCell ⟨L.Hb i, 5, none⟩ (.bool false)) W' → CP DMk L s dv i (s.m, { s.hd i with is := false }, true) (.returned (.bool true)) W') := hide (fun W W' k k' => ⟨rfl, L, dv, Lx.refl _ _, ((h.kpw k).setis hi false).kpw k', fun _ _ => rfl, hvn, fun e => absurd e (by simp)⟩)
  obtain ⟨R, hR⟩ : ∃ R, R = CP DMk L s dv i (s.m, { s.hd i with is := false }, true) := ⟨_, rfl⟩
  rw [← hR] at HE ⊢
  obtain ⟨b, hb⟩ : ∃ b, b = L.B (s.hd i).c := ⟨_, rfl⟩
  obtain ⟨H, hH⟩ : ∃ b, b = L.Hb i := ⟨_, rfl⟩
  obtain ⟨K, hK⟩ : ∃ b, b = s.m.ky (s.hd i).c := ⟨_, rfl⟩
  obtain ⟨D, hD⟩ : ∃ b, b = d.key := ⟨_, rfl⟩
  obtain ⟨Q, hQ⟩ : ∃ b, b = d.kind := ⟨_, rfl⟩
  obtain ⟨MC, hMC⟩ : ∃ b, b = s.m.mr (s.hd i).c := ⟨_, rfl⟩
  rw [← hb] at h4 b0 b2
  rw [← hH] at c1 h4 h5 f5 HK HKd HE
  rw [← hK] at b0 hlt heq
  rw [← hD] at HK hlt heq
  rw [← hQ] at HKd hk3 heq
  rw [← hMC] at b2 hmc
  have HF : Hid (∀ W, Kp w W → W.cell? ⟨e1, 0, none⟩ = some (ptr H) ∧ W.cell? ⟨H, 4, none⟩ = some (ptr b) ∧ W.cell? ⟨b, 0, none⟩ = some (.int .i64 K) ∧ W.cell? ⟨b, 2, none⟩ = some (.bool MC) ∧ W.cell? ⟨H, 5, none⟩ = some (.bool bb) ∧ W.frozen? ⟨H, 5, none⟩ = false) := hide (fun W k => ⟨k.cell c1, k.cell h4, k.cell b0, k.cell b2, k.cell h5, (k.frozen (World.block_lt_of_cell? _ _ h5)).trans f5⟩)
  have q3 : (Q == 3) = false := beq_eq_false_iff_ne.2 hk3
  have hEQ : ((K == D) == (Q == 1)) = true := by
    have e1 : (Q == 1) = decide (Q = 1) := beq_dec Q 1
    rw [beq_dec, e1]; rw [heq]; exact beq_self_eq_true _
  clear h hi hd hp he hv hvn er hR hb hH hK hD hQ hMC hpc p1 p2 hz b2 h5 f5 hk3 heq
  unfold ptr at *
  subst hmc
  focus
    go_enter Try.func55, Try.ntmps55
    go_wp2_with fail
    go_quiet ((go_at_call 40; exact Calls.quiet_of (HK.out _ (by (focus ((repeat (first | (with_reducible assumption) | (with_reducible exact Kp.refl _) | (with_reducible apply Kp.drew) | (with_reducible apply Kp.drewN) | ((with_reducible apply Kp.setR); (focus (first | (with_reducible assumption) | (simp; done) | (simp; omega)))) | (with_reducible apply Kp.alloc) | ((with_reducible apply Kp.call); (with_reducible assumption)) | ((with_reducible apply Kp.app); (with_reducible assumption)))); done))))))
    obtain ⟨w1, hw1⟩ : ∃ x, x = w.drewN nq := ⟨_, rfl⟩
    rw [← hw1]
    have kw1 : Kp w w1 := by rw [hw1]; exact (Kp.refl w).drewN
    clear hw1 c1 h4 b0
    obtain ⟨c1, h4, b0, b2, h5, f5⟩ := HF.out _ kw1
    go_wp2_with fail
    go_quiet ((go_at_call 40; exact Calls.quiet_of (HK.out _ (by (focus ((repeat (first | (with_reducible assumption) | (with_reducible exact Kp.refl _) | (with_reducible apply Kp.drew) | (with_reducible apply Kp.drewN) | ((with_reducible apply Kp.setR); (focus (first | (with_reducible assumption) | (simp; done) | (simp; omega)))) | (with_reducible apply Kp.alloc) | ((with_reducible apply Kp.call); (with_reducible assumption)) | ((with_reducible apply Kp.app); (with_reducible assumption)))); done))))))
    obtain ⟨w2, hw1⟩ : ∃ x, x = w1.drewN nq := ⟨_, rfl⟩
    rw [← hw1]
    have kw2 : Kp w w2 := by rw [hw1]; exact kw1.drewN
    clear hw1 c1 h4 b0 b2 h5 f5
    obtain ⟨c1, h4, b0, b2, h5, f5⟩ := HF.out _ kw2
    go_wp2_with fail
    refine (HKd.out _ kw2).mono ?_
    rintro e w3x ⟨rfl, m3, rfl⟩
    obtain ⟨w3, hw1⟩ : ∃ x, x = w2.drewN m3 := ⟨_, rfl⟩
    rw [← hw1]
    have kw3 : Kp w w3 := by rw [hw1]; exact kw2.drewN
    clear hw1 c1 h4 b0 b2 h5 f5
    obtain ⟨c1, h4, b0, b2, h5, f5⟩ := HF.out _ kw3
    go_wp2_with fail
    refine (HKd.out _ kw3).mono ?_
    rintro e w4x ⟨rfl, m4, rfl⟩
    obtain ⟨w4, hw1⟩ : ∃ x, x = w3.drewN m4 := ⟨_, rfl⟩
    rw [← hw1]
    have kw4 : Kp w w4 := by rw [hw1]; exact kw3.drewN
    clear hw1 c1 h4 b0 b2 h5 f5
    obtain ⟨c1, h4, b0, b2, h5, f5⟩ := HF.out _ kw4
    go_wp2
    exact HE.out w4 _ kw4 (Kp.refl _)
set_option maxRecDepth 100000 in
set_option maxHeartbeats 4000000 in
theorem mk3_deed (h : WN L s dv w) {i : Nat} (hi : i < L.nh) {d : Dd} (nv : Bool) (hd : (L.P i)[s.deed i]? = some d) (hp : (s.hd i).plc = 1) (hmc : s.m.mr (s.hd i).c = false) (hlt : ¬ s.m.ky (s.hd i).c < d.key) (hk3 : d.kind ≠ 3) (heq : ¬ decide (s.m.ky (s.hd i).c = d.key) = decide (d.kind = 1)) {e0 e1 e2 e3 e4 e5 e6 : Nat} (he : EMk L (L.Hb i) e0 e1 e2 e3 e4 e5 e6) (hv : dv i = vMk 1 e0 e1 e2 e3 e4 e5 e6) :
    Calls Try.prog 55 #[ptr e1, ptr e6, ptr e2, ptr e4] w (CP DMk L s dv i (markS nv s.m (s.hd i) d)) := by
  have c1 := h.cst he.c1
  obtain ⟨pv, cv, bb, -, -, -, -, h4, h5, hz, -, hpc, -⟩ := h.hand hi
  obtain ⟨-, rfl, p1, p2⟩ := hpc (by omega)
  obtain ⟨b0, -, b2, -⟩ := h.bead p2
  have f5 := hz 5
  have hvn : dv i ≠ .nilFunc := by rw [hv]; exact vMk_nil _ _ _ _ _ _ _ _
  have er : markS nv s.m (s.hd i) d = (s.m, { s.hd i with plc := 2 }, false) := by unfold markS; rw [hp]; simp [hmc, hlt, hk3, heq, hp]
  rw [er]
  have HK := hide (fun W (k : Kp w W) => key_quiet (h.kpw k) hi hd)
  have HKd := hide (fun W (k : Kp w W) => kind_quiet (h.kpw k) hi hd)
  have hz2 := hz 2
  have HX : ∃ R1 : World → Prop, (∀ W, Kp w W → R1 W) ∧ (∀ w1, R1 w1 → w1.cell? ⟨e1, 0, none⟩ = some (ptr (L.Hb i)) ∧ w1.cell? ⟨e4, 0, none⟩ = some (clo 56 #[ptr e0, ptr e1, ptr e6, ptr e5, ptr e2]) ∧ (∃ x, w1.cell? ⟨L.Hb i, 2, none⟩ = some x) ∧ w1.frozen? ⟨L.Hb i, 2, none⟩ = false) ∧
      (∀ w1, R1 w1 → CP DMk L s dv i (s.m, { s.hd i with plc := 2 }, false) (.returned (.bool false)) (w1.setCell ⟨L.Hb i, 2, none⟩ (clo 56 #[ptr e0, ptr e1, ptr e6, ptr e5, ptr e2]))) := by
    refine ⟨fun w1 => WN L s dv w1, fun W k => h.kpw k, fun w1 h1 => ⟨h1.cst he.c1, h1.cst he.c4, by obtain ⟨_, _, _, _, _, x, _, _, _, y, _⟩ := h1.hand hi; exact ⟨⟨_, x⟩, y 2⟩⟩, fun w1 h1 => ?_⟩
    have h2 := h1.setdo hi (clo 56 #[ptr e0, ptr e1, ptr e6, ptr e5, ptr e2]) 2 (fun _ => by omega) hvn
    exact ⟨rfl, L, up dv i (clo 56 #[ptr e0, ptr e1, ptr e6, ptr e5, ptr e2]), Lx.refl _ _, h2, fun j hj => up_ne _ _ hj, by rw [up_same]; exact clo_nil _ _, fun _ => ⟨e0, e1, e2, e3, e4, e5, e6, he, by rw [up_same]; rfl⟩⟩
  obtain ⟨R1, h10, h12, h13⟩ := HX
  have H10 := hide h10
  have H12 := hide h12
  have HE := hide h13
  obtain ⟨R, hR⟩ : ∃ R, R = CP DMk L s dv i (s.m, { s.hd i with plc := 2 }, false) := ⟨_, rfl⟩
  rw [← hR] at HE ⊢
  obtain ⟨b, hb⟩ : ∃ b, b = L.B (s.hd i).c := ⟨_, rfl⟩
  obtain ⟨H, hH⟩ : ∃ b, b = L.Hb i := ⟨_, rfl⟩
  obtain ⟨K, hK⟩ : ∃ b, b = s.m.ky (s.hd i).c := ⟨_, rfl⟩
  obtain ⟨D, hD⟩ : ∃ b, b = d.key := ⟨_, rfl⟩
  obtain ⟨Q, hQ⟩ : ∃ b, b = d.kind := ⟨_, rfl⟩
  obtain ⟨MC, hMC⟩ : ∃ b, b = s.m.mr (s.hd i).c := ⟨_, rfl⟩
  rw [← hb] at h4 b0 b2
  rw [← hH] at c1 h4 h5 f5 HK HKd H12 HE
  rw [← hK] at b0 hlt heq
  rw [← hD] at HK hlt heq
  rw [← hQ] at HKd hk3 heq
  rw [← hMC] at b2 hmc
  have HF : Hid (∀ W, Kp w W → W.cell? ⟨e1, 0, none⟩ = some (ptr H) ∧ W.cell? ⟨H, 4, none⟩ = some (ptr b) ∧ W.cell? ⟨b, 0, none⟩ = some (.int .i64 K) ∧ W.cell? ⟨b, 2, none⟩ = some (.bool MC) ∧ W.cell? ⟨H, 5, none⟩ = some (.bool bb) ∧ W.frozen? ⟨H, 5, none⟩ = false) := hide (fun W k => ⟨k.cell c1, k.cell h4, k.cell b0, k.cell b2, k.cell h5, (k.frozen (World.block_lt_of_cell? _ _ h5)).trans f5⟩)
  have q3 : (Q == 3) = false := beq_eq_false_iff_ne.2 hk3
  have hEQ : ((K == D) == (Q == 1)) = false := by
    have e1 : (Q == 1) = decide (Q = 1) := beq_dec Q 1
    rw [beq_dec, e1]; exact beq_eq_false_iff_ne.2 heq
  clear h hi hd hp he hv hvn er hR hb hH hK hD hQ hMC hpc p1 p2 hz b2 h5 f5 hk3 heq h10 h12 h13 hz2
  unfold ptr clo at *
  subst hmc
  focus
    go_enter Try.func55, Try.ntmps55
    go_wp2_with fail
    go_quiet ((go_at_call 40; exact Calls.quiet_of (HK.out _ (by (focus ((repeat (first | (with_reducible assumption) | (with_reducible exact Kp.refl _) | (with_reducible apply Kp.drew) | (with_reducible apply Kp.drewN) | ((with_reducible apply Kp.setR); (focus (first | (with_reducible assumption) | (simp; done) | (simp; omega)))) | (with_reducible apply Kp.alloc) | ((with_reducible apply Kp.call); (with_reducible assumption)) | ((with_reducible apply Kp.app); (with_reducible assumption)))); done))))))
    obtain ⟨w1, hw1⟩ : ∃ x, x = w.drewN nq := ⟨_, rfl⟩
    rw [← hw1]
    have kw1 : Kp w w1 := by rw [hw1]; exact (Kp.refl w).drewN
    clear hw1 c1 h4 b0
    obtain ⟨c1, h4, b0, b2, h5, f5⟩ := HF.out _ kw1
    go_wp2_with fail
    go_quiet ((go_at_call 40; exact Calls.quiet_of (HK.out _ (by (focus ((repeat (first | (with_reducible assumption) | (with_reducible exact Kp.refl _) | (with_reducible apply Kp.drew) | (with_reducible apply Kp.drewN) | ((with_reducible apply Kp.setR); (focus (first | (with_reducible assumption) | (simp; done) | (simp; omega)))) | (with_reducible apply Kp.alloc) | ((with_reducible apply Kp.call); (with_reducible assumption)) | ((with_reducible apply Kp.app); (with_reducible assumption)))); done))))))
    obtain ⟨w2, hw1⟩ : ∃ x, x = w1.drewN nq := ⟨_, rfl⟩
    rw [← hw1]
    have kw2 : Kp w w2 := by rw [hw1]; exact kw1.drewN
    clear hw1 c1 h4 b0 b2 h5 f5
    obtain ⟨c1, h4, b0, b2, h5, f5⟩ := HF.out _ kw2
    go_wp2_with fail
    refine (HKd.out _ kw2).mono ?_
    rintro e w3x ⟨rfl, m3, rfl⟩
    obtain ⟨w3, hw1⟩ : ∃ x, x = w2.drewN m3 := ⟨_, rfl⟩
    rw [← hw1]
    have kw3 : Kp w w3 := by rw [hw1]; exact kw2.drewN
    clear hw1 c1 h4 b0 b2 h5 f5
    obtain ⟨c1, h4, b0, b2, h5, f5⟩ := HF.out _ kw3
    go_wp2_with fail
    refine (HKd.out _ kw3).mono ?_
    rintro e w4x ⟨rfl, m4, rfl⟩
    obtain ⟨w4, hw1⟩ : ∃ x, x = w3.drewN m4 := ⟨_, rfl⟩
    rw [← hw1]
    have kw4 : Kp w w4 := by rw [hw1]; exact kw3.drewN
    clear hw1 c1 h4 b0 b2 h5 f5
    obtain ⟨c1, h4, b0, b2, h5, f5⟩ := HF.out _ kw4
    have r1 := H10.out _ kw4
    obtain ⟨g1, g2, ⟨g3, g4⟩, g5⟩ := H12.out _ r1
    go_wp2
    exact HE.out _ r1
end Go.Proofs.Ytoihdnekkgpcoaa
namespace Go.Proofs.Ytoihdnekkgpcoaa
open Go.ChangeShapes Go.WideShapes Go.ChangeAt Go.RowKit
set_option linter.unusedVariables false
set_option linter.unusedSimpArgs false

variable {L : Lay} {s : St} {dv : Nat → Value} {w w' : World}
/-- The second bead alone. -/
theorem WN.setc (h : WN L s dv w) {i : Nat} (hi : i < L.nh) (hp : (s.hd i).plc ≠ 0) (c : Nat) (hc : c < s.m.n) : WN L { s with hd := up s.hd i { s.hd i with c := c } } dv (w.setCell ⟨L.Hb i, 4, none⟩ (ptr (L.B c))) := by
  obtain ⟨pv, cv, b, b1, b2, b3, b4⟩ := h.hn i hi
  obtain ⟨x1, x2, x3, x4⟩ := b3 hp
  refine h.updh hi (Kf.set (Kf.refl _ w) (.inl rfl)) _ s.deed dv (fun j hj => ⟨up_ne _ _ hj, rfl, rfl⟩) pv (ptr (L.B c)) b ?_ ?_ ?_
  · exact b1.set (j := 4) (u := ptr (L.B c))
  · rw [up_same]; exact fun _ => ⟨x1, rfl, x3, hc⟩
  · rw [up_same]; exact b4
set_option maxRecDepth 100000 in
set_option maxHeartbeats 4000000 in
theorem mk3_again (h : WN L s dv w) {i : Nat} (hi : i < L.nh) {d : Dd} (nv : Bool) (hd : (L.P i)[s.deed i]? = some d) (hp : (s.hd i).plc = 1) (hkp : s.m.ky (s.hd i).p ≠ 10) (hmc : s.m.mr (s.hd i).c = true) (hk3 : d.kind ≠ 3) (hcl : clean s.m (s.hd i) = false) {e0 e1 e2 e3 e4 e5 e6 : Nat} (he : EMk L (L.Hb i) e0 e1 e2 e3 e4 e5 e6) (hv : dv i = vMk 1 e0 e1 e2 e3 e4 e5 e6) :
    Calls Try.prog 55 #[ptr e1, ptr e6, ptr e2, ptr e4] w (CP DMk L s dv i (markS nv s.m (s.hd i) d)) := by
  have c1 := h.cst he.c1
  obtain ⟨pv, cv, bb, -, -, -, -, h4, h5, hz, -, hpc, -⟩ := h.hand hi
  obtain ⟨-, rfl, p1, p2⟩ := hpc (by omega)
  obtain ⟨b0, -, b2, -⟩ := h.bead p2
  have f5 := hz 5
  have hvn : dv i ≠ .nilFunc := by rw [hv]; exact vMk_nil _ _ _ _ _ _ _ _
  have er : markS nv s.m (s.hd i) d = (s.m, { s.hd i with plc := 0 }, false) := by unfold markS; rw [hp]; simp [hmc, hk3, hcl, hp]
  rw [er]
  have HK := hide (fun W (k : Kp w W) => key_quiet (h.kpw k) hi hd)
  have HKd := hide (fun W (k : Kp w W) => kind_quiet (h.kpw k) hi hd)
  have c6 := h.cst he.c6
  have HCl : Hid (∀ W, Kp w W → Calls Try.prog 53 #[ptr e1] W (fun e w' => e = .returned (.bool false) ∧ ∃ m, w' = W.drewN m)) := hide (fun W k => by have := clean_any (h.kpw k) hi (by omega) hkp he; rw [hcl] at this; exact this)
  have HX : ∃ R1 : World → Prop, (∀ W, Kp w W → R1 W) ∧ (∀ w1, R1 w1 → w1.cell? ⟨e1, 0, none⟩ = some (ptr (L.Hb i)) ∧ w1.cell? ⟨e2, 0, none⟩ = some (clo 54 #[ptr e0, ptr e1, ptr e3]) ∧ (∃ x, w1.cell? ⟨L.Hb i, 2, none⟩ = some x) ∧ w1.frozen? ⟨L.Hb i, 2, none⟩ = false) ∧
      (∀ w1, R1 w1 → CP DMk L s dv i (s.m, { s.hd i with plc := 0 }, false) (.returned (.bool false)) (w1.setCell ⟨L.Hb i, 2, none⟩ (clo 54 #[ptr e0, ptr e1, ptr e3]))) := by
    refine ⟨fun w1 => WN L s dv w1, fun W k => h.kpw k, fun w1 h1 => ⟨h1.cst he.c1, h1.cst he.c2, by obtain ⟨_, _, _, _, _, x, _, _, _, y, _⟩ := h1.hand hi; exact ⟨⟨_, x⟩, y 2⟩⟩, fun w1 h1 => ?_⟩
    have h2 := h1.setdo hi (clo 54 #[ptr e0, ptr e1, ptr e3]) 0 (fun e => absurd rfl e) hvn
    exact ⟨rfl, L, up dv i (clo 54 #[ptr e0, ptr e1, ptr e3]), Lx.refl _ _, h2, fun j hj => up_ne _ _ hj, by rw [up_same]; exact clo_nil _ _, fun _ => ⟨e0, e1, e2, e3, e4, e5, e6, he, by rw [up_same]; rfl⟩⟩
  obtain ⟨R1, h10, h12, h13⟩ := HX
  have H10 := hide h10
  have H12 := hide h12
  have HE := hide h13
  obtain ⟨R, hR⟩ : ∃ R, R = CP DMk L s dv i (s.m, { s.hd i with plc := 0 }, false) := ⟨_, rfl⟩
  rw [← hR] at HE ⊢
  obtain ⟨b, hb⟩ : ∃ b, b = L.B (s.hd i).c := ⟨_, rfl⟩
  obtain ⟨H, hH⟩ : ∃ b, b = L.Hb i := ⟨_, rfl⟩
  obtain ⟨K, hK⟩ : ∃ b, b = s.m.ky (s.hd i).c := ⟨_, rfl⟩
  obtain ⟨D, hD⟩ : ∃ b, b = d.key := ⟨_, rfl⟩
  obtain ⟨Q, hQ⟩ : ∃ b, b = d.kind := ⟨_, rfl⟩
  obtain ⟨MC, hMC⟩ : ∃ b, b = s.m.mr (s.hd i).c := ⟨_, rfl⟩
  rw [← hb] at h4 b0 b2
  rw [← hH] at c1 h4 h5 f5 HK HKd H12 HE
  rw [← hK] at b0
  rw [← hD] at HK
  rw [← hQ] at HKd hk3
  rw [← hMC] at b2 hmc
  have HF : Hid (∀ W, Kp w W → W.cell? ⟨e1, 0, none⟩ = some (ptr H) ∧ W.cell? ⟨H, 4, none⟩ = some (ptr b) ∧ W.cell? ⟨b, 0, none⟩ = some (.int .i64 K) ∧ W.cell? ⟨b, 2, none⟩ = some (.bool MC) ∧ W.cell? ⟨H, 5, none⟩ = some (.bool bb) ∧ W.frozen? ⟨H, 5, none⟩ = false) := hide (fun W k => ⟨k.cell c1, k.cell h4, k.cell b0, k.cell b2, k.cell h5, (k.frozen (World.block_lt_of_cell? _ _ h5)).trans f5⟩)
  have q3 : (Q == 3) = false := beq_eq_false_iff_ne.2 hk3
  have q3b : (Q != 3) = true := by rw [bne_dec]; exact decide_eq_true hk3
  clear h hi hd hp he hv hvn er hR hb hH hK hD hQ hMC hpc p1 p2 hz b2 h5 f5 hk3 hkp hcl h10 h12 h13
  unfold ptr clo at *
  subst hmc
  focus
    go_enter Try.func55, Try.ntmps55
    go_wp2_with fail
    go_quiet ((go_at_call 40; exact Calls.quiet_of (HK.out _ (by (focus ((repeat (first | (with_reducible assumption) | (with_reducible exact Kp.refl _) | (with_reducible apply Kp.drew) | (with_reducible apply Kp.drewN) | ((with_reducible apply Kp.setR); (focus (first | (with_reducible assumption) | (simp; done) | (simp; omega)))) | (with_reducible apply Kp.alloc) | ((with_reducible apply Kp.call); (with_reducible assumption)) | ((with_reducible apply Kp.app); (with_reducible assumption)))); done))))))
    obtain ⟨w1, hw1⟩ : ∃ x, x = w.drewN nq := ⟨_, rfl⟩
    rw [← hw1]
    have kw1 : Kp w w1 := by rw [hw1]; exact (Kp.refl w).drewN
    clear hw1 c1 h4 b0
    obtain ⟨c1, h4, b0, b2, h5, f5⟩ := HF.out _ kw1
    go_wp2_with fail
    refine (HKd.out _ kw1).mono ?_
    rintro e w2x ⟨rfl, m2, rfl⟩
    obtain ⟨w2, hw1⟩ : ∃ x, x = w1.drewN m2 := ⟨_, rfl⟩
    rw [← hw1]
    have kw2 : Kp w w2 := by rw [hw1]; exact kw1.drewN
    clear hw1 c1 h4 b0 b2 h5 f5
    obtain ⟨c1, h4, b0, b2, h5, f5⟩ := HF.out _ kw2
    have c6' : w2.cell? ⟨e6, 0, none⟩ = _ := kw2.cell c6
    go_wp2_with fail
    refine (HCl.out _ kw2).mono ?_
    rintro e wx ⟨rfl, m9, rfl⟩
    obtain ⟨w3, hw1⟩ : ∃ x, x = w2.drewN m9 := ⟨_, rfl⟩
    rw [← hw1]
    have kw3 : Kp w w3 := by rw [hw1]; exact kw2.drewN
    clear hw1 c1 h4 b0 b2 h5 f5
    obtain ⟨c1, h4, b0, b2, h5, f5⟩ := HF.out _ kw3
    have r1 := H10.out _ kw3
    obtain ⟨g1, g2, ⟨g3, g4⟩, g5⟩ := H12.out _ r1
    go_wp2
    exact HE.out _ r1
set_option maxRecDepth 100000 in
set_option maxHeartbeats 4000000 in
theorem mk3_off (h : WN L s dv w) {i : Nat} (hi : i < L.nh) {d : Dd} (nv : Bool) (hd : (L.P i)[s.deed i]? = some d) (hp : (s.hd i).plc = 1) (hkp : s.m.ky (s.hd i).p ≠ 10) (hmc : s.m.mr (s.hd i).c = true) (hk3 : d.kind ≠ 3) (hcl : clean s.m (s.hd i) = true) (hne : (s.hd i).p ≠ (s.hd i).c) (hkc : s.m.ky (s.hd i).c ≠ 10) {e0 e1 e2 e3 e4 e5 e6 : Nat} (he : EMk L (L.Hb i) e0 e1 e2 e3 e4 e5 e6) (hv : dv i = vMk 1 e0 e1 e2 e3 e4 e5 e6) :
    Calls Try.prog 55 #[ptr e1, ptr e6, ptr e2, ptr e4] w (CP DMk L s dv i (markS nv s.m (s.hd i) d)) := by
  have c1 := h.cst he.c1
  obtain ⟨pv, cv, bb, -, -, -, -, h4, h5, hz, -, hpc, -⟩ := h.hand hi
  obtain ⟨-, rfl, p1, p2⟩ := hpc (by omega)
  obtain ⟨b0, -, b2, -⟩ := h.bead p2
  have f5 := hz 5
  have hvn : dv i ≠ .nilFunc := by rw [hv]; exact vMk_nil _ _ _ _ _ _ _ _
  have er : markS nv s.m (s.hd i) d = (s.m.drop (s.hd i).p (s.hd i).c, { s.hd i with c := s.m.nx (s.hd i).c }, false) := by unfold markS; rw [hp]; simp [hmc, hk3, hcl, hp]
  rw [er]
  have HK := hide (fun W (k : Kp w W) => key_quiet (h.kpw k) hi hd)
  have HKd := hide (fun W (k : Kp w W) => kind_quiet (h.kpw k) hi hd)
  have c6 := h.cst he.c6
  have HCl : Hid (∀ W, Kp w W → Calls Try.prog 53 #[ptr e1] W (fun e w' => e = .returned (.bool true) ∧ ∃ m, w' = W.drewN m)) := hide (fun W k => by have := clean_any (h.kpw k) hi (by omega) hkp he; rw [hcl] at this; exact this)
  obtain ⟨pv', cv', bb', -, -, -, hh3, -, -, -, -, hpc2, -⟩ := h.hand hi
  obtain ⟨rfl, -⟩ := hpc2 (by omega)
  obtain ⟨-, v1, -⟩ := h.bead p2
  rw [if_neg hkc] at v1
  obtain ⟨-, u1, -, -, u4, -⟩ := h.bead p1
  rw [if_neg hkp] at u1
  have hz4 := hz 4
  have u41 := u4 1
  have n2 : ¬ L.B (s.hd i).p = L.Hb i := by obtain ⟨_, _, _, a, _⟩ := h.hn i hi; exact BC.ne (h.bd _ p1).1 a (by decide)
  have n3 : ¬ e1 = L.B (s.hd i).p := BC.ne (h.cs _ _ _ he.c1).1 (h.bd _ p1).1 (by decide)
  have n4 : ¬ L.B (s.hd i).c = L.Hb i := by obtain ⟨_, _, _, a, _⟩ := h.hn i hi; exact BC.ne (h.bd _ p2).1 a (by decide)
  have HX : ∃ R1 : World → Prop, (∀ W W', Kp w W → Kp (W.setCell ⟨L.B (s.hd i).p, 1, none⟩ (ptr (L.B (s.m.nx (s.hd i).c)))) W' → R1 W') ∧ (∀ w1, R1 w1 → w1.cell? ⟨e1, 0, none⟩ = some (ptr (L.Hb i)) ∧ w1.cell? ⟨L.Hb i, 4, none⟩ = some (ptr (L.B (s.hd i).c)) ∧ w1.cell? ⟨L.B (s.hd i).c, 1, none⟩ = some (ptr (L.B (s.m.nx (s.hd i).c))) ∧ w1.frozen? ⟨L.Hb i, 4, none⟩ = false) ∧
      (∀ w1 W, R1 w1 → Kp (w1.setCell ⟨L.Hb i, 4, none⟩ (ptr (L.B (s.m.nx (s.hd i).c)))) W → CP DMk L s dv i (s.m.drop (s.hd i).p (s.hd i).c, { s.hd i with c := s.m.nx (s.hd i).c }, false) (.returned (.bool false)) W) := by
    refine ⟨fun w1 => WN L { s with m := s.m.drop (s.hd i).p (s.hd i).c } dv w1, fun W W' k k' => ((h.kpw k).setnx p1 (h.nn _ p2) hkp).kpw k', fun w1 h1 => ?_, fun w1 W h1 k => ?_⟩
    · obtain ⟨pv2, cv2, _, _, _, _, _, y4, _, fz, _, z, _⟩ := h1.hand hi
      have z := z (by show (s.hd i).plc ≠ 0; omega)
      obtain ⟨_, t1, _⟩ := h1.bead (i := (s.hd i).c) p2
      have t1 : w1.cell? ⟨L.B (s.hd i).c, 1, none⟩ = some (if s.m.ky (s.hd i).c = 10 then .pointer none else ptr (L.B (up s.m.nx (s.hd i).p (s.m.nx (s.hd i).c) (s.hd i).c))) := t1
      rw [if_neg hkc, up_ne _ _ hne.symm] at t1
      exact ⟨h1.cst he.c1, by rw [y4, z.2.1], t1, fz 4⟩
    · exact ⟨rfl, L, dv, Lx.refl _ _, (h1.setc hi (by show (s.hd i).plc ≠ 0; omega) (s.m.nx (s.hd i).c) (h.nn _ p2)).kpw k, fun _ _ => rfl, hvn, fun _ => ⟨e0, e1, e2, e3, e4, e5, e6, he, by show dv i = vMk (s.hd i).plc _ _ _ _ _ _ _; rw [hp]; exact hv⟩⟩
  obtain ⟨R1, h10, h12, h13⟩ := HX
  have H10 := hide h10
  have H12 := hide h12
  have HE := hide h13
  obtain ⟨b9, hb9⟩ : ∃ b, b = L.B (s.hd i).p := ⟨_, rfl⟩
  obtain ⟨b8, hb8⟩ : ∃ b, b = L.B (s.m.nx (s.hd i).c) := ⟨_, rfl⟩
  obtain ⟨b7, hb7⟩ : ∃ b, b = L.B (s.m.nx (s.hd i).p) := ⟨_, rfl⟩
  rw [← hb9] at hh3 u1 u41 n2 n3 H10
  rw [← hb8] at v1 H10 H12 HE
  rw [← hb7] at u1
  have HG0 : Hid (∀ W, Kp w W → W.cell? ⟨L.Hb i, 3, none⟩ = some (ptr b9) ∧ W.cell? ⟨L.B (s.hd i).c, 1, none⟩ = some (ptr b8) ∧ W.cell? ⟨b9, 1, none⟩ = some (ptr b7) ∧ W.frozen? ⟨b9, 1, none⟩ = false) := hide (fun W k => ⟨k.cell hh3, k.cell v1, k.cell u1, (k.frozen (World.block_lt_of_cell? _ _ u1)).trans u41⟩)
  clear hh3 v1 u1 u4 u41 hz4 hpc2 hb9 hb8 hb7 h10 h12 h13
  obtain ⟨R, hR⟩ : ∃ R, R = CP DMk L s dv i (s.m.drop (s.hd i).p (s.hd i).c, { s.hd i with c := s.m.nx (s.hd i).c }, false) := ⟨_, rfl⟩
  rw [← hR] at HE ⊢
  obtain ⟨b, hb⟩ : ∃ b, b = L.B (s.hd i).c := ⟨_, rfl⟩
  obtain ⟨H, hH⟩ : ∃ b, b = L.Hb i := ⟨_, rfl⟩
  obtain ⟨K, hK⟩ : ∃ b, b = s.m.ky (s.hd i).c := ⟨_, rfl⟩
  obtain ⟨D, hD⟩ : ∃ b, b = d.key := ⟨_, rfl⟩
  obtain ⟨Q, hQ⟩ : ∃ b, b = d.kind := ⟨_, rfl⟩
  obtain ⟨MC, hMC⟩ : ∃ b, b = s.m.mr (s.hd i).c := ⟨_, rfl⟩
  rw [← hb] at h4 b0 b2 H12 HG0 n4
  rw [← hH] at c1 h4 h5 f5 HK HKd H12 HE HG0 n2 n4
  rw [← hK] at b0
  rw [← hD] at HK
  rw [← hQ] at HKd hk3
  rw [← hMC] at b2 hmc
  have HF : Hid (∀ W, Kp w W → W.cell? ⟨e1, 0, none⟩ = some (ptr H) ∧ W.cell? ⟨H, 4, none⟩ = some (ptr b) ∧ W.cell? ⟨b, 0, none⟩ = some (.int .i64 K) ∧ W.cell? ⟨b, 2, none⟩ = some (.bool MC) ∧ W.cell? ⟨H, 5, none⟩ = some (.bool bb) ∧ W.frozen? ⟨H, 5, none⟩ = false) := hide (fun W k => ⟨k.cell c1, k.cell h4, k.cell b0, k.cell b2, k.cell h5, (k.frozen (World.block_lt_of_cell? _ _ h5)).trans f5⟩)
  have q3 : (Q == 3) = false := beq_eq_false_iff_ne.2 hk3
  have q3b : (Q != 3) = true := by rw [bne_dec]; exact decide_eq_true hk3
  clear h hi hd hp he hv hvn er hR hb hH hK hD hQ hMC hpc p1 p2 hz b2 h5 f5 hk3 hkp hcl hne hkc
  unfold ptr clo at *
  subst hmc
  focus
    go_enter Try.func55, Try.ntmps55
    go_wp2_with fail
    go_quiet ((go_at_call 40; exact Calls.quiet_of (HK.out _ (by (focus ((repeat (first | (with_reducible assumption) | (with_reducible exact Kp.refl _) | (with_reducible apply Kp.drew) | (with_reducible apply Kp.drewN) | ((with_reducible apply Kp.setR); (focus (first | (with_reducible assumption) | (simp; done) | (simp; omega)))) | (with_reducible apply Kp.alloc) | ((with_reducible apply Kp.call); (with_reducible assumption)) | ((with_reducible apply Kp.app); (with_reducible assumption)))); done))))))
    obtain ⟨w1, hw1⟩ : ∃ x, x = w.drewN nq := ⟨_, rfl⟩
    rw [← hw1]
    have kw1 : Kp w w1 := by rw [hw1]; exact (Kp.refl w).drewN
    clear hw1 c1 h4 b0
    obtain ⟨c1, h4, b0, b2, h5, f5⟩ := HF.out _ kw1
    go_wp2_with fail
    refine (HKd.out _ kw1).mono ?_
    rintro e w2x ⟨rfl, m2, rfl⟩
    obtain ⟨w2, hw1⟩ : ∃ x, x = w1.drewN m2 := ⟨_, rfl⟩
    rw [← hw1]
    have kw2 : Kp w w2 := by rw [hw1]; exact kw1.drewN
    clear hw1 c1 h4 b0 b2 h5 f5
    obtain ⟨c1, h4, b0, b2, h5, f5⟩ := HF.out _ kw2
    have c6' : w2.cell? ⟨e6, 0, none⟩ = _ := kw2.cell c6
    go_wp2_with fail
    refine (HCl.out _ kw2).mono ?_
    rintro e wx ⟨rfl, m9, rfl⟩
    obtain ⟨w3, hw1⟩ : ∃ x, x = w2.drewN m9 := ⟨_, rfl⟩
    rw [← hw1]
    have kw3 : Kp w w3 := by rw [hw1]; exact kw2.drewN
    clear hw1 c1 h4 b0 b2 h5 f5
    obtain ⟨c1, h4, b0, b2, h5, f5⟩ := HF.out _ kw3
    obtain ⟨g3, g1, g5, g7⟩ := HG0.out _ kw3
    go_wp2_with fail
    go_region_law (fail)
    all_goals
      have r1 : R1 _ := H10.out w3 _ kw3 (Kp.refl _).drew
      obtain ⟨t1, t2, t3, t4⟩ := H12.out _ r1
      go_wp2_with fail
      go_region_law (fail)
      all_goals
        go_wp2
        exact HE.out _ _ r1 (Kp.refl _).drew
end Go.Proofs.Ytoihdnekkgpcoaa
