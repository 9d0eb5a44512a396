/-
  The document's hand that looks twice: a step of it. Conditions: the bench lies as BQ says. Printed by tools/genbl.py.
  The document's hand that marks, or the naive one: a step of it. Conditions: the bench lies as BQ says. Printed by tools/genbm.py.
-/
import Derived.Test.YtoihdnekkgpcoaaG12

namespace Go.Proofs.Ytoihdnekkgpcoaa
open Go.ChangeShapes Go.WideShapes Go.ChangeAt Go.RowKit
set_option linter.unusedVariables false
set_option linter.unusedSimpArgs false

variable {K : Bl} {s : St} {dl : List Tl} {bg bc : Nat} {dv : Value} {w w' : World}
set_option maxRecDepth 100000 in
theorem bl_4no (h : BQ K s dl bg bc dv w) {i : Nat} (hi : i < K.nh) (hp : (s.hd i).p < s.m.n) (hcn : (s.hd i).c < s.m.n) {d : Dd} (h2 : (s.hd i).plc = 4) (hkp : s.m.ky (s.hd i).p ≠ 10) (hm : s.m.mr (s.hd i).p = false) (hm2 : s.m.mr (s.hd i).c = false) (hm3 : s.m.nx (s.hd i).p = (s.hd i).c) (hk : d.kind = 2) (hke : ¬ s.m.ky (s.hd i).c = d.key) :
    Calls Try.prog 35 #[ptr K.b, hp5 K i, deedV d] w (HP K s dl i (lazyS s.m (s.hd i) d)) := by
  have er : lazyS s.m (s.hd i) d = (s.m.free (s.hd i).p (s.hd i).c, { s.hd i with is := false }, true) := by
    unfold lazyS; rw [h2]; simp [hm, hm2, hm3, hk, hke, h2]
  rw [er]
  have Hhkp := hide hkp
  have Hhm3 := hide hm3
  have Hhke := hide hke
  have Hhk := hide hk
  clear hkp hm3 hke hk
  unfold HP hp5 ptr deedV
  have H0 := hide h
  clear h er
  go_enter Try.func35, Try.ntmps35
  go_upto_region 1 with fail
  obtain ⟨w1, hw1⟩ : ∃ x, x = w.alloc (.cells #[.int .i64 d.kind, .int .i64 d.key] 23) := ⟨_, rfl⟩
  have H1 := hide ((H0.out.kpw (w' := w1) (by rw [hw1]; exact (Kp.refl w).alloc)).add (D := w.heap.size) (t := 23) (c := [.int .i64 d.kind, .int .i64 d.key]) (by rw [hw1]; exact BC.new w _ _) (by unfold okBT; decide))
  try rw [← hw1]
  clear hw1 H0
  generalize w.heap.size = D at *
  have hb := H1.out.less.bsl
  obtain ⟨-, t1, t2, t3, t4, fz⟩ := H1.out.less.hand hi
  obtain ⟨q0, q1, q2, q3, -⟩ := H1.out.less.bead hcn
  obtain ⟨p0, p1, p2, p3, fb⟩ := H1.out.less.bead hp
  have d0 := H1.out.dd0
  have d1 := H1.out.dd1
  go_quiet (fail)
  obtain ⟨w2, hw⟩ : ∃ x, x = w1.drewN nq := ⟨_, rfl⟩
  try rw [← hw]
  have H2 := hide (H1.out.kpw (w' := w2) (by rw [hw]; (focus ((repeat (first | (with_reducible assumption) | (with_reducible exact Kp.refl _) | (with_reducible apply Kp.drew) | (with_reducible apply Kp.drewN) | ((with_reducible apply Kp.setR); (focus (first | (with_reducible assumption) | (simp; done) | (simp; omega)))) | (with_reducible apply Kp.alloc) | ((with_reducible apply Kp.call); (with_reducible assumption)) | ((with_reducible apply Kp.app); (with_reducible assumption)))); done))))
  clear hw
  clear hb t1 t2 t3 t4 fz q0 q1 q2 q3 p0 p1 p2 p3 fb d0 d1
  have hb := H2.out.less.bsl
  obtain ⟨-, t1, t2, t3, t4, fz⟩ := H2.out.less.hand hi
  obtain ⟨q0, q1, q2, q3, -⟩ := H2.out.less.bead hcn
  obtain ⟨p0, p1, p2, p3, fb⟩ := H2.out.less.bead hp
  have d0 := H2.out.dd0
  have d1 := H2.out.dd1
  have kx : (s.m.ky (s.hd i).c == d.key) = false := beq_eq_false_iff_ne.2 Hhke.out
  go_wp2_with fail
  go_quiet (fail)
  obtain ⟨w3, hw⟩ : ∃ x, x = w2.drewN nq := ⟨_, rfl⟩
  try rw [← hw]
  have H3 := hide (H2.out.kpw (w' := w3) (by rw [hw]; (focus ((repeat (first | (with_reducible assumption) | (with_reducible exact Kp.refl _) | (with_reducible apply Kp.drew) | (with_reducible apply Kp.drewN) | ((with_reducible apply Kp.setR); (focus (first | (with_reducible assumption) | (simp; done) | (simp; omega)))) | (with_reducible apply Kp.alloc) | ((with_reducible apply Kp.call); (with_reducible assumption)) | ((with_reducible apply Kp.app); (with_reducible assumption)))); done))))
  clear hw
  clear hb t1 t2 t3 t4 fz q0 q1 q2 q3 p0 p1 p2 p3 fb d0 d1
  have hb := H3.out.less.bsl
  obtain ⟨-, t1, t2, t3, t4, fz⟩ := H3.out.less.hand hi
  obtain ⟨q0, q1, q2, q3, -⟩ := H3.out.less.bead hcn
  obtain ⟨p0, p1, p2, p3, fb⟩ := H3.out.less.bead hp
  have d0 := H3.out.dd0
  have d1 := H3.out.dd1
  clear H1 H2
  have px : nxt s.m (s.hd i).p = (s.m.nx (s.hd i).p : Int) := nxt_nx _ Hhkp.out
  rw [px] at p1
  rw [Hhm3.out] at p1
  go_wp2_with fail
  go_quiet (fail)
  obtain ⟨w4, hw⟩ : ∃ x, x = w3.drewN nq := ⟨_, rfl⟩
  try rw [← hw]
  have H4 := hide (H3.out.kpw (w' := w4) (by rw [hw]; (focus ((repeat (first | (with_reducible assumption) | (with_reducible exact Kp.refl _) | (with_reducible apply Kp.drew) | (with_reducible apply Kp.drewN) | ((with_reducible apply Kp.setR); (focus (first | (with_reducible assumption) | (simp; done) | (simp; omega)))) | (with_reducible apply Kp.alloc) | ((with_reducible apply Kp.call); (with_reducible assumption)) | ((with_reducible apply Kp.app); (with_reducible assumption)))); done))))
  clear hw
  clear hb t1 t2 t3 t4 fz q0 q1 q2 q3 p0 p1 p2 p3 fb d0 d1
  have hb := H4.out.less.bsl
  obtain ⟨-, t1, t2, t3, t4, fz⟩ := H4.out.less.hand hi
  obtain ⟨q0, q1, q2, q3, -⟩ := H4.out.less.bead hcn
  obtain ⟨p0, p1, p2, p3, fb⟩ := H4.out.less.bead hp
  have d0 := H4.out.dd0
  have d1 := H4.out.dd1
  clear H3
  have kk : (d.kind == 2) = true := by rw [Hhk.out]; rfl
  go_wp2_with fail
  have H5 : Hid (BQ (K.add D 23 [.int .i64 d.kind, .int .i64 d.key]) { s with hd := up s.hd i { s.hd i with is := false } } dl bg bc dv (w4.setCell ⟨K.hg, i * 5 + 4, none⟩ (.bool false))) := hide (H4.out.setis hi false)
  clear hb t1 t2 t3 t4 fz q0 q1 q2 q3 p0 p1 p2 p3 fb d0 d1
  have hp9 : (up s.hd i { s.hd i with is := false } i).p < s.m.n := by rw [up_same]; exact hp
  have hc9 : (up s.hd i { s.hd i with is := false } i).c < s.m.n := by rw [up_same]; exact hcn
  refine (free_b H5.out hi hp9 hc9).mono ?_
  rintro e w5 ⟨rfl, h5⟩
  have h6 : BQ (K.add D 23 [.int .i64 d.kind, .int .i64 d.key]) { s with m := s.m.free (s.hd i).p (s.hd i).c, hd := up s.hd i { s.hd i with is := false } } dl bg bc dv w5 := by
    have e : ({ s with m := s.m.free (s.hd i).p (s.hd i).c, hd := up s.hd i { s.hd i with is := false } } : St) = { s with m := s.m.free (up s.hd i { s.hd i with is := false } i).p (up s.hd i { s.hd i with is := false } i).c, hd := up s.hd i { s.hd i with is := false } } := by rw [up_same]
    rw [e]; exact h5
  have H6 := hide h6
  clear h5 h6 hp9 hc9 H5 H4
  have hb := H6.out.less.bsn (n := s.m.n) rfl
  obtain ⟨-, t1, t2, t3, t4, fz⟩ := H6.out.less.hand hi
  dsimp only at t1 t2 t3 t4
  rw [up_same] at t1 t2 t3 t4
  obtain ⟨q0, q1, q2, q3, -⟩ := H6.out.less.bead hcn
  obtain ⟨p0, p1, p2, p3, fb⟩ := H6.out.less.bead hp
  have d0 := H6.out.dd0
  have d1 := H6.out.dd1
  go_wp2
  refine ⟨rfl, .bool true, by simp [results, Try.results35, go_sem], rfl, ?_⟩
  exact ⟨bg, bc, dv, H6.out.less⟩
set_option maxRecDepth 100000 in
theorem bl_4add (h : BQ K s dl bg bc dv w) {i : Nat} (hi : i < K.nh) (hp : (s.hd i).p < s.m.n) (hcn : (s.hd i).c < s.m.n) {d : Dd} (h2 : (s.hd i).plc = 4) (hkp : s.m.ky (s.hd i).p ≠ 10) (hm : s.m.mr (s.hd i).p = false) (hm2 : s.m.mr (s.hd i).c = false) (hm3 : s.m.nx (s.hd i).p = (s.hd i).c) (hk : d.kind = 1) (hk10 : d.key ≠ 10) (hlim : s.m.n ≤ 100000) (hke : ¬ s.m.ky (s.hd i).c = d.key) :
    Calls Try.prog 35 #[ptr K.b, hp5 K i, deedV d] w (HP K s dl i (lazyS s.m (s.hd i) d)) := by
  have er : lazyS s.m (s.hd i) d = ((s.m.free (s.hd i).p (s.hd i).c).ins (s.hd i).p (s.hd i).c d.key, { s.hd i with is := true }, true) := by
    unfold lazyS; rw [h2]; simp [hm, hm2, hm3, hk, hke, h2]
  rw [er]
  have Hhkp := hide hkp
  have Hhm3 := hide hm3
  have Hhke := hide hke
  have Hhk := hide hk
  clear hkp hm3 hke hk
  unfold HP hp5 ptr deedV
  have H0 := hide h
  clear h er
  go_enter Try.func35, Try.ntmps35
  go_upto_region 1 with fail
  obtain ⟨w1, hw1⟩ : ∃ x, x = w.alloc (.cells #[.int .i64 d.kind, .int .i64 d.key] 23) := ⟨_, rfl⟩
  have H1 := hide ((H0.out.kpw (w' := w1) (by rw [hw1]; exact (Kp.refl w).alloc)).add (D := w.heap.size) (t := 23) (c := [.int .i64 d.kind, .int .i64 d.key]) (by rw [hw1]; exact BC.new w _ _) (by unfold okBT; decide))
  try rw [← hw1]
  clear hw1 H0
  generalize w.heap.size = D at *
  have hb := H1.out.less.bsl
  obtain ⟨-, t1, t2, t3, t4, fz⟩ := H1.out.less.hand hi
  obtain ⟨q0, q1, q2, q3, -⟩ := H1.out.less.bead hcn
  obtain ⟨p0, p1, p2, p3, fb⟩ := H1.out.less.bead hp
  have d0 := H1.out.dd0
  have d1 := H1.out.dd1
  go_quiet (fail)
  obtain ⟨w2, hw⟩ : ∃ x, x = w1.drewN nq := ⟨_, rfl⟩
  try rw [← hw]
  have H2 := hide (H1.out.kpw (w' := w2) (by rw [hw]; (focus ((repeat (first | (with_reducible assumption) | (with_reducible exact Kp.refl _) | (with_reducible apply Kp.drew) | (with_reducible apply Kp.drewN) | ((with_reducible apply Kp.setR); (focus (first | (with_reducible assumption) | (simp; done) | (simp; omega)))) | (with_reducible apply Kp.alloc) | ((with_reducible apply Kp.call); (with_reducible assumption)) | ((with_reducible apply Kp.app); (with_reducible assumption)))); done))))
  clear hw
  clear hb t1 t2 t3 t4 fz q0 q1 q2 q3 p0 p1 p2 p3 fb d0 d1
  have hb := H2.out.less.bsl
  obtain ⟨-, t1, t2, t3, t4, fz⟩ := H2.out.less.hand hi
  obtain ⟨q0, q1, q2, q3, -⟩ := H2.out.less.bead hcn
  obtain ⟨p0, p1, p2, p3, fb⟩ := H2.out.less.bead hp
  have d0 := H2.out.dd0
  have d1 := H2.out.dd1
  have kx : (s.m.ky (s.hd i).c == d.key) = false := beq_eq_false_iff_ne.2 Hhke.out
  go_wp2_with fail
  go_quiet (fail)
  obtain ⟨w3, hw⟩ : ∃ x, x = w2.drewN nq := ⟨_, rfl⟩
  try rw [← hw]
  have H3 := hide (H2.out.kpw (w' := w3) (by rw [hw]; (focus ((repeat (first | (with_reducible assumption) | (with_reducible exact Kp.refl _) | (with_reducible apply Kp.drew) | (with_reducible apply Kp.drewN) | ((with_reducible apply Kp.setR); (focus (first | (with_reducible assumption) | (simp; done) | (simp; omega)))) | (with_reducible apply Kp.alloc) | ((with_reducible apply Kp.call); (with_reducible assumption)) | ((with_reducible apply Kp.app); (with_reducible assumption)))); done))))
  clear hw
  clear hb t1 t2 t3 t4 fz q0 q1 q2 q3 p0 p1 p2 p3 fb d0 d1
  have hb := H3.out.less.bsl
  obtain ⟨-, t1, t2, t3, t4, fz⟩ := H3.out.less.hand hi
  obtain ⟨q0, q1, q2, q3, -⟩ := H3.out.less.bead hcn
  obtain ⟨p0, p1, p2, p3, fb⟩ := H3.out.less.bead hp
  have d0 := H3.out.dd0
  have d1 := H3.out.dd1
  clear H1 H2
  have px : nxt s.m (s.hd i).p = (s.m.nx (s.hd i).p : Int) := nxt_nx _ Hhkp.out
  rw [px] at p1
  rw [Hhm3.out] at p1
  go_wp2_with fail
  go_quiet (fail)
  obtain ⟨w4, hw⟩ : ∃ x, x = w3.drewN nq := ⟨_, rfl⟩
  try rw [← hw]
  have H4 := hide (H3.out.kpw (w' := w4) (by rw [hw]; (focus ((repeat (first | (with_reducible assumption) | (with_reducible exact Kp.refl _) | (with_reducible apply Kp.drew) | (with_reducible apply Kp.drewN) | ((with_reducible apply Kp.setR); (focus (first | (with_reducible assumption) | (simp; done) | (simp; omega)))) | (with_reducible apply Kp.alloc) | ((with_reducible apply Kp.call); (with_reducible assumption)) | ((with_reducible apply Kp.app); (with_reducible assumption)))); done))))
  clear hw
  clear hb t1 t2 t3 t4 fz q0 q1 q2 q3 p0 p1 p2 p3 fb d0 d1
  have hb := H4.out.less.bsl
  obtain ⟨-, t1, t2, t3, t4, fz⟩ := H4.out.less.hand hi
  obtain ⟨q0, q1, q2, q3, -⟩ := H4.out.less.bead hcn
  obtain ⟨p0, p1, p2, p3, fb⟩ := H4.out.less.bead hp
  have d0 := H4.out.dd0
  have d1 := H4.out.dd1
  clear H3
  have kk : (d.kind == 2) = false := by rw [Hhk.out]; rfl
  go_wp2_with fail
  have H5 : Hid (BQ (K.add D 23 [.int .i64 d.kind, .int .i64 d.key]) { s with hd := up s.hd i { s.hd i with is := true } } dl bg bc dv (w4.setCell ⟨K.hg, i * 5 + 4, none⟩ (.bool true))) := hide (H4.out.setis hi true)
  clear hb t1 t2 t3 t4 fz q0 q1 q2 q3 p0 p1 p2 p3 fb d0 d1
  have hp9 : (up s.hd i { s.hd i with is := true } i).p < s.m.n := by rw [up_same]; exact hp
  have hc9 : (up s.hd i { s.hd i with is := true } i).c < s.m.n := by rw [up_same]; exact hcn
  refine (free_b H5.out hi hp9 hc9).mono ?_
  rintro e w5 ⟨rfl, h5⟩
  have h6 : BQ (K.add D 23 [.int .i64 d.kind, .int .i64 d.key]) { s with m := s.m.free (s.hd i).p (s.hd i).c, hd := up s.hd i { s.hd i with is := true } } dl bg bc dv w5 := by
    have e : ({ s with m := s.m.free (s.hd i).p (s.hd i).c, hd := up s.hd i { s.hd i with is := true } } : St) = { s with m := s.m.free (up s.hd i { s.hd i with is := true } i).p (up s.hd i { s.hd i with is := true } i).c, hd := up s.hd i { s.hd i with is := true } } := by rw [up_same]
    rw [e]; exact h5
  have H6 := hide h6
  clear h5 h6 hp9 hc9 H5 H4
  have hb := H6.out.less.bsn (n := s.m.n) rfl
  obtain ⟨-, t1, t2, t3, t4, fz⟩ := H6.out.less.hand hi
  dsimp only at t1 t2 t3 t4
  rw [up_same] at t1 t2 t3 t4
  obtain ⟨q0, q1, q2, q3, -⟩ := H6.out.less.bead hcn
  obtain ⟨p0, p1, p2, p3, fb⟩ := H6.out.less.bead hp
  have d0 := H6.out.dd0
  have d1 := H6.out.dd1
  go_wp2_with fail
  have hq := insert_b H6.out hi (by dsimp only; rw [up_same]; exact hp) (by dsimp only; rw [up_same]; exact hcn) (by dsimp only; rw [up_same]; exact Hhkp.out) (k := d.key) hk10 hlim
  dsimp only at hq
  rw [up_same] at hq
  refine hq.mono ?_
  rintro e w7 ⟨rfl, h7⟩
  have H8 := hide h7.less
  clear h7 H6
  clear hb t1 t2 t3 t4 fz q0 q1 q2 q3 p0 p1 p2 p3 fb d0 d1
  go_wp2
  refine ⟨rfl, .bool true, by simp [results, Try.results35, go_sem], rfl, ?_⟩
  exact H8.out
set_option maxRecDepth 100000 in
theorem bl_4mark (h : BQ K s dl bg bc dv w) {i : Nat} (hi : i < K.nh) (hp : (s.hd i).p < s.m.n) (hcn : (s.hd i).c < s.m.n) {d : Dd} (h2 : (s.hd i).plc = 4) (hkp : s.m.ky (s.hd i).p ≠ 10) (hm : s.m.mr (s.hd i).p = false) (hm2 : s.m.mr (s.hd i).c = false) (hm3 : s.m.nx (s.hd i).p = (s.hd i).c) (hk : d.kind = 2) (hke : s.m.ky (s.hd i).c = d.key) :
    Calls Try.prog 35 #[ptr K.b, hp5 K i, deedV d] w (HP K s dl i (lazyS s.m (s.hd i) d)) := by
  have er : lazyS s.m (s.hd i) d = (s.m.mark (s.hd i).c, { s.hd i with plc := 5, is := true }, false) := by
    unfold lazyS; rw [h2]; simp [hm, hm2, hm3, hk, hke, h2]
  rw [er]
  have Hhkp := hide hkp
  have Hhm3 := hide hm3
  have Hhke := hide hke
  have Hhk := hide hk
  clear hkp hm3 hke hk
  unfold HP hp5 ptr deedV
  have H0 := hide h
  clear h er
  go_enter Try.func35, Try.ntmps35
  go_upto_region 1 with fail
  obtain ⟨w1, hw1⟩ : ∃ x, x = w.alloc (.cells #[.int .i64 d.kind, .int .i64 d.key] 23) := ⟨_, rfl⟩
  have H1 := hide ((H0.out.kpw (w' := w1) (by rw [hw1]; exact (Kp.refl w).alloc)).add (D := w.heap.size) (t := 23) (c := [.int .i64 d.kind, .int .i64 d.key]) (by rw [hw1]; exact BC.new w _ _) (by unfold okBT; decide))
  try rw [← hw1]
  clear hw1 H0
  generalize w.heap.size = D at *
  have hb := H1.out.less.bsl
  obtain ⟨-, t1, t2, t3, t4, fz⟩ := H1.out.less.hand hi
  obtain ⟨q0, q1, q2, q3, -⟩ := H1.out.less.bead hcn
  obtain ⟨p0, p1, p2, p3, fb⟩ := H1.out.less.bead hp
  have d0 := H1.out.dd0
  have d1 := H1.out.dd1
  go_quiet (fail)
  obtain ⟨w2, hw⟩ : ∃ x, x = w1.drewN nq := ⟨_, rfl⟩
  try rw [← hw]
  have H2 := hide (H1.out.kpw (w' := w2) (by rw [hw]; (focus ((repeat (first | (with_reducible assumption) | (with_reducible exact Kp.refl _) | (with_reducible apply Kp.drew) | (with_reducible apply Kp.drewN) | ((with_reducible apply Kp.setR); (focus (first | (with_reducible assumption) | (simp; done) | (simp; omega)))) | (with_reducible apply Kp.alloc) | ((with_reducible apply Kp.call); (with_reducible assumption)) | ((with_reducible apply Kp.app); (with_reducible assumption)))); done))))
  clear hw
  clear hb t1 t2 t3 t4 fz q0 q1 q2 q3 p0 p1 p2 p3 fb d0 d1
  have hb := H2.out.less.bsl
  obtain ⟨-, t1, t2, t3, t4, fz⟩ := H2.out.less.hand hi
  obtain ⟨q0, q1, q2, q3, -⟩ := H2.out.less.bead hcn
  obtain ⟨p0, p1, p2, p3, fb⟩ := H2.out.less.bead hp
  have d0 := H2.out.dd0
  have d1 := H2.out.dd1
  have kx : (s.m.ky (s.hd i).c == d.key) = true := beq_iff_eq.2 Hhke.out
  go_wp2_with fail
  go_quiet (fail)
  obtain ⟨w3, hw⟩ : ∃ x, x = w2.drewN nq := ⟨_, rfl⟩
  try rw [← hw]
  have H3 := hide (H2.out.kpw (w' := w3) (by rw [hw]; (focus ((repeat (first | (with_reducible assumption) | (with_reducible exact Kp.refl _) | (with_reducible apply Kp.drew) | (with_reducible apply Kp.drewN) | ((with_reducible apply Kp.setR); (focus (first | (with_reducible assumption) | (simp; done) | (simp; omega)))) | (with_reducible apply Kp.alloc) | ((with_reducible apply Kp.call); (with_reducible assumption)) | ((with_reducible apply Kp.app); (with_reducible assumption)))); done))))
  clear hw
  clear hb t1 t2 t3 t4 fz q0 q1 q2 q3 p0 p1 p2 p3 fb d0 d1
  have hb := H3.out.less.bsl
  obtain ⟨-, t1, t2, t3, t4, fz⟩ := H3.out.less.hand hi
  obtain ⟨q0, q1, q2, q3, -⟩ := H3.out.less.bead hcn
  obtain ⟨p0, p1, p2, p3, fb⟩ := H3.out.less.bead hp
  have d0 := H3.out.dd0
  have d1 := H3.out.dd1
  clear H1 H2
  have px : nxt s.m (s.hd i).p = (s.m.nx (s.hd i).p : Int) := nxt_nx _ Hhkp.out
  rw [px] at p1
  rw [Hhm3.out] at p1
  go_wp2_with fail
  go_quiet (fail)
  obtain ⟨w4, hw⟩ : ∃ x, x = w3.drewN nq := ⟨_, rfl⟩
  try rw [← hw]
  have H4 := hide (H3.out.kpw (w' := w4) (by rw [hw]; (focus ((repeat (first | (with_reducible assumption) | (with_reducible exact Kp.refl _) | (with_reducible apply Kp.drew) | (with_reducible apply Kp.drewN) | ((with_reducible apply Kp.setR); (focus (first | (with_reducible assumption) | (simp; done) | (simp; omega)))) | (with_reducible apply Kp.alloc) | ((with_reducible apply Kp.call); (with_reducible assumption)) | ((with_reducible apply Kp.app); (with_reducible assumption)))); done))))
  clear hw
  clear hb t1 t2 t3 t4 fz q0 q1 q2 q3 p0 p1 p2 p3 fb d0 d1
  have hb := H4.out.less.bsl
  obtain ⟨-, t1, t2, t3, t4, fz⟩ := H4.out.less.hand hi
  obtain ⟨q0, q1, q2, q3, -⟩ := H4.out.less.bead hcn
  obtain ⟨p0, p1, p2, p3, fb⟩ := H4.out.less.bead hp
  have d0 := H4.out.dd0
  have d1 := H4.out.dd1
  clear H3
  have kk : (d.kind == 2) = true := by rw [Hhk.out]; rfl
  go_upto_region 26 with fail
  have H5 : Hid (BQ (K.add D 23 [.int .i64 d.kind, .int .i64 d.key]) { s with hd := up s.hd i { s.hd i with is := true } } dl bg bc dv (w4.setCell ⟨K.hg, i * 5 + 4, none⟩ (.bool true))) := hide (H4.out.setis hi true)
  generalize w4.setCell ⟨K.hg, i * 5 + 4, none⟩ (.bool true) = w5 at *
  clear hb t1 t2 t3 t4 fz q0 q1 q2 q3 p0 p1 p2 p3 fb d0 d1
  have hb := H5.out.less.bsn (n := s.m.n) rfl
  obtain ⟨-, t1, t2, t3, t4, fz⟩ := H5.out.less.hand hi
  dsimp only at t1 t2 t3 t4
  rw [up_same] at t1 t2 t3 t4
  obtain ⟨q0, q1, q2, q3, -⟩ := H5.out.less.bead hcn
  obtain ⟨p0, p1, p2, p3, fb⟩ := H5.out.less.bead hp
  have d0 := H5.out.dd0
  have d1 := H5.out.dd1
  have n2 := H5.out.less.ne2
  go_wp2
  refine ⟨rfl, .bool false, by simp [results, Try.results35, go_sem], rfl, ?_⟩
  have := (H5.out.less.setmr (i := (s.hd i).c) hcn).setat hi 5
  simp only [up_same, up_up] at this
  exact ⟨bg, bc, dv, this⟩
set_option maxRecDepth 100000 in
theorem bl_5 (h : BQ K s dl bg bc dv w) {i : Nat} (hi : i < K.nh) (hp : (s.hd i).p < s.m.n) (hcn : (s.hd i).c < s.m.n) {d : Dd} (h2 : (s.hd i).plc = 5) (hkp : s.m.ky (s.hd i).p ≠ 10) (hkc : s.m.ky (s.hd i).c ≠ 10) :
    Calls Try.prog 35 #[ptr K.b, hp5 K i, deedV d] w (HP K s dl i (lazyS s.m (s.hd i) d)) := by
  have er : lazyS s.m (s.hd i) d = ((s.m.drop (s.hd i).p (s.hd i).c).free (s.hd i).p (s.hd i).c, s.hd i, true) := by
    unfold lazyS; rw [h2]; rfl
  rw [er]
  have Hhkp := hide hkp
  have Hhkc := hide hkc
  clear hkp hkc
  unfold HP hp5 ptr deedV
  have H0 := hide h
  clear h er
  go_enter Try.func35, Try.ntmps35
  go_upto_region 1 with fail
  obtain ⟨w1, hw1⟩ : ∃ x, x = w.alloc (.cells #[.int .i64 d.kind, .int .i64 d.key] 23) := ⟨_, rfl⟩
  have H1 := hide ((H0.out.kpw (w' := w1) (by rw [hw1]; exact (Kp.refl w).alloc)).add (D := w.heap.size) (t := 23) (c := [.int .i64 d.kind, .int .i64 d.key]) (by rw [hw1]; exact BC.new w _ _) (by unfold okBT; decide))
  try rw [← hw1]
  clear hw1 H0
  generalize w.heap.size = D at *
  have hb := H1.out.less.bsl
  obtain ⟨-, t1, t2, t3, t4, fz⟩ := H1.out.less.hand hi
  obtain ⟨q0, q1, q2, q3, -⟩ := H1.out.less.bead hcn
  obtain ⟨p0, p1, p2, p3, fb⟩ := H1.out.less.bead hp
  have d0 := H1.out.dd0
  have d1 := H1.out.dd1
  go_quiet (fail)
  obtain ⟨w2, hw⟩ : ∃ x, x = w1.drewN nq := ⟨_, rfl⟩
  try rw [← hw]
  have H2 := hide (H1.out.kpw (w' := w2) (by rw [hw]; (focus ((repeat (first | (with_reducible assumption) | (with_reducible exact Kp.refl _) | (with_reducible apply Kp.drew) | (with_reducible apply Kp.drewN) | ((with_reducible apply Kp.setR); (focus (first | (with_reducible assumption) | (simp; done) | (simp; omega)))) | (with_reducible apply Kp.alloc) | ((with_reducible apply Kp.call); (with_reducible assumption)) | ((with_reducible apply Kp.app); (with_reducible assumption)))); done))))
  clear hw
  clear hb t1 t2 t3 t4 fz q0 q1 q2 q3 p0 p1 p2 p3 fb d0 d1
  have hb := H2.out.less.bsl
  obtain ⟨-, t1, t2, t3, t4, fz⟩ := H2.out.less.hand hi
  obtain ⟨q0, q1, q2, q3, -⟩ := H2.out.less.bead hcn
  obtain ⟨p0, p1, p2, p3, fb⟩ := H2.out.less.bead hp
  have d0 := H2.out.dd0
  have d1 := H2.out.dd1
  obtain ⟨x, kx⟩ : ∃ x, (s.m.ky (s.hd i).c == d.key) = x := ⟨_, rfl⟩
  go_wp2_with fail
  go_quiet (fail)
  obtain ⟨w3, hw⟩ : ∃ x, x = w2.drewN nq := ⟨_, rfl⟩
  try rw [← hw]
  have H3 := hide (H2.out.kpw (w' := w3) (by rw [hw]; (focus ((repeat (first | (with_reducible assumption) | (with_reducible exact Kp.refl _) | (with_reducible apply Kp.drew) | (with_reducible apply Kp.drewN) | ((with_reducible apply Kp.setR); (focus (first | (with_reducible assumption) | (simp; done) | (simp; omega)))) | (with_reducible apply Kp.alloc) | ((with_reducible apply Kp.call); (with_reducible assumption)) | ((with_reducible apply Kp.app); (with_reducible assumption)))); done))))
  clear hw
  clear hb t1 t2 t3 t4 fz q0 q1 q2 q3 p0 p1 p2 p3 fb d0 d1
  have hb := H3.out.less.bsl
  obtain ⟨-, t1, t2, t3, t4, fz⟩ := H3.out.less.hand hi
  obtain ⟨q0, q1, q2, q3, -⟩ := H3.out.less.bead hcn
  obtain ⟨p0, p1, p2, p3, fb⟩ := H3.out.less.bead hp
  have d0 := H3.out.dd0
  have d1 := H3.out.dd1
  clear H1 H2
  have px : nxt s.m (s.hd i).c = (s.m.nx (s.hd i).c : Int) := nxt_nx _ Hhkc.out
  rw [px] at q1
  go_wp2_with fail
  have H5 : Hid (BQ (K.add D 23 [.int .i64 d.kind, .int .i64 d.key]) { s with m := s.m.drop (s.hd i).p (s.hd i).c } dl bg bc dv (w3.setCell ⟨bg, (s.hd i).p * 4 + 1, none⟩ (.int .i64 (s.m.nx (s.hd i).c)))) := hide (H3.out.setnx (i := (s.hd i).p) (c := s.m.nx (s.hd i).c) hp Hhkp.out)
  clear hb t1 t2 t3 t4 fz q0 q1 q2 q3 p0 p1 p2 p3 fb d0 d1
  refine (free_b H5.out hi hp hcn).mono ?_
  rintro e w5 ⟨rfl, h5⟩
  have H6 := hide h5
  clear h5 H5 H3
  go_wp2
  refine ⟨rfl, .bool true, by simp [results, Try.results35, go_sem], rfl, ?_⟩
  refine ⟨bg, bc, dv, ?_⟩
  rw [up_eta]
  exact H6.out.less
end Go.Proofs.Ytoihdnekkgpcoaa
namespace Go.Proofs.Ytoihdnekkgpcoaa
open Go.ChangeShapes Go.WideShapes Go.ChangeAt Go.RowKit
set_option linter.unusedVariables false
set_option linter.unusedSimpArgs false

variable {K : Bl} {s : St} {dl : List Tl} {bg bc : Nat} {dv : Value} {w w' : World}
set_option maxRecDepth 100000 in
theorem bm_0 (h : BQ K s dl bg bc dv w) {i : Nat} (hi : i < K.nh) (hp : (s.hd i).p < s.m.n) (hcn : (s.hd i).c < s.m.n) {d : Dd} (h2 : (s.hd i).plc = 0) (h0 : s.m.ky 0 ≠ 10) :
    Calls Try.prog 36 #[ptr K.b, hp5 K i, deedV d] w (HP K s dl i (markS (K.alg == 4) s.m (s.hd i) d)) := by
  have er : markS (K.alg == 4) s.m (s.hd i) d = (s.m, (s.hd i).again s.m, false) := by
    unfold markS; rw [h2]; rfl
  rw [er]
  unfold HP hp5 ptr deedV
  have H0 := hide h
  clear h er
  go_enter Try.func36, Try.ntmps36
  go_upto_region 1 with fail
  obtain ⟨w1, hw1⟩ : ∃ x, x = w.alloc (.cells #[.int .i64 d.kind, .int .i64 d.key] 23) := ⟨_, rfl⟩
  have H1 := hide ((H0.out.kpw (w' := w1) (by rw [hw1]; exact (Kp.refl w).alloc)).add (D := w.heap.size) (t := 23) (c := [.int .i64 d.kind, .int .i64 d.key]) (by rw [hw1]; exact BC.new w _ _) (by unfold okBT; decide))
  try rw [← hw1]
  clear hw1 H0
  generalize w.heap.size = D at *
  have hb := H1.out.less.bsl
  obtain ⟨-, t1, t2, t3, t4, fz⟩ := H1.out.less.hand hi
  obtain ⟨q0, q1, q2, q3, -⟩ := H1.out.less.bead hcn
  obtain ⟨p0, p1, p2, p3, fb⟩ := H1.out.less.bead hp
  have d0 := H1.out.dd0
  have d1 := H1.out.dd1
  go_quiet (fail)
  obtain ⟨w2, hw⟩ : ∃ x, x = w1.drewN nq := ⟨_, rfl⟩
  try rw [← hw]
  have H2 := hide (H1.out.kpw (w' := w2) (by rw [hw]; (focus ((repeat (first | (with_reducible assumption) | (with_reducible exact Kp.refl _) | (with_reducible apply Kp.drew) | (with_reducible apply Kp.drewN) | ((with_reducible apply Kp.setR); (focus (first | (with_reducible assumption) | (simp; done) | (simp; omega)))) | (with_reducible apply Kp.alloc) | ((with_reducible apply Kp.call); (with_reducible assumption)) | ((with_reducible apply Kp.app); (with_reducible assumption)))); done))))
  clear hw
  clear hb t1 t2 t3 t4 fz q0 q1 q2 q3 p0 p1 p2 p3 fb d0 d1
  have hb := H2.out.less.bsl
  obtain ⟨-, t1, t2, t3, t4, fz⟩ := H2.out.less.hand hi
  obtain ⟨q0, q1, q2, q3, -⟩ := H2.out.less.bead hcn
  obtain ⟨p0, p1, p2, p3, fb⟩ := H2.out.less.bead hp
  have d0 := H2.out.dd0
  have d1 := H2.out.dd1
  obtain ⟨x, kx⟩ : ∃ x, (s.m.ky (s.hd i).c == d.key) = x := ⟨_, rfl⟩
  go_wp2_with fail
  go_quiet (fail)
  obtain ⟨w3, hw⟩ : ∃ x, x = w2.drewN nq := ⟨_, rfl⟩
  try rw [← hw]
  have H3 := hide (H2.out.kpw (w' := w3) (by rw [hw]; (focus ((repeat (first | (with_reducible assumption) | (with_reducible exact Kp.refl _) | (with_reducible apply Kp.drew) | (with_reducible apply Kp.drewN) | ((with_reducible apply Kp.setR); (focus (first | (with_reducible assumption) | (simp; done) | (simp; omega)))) | (with_reducible apply Kp.alloc) | ((with_reducible apply Kp.call); (with_reducible assumption)) | ((with_reducible apply Kp.app); (with_reducible assumption)))); done))))
  clear hw
  clear hb t1 t2 t3 t4 fz q0 q1 q2 q3 p0 p1 p2 p3 fb d0 d1
  have hb := H3.out.less.bsl
  obtain ⟨-, t1, t2, t3, t4, fz⟩ := H3.out.less.hand hi
  obtain ⟨q0, q1, q2, q3, -⟩ := H3.out.less.bead hcn
  obtain ⟨p0, p1, p2, p3, fb⟩ := H3.out.less.bead hp
  have d0 := H3.out.dd0
  have d1 := H3.out.dd1
  clear H1 H2
  go_wp2_with fail
  refine (again_b H3.out hi h0).mono ?_
  rintro e w5 ⟨rfl, h5⟩
  have H6 := hide h5
  clear h5
  clear hb t1 t2 t3 t4 fz q0 q1 q2 q3 p0 p1 p2 p3 fb d0 d1
  go_wp2
  refine ⟨rfl, .bool false, by simp [results, Try.results36, go_sem], rfl, ?_⟩
  exact ⟨bg, bc, dv, H6.out.less⟩
set_option maxRecDepth 100000 in
theorem bm_1un (h : BQ K s dl bg bc dv w) {i : Nat} (hi : i < K.nh) (hp : (s.hd i).p < s.m.n) (hcn : (s.hd i).c < s.m.n) {d : Dd} (h2 : (s.hd i).plc = 1) (hkp : s.m.ky (s.hd i).p ≠ 10) (hm : s.m.mr (s.hd i).c = true) (hk3 : d.kind ≠ 3) (hcl : clean s.m (s.hd i) = false) :
    Calls Try.prog 36 #[ptr K.b, hp5 K i, deedV d] w (HP K s dl i (markS (K.alg == 4) s.m (s.hd i) d)) := by
  have er : markS (K.alg == 4) s.m (s.hd i) d = (s.m, { s.hd i with plc := 0 }, false) := by
    unfold markS; rw [h2]; simp [hm, hk3, hcl]
  rw [er]
  have Hhkp := hide hkp
  have Hhk3 := hide hk3
  have Hhcl := hide hcl
  clear hkp hk3 hcl
  unfold HP hp5 ptr deedV
  have H0 := hide h
  clear h er
  go_enter Try.func36, Try.ntmps36
  go_upto_region 1 with fail
  obtain ⟨w1, hw1⟩ : ∃ x, x = w.alloc (.cells #[.int .i64 d.kind, .int .i64 d.key] 23) := ⟨_, rfl⟩
  have H1 := hide ((H0.out.kpw (w' := w1) (by rw [hw1]; exact (Kp.refl w).alloc)).add (D := w.heap.size) (t := 23) (c := [.int .i64 d.kind, .int .i64 d.key]) (by rw [hw1]; exact BC.new w _ _) (by unfold okBT; decide))
  try rw [← hw1]
  clear hw1 H0
  generalize w.heap.size = D at *
  have hb := H1.out.less.bsl
  obtain ⟨-, t1, t2, t3, t4, fz⟩ := H1.out.less.hand hi
  obtain ⟨q0, q1, q2, q3, -⟩ := H1.out.less.bead hcn
  obtain ⟨p0, p1, p2, p3, fb⟩ := H1.out.less.bead hp
  have d0 := H1.out.dd0
  have d1 := H1.out.dd1
  go_quiet (fail)
  obtain ⟨w2, hw⟩ : ∃ x, x = w1.drewN nq := ⟨_, rfl⟩
  try rw [← hw]
  have H2 := hide (H1.out.kpw (w' := w2) (by rw [hw]; (focus ((repeat (first | (with_reducible assumption) | (with_reducible exact Kp.refl _) | (with_reducible apply Kp.drew) | (with_reducible apply Kp.drewN) | ((with_reducible apply Kp.setR); (focus (first | (with_reducible assumption) | (simp; done) | (simp; omega)))) | (with_reducible apply Kp.alloc) | ((with_reducible apply Kp.call); (with_reducible assumption)) | ((with_reducible apply Kp.app); (with_reducible assumption)))); done))))
  clear hw
  clear hb t1 t2 t3 t4 fz q0 q1 q2 q3 p0 p1 p2 p3 fb d0 d1
  have hb := H2.out.less.bsl
  obtain ⟨-, t1, t2, t3, t4, fz⟩ := H2.out.less.hand hi
  obtain ⟨q0, q1, q2, q3, -⟩ := H2.out.less.bead hcn
  obtain ⟨p0, p1, p2, p3, fb⟩ := H2.out.less.bead hp
  have d0 := H2.out.dd0
  have d1 := H2.out.dd1
  obtain ⟨x, kx⟩ : ∃ x, (s.m.ky (s.hd i).c == d.key) = x := ⟨_, rfl⟩
  go_wp2_with fail
  go_quiet (fail)
  obtain ⟨w3, hw⟩ : ∃ x, x = w2.drewN nq := ⟨_, rfl⟩
  try rw [← hw]
  have H3 := hide (H2.out.kpw (w' := w3) (by rw [hw]; (focus ((repeat (first | (with_reducible assumption) | (with_reducible exact Kp.refl _) | (with_reducible apply Kp.drew) | (with_reducible apply Kp.drewN) | ((with_reducible apply Kp.setR); (focus (first | (with_reducible assumption) | (simp; done) | (simp; omega)))) | (with_reducible apply Kp.alloc) | ((with_reducible apply Kp.call); (with_reducible assumption)) | ((with_reducible apply Kp.app); (with_reducible assumption)))); done))))
  clear hw
  clear hb t1 t2 t3 t4 fz q0 q1 q2 q3 p0 p1 p2 p3 fb d0 d1
  have hb := H3.out.less.bsl
  obtain ⟨-, t1, t2, t3, t4, fz⟩ := H3.out.less.hand hi
  obtain ⟨q0, q1, q2, q3, -⟩ := H3.out.less.bead hcn
  obtain ⟨p0, p1, p2, p3, fb⟩ := H3.out.less.bead hp
  have d0 := H3.out.dd0
  have d1 := H3.out.dd1
  clear H1 H2
  have k3 : (d.kind != 3) = true := bne_iff_ne.2 Hhk3.out
  have k3b : (d.kind == 3) = false := beq_eq_false_iff_ne.2 Hhk3.out
  go_wp2_with fail
  refine (clean_b H3.out hi hp Hhkp.out).mono ?_
  rintro e w5 ⟨rfl, m9, rfl⟩
  rw [Hhcl.out]
  obtain ⟨w4, hw⟩ : ∃ x, x = w3.drewN m9 := ⟨_, rfl⟩
  try rw [← hw]
  have H4 := hide (H3.out.kpw (w' := w4) (by rw [hw]; (focus ((repeat (first | (with_reducible assumption) | (with_reducible exact Kp.refl _) | (with_reducible apply Kp.drew) | (with_reducible apply Kp.drewN) | ((with_reducible apply Kp.setR); (focus (first | (with_reducible assumption) | (simp; done) | (simp; omega)))) | (with_reducible apply Kp.alloc) | ((with_reducible apply Kp.call); (with_reducible assumption)) | ((with_reducible apply Kp.app); (with_reducible assumption)))); done))))
  clear hw
  clear hb t1 t2 t3 t4 fz q0 q1 q2 q3 p0 p1 p2 p3 fb d0 d1
  have hb := H4.out.less.bsl
  obtain ⟨-, t1, t2, t3, t4, fz⟩ := H4.out.less.hand hi
  obtain ⟨q0, q1, q2, q3, -⟩ := H4.out.less.bead hcn
  obtain ⟨p0, p1, p2, p3, fb⟩ := H4.out.less.bead hp
  have d0 := H4.out.dd0
  have d1 := H4.out.dd1
  clear H3
  go_wp2
  refine ⟨rfl, .bool false, by simp [results, Try.results36, go_sem], rfl, ?_⟩
  exact ⟨bg, bc, dv, H4.out.less.setat hi 0⟩
set_option maxRecDepth 100000 in
theorem bm_1drop (h : BQ K s dl bg bc dv w) {i : Nat} (hi : i < K.nh) (hp : (s.hd i).p < s.m.n) (hcn : (s.hd i).c < s.m.n) {d : Dd} (h2 : (s.hd i).plc = 1) (hkp : s.m.ky (s.hd i).p ≠ 10) (hkc : s.m.ky (s.hd i).c ≠ 10) (hne : (s.hd i).c ≠ (s.hd i).p) (hm : s.m.mr (s.hd i).c = true) (hk3 : d.kind ≠ 3) (hcl : clean s.m (s.hd i) = true) :
    Calls Try.prog 36 #[ptr K.b, hp5 K i, deedV d] w (HP K s dl i (markS (K.alg == 4) s.m (s.hd i) d)) := by
  have er : markS (K.alg == 4) s.m (s.hd i) d = (s.m.drop (s.hd i).p (s.hd i).c, { s.hd i with c := s.m.nx (s.hd i).c }, false) := by
    unfold markS; rw [h2]; simp [hm, hk3, hcl, h2]
  rw [er]
  have Hhkp := hide hkp
  have Hhkc := hide hkc
  have Hhne := hide hne
  have Hhk3 := hide hk3
  have Hhcl := hide hcl
  clear hkp hkc hne hk3 hcl
  unfold HP hp5 ptr deedV
  have H0 := hide h
  clear h er
  go_enter Try.func36, Try.ntmps36
  go_upto_region 1 with fail
  obtain ⟨w1, hw1⟩ : ∃ x, x = w.alloc (.cells #[.int .i64 d.kind, .int .i64 d.key] 23) := ⟨_, rfl⟩
  have H1 := hide ((H0.out.kpw (w' := w1) (by rw [hw1]; exact (Kp.refl w).alloc)).add (D := w.heap.size) (t := 23) (c := [.int .i64 d.kind, .int .i64 d.key]) (by rw [hw1]; exact BC.new w _ _) (by unfold okBT; decide))
  try rw [← hw1]
  clear hw1 H0
  generalize w.heap.size = D at *
  have hb := H1.out.less.bsl
  obtain ⟨-, t1, t2, t3, t4, fz⟩ := H1.out.less.hand hi
  obtain ⟨q0, q1, q2, q3, -⟩ := H1.out.less.bead hcn
  obtain ⟨p0, p1, p2, p3, fb⟩ := H1.out.less.bead hp
  have d0 := H1.out.dd0
  have d1 := H1.out.dd1
  go_quiet (fail)
  obtain ⟨w2, hw⟩ : ∃ x, x = w1.drewN nq := ⟨_, rfl⟩
  try rw [← hw]
  have H2 := hide (H1.out.kpw (w' := w2) (by rw [hw]; (focus ((repeat (first | (with_reducible assumption) | (with_reducible exact Kp.refl _) | (with_reducible apply Kp.drew) | (with_reducible apply Kp.drewN) | ((with_reducible apply Kp.setR); (focus (first | (with_reducible assumption) | (simp; done) | (simp; omega)))) | (with_reducible apply Kp.alloc) | ((with_reducible apply Kp.call); (with_reducible assumption)) | ((with_reducible apply Kp.app); (with_reducible assumption)))); done))))
  clear hw
  clear hb t1 t2 t3 t4 fz q0 q1 q2 q3 p0 p1 p2 p3 fb d0 d1
  have hb := H2.out.less.bsl
  obtain ⟨-, t1, t2, t3, t4, fz⟩ := H2.out.less.hand hi
  obtain ⟨q0, q1, q2, q3, -⟩ := H2.out.less.bead hcn
  obtain ⟨p0, p1, p2, p3, fb⟩ := H2.out.less.bead hp
  have d0 := H2.out.dd0
  have d1 := H2.out.dd1
  obtain ⟨x, kx⟩ : ∃ x, (s.m.ky (s.hd i).c == d.key) = x := ⟨_, rfl⟩
  go_wp2_with fail
  go_quiet (fail)
  obtain ⟨w3, hw⟩ : ∃ x, x = w2.drewN nq := ⟨_, rfl⟩
  try rw [← hw]
  have H3 := hide (H2.out.kpw (w' := w3) (by rw [hw]; (focus ((repeat (first | (with_reducible assumption) | (with_reducible exact Kp.refl _) | (with_reducible apply Kp.drew) | (with_reducible apply Kp.drewN) | ((with_reducible apply Kp.setR); (focus (first | (with_reducible assumption) | (simp; done) | (simp; omega)))) | (with_reducible apply Kp.alloc) | ((with_reducible apply Kp.call); (with_reducible assumption)) | ((with_reducible apply Kp.app); (with_reducible assumption)))); done))))
  clear hw
  clear hb t1 t2 t3 t4 fz q0 q1 q2 q3 p0 p1 p2 p3 fb d0 d1
  have hb := H3.out.less.bsl
  obtain ⟨-, t1, t2, t3, t4, fz⟩ := H3.out.less.hand hi
  obtain ⟨q0, q1, q2, q3, -⟩ := H3.out.less.bead hcn
  obtain ⟨p0, p1, p2, p3, fb⟩ := H3.out.less.bead hp
  have d0 := H3.out.dd0
  have d1 := H3.out.dd1
  clear H1 H2
  have k3 : (d.kind != 3) = true := bne_iff_ne.2 Hhk3.out
  have k3b : (d.kind == 3) = false := beq_eq_false_iff_ne.2 Hhk3.out
  go_wp2_with fail
  refine (clean_b H3.out hi hp Hhkp.out).mono ?_
  rintro e w5 ⟨rfl, m9, rfl⟩
  rw [Hhcl.out]
  obtain ⟨w4, hw⟩ : ∃ x, x = w3.drewN m9 := ⟨_, rfl⟩
  try rw [← hw]
  have H4 := hide (H3.out.kpw (w' := w4) (by rw [hw]; (focus ((repeat (first | (with_reducible assumption) | (with_reducible exact Kp.refl _) | (with_reducible apply Kp.drew) | (with_reducible apply Kp.drewN) | ((with_reducible apply Kp.setR); (focus (first | (with_reducible assumption) | (simp; done) | (simp; omega)))) | (with_reducible apply Kp.alloc) | ((with_reducible apply Kp.call); (with_reducible assumption)) | ((with_reducible apply Kp.app); (with_reducible assumption)))); done))))
  clear hw
  clear hb t1 t2 t3 t4 fz q0 q1 q2 q3 p0 p1 p2 p3 fb d0 d1
  have hb := H4.out.less.bsl
  obtain ⟨-, t1, t2, t3, t4, fz⟩ := H4.out.less.hand hi
  obtain ⟨q0, q1, q2, q3, -⟩ := H4.out.less.bead hcn
  obtain ⟨p0, p1, p2, p3, fb⟩ := H4.out.less.bead hp
  have d0 := H4.out.dd0
  have d1 := H4.out.dd1
  clear H3
  have px : nxt s.m (s.hd i).c = (s.m.nx (s.hd i).c : Int) := nxt_nx _ Hhkc.out
  rw [px] at q1
  go_upto_region 11 with fail
  go_still_tail 14, (by kernel_rfl)
  change wpList _ _ _ _ _ w4.drew
  obtain ⟨w6, hw⟩ : ∃ x, x = w4.drew := ⟨_, rfl⟩
  try rw [← hw]
  have H5 := hide (H4.out.kpw (w' := w6) (by rw [hw]; (focus ((repeat (first | (with_reducible assumption) | (with_reducible exact Kp.refl _) | (with_reducible apply Kp.drew) | (with_reducible apply Kp.drewN) | ((with_reducible apply Kp.setR); (focus (first | (with_reducible assumption) | (simp; done) | (simp; omega)))) | (with_reducible apply Kp.alloc) | ((with_reducible apply Kp.call); (with_reducible assumption)) | ((with_reducible apply Kp.app); (with_reducible assumption)))); done))))
  clear hw
  clear hb t1 t2 t3 t4 fz q0 q1 q2 q3 p0 p1 p2 p3 fb d0 d1
  have hb := H5.out.less.bsl
  obtain ⟨-, t1, t2, t3, t4, fz⟩ := H5.out.less.hand hi
  obtain ⟨q0, q1, q2, q3, -⟩ := H5.out.less.bead hcn
  obtain ⟨p0, p1, p2, p3, fb⟩ := H5.out.less.bead hp
  have d0 := H5.out.dd0
  have d1 := H5.out.dd1
  clear H4
  have px : nxt s.m (s.hd i).c = (s.m.nx (s.hd i).c : Int) := nxt_nx _ Hhkc.out
  rw [px] at q1
  go_upto_region 12 with fail
  have H7 : Hid (BQ (K.add D 23 [.int .i64 d.kind, .int .i64 d.key]) { s with m := s.m.drop (s.hd i).p (s.hd i).c } dl bg bc dv (w6.setCell ⟨bg, (s.hd i).p * 4 + 1, none⟩ (.int .i64 (s.m.nx (s.hd i).c)))) := hide (H5.out.setnx (i := (s.hd i).p) (c := s.m.nx (s.hd i).c) hp Hhkp.out)
  generalize w6.setCell ⟨bg, (s.hd i).p * 4 + 1, none⟩ (.int .i64 (s.m.nx (s.hd i).c)) = w7 at *
  clear H5
  clear hb t1 t2 t3 t4 fz q0 q1 q2 q3 p0 p1 p2 p3 fb d0 d1
  have hb := H7.out.less.bsl
  obtain ⟨-, t1, t2, t3, t4, fz⟩ := H7.out.less.hand hi
  obtain ⟨q0, q1, q2, q3, -⟩ := H7.out.less.bead hcn
  obtain ⟨p0, p1, p2, p3, fb⟩ := H7.out.less.bead hp
  have d0 := H7.out.dd0
  have d1 := H7.out.dd1
  have e9 : nxt (s.m.drop (s.hd i).p (s.hd i).c) (s.hd i).c = (s.m.nx (s.hd i).c : Int) := by
    rw [nxt_nx (s.m.drop (s.hd i).p (s.hd i).c) Hhkc.out]
    show ((up s.m.nx (s.hd i).p (s.m.nx (s.hd i).c) (s.hd i).c : Nat) : Int) = _
    rw [up_ne _ _ Hhne.out]
  rw [show nxt ({ s with m := s.m.drop (s.hd i).p (s.hd i).c } : St).m (s.hd i).c = _ from e9] at q1
  go_wp2
  refine ⟨rfl, .bool false, by simp [results, Try.results36, go_sem], rfl, ?_⟩
  have := H7.out.less.setc hi (s.m.nx (s.hd i).c)
  dsimp only at this
  rw [h2] at this
  exact ⟨bg, bc, dv, this⟩
set_option maxRecDepth 100000 in
theorem bm_1ona (h : BQ K s dl bg bc dv w) {i : Nat} (hi : i < K.nh) (hp : (s.hd i).p < s.m.n) (hcn : (s.hd i).c < s.m.n) {d : Dd} (h2 : (s.hd i).plc = 1) (hk10 : s.m.ky (s.hd i).c ≠ 10) (hlt : s.m.ky (s.hd i).c < d.key) (hm : s.m.mr (s.hd i).c = false) :
    Calls Try.prog 36 #[ptr K.b, hp5 K i, deedV d] w (HP K s dl i (markS (K.alg == 4) s.m (s.hd i) d)) := by
  have er : markS (K.alg == 4) s.m (s.hd i) d = (s.m, (s.hd i).on s.m, false) := by
    unfold markS; rw [h2]; simp [hm, hlt]
  rw [er]
  unfold HP hp5 ptr deedV
  have H0 := hide h
  clear h er
  go_enter Try.func36, Try.ntmps36
  go_upto_region 1 with fail
  obtain ⟨w1, hw1⟩ : ∃ x, x = w.alloc (.cells #[.int .i64 d.kind, .int .i64 d.key] 23) := ⟨_, rfl⟩
  have H1 := hide ((H0.out.kpw (w' := w1) (by rw [hw1]; exact (Kp.refl w).alloc)).add (D := w.heap.size) (t := 23) (c := [.int .i64 d.kind, .int .i64 d.key]) (by rw [hw1]; exact BC.new w _ _) (by unfold okBT; decide))
  try rw [← hw1]
  clear hw1 H0
  generalize w.heap.size = D at *
  have hb := H1.out.less.bsl
  obtain ⟨-, t1, t2, t3, t4, fz⟩ := H1.out.less.hand hi
  obtain ⟨q0, q1, q2, q3, -⟩ := H1.out.less.bead hcn
  obtain ⟨p0, p1, p2, p3, fb⟩ := H1.out.less.bead hp
  have d0 := H1.out.dd0
  have d1 := H1.out.dd1
  go_quiet (fail)
  obtain ⟨w2, hw⟩ : ∃ x, x = w1.drewN nq := ⟨_, rfl⟩
  try rw [← hw]
  have H2 := hide (H1.out.kpw (w' := w2) (by rw [hw]; (focus ((repeat (first | (with_reducible assumption) | (with_reducible exact Kp.refl _) | (with_reducible apply Kp.drew) | (with_reducible apply Kp.drewN) | ((with_reducible apply Kp.setR); (focus (first | (with_reducible assumption) | (simp; done) | (simp; omega)))) | (with_reducible apply Kp.alloc) | ((with_reducible apply Kp.call); (with_reducible assumption)) | ((with_reducible apply Kp.app); (with_reducible assumption)))); done))))
  clear hw
  clear hb t1 t2 t3 t4 fz q0 q1 q2 q3 p0 p1 p2 p3 fb d0 d1
  have hb := H2.out.less.bsl
  obtain ⟨-, t1, t2, t3, t4, fz⟩ := H2.out.less.hand hi
  obtain ⟨q0, q1, q2, q3, -⟩ := H2.out.less.bead hcn
  obtain ⟨p0, p1, p2, p3, fb⟩ := H2.out.less.bead hp
  have d0 := H2.out.dd0
  have d1 := H2.out.dd1
  obtain ⟨x, kx⟩ : ∃ x, (s.m.ky (s.hd i).c == d.key) = x := ⟨_, rfl⟩
  go_wp2_with fail
  go_quiet (fail)
  obtain ⟨w3, hw⟩ : ∃ x, x = w2.drewN nq := ⟨_, rfl⟩
  try rw [← hw]
  have H3 := hide (H2.out.kpw (w' := w3) (by rw [hw]; (focus ((repeat (first | (with_reducible assumption) | (with_reducible exact Kp.refl _) | (with_reducible apply Kp.drew) | (with_reducible apply Kp.drewN) | ((with_reducible apply Kp.setR); (focus (first | (with_reducible assumption) | (simp; done) | (simp; omega)))) | (with_reducible apply Kp.alloc) | ((with_reducible apply Kp.call); (with_reducible assumption)) | ((with_reducible apply Kp.app); (with_reducible assumption)))); done))))
  clear hw
  clear hb t1 t2 t3 t4 fz q0 q1 q2 q3 p0 p1 p2 p3 fb d0 d1
  have hb := H3.out.less.bsl
  obtain ⟨-, t1, t2, t3, t4, fz⟩ := H3.out.less.hand hi
  obtain ⟨q0, q1, q2, q3, -⟩ := H3.out.less.bead hcn
  obtain ⟨p0, p1, p2, p3, fb⟩ := H3.out.less.bead hp
  have d0 := H3.out.dd0
  have d1 := H3.out.dd1
  clear H1 H2
  have k1 : decide (s.m.ky (s.hd i).c < d.key) = true := by rw [decide_eq_true_iff]; omega
  go_wp2_with fail
  go_quiet (fail)
  obtain ⟨w4, hw⟩ : ∃ x, x = w3.drewN nq := ⟨_, rfl⟩
  try rw [← hw]
  have H4 := hide (H3.out.kpw (w' := w4) (by rw [hw]; (focus ((repeat (first | (with_reducible assumption) | (with_reducible exact Kp.refl _) | (with_reducible apply Kp.drew) | (with_reducible apply Kp.drewN) | ((with_reducible apply Kp.setR); (focus (first | (with_reducible assumption) | (simp; done) | (simp; omega)))) | (with_reducible apply Kp.alloc) | ((with_reducible apply Kp.call); (with_reducible assumption)) | ((with_reducible apply Kp.app); (with_reducible assumption)))); done))))
  clear hw
  clear hb t1 t2 t3 t4 fz q0 q1 q2 q3 p0 p1 p2 p3 fb d0 d1
  have hb := H4.out.less.bsl
  obtain ⟨-, t1, t2, t3, t4, fz⟩ := H4.out.less.hand hi
  obtain ⟨q0, q1, q2, q3, -⟩ := H4.out.less.bead hcn
  obtain ⟨p0, p1, p2, p3, fb⟩ := H4.out.less.bead hp
  have d0 := H4.out.dd0
  have d1 := H4.out.dd1
  clear H3
  go_wp2_with fail
  refine (on_b H4.out hi hcn hk10).mono ?_
  rintro e w5 ⟨rfl, h5⟩
  have H6 := hide h5
  clear h5 H4
  clear hb t1 t2 t3 t4 fz q0 q1 q2 q3 p0 p1 p2 p3 fb d0 d1
  go_wp2
  refine ⟨rfl, .bool false, by simp [results, Try.results36, go_sem], rfl, ?_⟩
  exact ⟨bg, bc, dv, H6.out.less⟩
set_option maxRecDepth 100000 in
theorem bm_1onb (h : BQ K s dl bg bc dv w) {i : Nat} (hi : i < K.nh) (hp : (s.hd i).p < s.m.n) (hcn : (s.hd i).c < s.m.n) {d : Dd} (h2 : (s.hd i).plc = 1) (hk10 : s.m.ky (s.hd i).c ≠ 10) (hlt : s.m.ky (s.hd i).c < d.key) (hm : s.m.mr (s.hd i).c = true) (hk : d.kind = 3) :
    Calls Try.prog 36 #[ptr K.b, hp5 K i, deedV d] w (HP K s dl i (markS (K.alg == 4) s.m (s.hd i) d)) := by
  have er : markS (K.alg == 4) s.m (s.hd i) d = (s.m, (s.hd i).on s.m, false) := by
    unfold markS; rw [h2]; simp [hm, hk, hlt]
  rw [er]
  have Hhk := hide hk
  clear hk
  unfold HP hp5 ptr deedV
  have H0 := hide h
  clear h er
  go_enter Try.func36, Try.ntmps36
  go_upto_region 1 with fail
  obtain ⟨w1, hw1⟩ : ∃ x, x = w.alloc (.cells #[.int .i64 d.kind, .int .i64 d.key] 23) := ⟨_, rfl⟩
  have H1 := hide ((H0.out.kpw (w' := w1) (by rw [hw1]; exact (Kp.refl w).alloc)).add (D := w.heap.size) (t := 23) (c := [.int .i64 d.kind, .int .i64 d.key]) (by rw [hw1]; exact BC.new w _ _) (by unfold okBT; decide))
  try rw [← hw1]
  clear hw1 H0
  generalize w.heap.size = D at *
  have hb := H1.out.less.bsl
  obtain ⟨-, t1, t2, t3, t4, fz⟩ := H1.out.less.hand hi
  obtain ⟨q0, q1, q2, q3, -⟩ := H1.out.less.bead hcn
  obtain ⟨p0, p1, p2, p3, fb⟩ := H1.out.less.bead hp
  have d0 := H1.out.dd0
  have d1 := H1.out.dd1
  go_quiet (fail)
  obtain ⟨w2, hw⟩ : ∃ x, x = w1.drewN nq := ⟨_, rfl⟩
  try rw [← hw]
  have H2 := hide (H1.out.kpw (w' := w2) (by rw [hw]; (focus ((repeat (first | (with_reducible assumption) | (with_reducible exact Kp.refl _) | (with_reducible apply Kp.drew) | (with_reducible apply Kp.drewN) | ((with_reducible apply Kp.setR); (focus (first | (with_reducible assumption) | (simp; done) | (simp; omega)))) | (with_reducible apply Kp.alloc) | ((with_reducible apply Kp.call); (with_reducible assumption)) | ((with_reducible apply Kp.app); (with_reducible assumption)))); done))))
  clear hw
  clear hb t1 t2 t3 t4 fz q0 q1 q2 q3 p0 p1 p2 p3 fb d0 d1
  have hb := H2.out.less.bsl
  obtain ⟨-, t1, t2, t3, t4, fz⟩ := H2.out.less.hand hi
  obtain ⟨q0, q1, q2, q3, -⟩ := H2.out.less.bead hcn
  obtain ⟨p0, p1, p2, p3, fb⟩ := H2.out.less.bead hp
  have d0 := H2.out.dd0
  have d1 := H2.out.dd1
  obtain ⟨x, kx⟩ : ∃ x, (s.m.ky (s.hd i).c == d.key) = x := ⟨_, rfl⟩
  go_wp2_with fail
  go_quiet (fail)
  obtain ⟨w3, hw⟩ : ∃ x, x = w2.drewN nq := ⟨_, rfl⟩
  try rw [← hw]
  have H3 := hide (H2.out.kpw (w' := w3) (by rw [hw]; (focus ((repeat (first | (with_reducible assumption) | (with_reducible exact Kp.refl _) | (with_reducible apply Kp.drew) | (with_reducible apply Kp.drewN) | ((with_reducible apply Kp.setR); (focus (first | (with_reducible assumption) | (simp; done) | (simp; omega)))) | (with_reducible apply Kp.alloc) | ((with_reducible apply Kp.call); (with_reducible assumption)) | ((with_reducible apply Kp.app); (with_reducible assumption)))); done))))
  clear hw
  clear hb t1 t2 t3 t4 fz q0 q1 q2 q3 p0 p1 p2 p3 fb d0 d1
  have hb := H3.out.less.bsl
  obtain ⟨-, t1, t2, t3, t4, fz⟩ := H3.out.less.hand hi
  obtain ⟨q0, q1, q2, q3, -⟩ := H3.out.less.bead hcn
  obtain ⟨p0, p1, p2, p3, fb⟩ := H3.out.less.bead hp
  have d0 := H3.out.dd0
  have d1 := H3.out.dd1
  clear H1 H2
  have k3 : (d.kind != 3) = false := by rw [Hhk.out]; rfl
  have k3b : (d.kind == 3) = true := by rw [Hhk.out]; rfl
  have k1 : decide (s.m.ky (s.hd i).c < d.key) = true := by rw [decide_eq_true_iff]; omega
  go_wp2_with fail
  go_quiet (fail)
  obtain ⟨w4, hw⟩ : ∃ x, x = w3.drewN nq := ⟨_, rfl⟩
  try rw [← hw]
  have H4 := hide (H3.out.kpw (w' := w4) (by rw [hw]; (focus ((repeat (first | (with_reducible assumption) | (with_reducible exact Kp.refl _) | (with_reducible apply Kp.drew) | (with_reducible apply Kp.drewN) | ((with_reducible apply Kp.setR); (focus (first | (with_reducible assumption) | (simp; done) | (simp; omega)))) | (with_reducible apply Kp.alloc) | ((with_reducible apply Kp.call); (with_reducible assumption)) | ((with_reducible apply Kp.app); (with_reducible assumption)))); done))))
  clear hw
  clear hb t1 t2 t3 t4 fz q0 q1 q2 q3 p0 p1 p2 p3 fb d0 d1
  have hb := H4.out.less.bsl
  obtain ⟨-, t1, t2, t3, t4, fz⟩ := H4.out.less.hand hi
  obtain ⟨q0, q1, q2, q3, -⟩ := H4.out.less.bead hcn
  obtain ⟨p0, p1, p2, p3, fb⟩ := H4.out.less.bead hp
  have d0 := H4.out.dd0
  have d1 := H4.out.dd1
  clear H3
  go_wp2_with fail
  refine (on_b H4.out hi hcn hk10).mono ?_
  rintro e w5 ⟨rfl, h5⟩
  have H6 := hide h5
  clear h5 H4
  clear hb t1 t2 t3 t4 fz q0 q1 q2 q3 p0 p1 p2 p3 fb d0 d1
  go_wp2
  refine ⟨rfl, .bool false, by simp [results, Try.results36, go_sem], rfl, ?_⟩
  exact ⟨bg, bc, dv, H6.out.less⟩
set_option maxRecDepth 100000 in
theorem bm_hasta (h : BQ K s dl bg bc dv w) {i : Nat} (hi : i < K.nh) (hp : (s.hd i).p < s.m.n) (hcn : (s.hd i).c < s.m.n) {d : Dd} (h2 : (s.hd i).plc = 1) (hlt : ¬ s.m.ky (s.hd i).c < d.key) (hk : d.kind = 3) (hm : s.m.mr (s.hd i).c = false) (hke : s.m.ky (s.hd i).c = d.key) :
    Calls Try.prog 36 #[ptr K.b, hp5 K i, deedV d] w (HP K s dl i (markS (K.alg == 4) s.m (s.hd i) d)) := by
  have er : markS (K.alg == 4) s.m (s.hd i) d = (s.m, { s.hd i with is := true }, true) := by
    unfold markS; rw [h2]; simp [hm, hk, hke, h2]
  rw [er]
  have Hhk := hide hk
  have Hhke := hide hke
  clear hk hke
  unfold HP hp5 ptr deedV
  have H0 := hide h
  clear h er
  go_enter Try.func36, Try.ntmps36
  go_upto_region 1 with fail
  obtain ⟨w1, hw1⟩ : ∃ x, x = w.alloc (.cells #[.int .i64 d.kind, .int .i64 d.key] 23) := ⟨_, rfl⟩
  have H1 := hide ((H0.out.kpw (w' := w1) (by rw [hw1]; exact (Kp.refl w).alloc)).add (D := w.heap.size) (t := 23) (c := [.int .i64 d.kind, .int .i64 d.key]) (by rw [hw1]; exact BC.new w _ _) (by unfold okBT; decide))
  try rw [← hw1]
  clear hw1 H0
  generalize w.heap.size = D at *
  have hb := H1.out.less.bsl
  obtain ⟨-, t1, t2, t3, t4, fz⟩ := H1.out.less.hand hi
  obtain ⟨q0, q1, q2, q3, -⟩ := H1.out.less.bead hcn
  obtain ⟨p0, p1, p2, p3, fb⟩ := H1.out.less.bead hp
  have d0 := H1.out.dd0
  have d1 := H1.out.dd1
  go_quiet (fail)
  obtain ⟨w2, hw⟩ : ∃ x, x = w1.drewN nq := ⟨_, rfl⟩
  try rw [← hw]
  have H2 := hide (H1.out.kpw (w' := w2) (by rw [hw]; (focus ((repeat (first | (with_reducible assumption) | (with_reducible exact Kp.refl _) | (with_reducible apply Kp.drew) | (with_reducible apply Kp.drewN) | ((with_reducible apply Kp.setR); (focus (first | (with_reducible assumption) | (simp; done) | (simp; omega)))) | (with_reducible apply Kp.alloc) | ((with_reducible apply Kp.call); (with_reducible assumption)) | ((with_reducible apply Kp.app); (with_reducible assumption)))); done))))
  clear hw
  clear hb t1 t2 t3 t4 fz q0 q1 q2 q3 p0 p1 p2 p3 fb d0 d1
  have hb := H2.out.less.bsl
  obtain ⟨-, t1, t2, t3, t4, fz⟩ := H2.out.less.hand hi
  obtain ⟨q0, q1, q2, q3, -⟩ := H2.out.less.bead hcn
  obtain ⟨p0, p1, p2, p3, fb⟩ := H2.out.less.bead hp
  have d0 := H2.out.dd0
  have d1 := H2.out.dd1
  have kx : (s.m.ky (s.hd i).c == d.key) = true := beq_iff_eq.2 Hhke.out
  go_wp2_with fail
  go_quiet (fail)
  obtain ⟨w3, hw⟩ : ∃ x, x = w2.drewN nq := ⟨_, rfl⟩
  try rw [← hw]
  have H3 := hide (H2.out.kpw (w' := w3) (by rw [hw]; (focus ((repeat (first | (with_reducible assumption) | (with_reducible exact Kp.refl _) | (with_reducible apply Kp.drew) | (with_reducible apply Kp.drewN) | ((with_reducible apply Kp.setR); (focus (first | (with_reducible assumption) | (simp; done) | (simp; omega)))) | (with_reducible apply Kp.alloc) | ((with_reducible apply Kp.call); (with_reducible assumption)) | ((with_reducible apply Kp.app); (with_reducible assumption)))); done))))
  clear hw
  clear hb t1 t2 t3 t4 fz q0 q1 q2 q3 p0 p1 p2 p3 fb d0 d1
  have hb := H3.out.less.bsl
  obtain ⟨-, t1, t2, t3, t4, fz⟩ := H3.out.less.hand hi
  obtain ⟨q0, q1, q2, q3, -⟩ := H3.out.less.bead hcn
  obtain ⟨p0, p1, p2, p3, fb⟩ := H3.out.less.bead hp
  have d0 := H3.out.dd0
  have d1 := H3.out.dd1
  clear H1 H2
  have k3 : (d.kind != 3) = false := by rw [Hhk.out]; rfl
  have k3b : (d.kind == 3) = true := by rw [Hhk.out]; rfl
  have k1 : decide (s.m.ky (s.hd i).c < d.key) = false := by rw [decide_eq_false_iff_not]; omega
  go_wp2_with fail
  go_quiet (fail)
  obtain ⟨w4, hw⟩ : ∃ x, x = w3.drewN nq := ⟨_, rfl⟩
  try rw [← hw]
  have H4 := hide (H3.out.kpw (w' := w4) (by rw [hw]; (focus ((repeat (first | (with_reducible assumption) | (with_reducible exact Kp.refl _) | (with_reducible apply Kp.drew) | (with_reducible apply Kp.drewN) | ((with_reducible apply Kp.setR); (focus (first | (with_reducible assumption) | (simp; done) | (simp; omega)))) | (with_reducible apply Kp.alloc) | ((with_reducible apply Kp.call); (with_reducible assumption)) | ((with_reducible apply Kp.app); (with_reducible assumption)))); done))))
  clear hw
  clear hb t1 t2 t3 t4 fz q0 q1 q2 q3 p0 p1 p2 p3 fb d0 d1
  have hb := H4.out.less.bsl
  obtain ⟨-, t1, t2, t3, t4, fz⟩ := H4.out.less.hand hi
  obtain ⟨q0, q1, q2, q3, -⟩ := H4.out.less.bead hcn
  obtain ⟨p0, p1, p2, p3, fb⟩ := H4.out.less.bead hp
  have d0 := H4.out.dd0
  have d1 := H4.out.dd1
  clear H3
  go_wp2
  refine ⟨rfl, .bool true, by simp [results, Try.results36, go_sem], rfl, ?_⟩
  exact ⟨bg, bc, dv, H4.out.less.setis hi true⟩
set_option maxRecDepth 100000 in
theorem bm_hastb (h : BQ K s dl bg bc dv w) {i : Nat} (hi : i < K.nh) (hp : (s.hd i).p < s.m.n) (hcn : (s.hd i).c < s.m.n) {d : Dd} (h2 : (s.hd i).plc = 1) (hlt : ¬ s.m.ky (s.hd i).c < d.key) (hk : d.kind = 3) (hm : s.m.mr (s.hd i).c = true) (hke : s.m.ky (s.hd i).c = d.key) :
    Calls Try.prog 36 #[ptr K.b, hp5 K i, deedV d] w (HP K s dl i (markS (K.alg == 4) s.m (s.hd i) d)) := by
  have er : markS (K.alg == 4) s.m (s.hd i) d = (s.m, { s.hd i with is := false }, true) := by
    unfold markS; rw [h2]; simp [hm, hk, hke, h2]
  rw [er]
  have Hhk := hide hk
  have Hhke := hide hke
  clear hk hke
  unfold HP hp5 ptr deedV
  have H0 := hide h
  clear h er
  go_enter Try.func36, Try.ntmps36
  go_upto_region 1 with fail
  obtain ⟨w1, hw1⟩ : ∃ x, x = w.alloc (.cells #[.int .i64 d.kind, .int .i64 d.key] 23) := ⟨_, rfl⟩
  have H1 := hide ((H0.out.kpw (w' := w1) (by rw [hw1]; exact (Kp.refl w).alloc)).add (D := w.heap.size) (t := 23) (c := [.int .i64 d.kind, .int .i64 d.key]) (by rw [hw1]; exact BC.new w _ _) (by unfold okBT; decide))
  try rw [← hw1]
  clear hw1 H0
  generalize w.heap.size = D at *
  have hb := H1.out.less.bsl
  obtain ⟨-, t1, t2, t3, t4, fz⟩ := H1.out.less.hand hi
  obtain ⟨q0, q1, q2, q3, -⟩ := H1.out.less.bead hcn
  obtain ⟨p0, p1, p2, p3, fb⟩ := H1.out.less.bead hp
  have d0 := H1.out.dd0
  have d1 := H1.out.dd1
  go_quiet (fail)
  obtain ⟨w2, hw⟩ : ∃ x, x = w1.drewN nq := ⟨_, rfl⟩
  try rw [← hw]
  have H2 := hide (H1.out.kpw (w' := w2) (by rw [hw]; (focus ((repeat (first | (with_reducible assumption) | (with_reducible exact Kp.refl _) | (with_reducible apply Kp.drew) | (with_reducible apply Kp.drewN) | ((with_reducible apply Kp.setR); (focus (first | (with_reducible assumption) | (simp; done) | (simp; omega)))) | (with_reducible apply Kp.alloc) | ((with_reducible apply Kp.call); (with_reducible assumption)) | ((with_reducible apply Kp.app); (with_reducible assumption)))); done))))
  clear hw
  clear hb t1 t2 t3 t4 fz q0 q1 q2 q3 p0 p1 p2 p3 fb d0 d1
  have hb := H2.out.less.bsl
  obtain ⟨-, t1, t2, t3, t4, fz⟩ := H2.out.less.hand hi
  obtain ⟨q0, q1, q2, q3, -⟩ := H2.out.less.bead hcn
  obtain ⟨p0, p1, p2, p3, fb⟩ := H2.out.less.bead hp
  have d0 := H2.out.dd0
  have d1 := H2.out.dd1
  have kx : (s.m.ky (s.hd i).c == d.key) = true := beq_iff_eq.2 Hhke.out
  go_wp2_with fail
  go_quiet (fail)
  obtain ⟨w3, hw⟩ : ∃ x, x = w2.drewN nq := ⟨_, rfl⟩
  try rw [← hw]
  have H3 := hide (H2.out.kpw (w' := w3) (by rw [hw]; (focus ((repeat (first | (with_reducible assumption) | (with_reducible exact Kp.refl _) | (with_reducible apply Kp.drew) | (with_reducible apply Kp.drewN) | ((with_reducible apply Kp.setR); (focus (first | (with_reducible assumption) | (simp; done) | (simp; omega)))) | (with_reducible apply Kp.alloc) | ((with_reducible apply Kp.call); (with_reducible assumption)) | ((with_reducible apply Kp.app); (with_reducible assumption)))); done))))
  clear hw
  clear hb t1 t2 t3 t4 fz q0 q1 q2 q3 p0 p1 p2 p3 fb d0 d1
  have hb := H3.out.less.bsl
  obtain ⟨-, t1, t2, t3, t4, fz⟩ := H3.out.less.hand hi
  obtain ⟨q0, q1, q2, q3, -⟩ := H3.out.less.bead hcn
  obtain ⟨p0, p1, p2, p3, fb⟩ := H3.out.less.bead hp
  have d0 := H3.out.dd0
  have d1 := H3.out.dd1
  clear H1 H2
  have k3 : (d.kind != 3) = false := by rw [Hhk.out]; rfl
  have k3b : (d.kind == 3) = true := by rw [Hhk.out]; rfl
  have k1 : decide (s.m.ky (s.hd i).c < d.key) = false := by rw [decide_eq_false_iff_not]; omega
  go_wp2_with fail
  go_quiet (fail)
  obtain ⟨w4, hw⟩ : ∃ x, x = w3.drewN nq := ⟨_, rfl⟩
  try rw [← hw]
  have H4 := hide (H3.out.kpw (w' := w4) (by rw [hw]; (focus ((repeat (first | (with_reducible assumption) | (with_reducible exact Kp.refl _) | (with_reducible apply Kp.drew) | (with_reducible apply Kp.drewN) | ((with_reducible apply Kp.setR); (focus (first | (with_reducible assumption) | (simp; done) | (simp; omega)))) | (with_reducible apply Kp.alloc) | ((with_reducible apply Kp.call); (with_reducible assumption)) | ((with_reducible apply Kp.app); (with_reducible assumption)))); done))))
  clear hw
  clear hb t1 t2 t3 t4 fz q0 q1 q2 q3 p0 p1 p2 p3 fb d0 d1
  have hb := H4.out.less.bsl
  obtain ⟨-, t1, t2, t3, t4, fz⟩ := H4.out.less.hand hi
  obtain ⟨q0, q1, q2, q3, -⟩ := H4.out.less.bead hcn
  obtain ⟨p0, p1, p2, p3, fb⟩ := H4.out.less.bead hp
  have d0 := H4.out.dd0
  have d1 := H4.out.dd1
  clear H3
  go_wp2
  refine ⟨rfl, .bool true, by simp [results, Try.results36, go_sem], rfl, ?_⟩
  exact ⟨bg, bc, dv, H4.out.less.setis hi false⟩
set_option maxRecDepth 100000 in
theorem bm_hasfa (h : BQ K s dl bg bc dv w) {i : Nat} (hi : i < K.nh) (hp : (s.hd i).p < s.m.n) (hcn : (s.hd i).c < s.m.n) {d : Dd} (h2 : (s.hd i).plc = 1) (hlt : ¬ s.m.ky (s.hd i).c < d.key) (hk : d.kind = 3) (hm : s.m.mr (s.hd i).c = false) (hke : ¬ s.m.ky (s.hd i).c = d.key) :
    Calls Try.prog 36 #[ptr K.b, hp5 K i, deedV d] w (HP K s dl i (markS (K.alg == 4) s.m (s.hd i) d)) := by
  have er : markS (K.alg == 4) s.m (s.hd i) d = (s.m, { s.hd i with is := false }, true) := by
    unfold markS; rw [h2]; simp [hm, hk, hke, h2, hlt]
  rw [er]
  have Hhk := hide hk
  have Hhke := hide hke
  clear hk hke
  unfold HP hp5 ptr deedV
  have H0 := hide h
  clear h er
  go_enter Try.func36, Try.ntmps36
  go_upto_region 1 with fail
  obtain ⟨w1, hw1⟩ : ∃ x, x = w.alloc (.cells #[.int .i64 d.kind, .int .i64 d.key] 23) := ⟨_, rfl⟩
  have H1 := hide ((H0.out.kpw (w' := w1) (by rw [hw1]; exact (Kp.refl w).alloc)).add (D := w.heap.size) (t := 23) (c := [.int .i64 d.kind, .int .i64 d.key]) (by rw [hw1]; exact BC.new w _ _) (by unfold okBT; decide))
  try rw [← hw1]
  clear hw1 H0
  generalize w.heap.size = D at *
  have hb := H1.out.less.bsl
  obtain ⟨-, t1, t2, t3, t4, fz⟩ := H1.out.less.hand hi
  obtain ⟨q0, q1, q2, q3, -⟩ := H1.out.less.bead hcn
  obtain ⟨p0, p1, p2, p3, fb⟩ := H1.out.less.bead hp
  have d0 := H1.out.dd0
  have d1 := H1.out.dd1
  go_quiet (fail)
  obtain ⟨w2, hw⟩ : ∃ x, x = w1.drewN nq := ⟨_, rfl⟩
  try rw [← hw]
  have H2 := hide (H1.out.kpw (w' := w2) (by rw [hw]; (focus ((repeat (first | (with_reducible assumption) | (with_reducible exact Kp.refl _) | (with_reducible apply Kp.drew) | (with_reducible apply Kp.drewN) | ((with_reducible apply Kp.setR); (focus (first | (with_reducible assumption) | (simp; done) | (simp; omega)))) | (with_reducible apply Kp.alloc) | ((with_reducible apply Kp.call); (with_reducible assumption)) | ((with_reducible apply Kp.app); (with_reducible assumption)))); done))))
  clear hw
  clear hb t1 t2 t3 t4 fz q0 q1 q2 q3 p0 p1 p2 p3 fb d0 d1
  have hb := H2.out.less.bsl
  obtain ⟨-, t1, t2, t3, t4, fz⟩ := H2.out.less.hand hi
  obtain ⟨q0, q1, q2, q3, -⟩ := H2.out.less.bead hcn
  obtain ⟨p0, p1, p2, p3, fb⟩ := H2.out.less.bead hp
  have d0 := H2.out.dd0
  have d1 := H2.out.dd1
  have kx : (s.m.ky (s.hd i).c == d.key) = false := beq_eq_false_iff_ne.2 Hhke.out
  go_wp2_with fail
  go_quiet (fail)
  obtain ⟨w3, hw⟩ : ∃ x, x = w2.drewN nq := ⟨_, rfl⟩
  try rw [← hw]
  have H3 := hide (H2.out.kpw (w' := w3) (by rw [hw]; (focus ((repeat (first | (with_reducible assumption) | (with_reducible exact Kp.refl _) | (with_reducible apply Kp.drew) | (with_reducible apply Kp.drewN) | ((with_reducible apply Kp.setR); (focus (first | (with_reducible assumption) | (simp; done) | (simp; omega)))) | (with_reducible apply Kp.alloc) | ((with_reducible apply Kp.call); (with_reducible assumption)) | ((with_reducible apply Kp.app); (with_reducible assumption)))); done))))
  clear hw
  clear hb t1 t2 t3 t4 fz q0 q1 q2 q3 p0 p1 p2 p3 fb d0 d1
  have hb := H3.out.less.bsl
  obtain ⟨-, t1, t2, t3, t4, fz⟩ := H3.out.less.hand hi
  obtain ⟨q0, q1, q2, q3, -⟩ := H3.out.less.bead hcn
  obtain ⟨p0, p1, p2, p3, fb⟩ := H3.out.less.bead hp
  have d0 := H3.out.dd0
  have d1 := H3.out.dd1
  clear H1 H2
  have k3 : (d.kind != 3) = false := by rw [Hhk.out]; rfl
  have k3b : (d.kind == 3) = true := by rw [Hhk.out]; rfl
  have k1 : decide (s.m.ky (s.hd i).c < d.key) = false := by rw [decide_eq_false_iff_not]; omega
  go_wp2_with fail
  go_quiet (fail)
  obtain ⟨w4, hw⟩ : ∃ x, x = w3.drewN nq := ⟨_, rfl⟩
  try rw [← hw]
  have H4 := hide (H3.out.kpw (w' := w4) (by rw [hw]; (focus ((repeat (first | (with_reducible assumption) | (with_reducible exact Kp.refl _) | (with_reducible apply Kp.drew) | (with_reducible apply Kp.drewN) | ((with_reducible apply Kp.setR); (focus (first | (with_reducible assumption) | (simp; done) | (simp; omega)))) | (with_reducible apply Kp.alloc) | ((with_reducible apply Kp.call); (with_reducible assumption)) | ((with_reducible apply Kp.app); (with_reducible assumption)))); done))))
  clear hw
  clear hb t1 t2 t3 t4 fz q0 q1 q2 q3 p0 p1 p2 p3 fb d0 d1
  have hb := H4.out.less.bsl
  obtain ⟨-, t1, t2, t3, t4, fz⟩ := H4.out.less.hand hi
  obtain ⟨q0, q1, q2, q3, -⟩ := H4.out.less.bead hcn
  obtain ⟨p0, p1, p2, p3, fb⟩ := H4.out.less.bead hp
  have d0 := H4.out.dd0
  have d1 := H4.out.dd1
  clear H3
  go_wp2
  refine ⟨rfl, .bool true, by simp [results, Try.results36, go_sem], rfl, ?_⟩
  exact ⟨bg, bc, dv, H4.out.less.setis hi false⟩
set_option maxRecDepth 100000 in
theorem bm_hasfb (h : BQ K s dl bg bc dv w) {i : Nat} (hi : i < K.nh) (hp : (s.hd i).p < s.m.n) (hcn : (s.hd i).c < s.m.n) {d : Dd} (h2 : (s.hd i).plc = 1) (hlt : ¬ s.m.ky (s.hd i).c < d.key) (hk : d.kind = 3) (hm : s.m.mr (s.hd i).c = true) (hke : ¬ s.m.ky (s.hd i).c = d.key) :
    Calls Try.prog 36 #[ptr K.b, hp5 K i, deedV d] w (HP K s dl i (markS (K.alg == 4) s.m (s.hd i) d)) := by
  have er : markS (K.alg == 4) s.m (s.hd i) d = (s.m, { s.hd i with is := false }, true) := by
    unfold markS; rw [h2]; simp [hm, hk, hke, h2, hlt]
  rw [er]
  have Hhk := hide hk
  have Hhke := hide hke
  clear hk hke
  unfold HP hp5 ptr deedV
  have H0 := hide h
  clear h er
  go_enter Try.func36, Try.ntmps36
  go_upto_region 1 with fail
  obtain ⟨w1, hw1⟩ : ∃ x, x = w.alloc (.cells #[.int .i64 d.kind, .int .i64 d.key] 23) := ⟨_, rfl⟩
  have H1 := hide ((H0.out.kpw (w' := w1) (by rw [hw1]; exact (Kp.refl w).alloc)).add (D := w.heap.size) (t := 23) (c := [.int .i64 d.kind, .int .i64 d.key]) (by rw [hw1]; exact BC.new w _ _) (by unfold okBT; decide))
  try rw [← hw1]
  clear hw1 H0
  generalize w.heap.size = D at *
  have hb := H1.out.less.bsl
  obtain ⟨-, t1, t2, t3, t4, fz⟩ := H1.out.less.hand hi
  obtain ⟨q0, q1, q2, q3, -⟩ := H1.out.less.bead hcn
  obtain ⟨p0, p1, p2, p3, fb⟩ := H1.out.less.bead hp
  have d0 := H1.out.dd0
  have d1 := H1.out.dd1
  go_quiet (fail)
  obtain ⟨w2, hw⟩ : ∃ x, x = w1.drewN nq := ⟨_, rfl⟩
  try rw [← hw]
  have H2 := hide (H1.out.kpw (w' := w2) (by rw [hw]; (focus ((repeat (first | (with_reducible assumption) | (with_reducible exact Kp.refl _) | (with_reducible apply Kp.drew) | (with_reducible apply Kp.drewN) | ((with_reducible apply Kp.setR); (focus (first | (with_reducible assumption) | (simp; done) | (simp; omega)))) | (with_reducible apply Kp.alloc) | ((with_reducible apply Kp.call); (with_reducible assumption)) | ((with_reducible apply Kp.app); (with_reducible assumption)))); done))))
  clear hw
  clear hb t1 t2 t3 t4 fz q0 q1 q2 q3 p0 p1 p2 p3 fb d0 d1
  have hb := H2.out.less.bsl
  obtain ⟨-, t1, t2, t3, t4, fz⟩ := H2.out.less.hand hi
  obtain ⟨q0, q1, q2, q3, -⟩ := H2.out.less.bead hcn
  obtain ⟨p0, p1, p2, p3, fb⟩ := H2.out.less.bead hp
  have d0 := H2.out.dd0
  have d1 := H2.out.dd1
  have kx : (s.m.ky (s.hd i).c == d.key) = false := beq_eq_false_iff_ne.2 Hhke.out
  go_wp2_with fail
  go_quiet (fail)
  obtain ⟨w3, hw⟩ : ∃ x, x = w2.drewN nq := ⟨_, rfl⟩
  try rw [← hw]
  have H3 := hide (H2.out.kpw (w' := w3) (by rw [hw]; (focus ((repeat (first | (with_reducible assumption) | (with_reducible exact Kp.refl _) | (with_reducible apply Kp.drew) | (with_reducible apply Kp.drewN) | ((with_reducible apply Kp.setR); (focus (first | (with_reducible assumption) | (simp; done) | (simp; omega)))) | (with_reducible apply Kp.alloc) | ((with_reducible apply Kp.call); (with_reducible assumption)) | ((with_reducible apply Kp.app); (with_reducible assumption)))); done))))
  clear hw
  clear hb t1 t2 t3 t4 fz q0 q1 q2 q3 p0 p1 p2 p3 fb d0 d1
  have hb := H3.out.less.bsl
  obtain ⟨-, t1, t2, t3, t4, fz⟩ := H3.out.less.hand hi
  obtain ⟨q0, q1, q2, q3, -⟩ := H3.out.less.bead hcn
  obtain ⟨p0, p1, p2, p3, fb⟩ := H3.out.less.bead hp
  have d0 := H3.out.dd0
  have d1 := H3.out.dd1
  clear H1 H2
  have k3 : (d.kind != 3) = false := by rw [Hhk.out]; rfl
  have k3b : (d.kind == 3) = true := by rw [Hhk.out]; rfl
  have k1 : decide (s.m.ky (s.hd i).c < d.key) = false := by rw [decide_eq_false_iff_not]; omega
  go_wp2_with fail
  go_quiet (fail)
  obtain ⟨w4, hw⟩ : ∃ x, x = w3.drewN nq := ⟨_, rfl⟩
  try rw [← hw]
  have H4 := hide (H3.out.kpw (w' := w4) (by rw [hw]; (focus ((repeat (first | (with_reducible assumption) | (with_reducible exact Kp.refl _) | (with_reducible apply Kp.drew) | (with_reducible apply Kp.drewN) | ((with_reducible apply Kp.setR); (focus (first | (with_reducible assumption) | (simp; done) | (simp; omega)))) | (with_reducible apply Kp.alloc) | ((with_reducible apply Kp.call); (with_reducible assumption)) | ((with_reducible apply Kp.app); (with_reducible assumption)))); done))))
  clear hw
  clear hb t1 t2 t3 t4 fz q0 q1 q2 q3 p0 p1 p2 p3 fb d0 d1
  have hb := H4.out.less.bsl
  obtain ⟨-, t1, t2, t3, t4, fz⟩ := H4.out.less.hand hi
  obtain ⟨q0, q1, q2, q3, -⟩ := H4.out.less.bead hcn
  obtain ⟨p0, p1, p2, p3, fb⟩ := H4.out.less.bead hp
  have d0 := H4.out.dd0
  have d1 := H4.out.dd1
  clear H3
  go_wp2
  refine ⟨rfl, .bool true, by simp [results, Try.results36, go_sem], rfl, ?_⟩
  exact ⟨bg, bc, dv, H4.out.less.setis hi false⟩
set_option maxRecDepth 100000 in
theorem bm_1no1 (h : BQ K s dl bg bc dv w) {i : Nat} (hi : i < K.nh) (hp : (s.hd i).p < s.m.n) (hcn : (s.hd i).c < s.m.n) {d : Dd} (h2 : (s.hd i).plc = 1) (hlt : ¬ s.m.ky (s.hd i).c < d.key) (hk : d.kind = 1) (hm : s.m.mr (s.hd i).c = false) (hke : s.m.ky (s.hd i).c = d.key) :
    Calls Try.prog 36 #[ptr K.b, hp5 K i, deedV d] w (HP K s dl i (markS (K.alg == 4) s.m (s.hd i) d)) := by
  have er : markS (K.alg == 4) s.m (s.hd i) d = (s.m, { s.hd i with is := false }, true) := by
    unfold markS; rw [h2]; simp [hm, hk, hke, h2]
  rw [er]
  have Hhk := hide hk
  have Hhke := hide hke
  clear hk hke
  unfold HP hp5 ptr deedV
  have H0 := hide h
  clear h er
  go_enter Try.func36, Try.ntmps36
  go_upto_region 1 with fail
  obtain ⟨w1, hw1⟩ : ∃ x, x = w.alloc (.cells #[.int .i64 d.kind, .int .i64 d.key] 23) := ⟨_, rfl⟩
  have H1 := hide ((H0.out.kpw (w' := w1) (by rw [hw1]; exact (Kp.refl w).alloc)).add (D := w.heap.size) (t := 23) (c := [.int .i64 d.kind, .int .i64 d.key]) (by rw [hw1]; exact BC.new w _ _) (by unfold okBT; decide))
  try rw [← hw1]
  clear hw1 H0
  generalize w.heap.size = D at *
  have hb := H1.out.less.bsl
  obtain ⟨-, t1, t2, t3, t4, fz⟩ := H1.out.less.hand hi
  obtain ⟨q0, q1, q2, q3, -⟩ := H1.out.less.bead hcn
  obtain ⟨p0, p1, p2, p3, fb⟩ := H1.out.less.bead hp
  have d0 := H1.out.dd0
  have d1 := H1.out.dd1
  go_quiet (fail)
  obtain ⟨w2, hw⟩ : ∃ x, x = w1.drewN nq := ⟨_, rfl⟩
  try rw [← hw]
  have H2 := hide (H1.out.kpw (w' := w2) (by rw [hw]; (focus ((repeat (first | (with_reducible assumption) | (with_reducible exact Kp.refl _) | (with_reducible apply Kp.drew) | (with_reducible apply Kp.drewN) | ((with_reducible apply Kp.setR); (focus (first | (with_reducible assumption) | (simp; done) | (simp; omega)))) | (with_reducible apply Kp.alloc) | ((with_reducible apply Kp.call); (with_reducible assumption)) | ((with_reducible apply Kp.app); (with_reducible assumption)))); done))))
  clear hw
  clear hb t1 t2 t3 t4 fz q0 q1 q2 q3 p0 p1 p2 p3 fb d0 d1
  have hb := H2.out.less.bsl
  obtain ⟨-, t1, t2, t3, t4, fz⟩ := H2.out.less.hand hi
  obtain ⟨q0, q1, q2, q3, -⟩ := H2.out.less.bead hcn
  obtain ⟨p0, p1, p2, p3, fb⟩ := H2.out.less.bead hp
  have d0 := H2.out.dd0
  have d1 := H2.out.dd1
  have kx : (s.m.ky (s.hd i).c == d.key) = true := beq_iff_eq.2 Hhke.out
  go_wp2_with fail
  go_quiet (fail)
  obtain ⟨w3, hw⟩ : ∃ x, x = w2.drewN nq := ⟨_, rfl⟩
  try rw [← hw]
  have H3 := hide (H2.out.kpw (w' := w3) (by rw [hw]; (focus ((repeat (first | (with_reducible assumption) | (with_reducible exact Kp.refl _) | (with_reducible apply Kp.drew) | (with_reducible apply Kp.drewN) | ((with_reducible apply Kp.setR); (focus (first | (with_reducible assumption) | (simp; done) | (simp; omega)))) | (with_reducible apply Kp.alloc) | ((with_reducible apply Kp.call); (with_reducible assumption)) | ((with_reducible apply Kp.app); (with_reducible assumption)))); done))))
  clear hw
  clear hb t1 t2 t3 t4 fz q0 q1 q2 q3 p0 p1 p2 p3 fb d0 d1
  have hb := H3.out.less.bsl
  obtain ⟨-, t1, t2, t3, t4, fz⟩ := H3.out.less.hand hi
  obtain ⟨q0, q1, q2, q3, -⟩ := H3.out.less.bead hcn
  obtain ⟨p0, p1, p2, p3, fb⟩ := H3.out.less.bead hp
  have d0 := H3.out.dd0
  have d1 := H3.out.dd1
  clear H1 H2
  have k3b : (d.kind == 3) = false := by rw [Hhk.out]; rfl
  have j1 : (d.kind == 1) = true := by rw [Hhk.out]; rfl
  have j2 : (d.kind == 2) = false := by rw [Hhk.out]; rfl
  have k1 : decide (s.m.ky (s.hd i).c < d.key) = false := by rw [decide_eq_false_iff_not]; omega
  go_wp2_with fail
  go_quiet (fail)
  obtain ⟨w4, hw⟩ : ∃ x, x = w3.drewN nq := ⟨_, rfl⟩
  try rw [← hw]
  have H4 := hide (H3.out.kpw (w' := w4) (by rw [hw]; (focus ((repeat (first | (with_reducible assumption) | (with_reducible exact Kp.refl _) | (with_reducible apply Kp.drew) | (with_reducible apply Kp.drewN) | ((with_reducible apply Kp.setR); (focus (first | (with_reducible assumption) | (simp; done) | (simp; omega)))) | (with_reducible apply Kp.alloc) | ((with_reducible apply Kp.call); (with_reducible assumption)) | ((with_reducible apply Kp.app); (with_reducible assumption)))); done))))
  clear hw
  clear hb t1 t2 t3 t4 fz q0 q1 q2 q3 p0 p1 p2 p3 fb d0 d1
  have hb := H4.out.less.bsl
  obtain ⟨-, t1, t2, t3, t4, fz⟩ := H4.out.less.hand hi
  obtain ⟨q0, q1, q2, q3, -⟩ := H4.out.less.bead hcn
  obtain ⟨p0, p1, p2, p3, fb⟩ := H4.out.less.bead hp
  have d0 := H4.out.dd0
  have d1 := H4.out.dd1
  clear H3
  go_wp2
  refine ⟨rfl, .bool true, by simp [results, Try.results36, go_sem], rfl, ?_⟩
  exact ⟨bg, bc, dv, H4.out.less.setis hi false⟩
set_option maxRecDepth 100000 in
theorem bm_1yes1 (h : BQ K s dl bg bc dv w) {i : Nat} (hi : i < K.nh) (hp : (s.hd i).p < s.m.n) (hcn : (s.hd i).c < s.m.n) {d : Dd} (h2 : (s.hd i).plc = 1) (hlt : ¬ s.m.ky (s.hd i).c < d.key) (hk : d.kind = 1) (hm : s.m.mr (s.hd i).c = false) (hke : ¬ s.m.ky (s.hd i).c = d.key) :
    Calls Try.prog 36 #[ptr K.b, hp5 K i, deedV d] w (HP K s dl i (markS (K.alg == 4) s.m (s.hd i) d)) := by
  have er : markS (K.alg == 4) s.m (s.hd i) d = (s.m, { s.hd i with plc := 2 }, false) := by
    unfold markS; rw [h2]; simp [hm, hk, hke, hlt]
  rw [er]
  have Hhk := hide hk
  have Hhke := hide hke
  clear hk hke
  unfold HP hp5 ptr deedV
  have H0 := hide h
  clear h er
  go_enter Try.func36, Try.ntmps36
  go_upto_region 1 with fail
  obtain ⟨w1, hw1⟩ : ∃ x, x = w.alloc (.cells #[.int .i64 d.kind, .int .i64 d.key] 23) := ⟨_, rfl⟩
  have H1 := hide ((H0.out.kpw (w' := w1) (by rw [hw1]; exact (Kp.refl w).alloc)).add (D := w.heap.size) (t := 23) (c := [.int .i64 d.kind, .int .i64 d.key]) (by rw [hw1]; exact BC.new w _ _) (by unfold okBT; decide))
  try rw [← hw1]
  clear hw1 H0
  generalize w.heap.size = D at *
  have hb := H1.out.less.bsl
  obtain ⟨-, t1, t2, t3, t4, fz⟩ := H1.out.less.hand hi
  obtain ⟨q0, q1, q2, q3, -⟩ := H1.out.less.bead hcn
  obtain ⟨p0, p1, p2, p3, fb⟩ := H1.out.less.bead hp
  have d0 := H1.out.dd0
  have d1 := H1.out.dd1
  go_quiet (fail)
  obtain ⟨w2, hw⟩ : ∃ x, x = w1.drewN nq := ⟨_, rfl⟩
  try rw [← hw]
  have H2 := hide (H1.out.kpw (w' := w2) (by rw [hw]; (focus ((repeat (first | (with_reducible assumption) | (with_reducible exact Kp.refl _) | (with_reducible apply Kp.drew) | (with_reducible apply Kp.drewN) | ((with_reducible apply Kp.setR); (focus (first | (with_reducible assumption) | (simp; done) | (simp; omega)))) | (with_reducible apply Kp.alloc) | ((with_reducible apply Kp.call); (with_reducible assumption)) | ((with_reducible apply Kp.app); (with_reducible assumption)))); done))))
  clear hw
  clear hb t1 t2 t3 t4 fz q0 q1 q2 q3 p0 p1 p2 p3 fb d0 d1
  have hb := H2.out.less.bsl
  obtain ⟨-, t1, t2, t3, t4, fz⟩ := H2.out.less.hand hi
  obtain ⟨q0, q1, q2, q3, -⟩ := H2.out.less.bead hcn
  obtain ⟨p0, p1, p2, p3, fb⟩ := H2.out.less.bead hp
  have d0 := H2.out.dd0
  have d1 := H2.out.dd1
  have kx : (s.m.ky (s.hd i).c == d.key) = false := beq_eq_false_iff_ne.2 Hhke.out
  go_wp2_with fail
  go_quiet (fail)
  obtain ⟨w3, hw⟩ : ∃ x, x = w2.drewN nq := ⟨_, rfl⟩
  try rw [← hw]
  have H3 := hide (H2.out.kpw (w' := w3) (by rw [hw]; (focus ((repeat (first | (with_reducible assumption) | (with_reducible exact Kp.refl _) | (with_reducible apply Kp.drew) | (with_reducible apply Kp.drewN) | ((with_reducible apply Kp.setR); (focus (first | (with_reducible assumption) | (simp; done) | (simp; omega)))) | (with_reducible apply Kp.alloc) | ((with_reducible apply Kp.call); (with_reducible assumption)) | ((with_reducible apply Kp.app); (with_reducible assumption)))); done))))
  clear hw
  clear hb t1 t2 t3 t4 fz q0 q1 q2 q3 p0 p1 p2 p3 fb d0 d1
  have hb := H3.out.less.bsl
  obtain ⟨-, t1, t2, t3, t4, fz⟩ := H3.out.less.hand hi
  obtain ⟨q0, q1, q2, q3, -⟩ := H3.out.less.bead hcn
  obtain ⟨p0, p1, p2, p3, fb⟩ := H3.out.less.bead hp
  have d0 := H3.out.dd0
  have d1 := H3.out.dd1
  clear H1 H2
  have k3b : (d.kind == 3) = false := by rw [Hhk.out]; rfl
  have j1 : (d.kind == 1) = true := by rw [Hhk.out]; rfl
  have j2 : (d.kind == 2) = false := by rw [Hhk.out]; rfl
  have k1 : decide (s.m.ky (s.hd i).c < d.key) = false := by rw [decide_eq_false_iff_not]; omega
  go_wp2_with fail
  go_quiet (fail)
  obtain ⟨w4, hw⟩ : ∃ x, x = w3.drewN nq := ⟨_, rfl⟩
  try rw [← hw]
  have H4 := hide (H3.out.kpw (w' := w4) (by rw [hw]; (focus ((repeat (first | (with_reducible assumption) | (with_reducible exact Kp.refl _) | (with_reducible apply Kp.drew) | (with_reducible apply Kp.drewN) | ((with_reducible apply Kp.setR); (focus (first | (with_reducible assumption) | (simp; done) | (simp; omega)))) | (with_reducible apply Kp.alloc) | ((with_reducible apply Kp.call); (with_reducible assumption)) | ((with_reducible apply Kp.app); (with_reducible assumption)))); done))))
  clear hw
  clear hb t1 t2 t3 t4 fz q0 q1 q2 q3 p0 p1 p2 p3 fb d0 d1
  have hb := H4.out.less.bsl
  obtain ⟨-, t1, t2, t3, t4, fz⟩ := H4.out.less.hand hi
  obtain ⟨q0, q1, q2, q3, -⟩ := H4.out.less.bead hcn
  obtain ⟨p0, p1, p2, p3, fb⟩ := H4.out.less.bead hp
  have d0 := H4.out.dd0
  have d1 := H4.out.dd1
  clear H3
  go_wp2
  refine ⟨rfl, .bool false, by simp [results, Try.results36, go_sem], rfl, ?_⟩
  exact ⟨bg, bc, dv, H4.out.less.setat hi 2⟩
set_option maxRecDepth 100000 in
theorem bm_1yes2 (h : BQ K s dl bg bc dv w) {i : Nat} (hi : i < K.nh) (hp : (s.hd i).p < s.m.n) (hcn : (s.hd i).c < s.m.n) {d : Dd} (h2 : (s.hd i).plc = 1) (hlt : ¬ s.m.ky (s.hd i).c < d.key) (hk : d.kind = 2) (hm : s.m.mr (s.hd i).c = false) (hke : s.m.ky (s.hd i).c = d.key) :
    Calls Try.prog 36 #[ptr K.b, hp5 K i, deedV d] w (HP K s dl i (markS (K.alg == 4) s.m (s.hd i) d)) := by
  have er : markS (K.alg == 4) s.m (s.hd i) d = (s.m, { s.hd i with plc := 2 }, false) := by
    unfold markS; rw [h2]; simp [hm, hk, hke]
  rw [er]
  have Hhk := hide hk
  have Hhke := hide hke
  clear hk hke
  unfold HP hp5 ptr deedV
  have H0 := hide h
  clear h er
  go_enter Try.func36, Try.ntmps36
  go_upto_region 1 with fail
  obtain ⟨w1, hw1⟩ : ∃ x, x = w.alloc (.cells #[.int .i64 d.kind, .int .i64 d.key] 23) := ⟨_, rfl⟩
  have H1 := hide ((H0.out.kpw (w' := w1) (by rw [hw1]; exact (Kp.refl w).alloc)).add (D := w.heap.size) (t := 23) (c := [.int .i64 d.kind, .int .i64 d.key]) (by rw [hw1]; exact BC.new w _ _) (by unfold okBT; decide))
  try rw [← hw1]
  clear hw1 H0
  generalize w.heap.size = D at *
  have hb := H1.out.less.bsl
  obtain ⟨-, t1, t2, t3, t4, fz⟩ := H1.out.less.hand hi
  obtain ⟨q0, q1, q2, q3, -⟩ := H1.out.less.bead hcn
  obtain ⟨p0, p1, p2, p3, fb⟩ := H1.out.less.bead hp
  have d0 := H1.out.dd0
  have d1 := H1.out.dd1
  go_quiet (fail)
  obtain ⟨w2, hw⟩ : ∃ x, x = w1.drewN nq := ⟨_, rfl⟩
  try rw [← hw]
  have H2 := hide (H1.out.kpw (w' := w2) (by rw [hw]; (focus ((repeat (first | (with_reducible assumption) | (with_reducible exact Kp.refl _) | (with_reducible apply Kp.drew) | (with_reducible apply Kp.drewN) | ((with_reducible apply Kp.setR); (focus (first | (with_reducible assumption) | (simp; done) | (simp; omega)))) | (with_reducible apply Kp.alloc) | ((with_reducible apply Kp.call); (with_reducible assumption)) | ((with_reducible apply Kp.app); (with_reducible assumption)))); done))))
  clear hw
  clear hb t1 t2 t3 t4 fz q0 q1 q2 q3 p0 p1 p2 p3 fb d0 d1
  have hb := H2.out.less.bsl
  obtain ⟨-, t1, t2, t3, t4, fz⟩ := H2.out.less.hand hi
  obtain ⟨q0, q1, q2, q3, -⟩ := H2.out.less.bead hcn
  obtain ⟨p0, p1, p2, p3, fb⟩ := H2.out.less.bead hp
  have d0 := H2.out.dd0
  have d1 := H2.out.dd1
  have kx : (s.m.ky (s.hd i).c == d.key) = true := beq_iff_eq.2 Hhke.out
  go_wp2_with fail
  go_quiet (fail)
  obtain ⟨w3, hw⟩ : ∃ x, x = w2.drewN nq := ⟨_, rfl⟩
  try rw [← hw]
  have H3 := hide (H2.out.kpw (w' := w3) (by rw [hw]; (focus ((repeat (first | (with_reducible assumption) | (with_reducible exact Kp.refl _) | (with_reducible apply Kp.drew) | (with_reducible apply Kp.drewN) | ((with_reducible apply Kp.setR); (focus (first | (with_reducible assumption) | (simp; done) | (simp; omega)))) | (with_reducible apply Kp.alloc) | ((with_reducible apply Kp.call); (with_reducible assumption)) | ((with_reducible apply Kp.app); (with_reducible assumption)))); done))))
  clear hw
  clear hb t1 t2 t3 t4 fz q0 q1 q2 q3 p0 p1 p2 p3 fb d0 d1
  have hb := H3.out.less.bsl
  obtain ⟨-, t1, t2, t3, t4, fz⟩ := H3.out.less.hand hi
  obtain ⟨q0, q1, q2, q3, -⟩ := H3.out.less.bead hcn
  obtain ⟨p0, p1, p2, p3, fb⟩ := H3.out.less.bead hp
  have d0 := H3.out.dd0
  have d1 := H3.out.dd1
  clear H1 H2
  have k3b : (d.kind == 3) = false := by rw [Hhk.out]; rfl
  have j1 : (d.kind == 1) = false := by rw [Hhk.out]; rfl
  have j2 : (d.kind == 2) = true := by rw [Hhk.out]; rfl
  have k1 : decide (s.m.ky (s.hd i).c < d.key) = false := by rw [decide_eq_false_iff_not]; omega
  go_wp2_with fail
  go_quiet (fail)
  obtain ⟨w4, hw⟩ : ∃ x, x = w3.drewN nq := ⟨_, rfl⟩
  try rw [← hw]
  have H4 := hide (H3.out.kpw (w' := w4) (by rw [hw]; (focus ((repeat (first | (with_reducible assumption) | (with_reducible exact Kp.refl _) | (with_reducible apply Kp.drew) | (with_reducible apply Kp.drewN) | ((with_reducible apply Kp.setR); (focus (first | (with_reducible assumption) | (simp; done) | (simp; omega)))) | (with_reducible apply Kp.alloc) | ((with_reducible apply Kp.call); (with_reducible assumption)) | ((with_reducible apply Kp.app); (with_reducible assumption)))); done))))
  clear hw
  clear hb t1 t2 t3 t4 fz q0 q1 q2 q3 p0 p1 p2 p3 fb d0 d1
  have hb := H4.out.less.bsl
  obtain ⟨-, t1, t2, t3, t4, fz⟩ := H4.out.less.hand hi
  obtain ⟨q0, q1, q2, q3, -⟩ := H4.out.less.bead hcn
  obtain ⟨p0, p1, p2, p3, fb⟩ := H4.out.less.bead hp
  have d0 := H4.out.dd0
  have d1 := H4.out.dd1
  clear H3
  go_wp2
  refine ⟨rfl, .bool false, by simp [results, Try.results36, go_sem], rfl, ?_⟩
  exact ⟨bg, bc, dv, H4.out.less.setat hi 2⟩
set_option maxRecDepth 100000 in
theorem bm_1no2 (h : BQ K s dl bg bc dv w) {i : Nat} (hi : i < K.nh) (hp : (s.hd i).p < s.m.n) (hcn : (s.hd i).c < s.m.n) {d : Dd} (h2 : (s.hd i).plc = 1) (hlt : ¬ s.m.ky (s.hd i).c < d.key) (hk : d.kind = 2) (hm : s.m.mr (s.hd i).c = false) (hke : ¬ s.m.ky (s.hd i).c = d.key) :
    Calls Try.prog 36 #[ptr K.b, hp5 K i, deedV d] w (HP K s dl i (markS (K.alg == 4) s.m (s.hd i) d)) := by
  have er : markS (K.alg == 4) s.m (s.hd i) d = (s.m, { s.hd i with is := false }, true) := by
    unfold markS; rw [h2]; simp [hm, hk, hke, hlt, h2]
  rw [er]
  have Hhk := hide hk
  have Hhke := hide hke
  clear hk hke
  unfold HP hp5 ptr deedV
  have H0 := hide h
  clear h er
  go_enter Try.func36, Try.ntmps36
  go_upto_region 1 with fail
  obtain ⟨w1, hw1⟩ : ∃ x, x = w.alloc (.cells #[.int .i64 d.kind, .int .i64 d.key] 23) := ⟨_, rfl⟩
  have H1 := hide ((H0.out.kpw (w' := w1) (by rw [hw1]; exact (Kp.refl w).alloc)).add (D := w.heap.size) (t := 23) (c := [.int .i64 d.kind, .int .i64 d.key]) (by rw [hw1]; exact BC.new w _ _) (by unfold okBT; decide))
  try rw [← hw1]
  clear hw1 H0
  generalize w.heap.size = D at *
  have hb := H1.out.less.bsl
  obtain ⟨-, t1, t2, t3, t4, fz⟩ := H1.out.less.hand hi
  obtain ⟨q0, q1, q2, q3, -⟩ := H1.out.less.bead hcn
  obtain ⟨p0, p1, p2, p3, fb⟩ := H1.out.less.bead hp
  have d0 := H1.out.dd0
  have d1 := H1.out.dd1
  go_quiet (fail)
  obtain ⟨w2, hw⟩ : ∃ x, x = w1.drewN nq := ⟨_, rfl⟩
  try rw [← hw]
  have H2 := hide (H1.out.kpw (w' := w2) (by rw [hw]; (focus ((repeat (first | (with_reducible assumption) | (with_reducible exact Kp.refl _) | (with_reducible apply Kp.drew) | (with_reducible apply Kp.drewN) | ((with_reducible apply Kp.setR); (focus (first | (with_reducible assumption) | (simp; done) | (simp; omega)))) | (with_reducible apply Kp.alloc) | ((with_reducible apply Kp.call); (with_reducible assumption)) | ((with_reducible apply Kp.app); (with_reducible assumption)))); done))))
  clear hw
  clear hb t1 t2 t3 t4 fz q0 q1 q2 q3 p0 p1 p2 p3 fb d0 d1
  have hb := H2.out.less.bsl
  obtain ⟨-, t1, t2, t3, t4, fz⟩ := H2.out.less.hand hi
  obtain ⟨q0, q1, q2, q3, -⟩ := H2.out.less.bead hcn
  obtain ⟨p0, p1, p2, p3, fb⟩ := H2.out.less.bead hp
  have d0 := H2.out.dd0
  have d1 := H2.out.dd1
  have kx : (s.m.ky (s.hd i).c == d.key) = false := beq_eq_false_iff_ne.2 Hhke.out
  go_wp2_with fail
  go_quiet (fail)
  obtain ⟨w3, hw⟩ : ∃ x, x = w2.drewN nq := ⟨_, rfl⟩
  try rw [← hw]
  have H3 := hide (H2.out.kpw (w' := w3) (by rw [hw]; (focus ((repeat (first | (with_reducible assumption) | (with_reducible exact Kp.refl _) | (with_reducible apply Kp.drew) | (with_reducible apply Kp.drewN) | ((with_reducible apply Kp.setR); (focus (first | (with_reducible assumption) | (simp; done) | (simp; omega)))) | (with_reducible apply Kp.alloc) | ((with_reducible apply Kp.call); (with_reducible assumption)) | ((with_reducible apply Kp.app); (with_reducible assumption)))); done))))
  clear hw
  clear hb t1 t2 t3 t4 fz q0 q1 q2 q3 p0 p1 p2 p3 fb d0 d1
  have hb := H3.out.less.bsl
  obtain ⟨-, t1, t2, t3, t4, fz⟩ := H3.out.less.hand hi
  obtain ⟨q0, q1, q2, q3, -⟩ := H3.out.less.bead hcn
  obtain ⟨p0, p1, p2, p3, fb⟩ := H3.out.less.bead hp
  have d0 := H3.out.dd0
  have d1 := H3.out.dd1
  clear H1 H2
  have k3b : (d.kind == 3) = false := by rw [Hhk.out]; rfl
  have j1 : (d.kind == 1) = false := by rw [Hhk.out]; rfl
  have j2 : (d.kind == 2) = true := by rw [Hhk.out]; rfl
  have k1 : decide (s.m.ky (s.hd i).c < d.key) = false := by rw [decide_eq_false_iff_not]; omega
  go_wp2_with fail
  go_quiet (fail)
  obtain ⟨w4, hw⟩ : ∃ x, x = w3.drewN nq := ⟨_, rfl⟩
  try rw [← hw]
  have H4 := hide (H3.out.kpw (w' := w4) (by rw [hw]; (focus ((repeat (first | (with_reducible assumption) | (with_reducible exact Kp.refl _) | (with_reducible apply Kp.drew) | (with_reducible apply Kp.drewN) | ((with_reducible apply Kp.setR); (focus (first | (with_reducible assumption) | (simp; done) | (simp; omega)))) | (with_reducible apply Kp.alloc) | ((with_reducible apply Kp.call); (with_reducible assumption)) | ((with_reducible apply Kp.app); (with_reducible assumption)))); done))))
  clear hw
  clear hb t1 t2 t3 t4 fz q0 q1 q2 q3 p0 p1 p2 p3 fb d0 d1
  have hb := H4.out.less.bsl
  obtain ⟨-, t1, t2, t3, t4, fz⟩ := H4.out.less.hand hi
  obtain ⟨q0, q1, q2, q3, -⟩ := H4.out.less.bead hcn
  obtain ⟨p0, p1, p2, p3, fb⟩ := H4.out.less.bead hp
  have d0 := H4.out.dd0
  have d1 := H4.out.dd1
  clear H3
  go_wp2
  refine ⟨rfl, .bool true, by simp [results, Try.results36, go_sem], rfl, ?_⟩
  exact ⟨bg, bc, dv, H4.out.less.setis hi false⟩
end Go.Proofs.Ytoihdnekkgpcoaa
