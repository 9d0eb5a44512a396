/-
  The document's hand that goes hand over hand: the deed is done. Conditions: the bench lies as BQ says.
  The document's hand that looks twice: a step of it. Conditions: the bench lies as BQ says. Printed by tools/genbl.py.
  The document's hand that looks twice: a step of it. Conditions: the bench lies as BQ says. Printed by tools/genbl.py.
-/
import Derived.Test.YtoihdnekkgpcoaaG11

namespace Go.Proofs.Ytoihdnekkgpcoaa
open Go.ChangeShapes Go.WideShapes Go.ChangeAt Go.RowKit
set_option linter.unusedVariables false
set_option linter.unusedSimpArgs false

variable {K : Bl} {s : St} {dl : List Tl} {bg bc : Nat} {dv : Value} {w w' : World}
theorem nxt_nx (m : Mm) {c : Nat} (h : m.ky c ≠ 10) : nxt m c = (m.nx c : Int) := if_neg h
set_option maxRecDepth 100000 in
theorem ho_cut (h : BQ K s dl bg bc dv w) {i : Nat} (hi : i < K.nh) (hp : (s.hd i).p < s.m.n) (hcn : (s.hd i).c < s.m.n) (h2 : (s.hd i).plc = 2) (hkp : s.m.ky (s.hd i).p ≠ 10) {d : Dd} (hd10 : d.key ≤ 9) (hlt : ¬ s.m.ky (s.hd i).c < d.key) (hk2 : d.kind = 2) (hke : s.m.ky (s.hd i).c = d.key) :
    Calls Try.prog 34 #[ptr K.b, hp5 K i, deedV d] w (HP K s dl i (lockS s.m (s.hd i) d)) := by
  have er : lockS s.m (s.hd i) d = (((s.m.free (s.hd i).p (s.hd i).c).mark (s.hd i).c).drop (s.hd i).p (s.hd i).c, { s.hd i with is := true }, true) := by
    have hq : ¬ d.key < d.key := by omega
    unfold lockS; rw [h2]; simp [hk2, hke, h2, hq]
  rw [er]
  obtain ⟨x, hxt⟩ : ∃ x, x = true := ⟨_, rfl⟩
  have hx : x = decide (s.m.ky (s.hd i).c = d.key) := by rw [hxt]; exact (decide_eq_true hke).symm
  have HKK := hide hk2
  have HCK : Hid (s.m.ky (s.hd i).c ≠ 10) := hide (by omega)
  have HX := hide hx
  have HXT := hide hxt
  clear hk2 hke hx hxt
  unfold HP hp5 ptr deedV
  have H0 := hide h
  clear h er
  go_enter Try.func34, Try.ntmps34
  go_upto_region 1 with fail
  obtain ⟨w1, hw1⟩ : ∃ x, x = w.alloc (.cells #[.int .i64 d.kind, .int .i64 d.key] 23) := ⟨_, rfl⟩
  have H1 := hide ((H0.out.kpw (w' := w1) (by rw [hw1]; exact (Kp.refl w).alloc)).add (D := w.heap.size) (t := 23) (c := [.int .i64 d.kind, .int .i64 d.key]) (by rw [hw1]; exact BC.new w _ _) (by unfold okBT; decide))
  try rw [← hw1]
  clear hw1 H0
  generalize w.heap.size = D at *
  have hb := H1.out.less.bsl
  obtain ⟨-, t1, t2, t3, t4, fz⟩ := H1.out.less.hand hi
  obtain ⟨q0, q1, q2, q3, -⟩ := H1.out.less.bead hcn
  obtain ⟨p0, p1, p2, p3, fb⟩ := H1.out.less.bead hp
  have d0 := H1.out.dd0
  have d1 := H1.out.dd1
  go_quiet (fail)
  obtain ⟨w2, hw⟩ : ∃ x, x = w1.drewN nq := ⟨_, rfl⟩
  try rw [← hw]
  have H2 := hide (H1.out.kpw (w' := w2) (by rw [hw]; (focus ((repeat (first | (with_reducible assumption) | (with_reducible exact Kp.refl _) | (with_reducible apply Kp.drew) | (with_reducible apply Kp.drewN) | ((with_reducible apply Kp.setR); (focus (first | (with_reducible assumption) | (simp; done) | (simp; omega)))) | (with_reducible apply Kp.alloc) | ((with_reducible apply Kp.call); (with_reducible assumption)) | ((with_reducible apply Kp.app); (with_reducible assumption)))); done))))
  clear hw
  clear hb t1 t2 t3 t4 fz q0 q1 q2 q3 p0 p1 p2 p3 fb d0 d1
  have hb := H2.out.less.bsl
  obtain ⟨-, t1, t2, t3, t4, fz⟩ := H2.out.less.hand hi
  obtain ⟨q0, q1, q2, q3, -⟩ := H2.out.less.bead hcn
  obtain ⟨p0, p1, p2, p3, fb⟩ := H2.out.less.bead hp
  have d0 := H2.out.dd0
  have d1 := H2.out.dd1
  have k1 : decide (s.m.ky (s.hd i).c < d.key) = false := decide_eq_false hlt
  go_wp2_with fail
  go_quiet (fail)
  obtain ⟨w3, hw⟩ : ∃ x, x = w2.drewN nq := ⟨_, rfl⟩
  try rw [← hw]
  have H3 := hide (H2.out.kpw (w' := w3) (by rw [hw]; (focus ((repeat (first | (with_reducible assumption) | (with_reducible exact Kp.refl _) | (with_reducible apply Kp.drew) | (with_reducible apply Kp.drewN) | ((with_reducible apply Kp.setR); (focus (first | (with_reducible assumption) | (simp; done) | (simp; omega)))) | (with_reducible apply Kp.alloc) | ((with_reducible apply Kp.call); (with_reducible assumption)) | ((with_reducible apply Kp.app); (with_reducible assumption)))); done))))
  clear hw
  clear hb t1 t2 t3 t4 fz q0 q1 q2 q3 p0 p1 p2 p3 fb d0 d1
  have hb := H3.out.less.bsl
  obtain ⟨-, t1, t2, t3, t4, fz⟩ := H3.out.less.hand hi
  obtain ⟨q0, q1, q2, q3, -⟩ := H3.out.less.bead hcn
  obtain ⟨p0, p1, p2, p3, fb⟩ := H3.out.less.bead hp
  have d0 := H3.out.dd0
  have d1 := H3.out.dd1
  go_upto_region 16 with fail
  go_still_tail 10, (by kernel_rfl)
  change wpList _ _ _ _ _ w3.drew
  obtain ⟨w4, hw⟩ : ∃ x, x = w3.drew := ⟨_, rfl⟩
  try rw [← hw]
  have H4 := hide (H3.out.kpw (w' := w4) (by rw [hw]; (focus ((repeat (first | (with_reducible assumption) | (with_reducible exact Kp.refl _) | (with_reducible apply Kp.drew) | (with_reducible apply Kp.drewN) | ((with_reducible apply Kp.setR); (focus (first | (with_reducible assumption) | (simp; done) | (simp; omega)))) | (with_reducible apply Kp.alloc) | ((with_reducible apply Kp.call); (with_reducible assumption)) | ((with_reducible apply Kp.app); (with_reducible assumption)))); done))))
  clear hw
  clear hb t1 t2 t3 t4 fz q0 q1 q2 q3 p0 p1 p2 p3 fb d0 d1
  have hb := H4.out.less.bsl
  obtain ⟨-, t1, t2, t3, t4, fz⟩ := H4.out.less.hand hi
  obtain ⟨q0, q1, q2, q3, -⟩ := H4.out.less.bead hcn
  obtain ⟨p0, p1, p2, p3, fb⟩ := H4.out.less.bead hp
  have d0 := H4.out.dd0
  have d1 := H4.out.dd1
  have k2 : (s.m.ky (s.hd i).c == d.key) = x := by rw [beq_dec, HX.out]
  go_wp2_with fail
  have H5 : Hid (BQ (K.add D 23 [.int .i64 d.kind, .int .i64 d.key]) { s with hd := up s.hd i { s.hd i with is := x } } dl bg bc dv (w4.setCell ⟨K.hg, i * 5 + 4, none⟩ (.bool x))) := hide (H4.out.setis hi x)
  clear hb t1 t2 t3 t4 fz q0 q1 q2 q3 p0 p1 p2 p3 fb d0 d1
  have hp9 : (up s.hd i { s.hd i with is := x } i).p < s.m.n := by rw [up_same]; exact hp
  have hc9 : (up s.hd i { s.hd i with is := x } i).c < s.m.n := by rw [up_same]; exact hcn
  refine (free_b H5.out hi hp9 hc9).mono ?_
  rintro e w5 ⟨rfl, h5⟩
  have h6 : BQ (K.add D 23 [.int .i64 d.kind, .int .i64 d.key]) { s with m := s.m.free (s.hd i).p (s.hd i).c, hd := up s.hd i { s.hd i with is := x } } dl bg bc dv w5 := by
    have e : ({ s with m := s.m.free (s.hd i).p (s.hd i).c, hd := up s.hd i { s.hd i with is := x } } : St) = { s with m := s.m.free (up s.hd i { s.hd i with is := x } i).p (up s.hd i { s.hd i with is := x } i).c, hd := up s.hd i { s.hd i with is := x } } := by rw [up_same]
    rw [e]; exact h5
  have H6 := hide h6
  clear h5 h6 hp9 hc9 k2
  have hb := H6.out.less.bsn (n := s.m.n) rfl
  obtain ⟨-, t1, t2, t3, t4, fz⟩ := H6.out.less.hand hi
  dsimp only at t1 t2 t3 t4
  rw [up_same] at t1 t2 t3 t4
  obtain ⟨q0, q1, q2, q3, -⟩ := H6.out.less.bead hcn
  obtain ⟨p0, p1, p2, p3, fb⟩ := H6.out.less.bead hp
  have d0 := H6.out.dd0
  have d1 := H6.out.dd1
  have k3 : (d.kind == 2) = true := by rw [HKK.out]; rfl
  have k4 : (d.kind == 1) = false := by rw [HKK.out]; rfl
  rw [HXT.out] at t4 H6
  go_wp2_with fail
  have H7 : Hid (BQ (K.add D 23 [.int .i64 d.kind, .int .i64 d.key]) { s with m := (s.m.free (s.hd i).p (s.hd i).c).mark (s.hd i).c, hd := up s.hd i { s.hd i with is := true } } dl bg bc dv (w5.setCell ⟨bg, (s.hd i).c * 4 + 2, none⟩ (.bool true))) := hide (H6.out.setmr (i := (s.hd i).c) hcn)
  generalize w5.setCell ⟨bg, (s.hd i).c * 4 + 2, none⟩ (.bool true) = w6 at *
  clear H1 H2 H3 H4 H5 H6
  clear hb t1 t2 t3 t4 fz q0 q1 q2 q3 p0 p1 p2 p3 fb d0 d1
  have hb := H7.out.less.bsn (n := s.m.n) rfl
  obtain ⟨-, t1, t2, t3, t4, fz⟩ := H7.out.less.hand hi
  dsimp only at t1 t2 t3 t4
  rw [up_same] at t1 t2 t3 t4
  obtain ⟨q0, q1, q2, q3, -⟩ := H7.out.less.bead hcn
  obtain ⟨p0, p1, p2, p3, fb⟩ := H7.out.less.bead hp
  have d0 := H7.out.dd0
  have d1 := H7.out.dd1
  rw [show nxt ((s.m.free (s.hd i).p (s.hd i).c).mark (s.hd i).c) (s.hd i).c = (s.m.nx (s.hd i).c : Int) from nxt_nx _ HCK.out] at q1
  go_still_tail 14, (by kernel_rfl)
  change wpList _ _ _ _ _ w6.drew
  obtain ⟨w7, hw⟩ : ∃ x, x = w6.drew := ⟨_, rfl⟩
  try rw [← hw]
  have H8 := hide (H7.out.kpw (w' := w7) (by rw [hw]; (focus ((repeat (first | (with_reducible assumption) | (with_reducible exact Kp.refl _) | (with_reducible apply Kp.drew) | (with_reducible apply Kp.drewN) | ((with_reducible apply Kp.setR); (focus (first | (with_reducible assumption) | (simp; done) | (simp; omega)))) | (with_reducible apply Kp.alloc) | ((with_reducible apply Kp.call); (with_reducible assumption)) | ((with_reducible apply Kp.app); (with_reducible assumption)))); done))))
  clear hw
  clear hb t1 t2 t3 t4 fz q0 q1 q2 q3 p0 p1 p2 p3 fb d0 d1
  have hb := H8.out.less.bsn (n := s.m.n) rfl
  obtain ⟨-, t1, t2, t3, t4, fz⟩ := H8.out.less.hand hi
  dsimp only at t1 t2 t3 t4
  rw [up_same] at t1 t2 t3 t4
  obtain ⟨q0, q1, q2, q3, -⟩ := H8.out.less.bead hcn
  obtain ⟨p0, p1, p2, p3, fb⟩ := H8.out.less.bead hp
  have d0 := H8.out.dd0
  have d1 := H8.out.dd1
  rw [show nxt ((s.m.free (s.hd i).p (s.hd i).c).mark (s.hd i).c) (s.hd i).c = (s.m.nx (s.hd i).c : Int) from nxt_nx _ HCK.out] at q1
  go_wp2
  refine ⟨rfl, .bool true, by simp [results, Try.results34, go_sem], rfl, ?_⟩
  have := H8.out.less.setnx (i := (s.hd i).p) (c := s.m.nx (s.hd i).c) hp hkp
  rw [h2] at this
  exact ⟨bg, bc, dv, this⟩
set_option maxRecDepth 100000 in
theorem ho_same1 (h : BQ K s dl bg bc dv w) {i : Nat} (hi : i < K.nh) (hp : (s.hd i).p < s.m.n) (hcn : (s.hd i).c < s.m.n) (h2 : (s.hd i).plc = 2) (hkp : s.m.ky (s.hd i).p ≠ 10) {d : Dd} (hd10 : d.key ≤ 9) (hlt : ¬ s.m.ky (s.hd i).c < d.key) (hk1 : d.kind = 1) (hke : s.m.ky (s.hd i).c = d.key) :
    Calls Try.prog 34 #[ptr K.b, hp5 K i, deedV d] w (HP K s dl i (lockS s.m (s.hd i) d)) := by
  have er : lockS s.m (s.hd i) d = (s.m.free (s.hd i).p (s.hd i).c, { s.hd i with is := false }, true) := by
    unfold lockS; rw [h2]; simp [hk1, hke, h2]
  rw [er]
  obtain ⟨x, hxt⟩ : ∃ x, x = true := ⟨_, rfl⟩
  have hx : x = decide (s.m.ky (s.hd i).c = d.key) := by rw [hxt]; exact (decide_eq_true hke).symm
  have HKK := hide hk1
  have HX := hide hx
  have HXT := hide hxt
  clear hk1 hke hx hxt
  unfold HP hp5 ptr deedV
  have H0 := hide h
  clear h er
  go_enter Try.func34, Try.ntmps34
  go_upto_region 1 with fail
  obtain ⟨w1, hw1⟩ : ∃ x, x = w.alloc (.cells #[.int .i64 d.kind, .int .i64 d.key] 23) := ⟨_, rfl⟩
  have H1 := hide ((H0.out.kpw (w' := w1) (by rw [hw1]; exact (Kp.refl w).alloc)).add (D := w.heap.size) (t := 23) (c := [.int .i64 d.kind, .int .i64 d.key]) (by rw [hw1]; exact BC.new w _ _) (by unfold okBT; decide))
  try rw [← hw1]
  clear hw1 H0
  generalize w.heap.size = D at *
  have hb := H1.out.less.bsl
  obtain ⟨-, t1, t2, t3, t4, fz⟩ := H1.out.less.hand hi
  obtain ⟨q0, q1, q2, q3, -⟩ := H1.out.less.bead hcn
  obtain ⟨p0, p1, p2, p3, fb⟩ := H1.out.less.bead hp
  have d0 := H1.out.dd0
  have d1 := H1.out.dd1
  go_quiet (fail)
  obtain ⟨w2, hw⟩ : ∃ x, x = w1.drewN nq := ⟨_, rfl⟩
  try rw [← hw]
  have H2 := hide (H1.out.kpw (w' := w2) (by rw [hw]; (focus ((repeat (first | (with_reducible assumption) | (with_reducible exact Kp.refl _) | (with_reducible apply Kp.drew) | (with_reducible apply Kp.drewN) | ((with_reducible apply Kp.setR); (focus (first | (with_reducible assumption) | (simp; done) | (simp; omega)))) | (with_reducible apply Kp.alloc) | ((with_reducible apply Kp.call); (with_reducible assumption)) | ((with_reducible apply Kp.app); (with_reducible assumption)))); done))))
  clear hw
  clear hb t1 t2 t3 t4 fz q0 q1 q2 q3 p0 p1 p2 p3 fb d0 d1
  have hb := H2.out.less.bsl
  obtain ⟨-, t1, t2, t3, t4, fz⟩ := H2.out.less.hand hi
  obtain ⟨q0, q1, q2, q3, -⟩ := H2.out.less.bead hcn
  obtain ⟨p0, p1, p2, p3, fb⟩ := H2.out.less.bead hp
  have d0 := H2.out.dd0
  have d1 := H2.out.dd1
  have k1 : decide (s.m.ky (s.hd i).c < d.key) = false := decide_eq_false hlt
  go_wp2_with fail
  go_quiet (fail)
  obtain ⟨w3, hw⟩ : ∃ x, x = w2.drewN nq := ⟨_, rfl⟩
  try rw [← hw]
  have H3 := hide (H2.out.kpw (w' := w3) (by rw [hw]; (focus ((repeat (first | (with_reducible assumption) | (with_reducible exact Kp.refl _) | (with_reducible apply Kp.drew) | (with_reducible apply Kp.drewN) | ((with_reducible apply Kp.setR); (focus (first | (with_reducible assumption) | (simp; done) | (simp; omega)))) | (with_reducible apply Kp.alloc) | ((with_reducible apply Kp.call); (with_reducible assumption)) | ((with_reducible apply Kp.app); (with_reducible assumption)))); done))))
  clear hw
  clear hb t1 t2 t3 t4 fz q0 q1 q2 q3 p0 p1 p2 p3 fb d0 d1
  have hb := H3.out.less.bsl
  obtain ⟨-, t1, t2, t3, t4, fz⟩ := H3.out.less.hand hi
  obtain ⟨q0, q1, q2, q3, -⟩ := H3.out.less.bead hcn
  obtain ⟨p0, p1, p2, p3, fb⟩ := H3.out.less.bead hp
  have d0 := H3.out.dd0
  have d1 := H3.out.dd1
  go_upto_region 16 with fail
  go_still_tail 10, (by kernel_rfl)
  change wpList _ _ _ _ _ w3.drew
  obtain ⟨w4, hw⟩ : ∃ x, x = w3.drew := ⟨_, rfl⟩
  try rw [← hw]
  have H4 := hide (H3.out.kpw (w' := w4) (by rw [hw]; (focus ((repeat (first | (with_reducible assumption) | (with_reducible exact Kp.refl _) | (with_reducible apply Kp.drew) | (with_reducible apply Kp.drewN) | ((with_reducible apply Kp.setR); (focus (first | (with_reducible assumption) | (simp; done) | (simp; omega)))) | (with_reducible apply Kp.alloc) | ((with_reducible apply Kp.call); (with_reducible assumption)) | ((with_reducible apply Kp.app); (with_reducible assumption)))); done))))
  clear hw
  clear hb t1 t2 t3 t4 fz q0 q1 q2 q3 p0 p1 p2 p3 fb d0 d1
  have hb := H4.out.less.bsl
  obtain ⟨-, t1, t2, t3, t4, fz⟩ := H4.out.less.hand hi
  obtain ⟨q0, q1, q2, q3, -⟩ := H4.out.less.bead hcn
  obtain ⟨p0, p1, p2, p3, fb⟩ := H4.out.less.bead hp
  have d0 := H4.out.dd0
  have d1 := H4.out.dd1
  have k2 : (s.m.ky (s.hd i).c == d.key) = x := by rw [beq_dec, HX.out]
  go_wp2_with fail
  have H5 : Hid (BQ (K.add D 23 [.int .i64 d.kind, .int .i64 d.key]) { s with hd := up s.hd i { s.hd i with is := x } } dl bg bc dv (w4.setCell ⟨K.hg, i * 5 + 4, none⟩ (.bool x))) := hide (H4.out.setis hi x)
  clear hb t1 t2 t3 t4 fz q0 q1 q2 q3 p0 p1 p2 p3 fb d0 d1
  have hp9 : (up s.hd i { s.hd i with is := x } i).p < s.m.n := by rw [up_same]; exact hp
  have hc9 : (up s.hd i { s.hd i with is := x } i).c < s.m.n := by rw [up_same]; exact hcn
  refine (free_b H5.out hi hp9 hc9).mono ?_
  rintro e w5 ⟨rfl, h5⟩
  have h6 : BQ (K.add D 23 [.int .i64 d.kind, .int .i64 d.key]) { s with m := s.m.free (s.hd i).p (s.hd i).c, hd := up s.hd i { s.hd i with is := x } } dl bg bc dv w5 := by
    have e : ({ s with m := s.m.free (s.hd i).p (s.hd i).c, hd := up s.hd i { s.hd i with is := x } } : St) = { s with m := s.m.free (up s.hd i { s.hd i with is := x } i).p (up s.hd i { s.hd i with is := x } i).c, hd := up s.hd i { s.hd i with is := x } } := by rw [up_same]
    rw [e]; exact h5
  have H6 := hide h6
  clear h5 h6 hp9 hc9 k2
  have hb := H6.out.less.bsn (n := s.m.n) rfl
  obtain ⟨-, t1, t2, t3, t4, fz⟩ := H6.out.less.hand hi
  dsimp only at t1 t2 t3 t4
  rw [up_same] at t1 t2 t3 t4
  obtain ⟨q0, q1, q2, q3, -⟩ := H6.out.less.bead hcn
  obtain ⟨p0, p1, p2, p3, fb⟩ := H6.out.less.bead hp
  have d0 := H6.out.dd0
  have d1 := H6.out.dd1
  have k3 : (d.kind == 2) = false := by rw [HKK.out]; rfl
  have k4 : (d.kind == 1) = true := by rw [HKK.out]; rfl
  rw [HXT.out] at t4 H6
  go_wp2
  refine ⟨rfl, .bool true, by simp [results, Try.results34, go_sem], rfl, ?_⟩
  have := H6.out.less.setis hi false
  simp only [up_same, up_up] at this
  exact ⟨bg, bc, dv, this⟩
set_option maxRecDepth 100000 in
theorem ho_add (h : BQ K s dl bg bc dv w) {i : Nat} (hi : i < K.nh) (hp : (s.hd i).p < s.m.n) (hcn : (s.hd i).c < s.m.n) (h2 : (s.hd i).plc = 2) (hkp : s.m.ky (s.hd i).p ≠ 10) {d : Dd} (hd10 : d.key ≤ 9) (hlt : ¬ s.m.ky (s.hd i).c < d.key) (hk1 : d.kind = 1) (hke : ¬ s.m.ky (s.hd i).c = d.key) (hlim : s.m.n ≤ 100000) :
    Calls Try.prog 34 #[ptr K.b, hp5 K i, deedV d] w (HP K s dl i (lockS s.m (s.hd i) d)) := by
  have er : lockS s.m (s.hd i) d = ((s.m.free (s.hd i).p (s.hd i).c).ins (s.hd i).p (s.hd i).c d.key, { s.hd i with is := true }, true) := by
    unfold lockS; rw [h2]; simp [hk1, hke, h2, hlt]
  rw [er]
  obtain ⟨x, hxt⟩ : ∃ x, x = false := ⟨_, rfl⟩
  have hx : x = decide (s.m.ky (s.hd i).c = d.key) := by rw [hxt]; exact (decide_eq_false hke).symm
  have HKK := hide hk1
  have HX := hide hx
  have HXT := hide hxt
  clear hk1 hke hx hxt
  unfold HP hp5 ptr deedV
  have H0 := hide h
  clear h er
  go_enter Try.func34, Try.ntmps34
  go_upto_region 1 with fail
  obtain ⟨w1, hw1⟩ : ∃ x, x = w.alloc (.cells #[.int .i64 d.kind, .int .i64 d.key] 23) := ⟨_, rfl⟩
  have H1 := hide ((H0.out.kpw (w' := w1) (by rw [hw1]; exact (Kp.refl w).alloc)).add (D := w.heap.size) (t := 23) (c := [.int .i64 d.kind, .int .i64 d.key]) (by rw [hw1]; exact BC.new w _ _) (by unfold okBT; decide))
  try rw [← hw1]
  clear hw1 H0
  generalize w.heap.size = D at *
  have hb := H1.out.less.bsl
  obtain ⟨-, t1, t2, t3, t4, fz⟩ := H1.out.less.hand hi
  obtain ⟨q0, q1, q2, q3, -⟩ := H1.out.less.bead hcn
  obtain ⟨p0, p1, p2, p3, fb⟩ := H1.out.less.bead hp
  have d0 := H1.out.dd0
  have d1 := H1.out.dd1
  go_quiet (fail)
  obtain ⟨w2, hw⟩ : ∃ x, x = w1.drewN nq := ⟨_, rfl⟩
  try rw [← hw]
  have H2 := hide (H1.out.kpw (w' := w2) (by rw [hw]; (focus ((repeat (first | (with_reducible assumption) | (with_reducible exact Kp.refl _) | (with_reducible apply Kp.drew) | (with_reducible apply Kp.drewN) | ((with_reducible apply Kp.setR); (focus (first | (with_reducible assumption) | (simp; done) | (simp; omega)))) | (with_reducible apply Kp.alloc) | ((with_reducible apply Kp.call); (with_reducible assumption)) | ((with_reducible apply Kp.app); (with_reducible assumption)))); done))))
  clear hw
  clear hb t1 t2 t3 t4 fz q0 q1 q2 q3 p0 p1 p2 p3 fb d0 d1
  have hb := H2.out.less.bsl
  obtain ⟨-, t1, t2, t3, t4, fz⟩ := H2.out.less.hand hi
  obtain ⟨q0, q1, q2, q3, -⟩ := H2.out.less.bead hcn
  obtain ⟨p0, p1, p2, p3, fb⟩ := H2.out.less.bead hp
  have d0 := H2.out.dd0
  have d1 := H2.out.dd1
  have k1 : decide (s.m.ky (s.hd i).c < d.key) = false := decide_eq_false hlt
  go_wp2_with fail
  go_quiet (fail)
  obtain ⟨w3, hw⟩ : ∃ x, x = w2.drewN nq := ⟨_, rfl⟩
  try rw [← hw]
  have H3 := hide (H2.out.kpw (w' := w3) (by rw [hw]; (focus ((repeat (first | (with_reducible assumption) | (with_reducible exact Kp.refl _) | (with_reducible apply Kp.drew) | (with_reducible apply Kp.drewN) | ((with_reducible apply Kp.setR); (focus (first | (with_reducible assumption) | (simp; done) | (simp; omega)))) | (with_reducible apply Kp.alloc) | ((with_reducible apply Kp.call); (with_reducible assumption)) | ((with_reducible apply Kp.app); (with_reducible assumption)))); done))))
  clear hw
  clear hb t1 t2 t3 t4 fz q0 q1 q2 q3 p0 p1 p2 p3 fb d0 d1
  have hb := H3.out.less.bsl
  obtain ⟨-, t1, t2, t3, t4, fz⟩ := H3.out.less.hand hi
  obtain ⟨q0, q1, q2, q3, -⟩ := H3.out.less.bead hcn
  obtain ⟨p0, p1, p2, p3, fb⟩ := H3.out.less.bead hp
  have d0 := H3.out.dd0
  have d1 := H3.out.dd1
  go_upto_region 16 with fail
  go_still_tail 10, (by kernel_rfl)
  change wpList _ _ _ _ _ w3.drew
  obtain ⟨w4, hw⟩ : ∃ x, x = w3.drew := ⟨_, rfl⟩
  try rw [← hw]
  have H4 := hide (H3.out.kpw (w' := w4) (by rw [hw]; (focus ((repeat (first | (with_reducible assumption) | (with_reducible exact Kp.refl _) | (with_reducible apply Kp.drew) | (with_reducible apply Kp.drewN) | ((with_reducible apply Kp.setR); (focus (first | (with_reducible assumption) | (simp; done) | (simp; omega)))) | (with_reducible apply Kp.alloc) | ((with_reducible apply Kp.call); (with_reducible assumption)) | ((with_reducible apply Kp.app); (with_reducible assumption)))); done))))
  clear hw
  clear hb t1 t2 t3 t4 fz q0 q1 q2 q3 p0 p1 p2 p3 fb d0 d1
  have hb := H4.out.less.bsl
  obtain ⟨-, t1, t2, t3, t4, fz⟩ := H4.out.less.hand hi
  obtain ⟨q0, q1, q2, q3, -⟩ := H4.out.less.bead hcn
  obtain ⟨p0, p1, p2, p3, fb⟩ := H4.out.less.bead hp
  have d0 := H4.out.dd0
  have d1 := H4.out.dd1
  have k2 : (s.m.ky (s.hd i).c == d.key) = x := by rw [beq_dec, HX.out]
  go_wp2_with fail
  have H5 : Hid (BQ (K.add D 23 [.int .i64 d.kind, .int .i64 d.key]) { s with hd := up s.hd i { s.hd i with is := x } } dl bg bc dv (w4.setCell ⟨K.hg, i * 5 + 4, none⟩ (.bool x))) := hide (H4.out.setis hi x)
  clear hb t1 t2 t3 t4 fz q0 q1 q2 q3 p0 p1 p2 p3 fb d0 d1
  have hp9 : (up s.hd i { s.hd i with is := x } i).p < s.m.n := by rw [up_same]; exact hp
  have hc9 : (up s.hd i { s.hd i with is := x } i).c < s.m.n := by rw [up_same]; exact hcn
  refine (free_b H5.out hi hp9 hc9).mono ?_
  rintro e w5 ⟨rfl, h5⟩
  have h6 : BQ (K.add D 23 [.int .i64 d.kind, .int .i64 d.key]) { s with m := s.m.free (s.hd i).p (s.hd i).c, hd := up s.hd i { s.hd i with is := x } } dl bg bc dv w5 := by
    have e : ({ s with m := s.m.free (s.hd i).p (s.hd i).c, hd := up s.hd i { s.hd i with is := x } } : St) = { s with m := s.m.free (up s.hd i { s.hd i with is := x } i).p (up s.hd i { s.hd i with is := x } i).c, hd := up s.hd i { s.hd i with is := x } } := by rw [up_same]
    rw [e]; exact h5
  have H6 := hide h6
  clear h5 h6 hp9 hc9 k2
  have hb := H6.out.less.bsn (n := s.m.n) rfl
  obtain ⟨-, t1, t2, t3, t4, fz⟩ := H6.out.less.hand hi
  dsimp only at t1 t2 t3 t4
  rw [up_same] at t1 t2 t3 t4
  obtain ⟨q0, q1, q2, q3, -⟩ := H6.out.less.bead hcn
  obtain ⟨p0, p1, p2, p3, fb⟩ := H6.out.less.bead hp
  have d0 := H6.out.dd0
  have d1 := H6.out.dd1
  have k3 : (d.kind == 2) = false := by rw [HKK.out]; rfl
  have k4 : (d.kind == 1) = true := by rw [HKK.out]; rfl
  rw [HXT.out] at t4 H6
  go_upto_region 24 with fail
  have H7 : Hid (BQ (K.add D 23 [.int .i64 d.kind, .int .i64 d.key]) { s with m := s.m.free (s.hd i).p (s.hd i).c, hd := up s.hd i { s.hd i with is := true } } dl bg bc dv (w5.setCell ⟨K.hg, i * 5 + 4, none⟩ (.bool true))) := by
    have := H6.out.setis hi true
    simp only [up_same, up_up] at this
    exact hide this
  generalize w5.setCell ⟨K.hg, i * 5 + 4, none⟩ (.bool true) = w6 at *
  clear H1 H2 H3 H4 H5 H6
  clear hb t1 t2 t3 t4 fz q0 q1 q2 q3 p0 p1 p2 p3 fb d0 d1
  have d1 := H7.out.dd1
  go_wp2_with fail
  have hq := insert_b H7.out hi (by dsimp only; rw [up_same]; exact hp) (by dsimp only; rw [up_same]; exact hcn) (by dsimp only; rw [up_same]; exact hkp) (k := d.key) (by omega) hlim
  dsimp only at hq
  rw [up_same] at hq
  refine hq.mono ?_
  rintro e w7 ⟨rfl, h7⟩
  have H8 := hide h7.less
  clear h7
  go_wp2
  refine ⟨rfl, .bool true, by simp [results, Try.results34, go_sem], rfl, ?_⟩
  exact H8.out
set_option maxRecDepth 100000 in
theorem ho_no (h : BQ K s dl bg bc dv w) {i : Nat} (hi : i < K.nh) (hp : (s.hd i).p < s.m.n) (hcn : (s.hd i).c < s.m.n) (h2 : (s.hd i).plc = 2) (hkp : s.m.ky (s.hd i).p ≠ 10) {d : Dd} (hd10 : d.key ≤ 9) (hlt : ¬ s.m.ky (s.hd i).c < d.key) (hk1 : d.kind ≠ 1) (hke : d.kind = 2 → ¬ s.m.ky (s.hd i).c = d.key) :
    Calls Try.prog 34 #[ptr K.b, hp5 K i, deedV d] w (HP K s dl i (lockS s.m (s.hd i) d)) := by
  have er : lockS s.m (s.hd i) d = (s.m.free (s.hd i).p (s.hd i).c, { s.hd i with is := decide (s.m.ky (s.hd i).c = d.key) }, true) := by
    unfold lockS; rw [h2]
    by_cases hke2 : s.m.ky (s.hd i).c = d.key
    · have hk2 : d.kind ≠ 2 := fun e => hke e hke2
      have hq : ¬ d.key < d.key := by omega
      simp [hk1, hk2, hke2, h2, hq]
    · simp [hk1, hke2, h2, hlt]
  rw [er]
  obtain ⟨x, hxt⟩ : ∃ x, x = decide (s.m.ky (s.hd i).c = d.key) := ⟨_, rfl⟩
  rw [← hxt]
  have hx := hxt
  have HX := hide hx
  have HKK : Hid (d.kind ≠ 1) := hide hk1
  have HKE : Hid (d.kind = 2 → x = false) := hide (fun e => by rw [hx]; exact decide_eq_false (hke e))
  clear hk1 hke hx hxt
  unfold HP hp5 ptr deedV
  have H0 := hide h
  clear h er
  go_enter Try.func34, Try.ntmps34
  go_upto_region 1 with fail
  obtain ⟨w1, hw1⟩ : ∃ x, x = w.alloc (.cells #[.int .i64 d.kind, .int .i64 d.key] 23) := ⟨_, rfl⟩
  have H1 := hide ((H0.out.kpw (w' := w1) (by rw [hw1]; exact (Kp.refl w).alloc)).add (D := w.heap.size) (t := 23) (c := [.int .i64 d.kind, .int .i64 d.key]) (by rw [hw1]; exact BC.new w _ _) (by unfold okBT; decide))
  try rw [← hw1]
  clear hw1 H0
  generalize w.heap.size = D at *
  have hb := H1.out.less.bsl
  obtain ⟨-, t1, t2, t3, t4, fz⟩ := H1.out.less.hand hi
  obtain ⟨q0, q1, q2, q3, -⟩ := H1.out.less.bead hcn
  obtain ⟨p0, p1, p2, p3, fb⟩ := H1.out.less.bead hp
  have d0 := H1.out.dd0
  have d1 := H1.out.dd1
  go_quiet (fail)
  obtain ⟨w2, hw⟩ : ∃ x, x = w1.drewN nq := ⟨_, rfl⟩
  try rw [← hw]
  have H2 := hide (H1.out.kpw (w' := w2) (by rw [hw]; (focus ((repeat (first | (with_reducible assumption) | (with_reducible exact Kp.refl _) | (with_reducible apply Kp.drew) | (with_reducible apply Kp.drewN) | ((with_reducible apply Kp.setR); (focus (first | (with_reducible assumption) | (simp; done) | (simp; omega)))) | (with_reducible apply Kp.alloc) | ((with_reducible apply Kp.call); (with_reducible assumption)) | ((with_reducible apply Kp.app); (with_reducible assumption)))); done))))
  clear hw
  clear hb t1 t2 t3 t4 fz q0 q1 q2 q3 p0 p1 p2 p3 fb d0 d1
  have hb := H2.out.less.bsl
  obtain ⟨-, t1, t2, t3, t4, fz⟩ := H2.out.less.hand hi
  obtain ⟨q0, q1, q2, q3, -⟩ := H2.out.less.bead hcn
  obtain ⟨p0, p1, p2, p3, fb⟩ := H2.out.less.bead hp
  have d0 := H2.out.dd0
  have d1 := H2.out.dd1
  have k1 : decide (s.m.ky (s.hd i).c < d.key) = false := decide_eq_false hlt
  go_wp2_with fail
  go_quiet (fail)
  obtain ⟨w3, hw⟩ : ∃ x, x = w2.drewN nq := ⟨_, rfl⟩
  try rw [← hw]
  have H3 := hide (H2.out.kpw (w' := w3) (by rw [hw]; (focus ((repeat (first | (with_reducible assumption) | (with_reducible exact Kp.refl _) | (with_reducible apply Kp.drew) | (with_reducible apply Kp.drewN) | ((with_reducible apply Kp.setR); (focus (first | (with_reducible assumption) | (simp; done) | (simp; omega)))) | (with_reducible apply Kp.alloc) | ((with_reducible apply Kp.call); (with_reducible assumption)) | ((with_reducible apply Kp.app); (with_reducible assumption)))); done))))
  clear hw
  clear hb t1 t2 t3 t4 fz q0 q1 q2 q3 p0 p1 p2 p3 fb d0 d1
  have hb := H3.out.less.bsl
  obtain ⟨-, t1, t2, t3, t4, fz⟩ := H3.out.less.hand hi
  obtain ⟨q0, q1, q2, q3, -⟩ := H3.out.less.bead hcn
  obtain ⟨p0, p1, p2, p3, fb⟩ := H3.out.less.bead hp
  have d0 := H3.out.dd0
  have d1 := H3.out.dd1
  go_upto_region 16 with fail
  go_still_tail 10, (by kernel_rfl)
  change wpList _ _ _ _ _ w3.drew
  obtain ⟨w4, hw⟩ : ∃ x, x = w3.drew := ⟨_, rfl⟩
  try rw [← hw]
  have H4 := hide (H3.out.kpw (w' := w4) (by rw [hw]; (focus ((repeat (first | (with_reducible assumption) | (with_reducible exact Kp.refl _) | (with_reducible apply Kp.drew) | (with_reducible apply Kp.drewN) | ((with_reducible apply Kp.setR); (focus (first | (with_reducible assumption) | (simp; done) | (simp; omega)))) | (with_reducible apply Kp.alloc) | ((with_reducible apply Kp.call); (with_reducible assumption)) | ((with_reducible apply Kp.app); (with_reducible assumption)))); done))))
  clear hw
  clear hb t1 t2 t3 t4 fz q0 q1 q2 q3 p0 p1 p2 p3 fb d0 d1
  have hb := H4.out.less.bsl
  obtain ⟨-, t1, t2, t3, t4, fz⟩ := H4.out.less.hand hi
  obtain ⟨q0, q1, q2, q3, -⟩ := H4.out.less.bead hcn
  obtain ⟨p0, p1, p2, p3, fb⟩ := H4.out.less.bead hp
  have d0 := H4.out.dd0
  have d1 := H4.out.dd1
  have k2 : (s.m.ky (s.hd i).c == d.key) = x := by rw [beq_dec, HX.out]
  go_wp2_with fail
  have H5 : Hid (BQ (K.add D 23 [.int .i64 d.kind, .int .i64 d.key]) { s with hd := up s.hd i { s.hd i with is := x } } dl bg bc dv (w4.setCell ⟨K.hg, i * 5 + 4, none⟩ (.bool x))) := hide (H4.out.setis hi x)
  clear hb t1 t2 t3 t4 fz q0 q1 q2 q3 p0 p1 p2 p3 fb d0 d1
  have hp9 : (up s.hd i { s.hd i with is := x } i).p < s.m.n := by rw [up_same]; exact hp
  have hc9 : (up s.hd i { s.hd i with is := x } i).c < s.m.n := by rw [up_same]; exact hcn
  refine (free_b H5.out hi hp9 hc9).mono ?_
  rintro e w5 ⟨rfl, h5⟩
  have h6 : BQ (K.add D 23 [.int .i64 d.kind, .int .i64 d.key]) { s with m := s.m.free (s.hd i).p (s.hd i).c, hd := up s.hd i { s.hd i with is := x } } dl bg bc dv w5 := by
    have e : ({ s with m := s.m.free (s.hd i).p (s.hd i).c, hd := up s.hd i { s.hd i with is := x } } : St) = { s with m := s.m.free (up s.hd i { s.hd i with is := x } i).p (up s.hd i { s.hd i with is := x } i).c, hd := up s.hd i { s.hd i with is := x } } := by rw [up_same]
    rw [e]; exact h5
  have H6 := hide h6
  clear h5 h6 hp9 hc9 k2
  have hb := H6.out.less.bsn (n := s.m.n) rfl
  obtain ⟨-, t1, t2, t3, t4, fz⟩ := H6.out.less.hand hi
  dsimp only at t1 t2 t3 t4
  rw [up_same] at t1 t2 t3 t4
  obtain ⟨q0, q1, q2, q3, -⟩ := H6.out.less.bead hcn
  obtain ⟨p0, p1, p2, p3, fb⟩ := H6.out.less.bead hp
  have d0 := H6.out.dd0
  have d1 := H6.out.dd1
  have k4 : (d.kind == 1) = false := beq_eq_false_iff_ne.2 HKK.out
  by_cases hk2 : d.kind = 2
  · have k3 : (d.kind == 2) = true := by rw [hk2]; rfl
    have hx0 := HKE.out hk2
    have HK2 := hide hk2
    clear hk2
    rw [hx0] at t4
    have H9 := hide H6.out.less
    clear H1 H2 H3 H4 H5 H6
    go_wp2
    refine ⟨rfl, .bool true, by simp [results, Try.results34, go_sem], rfl, ?_⟩
    exact ⟨bg, bc, dv, H9.out⟩
  · have k3 : (d.kind == 2) = false := beq_eq_false_iff_ne.2 hk2
    have H9 := hide H6.out.less
    clear H1 H2 H3 H4 H5 H6
    go_wp2
    refine ⟨rfl, .bool true, by simp [results, Try.results34, go_sem], rfl, ?_⟩
    exact ⟨bg, bc, dv, H9.out⟩
end Go.Proofs.Ytoihdnekkgpcoaa
namespace Go.Proofs.Ytoihdnekkgpcoaa
open Go.ChangeShapes Go.WideShapes Go.ChangeAt Go.RowKit
set_option linter.unusedVariables false
set_option linter.unusedSimpArgs false

variable {K : Bl} {s : St} {dl : List Tl} {bg bc : Nat} {dv : Value} {w w' : World}
set_option maxRecDepth 100000 in
theorem bl_0 (h : BQ K s dl bg bc dv w) {i : Nat} (hi : i < K.nh) (hp : (s.hd i).p < s.m.n) (hcn : (s.hd i).c < s.m.n) {d : Dd} (h2 : (s.hd i).plc = 0) (h0 : s.m.ky 0 ≠ 10) :
    Calls Try.prog 35 #[ptr K.b, hp5 K i, deedV d] w (HP K s dl i (lazyS s.m (s.hd i) d)) := by
  have er : lazyS s.m (s.hd i) d = (s.m, (s.hd i).again s.m, false) := by
    unfold lazyS; rw [h2]; rfl
  rw [er]
  obtain ⟨x, hx⟩ : ∃ x, x = decide (s.m.ky (s.hd i).c = d.key) := ⟨_, rfl⟩
  have HX := hide hx
  clear hx
  unfold HP hp5 ptr deedV
  have H0 := hide h
  clear h er
  go_enter Try.func35, Try.ntmps35
  go_upto_region 1 with fail
  obtain ⟨w1, hw1⟩ : ∃ x, x = w.alloc (.cells #[.int .i64 d.kind, .int .i64 d.key] 23) := ⟨_, rfl⟩
  have H1 := hide ((H0.out.kpw (w' := w1) (by rw [hw1]; exact (Kp.refl w).alloc)).add (D := w.heap.size) (t := 23) (c := [.int .i64 d.kind, .int .i64 d.key]) (by rw [hw1]; exact BC.new w _ _) (by unfold okBT; decide))
  try rw [← hw1]
  clear hw1 H0
  generalize w.heap.size = D at *
  have hb := H1.out.less.bsl
  obtain ⟨-, t1, t2, t3, t4, fz⟩ := H1.out.less.hand hi
  obtain ⟨q0, q1, q2, q3, -⟩ := H1.out.less.bead hcn
  obtain ⟨p0, p1, p2, p3, fb⟩ := H1.out.less.bead hp
  have d0 := H1.out.dd0
  have d1 := H1.out.dd1
  go_quiet (fail)
  obtain ⟨w2, hw⟩ : ∃ x, x = w1.drewN nq := ⟨_, rfl⟩
  try rw [← hw]
  have H2 := hide (H1.out.kpw (w' := w2) (by rw [hw]; (focus ((repeat (first | (with_reducible assumption) | (with_reducible exact Kp.refl _) | (with_reducible apply Kp.drew) | (with_reducible apply Kp.drewN) | ((with_reducible apply Kp.setR); (focus (first | (with_reducible assumption) | (simp; done) | (simp; omega)))) | (with_reducible apply Kp.alloc) | ((with_reducible apply Kp.call); (with_reducible assumption)) | ((with_reducible apply Kp.app); (with_reducible assumption)))); done))))
  clear hw
  clear hb t1 t2 t3 t4 fz q0 q1 q2 q3 p0 p1 p2 p3 fb d0 d1
  have hb := H2.out.less.bsl
  obtain ⟨-, t1, t2, t3, t4, fz⟩ := H2.out.less.hand hi
  obtain ⟨q0, q1, q2, q3, -⟩ := H2.out.less.bead hcn
  obtain ⟨p0, p1, p2, p3, fb⟩ := H2.out.less.bead hp
  have d0 := H2.out.dd0
  have d1 := H2.out.dd1
  have kx : (s.m.ky (s.hd i).c == d.key) = x := by rw [beq_dec, HX.out]
  go_wp2_with fail
  go_quiet (fail)
  obtain ⟨w3, hw⟩ : ∃ x, x = w2.drewN nq := ⟨_, rfl⟩
  try rw [← hw]
  have H3 := hide (H2.out.kpw (w' := w3) (by rw [hw]; (focus ((repeat (first | (with_reducible assumption) | (with_reducible exact Kp.refl _) | (with_reducible apply Kp.drew) | (with_reducible apply Kp.drewN) | ((with_reducible apply Kp.setR); (focus (first | (with_reducible assumption) | (simp; done) | (simp; omega)))) | (with_reducible apply Kp.alloc) | ((with_reducible apply Kp.call); (with_reducible assumption)) | ((with_reducible apply Kp.app); (with_reducible assumption)))); done))))
  clear hw
  clear hb t1 t2 t3 t4 fz q0 q1 q2 q3 p0 p1 p2 p3 fb d0 d1
  have hb := H3.out.less.bsl
  obtain ⟨-, t1, t2, t3, t4, fz⟩ := H3.out.less.hand hi
  obtain ⟨q0, q1, q2, q3, -⟩ := H3.out.less.bead hcn
  obtain ⟨p0, p1, p2, p3, fb⟩ := H3.out.less.bead hp
  have d0 := H3.out.dd0
  have d1 := H3.out.dd1
  clear H1 H2
  go_wp2_with fail
  refine (again_b H3.out hi h0).mono ?_
  rintro e w5 ⟨rfl, h5⟩
  have H6 := hide h5
  clear h5
  clear hb t1 t2 t3 t4 fz q0 q1 q2 q3 p0 p1 p2 p3 fb d0 d1
  go_wp2
  refine ⟨rfl, .bool false, by simp [results, Try.results35, go_sem], rfl, ?_⟩
  exact ⟨bg, bc, dv, H6.out.less⟩
set_option maxRecDepth 100000 in
theorem bl_1on (h : BQ K s dl bg bc dv w) {i : Nat} (hi : i < K.nh) (hp : (s.hd i).p < s.m.n) (hcn : (s.hd i).c < s.m.n) {d : Dd} (h2 : (s.hd i).plc = 1) (hk : s.m.ky (s.hd i).c ≠ 10) (hlt : s.m.ky (s.hd i).c < d.key) :
    Calls Try.prog 35 #[ptr K.b, hp5 K i, deedV d] w (HP K s dl i (lazyS s.m (s.hd i) d)) := by
  have er : lazyS s.m (s.hd i) d = (s.m, (s.hd i).on s.m, false) := by
    unfold lazyS; rw [h2]; simp only [hlt, if_true]
  rw [er]
  obtain ⟨x, hx⟩ : ∃ x, x = decide (s.m.ky (s.hd i).c = d.key) := ⟨_, rfl⟩
  have HX := hide hx
  clear hx
  unfold HP hp5 ptr deedV
  have H0 := hide h
  clear h er
  go_enter Try.func35, Try.ntmps35
  go_upto_region 1 with fail
  obtain ⟨w1, hw1⟩ : ∃ x, x = w.alloc (.cells #[.int .i64 d.kind, .int .i64 d.key] 23) := ⟨_, rfl⟩
  have H1 := hide ((H0.out.kpw (w' := w1) (by rw [hw1]; exact (Kp.refl w).alloc)).add (D := w.heap.size) (t := 23) (c := [.int .i64 d.kind, .int .i64 d.key]) (by rw [hw1]; exact BC.new w _ _) (by unfold okBT; decide))
  try rw [← hw1]
  clear hw1 H0
  generalize w.heap.size = D at *
  have hb := H1.out.less.bsl
  obtain ⟨-, t1, t2, t3, t4, fz⟩ := H1.out.less.hand hi
  obtain ⟨q0, q1, q2, q3, -⟩ := H1.out.less.bead hcn
  obtain ⟨p0, p1, p2, p3, fb⟩ := H1.out.less.bead hp
  have d0 := H1.out.dd0
  have d1 := H1.out.dd1
  go_quiet (fail)
  obtain ⟨w2, hw⟩ : ∃ x, x = w1.drewN nq := ⟨_, rfl⟩
  try rw [← hw]
  have H2 := hide (H1.out.kpw (w' := w2) (by rw [hw]; (focus ((repeat (first | (with_reducible assumption) | (with_reducible exact Kp.refl _) | (with_reducible apply Kp.drew) | (with_reducible apply Kp.drewN) | ((with_reducible apply Kp.setR); (focus (first | (with_reducible assumption) | (simp; done) | (simp; omega)))) | (with_reducible apply Kp.alloc) | ((with_reducible apply Kp.call); (with_reducible assumption)) | ((with_reducible apply Kp.app); (with_reducible assumption)))); done))))
  clear hw
  clear hb t1 t2 t3 t4 fz q0 q1 q2 q3 p0 p1 p2 p3 fb d0 d1
  have hb := H2.out.less.bsl
  obtain ⟨-, t1, t2, t3, t4, fz⟩ := H2.out.less.hand hi
  obtain ⟨q0, q1, q2, q3, -⟩ := H2.out.less.bead hcn
  obtain ⟨p0, p1, p2, p3, fb⟩ := H2.out.less.bead hp
  have d0 := H2.out.dd0
  have d1 := H2.out.dd1
  have kx : (s.m.ky (s.hd i).c == d.key) = x := by rw [beq_dec, HX.out]
  go_wp2_with fail
  go_quiet (fail)
  obtain ⟨w3, hw⟩ : ∃ x, x = w2.drewN nq := ⟨_, rfl⟩
  try rw [← hw]
  have H3 := hide (H2.out.kpw (w' := w3) (by rw [hw]; (focus ((repeat (first | (with_reducible assumption) | (with_reducible exact Kp.refl _) | (with_reducible apply Kp.drew) | (with_reducible apply Kp.drewN) | ((with_reducible apply Kp.setR); (focus (first | (with_reducible assumption) | (simp; done) | (simp; omega)))) | (with_reducible apply Kp.alloc) | ((with_reducible apply Kp.call); (with_reducible assumption)) | ((with_reducible apply Kp.app); (with_reducible assumption)))); done))))
  clear hw
  clear hb t1 t2 t3 t4 fz q0 q1 q2 q3 p0 p1 p2 p3 fb d0 d1
  have hb := H3.out.less.bsl
  obtain ⟨-, t1, t2, t3, t4, fz⟩ := H3.out.less.hand hi
  obtain ⟨q0, q1, q2, q3, -⟩ := H3.out.less.bead hcn
  obtain ⟨p0, p1, p2, p3, fb⟩ := H3.out.less.bead hp
  have d0 := H3.out.dd0
  have d1 := H3.out.dd1
  clear H1 H2
  have k1 : decide (s.m.ky (s.hd i).c < d.key) = true := by rw [decide_eq_true_iff]; omega
  go_wp2_with fail
  go_quiet (fail)
  obtain ⟨w4, hw⟩ : ∃ x, x = w3.drewN nq := ⟨_, rfl⟩
  try rw [← hw]
  have H4 := hide (H3.out.kpw (w' := w4) (by rw [hw]; (focus ((repeat (first | (with_reducible assumption) | (with_reducible exact Kp.refl _) | (with_reducible apply Kp.drew) | (with_reducible apply Kp.drewN) | ((with_reducible apply Kp.setR); (focus (first | (with_reducible assumption) | (simp; done) | (simp; omega)))) | (with_reducible apply Kp.alloc) | ((with_reducible apply Kp.call); (with_reducible assumption)) | ((with_reducible apply Kp.app); (with_reducible assumption)))); done))))
  clear hw
  clear hb t1 t2 t3 t4 fz q0 q1 q2 q3 p0 p1 p2 p3 fb d0 d1
  have hb := H4.out.less.bsl
  obtain ⟨-, t1, t2, t3, t4, fz⟩ := H4.out.less.hand hi
  obtain ⟨q0, q1, q2, q3, -⟩ := H4.out.less.bead hcn
  obtain ⟨p0, p1, p2, p3, fb⟩ := H4.out.less.bead hp
  have d0 := H4.out.dd0
  have d1 := H4.out.dd1
  clear H3
  go_wp2_with fail
  refine (on_b H4.out hi hcn hk).mono ?_
  rintro e w5 ⟨rfl, h5⟩
  have H6 := hide h5
  clear h5
  clear hb t1 t2 t3 t4 fz q0 q1 q2 q3 p0 p1 p2 p3 fb d0 d1
  go_wp2
  refine ⟨rfl, .bool false, by simp [results, Try.results35, go_sem], rfl, ?_⟩
  exact ⟨bg, bc, dv, H6.out.less⟩
set_option maxRecDepth 100000 in
theorem bl_has (h : BQ K s dl bg bc dv w) {i : Nat} (hi : i < K.nh) (hp : (s.hd i).p < s.m.n) (hcn : (s.hd i).c < s.m.n) {d : Dd} (h2 : (s.hd i).plc = 1) (hlt : ¬ s.m.ky (s.hd i).c < d.key) (hk3 : d.kind = 3) :
    Calls Try.prog 35 #[ptr K.b, hp5 K i, deedV d] w (HP K s dl i (lazyS s.m (s.hd i) d)) := by
  have er : lazyS s.m (s.hd i) d = (s.m, { s.hd i with is := decide (s.m.ky (s.hd i).c = d.key) && !s.m.mr (s.hd i).c }, true) := by
    unfold lazyS; rw [h2]; simp [hlt, hk3, h2]
  rw [er]
  obtain ⟨x, hx⟩ : ∃ x, x = decide (s.m.ky (s.hd i).c = d.key) := ⟨_, rfl⟩
  have HX := hide hx
  clear hx
  rw [← HX.out]
  have HK3 := hide hk3
  clear hk3
  unfold HP hp5 ptr deedV
  have H0 := hide h
  clear h er
  go_enter Try.func35, Try.ntmps35
  go_upto_region 1 with fail
  obtain ⟨w1, hw1⟩ : ∃ x, x = w.alloc (.cells #[.int .i64 d.kind, .int .i64 d.key] 23) := ⟨_, rfl⟩
  have H1 := hide ((H0.out.kpw (w' := w1) (by rw [hw1]; exact (Kp.refl w).alloc)).add (D := w.heap.size) (t := 23) (c := [.int .i64 d.kind, .int .i64 d.key]) (by rw [hw1]; exact BC.new w _ _) (by unfold okBT; decide))
  try rw [← hw1]
  clear hw1 H0
  generalize w.heap.size = D at *
  have hb := H1.out.less.bsl
  obtain ⟨-, t1, t2, t3, t4, fz⟩ := H1.out.less.hand hi
  obtain ⟨q0, q1, q2, q3, -⟩ := H1.out.less.bead hcn
  obtain ⟨p0, p1, p2, p3, fb⟩ := H1.out.less.bead hp
  have d0 := H1.out.dd0
  have d1 := H1.out.dd1
  go_quiet (fail)
  obtain ⟨w2, hw⟩ : ∃ x, x = w1.drewN nq := ⟨_, rfl⟩
  try rw [← hw]
  have H2 := hide (H1.out.kpw (w' := w2) (by rw [hw]; (focus ((repeat (first | (with_reducible assumption) | (with_reducible exact Kp.refl _) | (with_reducible apply Kp.drew) | (with_reducible apply Kp.drewN) | ((with_reducible apply Kp.setR); (focus (first | (with_reducible assumption) | (simp; done) | (simp; omega)))) | (with_reducible apply Kp.alloc) | ((with_reducible apply Kp.call); (with_reducible assumption)) | ((with_reducible apply Kp.app); (with_reducible assumption)))); done))))
  clear hw
  clear hb t1 t2 t3 t4 fz q0 q1 q2 q3 p0 p1 p2 p3 fb d0 d1
  have hb := H2.out.less.bsl
  obtain ⟨-, t1, t2, t3, t4, fz⟩ := H2.out.less.hand hi
  obtain ⟨q0, q1, q2, q3, -⟩ := H2.out.less.bead hcn
  obtain ⟨p0, p1, p2, p3, fb⟩ := H2.out.less.bead hp
  have d0 := H2.out.dd0
  have d1 := H2.out.dd1
  have kx : (s.m.ky (s.hd i).c == d.key) = x := by rw [beq_dec, HX.out]
  go_wp2_with fail
  go_quiet (fail)
  obtain ⟨w3, hw⟩ : ∃ x, x = w2.drewN nq := ⟨_, rfl⟩
  try rw [← hw]
  have H3 := hide (H2.out.kpw (w' := w3) (by rw [hw]; (focus ((repeat (first | (with_reducible assumption) | (with_reducible exact Kp.refl _) | (with_reducible apply Kp.drew) | (with_reducible apply Kp.drewN) | ((with_reducible apply Kp.setR); (focus (first | (with_reducible assumption) | (simp; done) | (simp; omega)))) | (with_reducible apply Kp.alloc) | ((with_reducible apply Kp.call); (with_reducible assumption)) | ((with_reducible apply Kp.app); (with_reducible assumption)))); done))))
  clear hw
  clear hb t1 t2 t3 t4 fz q0 q1 q2 q3 p0 p1 p2 p3 fb d0 d1
  have hb := H3.out.less.bsl
  obtain ⟨-, t1, t2, t3, t4, fz⟩ := H3.out.less.hand hi
  obtain ⟨q0, q1, q2, q3, -⟩ := H3.out.less.bead hcn
  obtain ⟨p0, p1, p2, p3, fb⟩ := H3.out.less.bead hp
  have d0 := H3.out.dd0
  have d1 := H3.out.dd1
  clear H1 H2
  have k1 : decide (s.m.ky (s.hd i).c < d.key) = false := by rw [decide_eq_false_iff_not]; omega
  go_wp2_with fail
  go_quiet (fail)
  obtain ⟨w4, hw⟩ : ∃ x, x = w3.drewN nq := ⟨_, rfl⟩
  try rw [← hw]
  have H4 := hide (H3.out.kpw (w' := w4) (by rw [hw]; (focus ((repeat (first | (with_reducible assumption) | (with_reducible exact Kp.refl _) | (with_reducible apply Kp.drew) | (with_reducible apply Kp.drewN) | ((with_reducible apply Kp.setR); (focus (first | (with_reducible assumption) | (simp; done) | (simp; omega)))) | (with_reducible apply Kp.alloc) | ((with_reducible apply Kp.call); (with_reducible assumption)) | ((with_reducible apply Kp.app); (with_reducible assumption)))); done))))
  clear hw
  clear hb t1 t2 t3 t4 fz q0 q1 q2 q3 p0 p1 p2 p3 fb d0 d1
  have hb := H4.out.less.bsl
  obtain ⟨-, t1, t2, t3, t4, fz⟩ := H4.out.less.hand hi
  obtain ⟨q0, q1, q2, q3, -⟩ := H4.out.less.bead hcn
  obtain ⟨p0, p1, p2, p3, fb⟩ := H4.out.less.bead hp
  have d0 := H4.out.dd0
  have d1 := H4.out.dd1
  clear H3
  have k3 : (d.kind == 3) = true := by rw [HK3.out]; rfl
  by_cases hxx : x = true
  · rw [hxx] at kx
    have HXX := hide hxx
    cases hmr : s.m.mr (s.hd i).c with
    | true =>
      have HMR := hide hmr
      go_wp2
      refine ⟨rfl, .bool true, by simp [results, Try.results35, go_sem], rfl, ?_⟩
      have := H4.out.less.setis hi false
      rw [HXX.out, HMR.out]
      exact ⟨bg, bc, dv, this⟩
    | false =>
      have HMR := hide hmr
      go_wp2
      refine ⟨rfl, .bool true, by simp [results, Try.results35, go_sem], rfl, ?_⟩
      have := H4.out.less.setis hi true
      rw [HXX.out, HMR.out]
      exact ⟨bg, bc, dv, this⟩
  · have hxf : x = false := by cases x <;> simp_all
    clear hxx
    rw [hxf] at kx
    have HXX := hide hxf
    go_wp2
    refine ⟨rfl, .bool true, by simp [results, Try.results35, go_sem], rfl, ?_⟩
    have := H4.out.less.setis hi false
    rw [HXX.out]
    exact ⟨bg, bc, dv, this⟩
set_option maxRecDepth 100000 in
theorem bl_2l (h : BQ K s dl bg bc dv w) {i : Nat} (hi : i < K.nh) (hp : (s.hd i).p < s.m.n) (hcn : (s.hd i).c < s.m.n) {d : Dd} (h2 : (s.hd i).plc = 2) (hl : s.m.lk (s.hd i).p = true) :
    Calls Try.prog 35 #[ptr K.b, hp5 K i, deedV d] w (HP K s dl i (lazyS s.m (s.hd i) d)) := by
  have er : lazyS s.m (s.hd i) d = (s.m, s.hd i, false) := by
    unfold lazyS; rw [h2]; show lazy2 _ _ = _; unfold lazy2; rw [if_pos hl, ← h2]
  rw [er]
  obtain ⟨x, hx⟩ : ∃ x, x = decide (s.m.ky (s.hd i).c = d.key) := ⟨_, rfl⟩
  have HX := hide hx
  clear hx
  unfold HP hp5 ptr deedV
  have H0 := hide h
  clear h er
  go_enter Try.func35, Try.ntmps35
  go_upto_region 1 with fail
  obtain ⟨w1, hw1⟩ : ∃ x, x = w.alloc (.cells #[.int .i64 d.kind, .int .i64 d.key] 23) := ⟨_, rfl⟩
  have H1 := hide ((H0.out.kpw (w' := w1) (by rw [hw1]; exact (Kp.refl w).alloc)).add (D := w.heap.size) (t := 23) (c := [.int .i64 d.kind, .int .i64 d.key]) (by rw [hw1]; exact BC.new w _ _) (by unfold okBT; decide))
  try rw [← hw1]
  clear hw1 H0
  generalize w.heap.size = D at *
  have hb := H1.out.less.bsl
  obtain ⟨-, t1, t2, t3, t4, fz⟩ := H1.out.less.hand hi
  obtain ⟨q0, q1, q2, q3, -⟩ := H1.out.less.bead hcn
  obtain ⟨p0, p1, p2, p3, fb⟩ := H1.out.less.bead hp
  have d0 := H1.out.dd0
  have d1 := H1.out.dd1
  go_quiet (fail)
  obtain ⟨w2, hw⟩ : ∃ x, x = w1.drewN nq := ⟨_, rfl⟩
  try rw [← hw]
  have H2 := hide (H1.out.kpw (w' := w2) (by rw [hw]; (focus ((repeat (first | (with_reducible assumption) | (with_reducible exact Kp.refl _) | (with_reducible apply Kp.drew) | (with_reducible apply Kp.drewN) | ((with_reducible apply Kp.setR); (focus (first | (with_reducible assumption) | (simp; done) | (simp; omega)))) | (with_reducible apply Kp.alloc) | ((with_reducible apply Kp.call); (with_reducible assumption)) | ((with_reducible apply Kp.app); (with_reducible assumption)))); done))))
  clear hw
  clear hb t1 t2 t3 t4 fz q0 q1 q2 q3 p0 p1 p2 p3 fb d0 d1
  have hb := H2.out.less.bsl
  obtain ⟨-, t1, t2, t3, t4, fz⟩ := H2.out.less.hand hi
  obtain ⟨q0, q1, q2, q3, -⟩ := H2.out.less.bead hcn
  obtain ⟨p0, p1, p2, p3, fb⟩ := H2.out.less.bead hp
  have d0 := H2.out.dd0
  have d1 := H2.out.dd1
  have kx : (s.m.ky (s.hd i).c == d.key) = x := by rw [beq_dec, HX.out]
  go_wp2_with fail
  go_quiet (fail)
  obtain ⟨w3, hw⟩ : ∃ x, x = w2.drewN nq := ⟨_, rfl⟩
  try rw [← hw]
  have H3 := hide (H2.out.kpw (w' := w3) (by rw [hw]; (focus ((repeat (first | (with_reducible assumption) | (with_reducible exact Kp.refl _) | (with_reducible apply Kp.drew) | (with_reducible apply Kp.drewN) | ((with_reducible apply Kp.setR); (focus (first | (with_reducible assumption) | (simp; done) | (simp; omega)))) | (with_reducible apply Kp.alloc) | ((with_reducible apply Kp.call); (with_reducible assumption)) | ((with_reducible apply Kp.app); (with_reducible assumption)))); done))))
  clear hw
  clear hb t1 t2 t3 t4 fz q0 q1 q2 q3 p0 p1 p2 p3 fb d0 d1
  have hb := H3.out.less.bsl
  obtain ⟨-, t1, t2, t3, t4, fz⟩ := H3.out.less.hand hi
  obtain ⟨q0, q1, q2, q3, -⟩ := H3.out.less.bead hcn
  obtain ⟨p0, p1, p2, p3, fb⟩ := H3.out.less.bead hp
  have d0 := H3.out.dd0
  have d1 := H3.out.dd1
  clear H1 H2
  go_wp2
  refine ⟨rfl, .bool false, by simp [results, Try.results35, go_sem], rfl, ?_⟩
  refine ⟨bg, bc, dv, ?_⟩
  rw [up_eta]
  exact H3.out.less
set_option maxRecDepth 100000 in
theorem bl_2f (h : BQ K s dl bg bc dv w) {i : Nat} (hi : i < K.nh) (hp : (s.hd i).p < s.m.n) (hcn : (s.hd i).c < s.m.n) {d : Dd} (h2 : (s.hd i).plc = 2) (hl : s.m.lk (s.hd i).p = false) :
    Calls Try.prog 35 #[ptr K.b, hp5 K i, deedV d] w (HP K s dl i (lazyS s.m (s.hd i) d)) := by
  have er : lazyS s.m (s.hd i) d = (s.m.lock (s.hd i).p, { s.hd i with plc := 3 }, false) := by
    unfold lazyS; rw [h2]; show lazy2 _ _ = _; unfold lazy2; rw [if_neg (by rw [hl]; decide)]
  rw [er]
  obtain ⟨x, hx⟩ : ∃ x, x = decide (s.m.ky (s.hd i).c = d.key) := ⟨_, rfl⟩
  have HX := hide hx
  clear hx
  unfold HP hp5 ptr deedV
  have H0 := hide h
  clear h er
  go_enter Try.func35, Try.ntmps35
  go_upto_region 1 with fail
  obtain ⟨w1, hw1⟩ : ∃ x, x = w.alloc (.cells #[.int .i64 d.kind, .int .i64 d.key] 23) := ⟨_, rfl⟩
  have H1 := hide ((H0.out.kpw (w' := w1) (by rw [hw1]; exact (Kp.refl w).alloc)).add (D := w.heap.size) (t := 23) (c := [.int .i64 d.kind, .int .i64 d.key]) (by rw [hw1]; exact BC.new w _ _) (by unfold okBT; decide))
  try rw [← hw1]
  clear hw1 H0
  generalize w.heap.size = D at *
  have hb := H1.out.less.bsl
  obtain ⟨-, t1, t2, t3, t4, fz⟩ := H1.out.less.hand hi
  obtain ⟨q0, q1, q2, q3, -⟩ := H1.out.less.bead hcn
  obtain ⟨p0, p1, p2, p3, fb⟩ := H1.out.less.bead hp
  have d0 := H1.out.dd0
  have d1 := H1.out.dd1
  go_quiet (fail)
  obtain ⟨w2, hw⟩ : ∃ x, x = w1.drewN nq := ⟨_, rfl⟩
  try rw [← hw]
  have H2 := hide (H1.out.kpw (w' := w2) (by rw [hw]; (focus ((repeat (first | (with_reducible assumption) | (with_reducible exact Kp.refl _) | (with_reducible apply Kp.drew) | (with_reducible apply Kp.drewN) | ((with_reducible apply Kp.setR); (focus (first | (with_reducible assumption) | (simp; done) | (simp; omega)))) | (with_reducible apply Kp.alloc) | ((with_reducible apply Kp.call); (with_reducible assumption)) | ((with_reducible apply Kp.app); (with_reducible assumption)))); done))))
  clear hw
  clear hb t1 t2 t3 t4 fz q0 q1 q2 q3 p0 p1 p2 p3 fb d0 d1
  have hb := H2.out.less.bsl
  obtain ⟨-, t1, t2, t3, t4, fz⟩ := H2.out.less.hand hi
  obtain ⟨q0, q1, q2, q3, -⟩ := H2.out.less.bead hcn
  obtain ⟨p0, p1, p2, p3, fb⟩ := H2.out.less.bead hp
  have d0 := H2.out.dd0
  have d1 := H2.out.dd1
  have kx : (s.m.ky (s.hd i).c == d.key) = x := by rw [beq_dec, HX.out]
  go_wp2_with fail
  go_quiet (fail)
  obtain ⟨w3, hw⟩ : ∃ x, x = w2.drewN nq := ⟨_, rfl⟩
  try rw [← hw]
  have H3 := hide (H2.out.kpw (w' := w3) (by rw [hw]; (focus ((repeat (first | (with_reducible assumption) | (with_reducible exact Kp.refl _) | (with_reducible apply Kp.drew) | (with_reducible apply Kp.drewN) | ((with_reducible apply Kp.setR); (focus (first | (with_reducible assumption) | (simp; done) | (simp; omega)))) | (with_reducible apply Kp.alloc) | ((with_reducible apply Kp.call); (with_reducible assumption)) | ((with_reducible apply Kp.app); (with_reducible assumption)))); done))))
  clear hw
  clear hb t1 t2 t3 t4 fz q0 q1 q2 q3 p0 p1 p2 p3 fb d0 d1
  have hb := H3.out.less.bsl
  obtain ⟨-, t1, t2, t3, t4, fz⟩ := H3.out.less.hand hi
  obtain ⟨q0, q1, q2, q3, -⟩ := H3.out.less.bead hcn
  obtain ⟨p0, p1, p2, p3, fb⟩ := H3.out.less.bead hp
  have d0 := H3.out.dd0
  have d1 := H3.out.dd1
  clear H1 H2
  have n2 := H3.out.less.ne2
  go_wp2
  refine ⟨rfl, .bool false, by simp [results, Try.results35, go_sem], rfl, ?_⟩
  exact ⟨bg, bc, dv, (H3.out.less.setlk hp true).setat hi 3⟩
set_option maxRecDepth 100000 in
theorem bl_3l (h : BQ K s dl bg bc dv w) {i : Nat} (hi : i < K.nh) (hp : (s.hd i).p < s.m.n) (hcn : (s.hd i).c < s.m.n) {d : Dd} (h2 : (s.hd i).plc = 3) (hl : s.m.lk (s.hd i).c = true) :
    Calls Try.prog 35 #[ptr K.b, hp5 K i, deedV d] w (HP K s dl i (lazyS s.m (s.hd i) d)) := by
  have er : lazyS s.m (s.hd i) d = (s.m, s.hd i, false) := by
    unfold lazyS; rw [h2]; show (if s.m.lk (s.hd i).c = true then _ else _) = _; rw [if_pos hl]
  rw [er]
  obtain ⟨x, hx⟩ : ∃ x, x = decide (s.m.ky (s.hd i).c = d.key) := ⟨_, rfl⟩
  have HX := hide hx
  clear hx
  unfold HP hp5 ptr deedV
  have H0 := hide h
  clear h er
  go_enter Try.func35, Try.ntmps35
  go_upto_region 1 with fail
  obtain ⟨w1, hw1⟩ : ∃ x, x = w.alloc (.cells #[.int .i64 d.kind, .int .i64 d.key] 23) := ⟨_, rfl⟩
  have H1 := hide ((H0.out.kpw (w' := w1) (by rw [hw1]; exact (Kp.refl w).alloc)).add (D := w.heap.size) (t := 23) (c := [.int .i64 d.kind, .int .i64 d.key]) (by rw [hw1]; exact BC.new w _ _) (by unfold okBT; decide))
  try rw [← hw1]
  clear hw1 H0
  generalize w.heap.size = D at *
  have hb := H1.out.less.bsl
  obtain ⟨-, t1, t2, t3, t4, fz⟩ := H1.out.less.hand hi
  obtain ⟨q0, q1, q2, q3, -⟩ := H1.out.less.bead hcn
  obtain ⟨p0, p1, p2, p3, fb⟩ := H1.out.less.bead hp
  have d0 := H1.out.dd0
  have d1 := H1.out.dd1
  go_quiet (fail)
  obtain ⟨w2, hw⟩ : ∃ x, x = w1.drewN nq := ⟨_, rfl⟩
  try rw [← hw]
  have H2 := hide (H1.out.kpw (w' := w2) (by rw [hw]; (focus ((repeat (first | (with_reducible assumption) | (with_reducible exact Kp.refl _) | (with_reducible apply Kp.drew) | (with_reducible apply Kp.drewN) | ((with_reducible apply Kp.setR); (focus (first | (with_reducible assumption) | (simp; done) | (simp; omega)))) | (with_reducible apply Kp.alloc) | ((with_reducible apply Kp.call); (with_reducible assumption)) | ((with_reducible apply Kp.app); (with_reducible assumption)))); done))))
  clear hw
  clear hb t1 t2 t3 t4 fz q0 q1 q2 q3 p0 p1 p2 p3 fb d0 d1
  have hb := H2.out.less.bsl
  obtain ⟨-, t1, t2, t3, t4, fz⟩ := H2.out.less.hand hi
  obtain ⟨q0, q1, q2, q3, -⟩ := H2.out.less.bead hcn
  obtain ⟨p0, p1, p2, p3, fb⟩ := H2.out.less.bead hp
  have d0 := H2.out.dd0
  have d1 := H2.out.dd1
  have kx : (s.m.ky (s.hd i).c == d.key) = x := by rw [beq_dec, HX.out]
  go_wp2_with fail
  go_quiet (fail)
  obtain ⟨w3, hw⟩ : ∃ x, x = w2.drewN nq := ⟨_, rfl⟩
  try rw [← hw]
  have H3 := hide (H2.out.kpw (w' := w3) (by rw [hw]; (focus ((repeat (first | (with_reducible assumption) | (with_reducible exact Kp.refl _) | (with_reducible apply Kp.drew) | (with_reducible apply Kp.drewN) | ((with_reducible apply Kp.setR); (focus (first | (with_reducible assumption) | (simp; done) | (simp; omega)))) | (with_reducible apply Kp.alloc) | ((with_reducible apply Kp.call); (with_reducible assumption)) | ((with_reducible apply Kp.app); (with_reducible assumption)))); done))))
  clear hw
  clear hb t1 t2 t3 t4 fz q0 q1 q2 q3 p0 p1 p2 p3 fb d0 d1
  have hb := H3.out.less.bsl
  obtain ⟨-, t1, t2, t3, t4, fz⟩ := H3.out.less.hand hi
  obtain ⟨q0, q1, q2, q3, -⟩ := H3.out.less.bead hcn
  obtain ⟨p0, p1, p2, p3, fb⟩ := H3.out.less.bead hp
  have d0 := H3.out.dd0
  have d1 := H3.out.dd1
  clear H1 H2
  go_wp2
  refine ⟨rfl, .bool false, by simp [results, Try.results35, go_sem], rfl, ?_⟩
  refine ⟨bg, bc, dv, ?_⟩
  rw [up_eta]
  exact H3.out.less
set_option maxRecDepth 100000 in
theorem bl_3f (h : BQ K s dl bg bc dv w) {i : Nat} (hi : i < K.nh) (hp : (s.hd i).p < s.m.n) (hcn : (s.hd i).c < s.m.n) {d : Dd} (h2 : (s.hd i).plc = 3) (hl : s.m.lk (s.hd i).c = false) :
    Calls Try.prog 35 #[ptr K.b, hp5 K i, deedV d] w (HP K s dl i (lazyS s.m (s.hd i) d)) := by
  have er : lazyS s.m (s.hd i) d = (s.m.lock (s.hd i).c, { s.hd i with plc := 4 }, false) := by
    unfold lazyS; rw [h2]; show (if s.m.lk (s.hd i).c = true then _ else _) = _; rw [if_neg (by rw [hl]; decide)]
  rw [er]
  obtain ⟨x, hx⟩ : ∃ x, x = decide (s.m.ky (s.hd i).c = d.key) := ⟨_, rfl⟩
  have HX := hide hx
  clear hx
  unfold HP hp5 ptr deedV
  have H0 := hide h
  clear h er
  go_enter Try.func35, Try.ntmps35
  go_upto_region 1 with fail
  obtain ⟨w1, hw1⟩ : ∃ x, x = w.alloc (.cells #[.int .i64 d.kind, .int .i64 d.key] 23) := ⟨_, rfl⟩
  have H1 := hide ((H0.out.kpw (w' := w1) (by rw [hw1]; exact (Kp.refl w).alloc)).add (D := w.heap.size) (t := 23) (c := [.int .i64 d.kind, .int .i64 d.key]) (by rw [hw1]; exact BC.new w _ _) (by unfold okBT; decide))
  try rw [← hw1]
  clear hw1 H0
  generalize w.heap.size = D at *
  have hb := H1.out.less.bsl
  obtain ⟨-, t1, t2, t3, t4, fz⟩ := H1.out.less.hand hi
  obtain ⟨q0, q1, q2, q3, -⟩ := H1.out.less.bead hcn
  obtain ⟨p0, p1, p2, p3, fb⟩ := H1.out.less.bead hp
  have d0 := H1.out.dd0
  have d1 := H1.out.dd1
  go_quiet (fail)
  obtain ⟨w2, hw⟩ : ∃ x, x = w1.drewN nq := ⟨_, rfl⟩
  try rw [← hw]
  have H2 := hide (H1.out.kpw (w' := w2) (by rw [hw]; (focus ((repeat (first | (with_reducible assumption) | (with_reducible exact Kp.refl _) | (with_reducible apply Kp.drew) | (with_reducible apply Kp.drewN) | ((with_reducible apply Kp.setR); (focus (first | (with_reducible assumption) | (simp; done) | (simp; omega)))) | (with_reducible apply Kp.alloc) | ((with_reducible apply Kp.call); (with_reducible assumption)) | ((with_reducible apply Kp.app); (with_reducible assumption)))); done))))
  clear hw
  clear hb t1 t2 t3 t4 fz q0 q1 q2 q3 p0 p1 p2 p3 fb d0 d1
  have hb := H2.out.less.bsl
  obtain ⟨-, t1, t2, t3, t4, fz⟩ := H2.out.less.hand hi
  obtain ⟨q0, q1, q2, q3, -⟩ := H2.out.less.bead hcn
  obtain ⟨p0, p1, p2, p3, fb⟩ := H2.out.less.bead hp
  have d0 := H2.out.dd0
  have d1 := H2.out.dd1
  have kx : (s.m.ky (s.hd i).c == d.key) = x := by rw [beq_dec, HX.out]
  go_wp2_with fail
  go_quiet (fail)
  obtain ⟨w3, hw⟩ : ∃ x, x = w2.drewN nq := ⟨_, rfl⟩
  try rw [← hw]
  have H3 := hide (H2.out.kpw (w' := w3) (by rw [hw]; (focus ((repeat (first | (with_reducible assumption) | (with_reducible exact Kp.refl _) | (with_reducible apply Kp.drew) | (with_reducible apply Kp.drewN) | ((with_reducible apply Kp.setR); (focus (first | (with_reducible assumption) | (simp; done) | (simp; omega)))) | (with_reducible apply Kp.alloc) | ((with_reducible apply Kp.call); (with_reducible assumption)) | ((with_reducible apply Kp.app); (with_reducible assumption)))); done))))
  clear hw
  clear hb t1 t2 t3 t4 fz q0 q1 q2 q3 p0 p1 p2 p3 fb d0 d1
  have hb := H3.out.less.bsl
  obtain ⟨-, t1, t2, t3, t4, fz⟩ := H3.out.less.hand hi
  obtain ⟨q0, q1, q2, q3, -⟩ := H3.out.less.bead hcn
  obtain ⟨p0, p1, p2, p3, fb⟩ := H3.out.less.bead hp
  have d0 := H3.out.dd0
  have d1 := H3.out.dd1
  clear H1 H2
  have n2 := H3.out.less.ne2
  go_wp2
  refine ⟨rfl, .bool false, by simp [results, Try.results35, go_sem], rfl, ?_⟩
  exact ⟨bg, bc, dv, (H3.out.less.setlk hcn true).setat hi 4⟩
end Go.Proofs.Ytoihdnekkgpcoaa
namespace Go.Proofs.Ytoihdnekkgpcoaa
open Go.ChangeShapes Go.WideShapes Go.ChangeAt Go.RowKit
set_option linter.unusedVariables false
set_option linter.unusedSimpArgs false

variable {K : Bl} {s : St} {dl : List Tl} {bg bc : Nat} {dv : Value} {w w' : World}
theorem bl_2 (h : BQ K s dl bg bc dv w) {i : Nat} (hi : i < K.nh) (hp : (s.hd i).p < s.m.n) (hcn : (s.hd i).c < s.m.n) {d : Dd} (h2 : (s.hd i).plc = 2) : Calls Try.prog 35 #[ptr K.b, hp5 K i, deedV d] w (HP K s dl i (lazyS s.m (s.hd i) d)) := by
  cases hl : s.m.lk (s.hd i).p with
  | true => exact bl_2l h hi hp hcn h2 hl
  | false => exact bl_2f h hi hp hcn h2 hl
theorem lazy2_plc (m : Mm) (h : Hd) (d : Dd) : lazyS m { h with plc := 2 } d = lazy2 m h := rfl
set_option maxRecDepth 100000 in
theorem bl_first (h : BQ K s dl bg bc dv w) {i : Nat} (hi : i < K.nh) (hp : (s.hd i).p < s.m.n) (hcn : (s.hd i).c < s.m.n) {d : Dd} (h2 : (s.hd i).plc = 1) (hlt : ¬ s.m.ky (s.hd i).c < d.key) (hk3 : d.kind ≠ 3) :
    Calls Try.prog 35 #[ptr K.b, hp5 K i, deedV d] w (HP K s dl i (lazyS s.m (s.hd i) d)) := by
  have er : lazyS s.m (s.hd i) d = lazy2 s.m (s.hd i) := by
    unfold lazyS; rw [h2]; simp [hlt, hk3]
  rw [er]
  have Hhk3 := hide hk3
  clear hk3
  unfold HP hp5 ptr deedV
  have H0 := hide h
  clear h er
  go_enter Try.func35, Try.ntmps35
  go_upto_region 1 with fail
  obtain ⟨w1, hw1⟩ : ∃ x, x = w.alloc (.cells #[.int .i64 d.kind, .int .i64 d.key] 23) := ⟨_, rfl⟩
  have H1 := hide ((H0.out.kpw (w' := w1) (by rw [hw1]; exact (Kp.refl w).alloc)).add (D := w.heap.size) (t := 23) (c := [.int .i64 d.kind, .int .i64 d.key]) (by rw [hw1]; exact BC.new w _ _) (by unfold okBT; decide))
  try rw [← hw1]
  clear hw1 H0
  generalize w.heap.size = D at *
  have hb := H1.out.less.bsl
  obtain ⟨-, t1, t2, t3, t4, fz⟩ := H1.out.less.hand hi
  obtain ⟨q0, q1, q2, q3, -⟩ := H1.out.less.bead hcn
  obtain ⟨p0, p1, p2, p3, fb⟩ := H1.out.less.bead hp
  have d0 := H1.out.dd0
  have d1 := H1.out.dd1
  go_quiet (fail)
  obtain ⟨w2, hw⟩ : ∃ x, x = w1.drewN nq := ⟨_, rfl⟩
  try rw [← hw]
  have H2 := hide (H1.out.kpw (w' := w2) (by rw [hw]; (focus ((repeat (first | (with_reducible assumption) | (with_reducible exact Kp.refl _) | (with_reducible apply Kp.drew) | (with_reducible apply Kp.drewN) | ((with_reducible apply Kp.setR); (focus (first | (with_reducible assumption) | (simp; done) | (simp; omega)))) | (with_reducible apply Kp.alloc) | ((with_reducible apply Kp.call); (with_reducible assumption)) | ((with_reducible apply Kp.app); (with_reducible assumption)))); done))))
  clear hw
  clear hb t1 t2 t3 t4 fz q0 q1 q2 q3 p0 p1 p2 p3 fb d0 d1
  have hb := H2.out.less.bsl
  obtain ⟨-, t1, t2, t3, t4, fz⟩ := H2.out.less.hand hi
  obtain ⟨q0, q1, q2, q3, -⟩ := H2.out.less.bead hcn
  obtain ⟨p0, p1, p2, p3, fb⟩ := H2.out.less.bead hp
  have d0 := H2.out.dd0
  have d1 := H2.out.dd1
  obtain ⟨x, kx⟩ : ∃ x, (s.m.ky (s.hd i).c == d.key) = x := ⟨_, rfl⟩
  go_wp2_with fail
  go_quiet (fail)
  obtain ⟨w3, hw⟩ : ∃ x, x = w2.drewN nq := ⟨_, rfl⟩
  try rw [← hw]
  have H3 := hide (H2.out.kpw (w' := w3) (by rw [hw]; (focus ((repeat (first | (with_reducible assumption) | (with_reducible exact Kp.refl _) | (with_reducible apply Kp.drew) | (with_reducible apply Kp.drewN) | ((with_reducible apply Kp.setR); (focus (first | (with_reducible assumption) | (simp; done) | (simp; omega)))) | (with_reducible apply Kp.alloc) | ((with_reducible apply Kp.call); (with_reducible assumption)) | ((with_reducible apply Kp.app); (with_reducible assumption)))); done))))
  clear hw
  clear hb t1 t2 t3 t4 fz q0 q1 q2 q3 p0 p1 p2 p3 fb d0 d1
  have hb := H3.out.less.bsl
  obtain ⟨-, t1, t2, t3, t4, fz⟩ := H3.out.less.hand hi
  obtain ⟨q0, q1, q2, q3, -⟩ := H3.out.less.bead hcn
  obtain ⟨p0, p1, p2, p3, fb⟩ := H3.out.less.bead hp
  have d0 := H3.out.dd0
  have d1 := H3.out.dd1
  clear H1 H2
  have k1 : decide (s.m.ky (s.hd i).c < d.key) = false := by rw [decide_eq_false_iff_not]; omega
  go_wp2_with fail
  go_quiet (fail)
  obtain ⟨w4, hw⟩ : ∃ x, x = w3.drewN nq := ⟨_, rfl⟩
  try rw [← hw]
  have H4 := hide (H3.out.kpw (w' := w4) (by rw [hw]; (focus ((repeat (first | (with_reducible assumption) | (with_reducible exact Kp.refl _) | (with_reducible apply Kp.drew) | (with_reducible apply Kp.drewN) | ((with_reducible apply Kp.setR); (focus (first | (with_reducible assumption) | (simp; done) | (simp; omega)))) | (with_reducible apply Kp.alloc) | ((with_reducible apply Kp.call); (with_reducible assumption)) | ((with_reducible apply Kp.app); (with_reducible assumption)))); done))))
  clear hw
  clear hb t1 t2 t3 t4 fz q0 q1 q2 q3 p0 p1 p2 p3 fb d0 d1
  have hb := H4.out.less.bsl
  obtain ⟨-, t1, t2, t3, t4, fz⟩ := H4.out.less.hand hi
  obtain ⟨q0, q1, q2, q3, -⟩ := H4.out.less.bead hcn
  obtain ⟨p0, p1, p2, p3, fb⟩ := H4.out.less.bead hp
  have d0 := H4.out.dd0
  have d1 := H4.out.dd1
  clear H3
  have k3 : (d.kind == 3) = false := beq_eq_false_iff_ne.2 Hhk3.out
  go_upto_region 8 with fail
  have H5 : Hid (BQ (K.add D 23 [.int .i64 d.kind, .int .i64 d.key]) { s with hd := up s.hd i { s.hd i with plc := 2 } } dl bg bc dv (w4.setCell ⟨K.hg, i * 5 + 1, none⟩ (.int .i64 2))) := hide (H4.out.setat hi 2)
  generalize w4.setCell ⟨K.hg, i * 5 + 1, none⟩ (.int .i64 2) = w5 at *
  clear H4
  clear hb t1 t2 t3 t4 fz q0 q1 q2 q3 p0 p1 p2 p3 fb d0 d1
  have d0 := H5.out.dd0
  have d1 := H5.out.dd1
  have HR : Hid (Calls Try.prog 35 #[.pointer (some ⟨K.b, 0, none⟩), .pointer (some ⟨K.hg, i * 5, none⟩), .agg #[.int .i64 d.kind, .int .i64 d.key]] w5 (fun e w' => e = .returned (.bool (lazy2 s.m (s.hd i)).2.2) ∧ BN K { s with m := (lazy2 s.m (s.hd i)).1, hd := up s.hd i (lazy2 s.m (s.hd i)).2.1 } dl w')) := by
    refine hide ?_
    have := bl_2 (d := d) H5.out hi (by dsimp only; rw [up_same]; exact hp) (by dsimp only; rw [up_same]; exact hcn) (by dsimp only; rw [up_same])
    refine Calls.mono this ?_
    rintro e w' ⟨e1, e2⟩
    dsimp only at e1 e2
    rw [up_same, lazy2_plc] at e1 e2
    rw [up_up] at e2
    exact ⟨e1, e2.less⟩
  clear H5
  go_wp2_with fail
  refine HR.out.mono ?_
  rintro e w6 ⟨rfl, h6⟩
  have H6 := hide h6
  clear h6 HR d0 d1
  go_wp2
  refine ⟨rfl, .bool (lazy2 s.m (s.hd i)).2.2, by simp [results, Try.results35, go_sem], rfl, ?_⟩
  exact H6.out
set_option maxRecDepth 100000 in
theorem bl_4fa (h : BQ K s dl bg bc dv w) {i : Nat} (hi : i < K.nh) (hp : (s.hd i).p < s.m.n) (hcn : (s.hd i).c < s.m.n) {d : Dd} (h2 : (s.hd i).plc = 4) (hkp : s.m.ky (s.hd i).p ≠ 10) (hm : s.m.mr (s.hd i).p = true) :
    Calls Try.prog 35 #[ptr K.b, hp5 K i, deedV d] w (HP K s dl i (lazyS s.m (s.hd i) d)) := by
  have er : lazyS s.m (s.hd i) d = (s.m.free (s.hd i).p (s.hd i).c, { s.hd i with plc := 0 }, false) := by
    unfold lazyS; rw [h2]; simp [hm]
  rw [er]
  have Hhkp := hide hkp
  clear hkp
  unfold HP hp5 ptr deedV
  have H0 := hide h
  clear h er
  go_enter Try.func35, Try.ntmps35
  go_upto_region 1 with fail
  obtain ⟨w1, hw1⟩ : ∃ x, x = w.alloc (.cells #[.int .i64 d.kind, .int .i64 d.key] 23) := ⟨_, rfl⟩
  have H1 := hide ((H0.out.kpw (w' := w1) (by rw [hw1]; exact (Kp.refl w).alloc)).add (D := w.heap.size) (t := 23) (c := [.int .i64 d.kind, .int .i64 d.key]) (by rw [hw1]; exact BC.new w _ _) (by unfold okBT; decide))
  try rw [← hw1]
  clear hw1 H0
  generalize w.heap.size = D at *
  have hb := H1.out.less.bsl
  obtain ⟨-, t1, t2, t3, t4, fz⟩ := H1.out.less.hand hi
  obtain ⟨q0, q1, q2, q3, -⟩ := H1.out.less.bead hcn
  obtain ⟨p0, p1, p2, p3, fb⟩ := H1.out.less.bead hp
  have d0 := H1.out.dd0
  have d1 := H1.out.dd1
  go_quiet (fail)
  obtain ⟨w2, hw⟩ : ∃ x, x = w1.drewN nq := ⟨_, rfl⟩
  try rw [← hw]
  have H2 := hide (H1.out.kpw (w' := w2) (by rw [hw]; (focus ((repeat (first | (with_reducible assumption) | (with_reducible exact Kp.refl _) | (with_reducible apply Kp.drew) | (with_reducible apply Kp.drewN) | ((with_reducible apply Kp.setR); (focus (first | (with_reducible assumption) | (simp; done) | (simp; omega)))) | (with_reducible apply Kp.alloc) | ((with_reducible apply Kp.call); (with_reducible assumption)) | ((with_reducible apply Kp.app); (with_reducible assumption)))); done))))
  clear hw
  clear hb t1 t2 t3 t4 fz q0 q1 q2 q3 p0 p1 p2 p3 fb d0 d1
  have hb := H2.out.less.bsl
  obtain ⟨-, t1, t2, t3, t4, fz⟩ := H2.out.less.hand hi
  obtain ⟨q0, q1, q2, q3, -⟩ := H2.out.less.bead hcn
  obtain ⟨p0, p1, p2, p3, fb⟩ := H2.out.less.bead hp
  have d0 := H2.out.dd0
  have d1 := H2.out.dd1
  obtain ⟨x, kx⟩ : ∃ x, (s.m.ky (s.hd i).c == d.key) = x := ⟨_, rfl⟩
  go_wp2_with fail
  go_quiet (fail)
  obtain ⟨w3, hw⟩ : ∃ x, x = w2.drewN nq := ⟨_, rfl⟩
  try rw [← hw]
  have H3 := hide (H2.out.kpw (w' := w3) (by rw [hw]; (focus ((repeat (first | (with_reducible assumption) | (with_reducible exact Kp.refl _) | (with_reducible apply Kp.drew) | (with_reducible apply Kp.drewN) | ((with_reducible apply Kp.setR); (focus (first | (with_reducible assumption) | (simp; done) | (simp; omega)))) | (with_reducible apply Kp.alloc) | ((with_reducible apply Kp.call); (with_reducible assumption)) | ((with_reducible apply Kp.app); (with_reducible assumption)))); done))))
  clear hw
  clear hb t1 t2 t3 t4 fz q0 q1 q2 q3 p0 p1 p2 p3 fb d0 d1
  have hb := H3.out.less.bsl
  obtain ⟨-, t1, t2, t3, t4, fz⟩ := H3.out.less.hand hi
  obtain ⟨q0, q1, q2, q3, -⟩ := H3.out.less.bead hcn
  obtain ⟨p0, p1, p2, p3, fb⟩ := H3.out.less.bead hp
  have d0 := H3.out.dd0
  have d1 := H3.out.dd1
  clear H1 H2
  have px : nxt s.m (s.hd i).p = (s.m.nx (s.hd i).p : Int) := nxt_nx _ Hhkp.out
  rw [px] at p1
  go_wp2_with fail
  go_quiet (fail)
  obtain ⟨w4, hw⟩ : ∃ x, x = w3.drewN nq := ⟨_, rfl⟩
  try rw [← hw]
  have H4 := hide (H3.out.kpw (w' := w4) (by rw [hw]; (focus ((repeat (first | (with_reducible assumption) | (with_reducible exact Kp.refl _) | (with_reducible apply Kp.drew) | (with_reducible apply Kp.drewN) | ((with_reducible apply Kp.setR); (focus (first | (with_reducible assumption) | (simp; done) | (simp; omega)))) | (with_reducible apply Kp.alloc) | ((with_reducible apply Kp.call); (with_reducible assumption)) | ((with_reducible apply Kp.app); (with_reducible assumption)))); done))))
  clear hw
  clear hb t1 t2 t3 t4 fz q0 q1 q2 q3 p0 p1 p2 p3 fb d0 d1
  have hb := H4.out.less.bsl
  obtain ⟨-, t1, t2, t3, t4, fz⟩ := H4.out.less.hand hi
  obtain ⟨q0, q1, q2, q3, -⟩ := H4.out.less.bead hcn
  obtain ⟨p0, p1, p2, p3, fb⟩ := H4.out.less.bead hp
  have d0 := H4.out.dd0
  have d1 := H4.out.dd1
  go_wp2_with fail
  refine (free_b H4.out hi hp hcn).mono ?_
  rintro e w5 ⟨rfl, h5⟩
  have H6 := hide h5
  clear h5 H3 H4
  clear hb t1 t2 t3 t4 fz q0 q1 q2 q3 p0 p1 p2 p3 fb d0 d1
  obtain ⟨-, t1, t2, t3, t4, fz⟩ := H6.out.less.hand hi
  go_wp2
  refine ⟨rfl, .bool false, by simp [results, Try.results35, go_sem], rfl, ?_⟩
  exact ⟨bg, bc, dv, H6.out.less.setat hi 0⟩
set_option maxRecDepth 100000 in
theorem bl_4fb (h : BQ K s dl bg bc dv w) {i : Nat} (hi : i < K.nh) (hp : (s.hd i).p < s.m.n) (hcn : (s.hd i).c < s.m.n) {d : Dd} (h2 : (s.hd i).plc = 4) (hkp : s.m.ky (s.hd i).p ≠ 10) (hm : s.m.mr (s.hd i).p = false) (hm2 : s.m.mr (s.hd i).c = true) :
    Calls Try.prog 35 #[ptr K.b, hp5 K i, deedV d] w (HP K s dl i (lazyS s.m (s.hd i) d)) := by
  have er : lazyS s.m (s.hd i) d = (s.m.free (s.hd i).p (s.hd i).c, { s.hd i with plc := 0 }, false) := by
    unfold lazyS; rw [h2]; simp [hm, hm2]
  rw [er]
  have Hhkp := hide hkp
  clear hkp
  unfold HP hp5 ptr deedV
  have H0 := hide h
  clear h er
  go_enter Try.func35, Try.ntmps35
  go_upto_region 1 with fail
  obtain ⟨w1, hw1⟩ : ∃ x, x = w.alloc (.cells #[.int .i64 d.kind, .int .i64 d.key] 23) := ⟨_, rfl⟩
  have H1 := hide ((H0.out.kpw (w' := w1) (by rw [hw1]; exact (Kp.refl w).alloc)).add (D := w.heap.size) (t := 23) (c := [.int .i64 d.kind, .int .i64 d.key]) (by rw [hw1]; exact BC.new w _ _) (by unfold okBT; decide))
  try rw [← hw1]
  clear hw1 H0
  generalize w.heap.size = D at *
  have hb := H1.out.less.bsl
  obtain ⟨-, t1, t2, t3, t4, fz⟩ := H1.out.less.hand hi
  obtain ⟨q0, q1, q2, q3, -⟩ := H1.out.less.bead hcn
  obtain ⟨p0, p1, p2, p3, fb⟩ := H1.out.less.bead hp
  have d0 := H1.out.dd0
  have d1 := H1.out.dd1
  go_quiet (fail)
  obtain ⟨w2, hw⟩ : ∃ x, x = w1.drewN nq := ⟨_, rfl⟩
  try rw [← hw]
  have H2 := hide (H1.out.kpw (w' := w2) (by rw [hw]; (focus ((repeat (first | (with_reducible assumption) | (with_reducible exact Kp.refl _) | (with_reducible apply Kp.drew) | (with_reducible apply Kp.drewN) | ((with_reducible apply Kp.setR); (focus (first | (with_reducible assumption) | (simp; done) | (simp; omega)))) | (with_reducible apply Kp.alloc) | ((with_reducible apply Kp.call); (with_reducible assumption)) | ((with_reducible apply Kp.app); (with_reducible assumption)))); done))))
  clear hw
  clear hb t1 t2 t3 t4 fz q0 q1 q2 q3 p0 p1 p2 p3 fb d0 d1
  have hb := H2.out.less.bsl
  obtain ⟨-, t1, t2, t3, t4, fz⟩ := H2.out.less.hand hi
  obtain ⟨q0, q1, q2, q3, -⟩ := H2.out.less.bead hcn
  obtain ⟨p0, p1, p2, p3, fb⟩ := H2.out.less.bead hp
  have d0 := H2.out.dd0
  have d1 := H2.out.dd1
  obtain ⟨x, kx⟩ : ∃ x, (s.m.ky (s.hd i).c == d.key) = x := ⟨_, rfl⟩
  go_wp2_with fail
  go_quiet (fail)
  obtain ⟨w3, hw⟩ : ∃ x, x = w2.drewN nq := ⟨_, rfl⟩
  try rw [← hw]
  have H3 := hide (H2.out.kpw (w' := w3) (by rw [hw]; (focus ((repeat (first | (with_reducible assumption) | (with_reducible exact Kp.refl _) | (with_reducible apply Kp.drew) | (with_reducible apply Kp.drewN) | ((with_reducible apply Kp.setR); (focus (first | (with_reducible assumption) | (simp; done) | (simp; omega)))) | (with_reducible apply Kp.alloc) | ((with_reducible apply Kp.call); (with_reducible assumption)) | ((with_reducible apply Kp.app); (with_reducible assumption)))); done))))
  clear hw
  clear hb t1 t2 t3 t4 fz q0 q1 q2 q3 p0 p1 p2 p3 fb d0 d1
  have hb := H3.out.less.bsl
  obtain ⟨-, t1, t2, t3, t4, fz⟩ := H3.out.less.hand hi
  obtain ⟨q0, q1, q2, q3, -⟩ := H3.out.less.bead hcn
  obtain ⟨p0, p1, p2, p3, fb⟩ := H3.out.less.bead hp
  have d0 := H3.out.dd0
  have d1 := H3.out.dd1
  clear H1 H2
  have px : nxt s.m (s.hd i).p = (s.m.nx (s.hd i).p : Int) := nxt_nx _ Hhkp.out
  rw [px] at p1
  go_wp2_with fail
  go_quiet (fail)
  obtain ⟨w4, hw⟩ : ∃ x, x = w3.drewN nq := ⟨_, rfl⟩
  try rw [← hw]
  have H4 := hide (H3.out.kpw (w' := w4) (by rw [hw]; (focus ((repeat (first | (with_reducible assumption) | (with_reducible exact Kp.refl _) | (with_reducible apply Kp.drew) | (with_reducible apply Kp.drewN) | ((with_reducible apply Kp.setR); (focus (first | (with_reducible assumption) | (simp; done) | (simp; omega)))) | (with_reducible apply Kp.alloc) | ((with_reducible apply Kp.call); (with_reducible assumption)) | ((with_reducible apply Kp.app); (with_reducible assumption)))); done))))
  clear hw
  clear hb t1 t2 t3 t4 fz q0 q1 q2 q3 p0 p1 p2 p3 fb d0 d1
  have hb := H4.out.less.bsl
  obtain ⟨-, t1, t2, t3, t4, fz⟩ := H4.out.less.hand hi
  obtain ⟨q0, q1, q2, q3, -⟩ := H4.out.less.bead hcn
  obtain ⟨p0, p1, p2, p3, fb⟩ := H4.out.less.bead hp
  have d0 := H4.out.dd0
  have d1 := H4.out.dd1
  go_wp2_with fail
  refine (free_b H4.out hi hp hcn).mono ?_
  rintro e w5 ⟨rfl, h5⟩
  have H6 := hide h5
  clear h5 H3 H4
  clear hb t1 t2 t3 t4 fz q0 q1 q2 q3 p0 p1 p2 p3 fb d0 d1
  obtain ⟨-, t1, t2, t3, t4, fz⟩ := H6.out.less.hand hi
  go_wp2
  refine ⟨rfl, .bool false, by simp [results, Try.results35, go_sem], rfl, ?_⟩
  exact ⟨bg, bc, dv, H6.out.less.setat hi 0⟩
set_option maxRecDepth 100000 in
theorem bl_4fc (h : BQ K s dl bg bc dv w) {i : Nat} (hi : i < K.nh) (hp : (s.hd i).p < s.m.n) (hcn : (s.hd i).c < s.m.n) {d : Dd} (h2 : (s.hd i).plc = 4) (hkp : s.m.ky (s.hd i).p ≠ 10) (hm : s.m.mr (s.hd i).p = false) (hm2 : s.m.mr (s.hd i).c = false) (hm3 : s.m.nx (s.hd i).p ≠ (s.hd i).c) :
    Calls Try.prog 35 #[ptr K.b, hp5 K i, deedV d] w (HP K s dl i (lazyS s.m (s.hd i) d)) := by
  have er : lazyS s.m (s.hd i) d = (s.m.free (s.hd i).p (s.hd i).c, { s.hd i with plc := 0 }, false) := by
    unfold lazyS; rw [h2]; simp [hm, hm2, hm3]
  rw [er]
  have Hhkp := hide hkp
  clear hkp
  unfold HP hp5 ptr deedV
  have H0 := hide h
  clear h er
  go_enter Try.func35, Try.ntmps35
  go_upto_region 1 with fail
  obtain ⟨w1, hw1⟩ : ∃ x, x = w.alloc (.cells #[.int .i64 d.kind, .int .i64 d.key] 23) := ⟨_, rfl⟩
  have H1 := hide ((H0.out.kpw (w' := w1) (by rw [hw1]; exact (Kp.refl w).alloc)).add (D := w.heap.size) (t := 23) (c := [.int .i64 d.kind, .int .i64 d.key]) (by rw [hw1]; exact BC.new w _ _) (by unfold okBT; decide))
  try rw [← hw1]
  clear hw1 H0
  generalize w.heap.size = D at *
  have hb := H1.out.less.bsl
  obtain ⟨-, t1, t2, t3, t4, fz⟩ := H1.out.less.hand hi
  obtain ⟨q0, q1, q2, q3, -⟩ := H1.out.less.bead hcn
  obtain ⟨p0, p1, p2, p3, fb⟩ := H1.out.less.bead hp
  have d0 := H1.out.dd0
  have d1 := H1.out.dd1
  go_quiet (fail)
  obtain ⟨w2, hw⟩ : ∃ x, x = w1.drewN nq := ⟨_, rfl⟩
  try rw [← hw]
  have H2 := hide (H1.out.kpw (w' := w2) (by rw [hw]; (focus ((repeat (first | (with_reducible assumption) | (with_reducible exact Kp.refl _) | (with_reducible apply Kp.drew) | (with_reducible apply Kp.drewN) | ((with_reducible apply Kp.setR); (focus (first | (with_reducible assumption) | (simp; done) | (simp; omega)))) | (with_reducible apply Kp.alloc) | ((with_reducible apply Kp.call); (with_reducible assumption)) | ((with_reducible apply Kp.app); (with_reducible assumption)))); done))))
  clear hw
  clear hb t1 t2 t3 t4 fz q0 q1 q2 q3 p0 p1 p2 p3 fb d0 d1
  have hb := H2.out.less.bsl
  obtain ⟨-, t1, t2, t3, t4, fz⟩ := H2.out.less.hand hi
  obtain ⟨q0, q1, q2, q3, -⟩ := H2.out.less.bead hcn
  obtain ⟨p0, p1, p2, p3, fb⟩ := H2.out.less.bead hp
  have d0 := H2.out.dd0
  have d1 := H2.out.dd1
  obtain ⟨x, kx⟩ : ∃ x, (s.m.ky (s.hd i).c == d.key) = x := ⟨_, rfl⟩
  go_wp2_with fail
  go_quiet (fail)
  obtain ⟨w3, hw⟩ : ∃ x, x = w2.drewN nq := ⟨_, rfl⟩
  try rw [← hw]
  have H3 := hide (H2.out.kpw (w' := w3) (by rw [hw]; (focus ((repeat (first | (with_reducible assumption) | (with_reducible exact Kp.refl _) | (with_reducible apply Kp.drew) | (with_reducible apply Kp.drewN) | ((with_reducible apply Kp.setR); (focus (first | (with_reducible assumption) | (simp; done) | (simp; omega)))) | (with_reducible apply Kp.alloc) | ((with_reducible apply Kp.call); (with_reducible assumption)) | ((with_reducible apply Kp.app); (with_reducible assumption)))); done))))
  clear hw
  clear hb t1 t2 t3 t4 fz q0 q1 q2 q3 p0 p1 p2 p3 fb d0 d1
  have hb := H3.out.less.bsl
  obtain ⟨-, t1, t2, t3, t4, fz⟩ := H3.out.less.hand hi
  obtain ⟨q0, q1, q2, q3, -⟩ := H3.out.less.bead hcn
  obtain ⟨p0, p1, p2, p3, fb⟩ := H3.out.less.bead hp
  have d0 := H3.out.dd0
  have d1 := H3.out.dd1
  clear H1 H2
  have px : nxt s.m (s.hd i).p = (s.m.nx (s.hd i).p : Int) := nxt_nx _ Hhkp.out
  rw [px] at p1
  have kn : (((s.m.nx (s.hd i).p : Nat) : Int) != ((s.hd i).c : Nat)) = true := bne_iff_ne.2 (by omega)
  go_wp2_with fail
  go_quiet (fail)
  obtain ⟨w4, hw⟩ : ∃ x, x = w3.drewN nq := ⟨_, rfl⟩
  try rw [← hw]
  have H4 := hide (H3.out.kpw (w' := w4) (by rw [hw]; (focus ((repeat (first | (with_reducible assumption) | (with_reducible exact Kp.refl _) | (with_reducible apply Kp.drew) | (with_reducible apply Kp.drewN) | ((with_reducible apply Kp.setR); (focus (first | (with_reducible assumption) | (simp; done) | (simp; omega)))) | (with_reducible apply Kp.alloc) | ((with_reducible apply Kp.call); (with_reducible assumption)) | ((with_reducible apply Kp.app); (with_reducible assumption)))); done))))
  clear hw
  clear hb t1 t2 t3 t4 fz q0 q1 q2 q3 p0 p1 p2 p3 fb d0 d1
  have hb := H4.out.less.bsl
  obtain ⟨-, t1, t2, t3, t4, fz⟩ := H4.out.less.hand hi
  obtain ⟨q0, q1, q2, q3, -⟩ := H4.out.less.bead hcn
  obtain ⟨p0, p1, p2, p3, fb⟩ := H4.out.less.bead hp
  have d0 := H4.out.dd0
  have d1 := H4.out.dd1
  go_wp2_with fail
  refine (free_b H4.out hi hp hcn).mono ?_
  rintro e w5 ⟨rfl, h5⟩
  have H6 := hide h5
  clear h5 H3 H4
  clear hb t1 t2 t3 t4 fz q0 q1 q2 q3 p0 p1 p2 p3 fb d0 d1
  obtain ⟨-, t1, t2, t3, t4, fz⟩ := H6.out.less.hand hi
  go_wp2
  refine ⟨rfl, .bool false, by simp [results, Try.results35, go_sem], rfl, ?_⟩
  exact ⟨bg, bc, dv, H6.out.less.setat hi 0⟩
set_option maxRecDepth 100000 in
theorem bl_4same1 (h : BQ K s dl bg bc dv w) {i : Nat} (hi : i < K.nh) (hp : (s.hd i).p < s.m.n) (hcn : (s.hd i).c < s.m.n) {d : Dd} (h2 : (s.hd i).plc = 4) (hkp : s.m.ky (s.hd i).p ≠ 10) (hm : s.m.mr (s.hd i).p = false) (hm2 : s.m.mr (s.hd i).c = false) (hm3 : s.m.nx (s.hd i).p = (s.hd i).c) (hk : d.kind = 1) (hke : s.m.ky (s.hd i).c = d.key) :
    Calls Try.prog 35 #[ptr K.b, hp5 K i, deedV d] w (HP K s dl i (lazyS s.m (s.hd i) d)) := by
  have er : lazyS s.m (s.hd i) d = (s.m.free (s.hd i).p (s.hd i).c, { s.hd i with is := false }, true) := by
    unfold lazyS; rw [h2]; simp [hm, hm2, hm3, hk, hke, h2]
  rw [er]
  have Hhkp := hide hkp
  have Hhm3 := hide hm3
  have Hhke := hide hke
  have Hhk := hide hk
  clear hkp hm3 hke hk
  unfold HP hp5 ptr deedV
  have H0 := hide h
  clear h er
  go_enter Try.func35, Try.ntmps35
  go_upto_region 1 with fail
  obtain ⟨w1, hw1⟩ : ∃ x, x = w.alloc (.cells #[.int .i64 d.kind, .int .i64 d.key] 23) := ⟨_, rfl⟩
  have H1 := hide ((H0.out.kpw (w' := w1) (by rw [hw1]; exact (Kp.refl w).alloc)).add (D := w.heap.size) (t := 23) (c := [.int .i64 d.kind, .int .i64 d.key]) (by rw [hw1]; exact BC.new w _ _) (by unfold okBT; decide))
  try rw [← hw1]
  clear hw1 H0
  generalize w.heap.size = D at *
  have hb := H1.out.less.bsl
  obtain ⟨-, t1, t2, t3, t4, fz⟩ := H1.out.less.hand hi
  obtain ⟨q0, q1, q2, q3, -⟩ := H1.out.less.bead hcn
  obtain ⟨p0, p1, p2, p3, fb⟩ := H1.out.less.bead hp
  have d0 := H1.out.dd0
  have d1 := H1.out.dd1
  go_quiet (fail)
  obtain ⟨w2, hw⟩ : ∃ x, x = w1.drewN nq := ⟨_, rfl⟩
  try rw [← hw]
  have H2 := hide (H1.out.kpw (w' := w2) (by rw [hw]; (focus ((repeat (first | (with_reducible assumption) | (with_reducible exact Kp.refl _) | (with_reducible apply Kp.drew) | (with_reducible apply Kp.drewN) | ((with_reducible apply Kp.setR); (focus (first | (with_reducible assumption) | (simp; done) | (simp; omega)))) | (with_reducible apply Kp.alloc) | ((with_reducible apply Kp.call); (with_reducible assumption)) | ((with_reducible apply Kp.app); (with_reducible assumption)))); done))))
  clear hw
  clear hb t1 t2 t3 t4 fz q0 q1 q2 q3 p0 p1 p2 p3 fb d0 d1
  have hb := H2.out.less.bsl
  obtain ⟨-, t1, t2, t3, t4, fz⟩ := H2.out.less.hand hi
  obtain ⟨q0, q1, q2, q3, -⟩ := H2.out.less.bead hcn
  obtain ⟨p0, p1, p2, p3, fb⟩ := H2.out.less.bead hp
  have d0 := H2.out.dd0
  have d1 := H2.out.dd1
  have kx : (s.m.ky (s.hd i).c == d.key) = true := beq_iff_eq.2 Hhke.out
  go_wp2_with fail
  go_quiet (fail)
  obtain ⟨w3, hw⟩ : ∃ x, x = w2.drewN nq := ⟨_, rfl⟩
  try rw [← hw]
  have H3 := hide (H2.out.kpw (w' := w3) (by rw [hw]; (focus ((repeat (first | (with_reducible assumption) | (with_reducible exact Kp.refl _) | (with_reducible apply Kp.drew) | (with_reducible apply Kp.drewN) | ((with_reducible apply Kp.setR); (focus (first | (with_reducible assumption) | (simp; done) | (simp; omega)))) | (with_reducible apply Kp.alloc) | ((with_reducible apply Kp.call); (with_reducible assumption)) | ((with_reducible apply Kp.app); (with_reducible assumption)))); done))))
  clear hw
  clear hb t1 t2 t3 t4 fz q0 q1 q2 q3 p0 p1 p2 p3 fb d0 d1
  have hb := H3.out.less.bsl
  obtain ⟨-, t1, t2, t3, t4, fz⟩ := H3.out.less.hand hi
  obtain ⟨q0, q1, q2, q3, -⟩ := H3.out.less.bead hcn
  obtain ⟨p0, p1, p2, p3, fb⟩ := H3.out.less.bead hp
  have d0 := H3.out.dd0
  have d1 := H3.out.dd1
  clear H1 H2
  have px : nxt s.m (s.hd i).p = (s.m.nx (s.hd i).p : Int) := nxt_nx _ Hhkp.out
  rw [px] at p1
  rw [Hhm3.out] at p1
  go_wp2_with fail
  go_quiet (fail)
  obtain ⟨w4, hw⟩ : ∃ x, x = w3.drewN nq := ⟨_, rfl⟩
  try rw [← hw]
  have H4 := hide (H3.out.kpw (w' := w4) (by rw [hw]; (focus ((repeat (first | (with_reducible assumption) | (with_reducible exact Kp.refl _) | (with_reducible apply Kp.drew) | (with_reducible apply Kp.drewN) | ((with_reducible apply Kp.setR); (focus (first | (with_reducible assumption) | (simp; done) | (simp; omega)))) | (with_reducible apply Kp.alloc) | ((with_reducible apply Kp.call); (with_reducible assumption)) | ((with_reducible apply Kp.app); (with_reducible assumption)))); done))))
  clear hw
  clear hb t1 t2 t3 t4 fz q0 q1 q2 q3 p0 p1 p2 p3 fb d0 d1
  have hb := H4.out.less.bsl
  obtain ⟨-, t1, t2, t3, t4, fz⟩ := H4.out.less.hand hi
  obtain ⟨q0, q1, q2, q3, -⟩ := H4.out.less.bead hcn
  obtain ⟨p0, p1, p2, p3, fb⟩ := H4.out.less.bead hp
  have d0 := H4.out.dd0
  have d1 := H4.out.dd1
  clear H3
  have kk : (d.kind == 2) = false := by rw [Hhk.out]; rfl
  go_wp2_with fail
  have H5 : Hid (BQ (K.add D 23 [.int .i64 d.kind, .int .i64 d.key]) { s with hd := up s.hd i { s.hd i with is := false } } dl bg bc dv (w4.setCell ⟨K.hg, i * 5 + 4, none⟩ (.bool false))) := hide (H4.out.setis hi false)
  clear hb t1 t2 t3 t4 fz q0 q1 q2 q3 p0 p1 p2 p3 fb d0 d1
  have hp9 : (up s.hd i { s.hd i with is := false } i).p < s.m.n := by rw [up_same]; exact hp
  have hc9 : (up s.hd i { s.hd i with is := false } i).c < s.m.n := by rw [up_same]; exact hcn
  refine (free_b H5.out hi hp9 hc9).mono ?_
  rintro e w5 ⟨rfl, h5⟩
  have h6 : BQ (K.add D 23 [.int .i64 d.kind, .int .i64 d.key]) { s with m := s.m.free (s.hd i).p (s.hd i).c, hd := up s.hd i { s.hd i with is := false } } dl bg bc dv w5 := by
    have e : ({ s with m := s.m.free (s.hd i).p (s.hd i).c, hd := up s.hd i { s.hd i with is := false } } : St) = { s with m := s.m.free (up s.hd i { s.hd i with is := false } i).p (up s.hd i { s.hd i with is := false } i).c, hd := up s.hd i { s.hd i with is := false } } := by rw [up_same]
    rw [e]; exact h5
  have H6 := hide h6
  clear h5 h6 hp9 hc9 H5 H4
  have hb := H6.out.less.bsn (n := s.m.n) rfl
  obtain ⟨-, t1, t2, t3, t4, fz⟩ := H6.out.less.hand hi
  dsimp only at t1 t2 t3 t4
  rw [up_same] at t1 t2 t3 t4
  obtain ⟨q0, q1, q2, q3, -⟩ := H6.out.less.bead hcn
  obtain ⟨p0, p1, p2, p3, fb⟩ := H6.out.less.bead hp
  have d0 := H6.out.dd0
  have d1 := H6.out.dd1
  go_wp2
  refine ⟨rfl, .bool true, by simp [results, Try.results35, go_sem], rfl, ?_⟩
  exact ⟨bg, bc, dv, H6.out.less⟩
end Go.Proofs.Ytoihdnekkgpcoaa
