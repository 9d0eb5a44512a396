/-
  The document's hand that marks, or the naive one: a step of it. Conditions: the bench lies as BQ says. Printed by tools/genbm.py.
  The three ways of the document's bench, joined. Conditions: as each theorem says.
  The closure by which the document's step finds its deed among what is done; IndexFunc by it. Conditions: as each theorem says.
  What is done, in the order of its begin, and what is told of each hand: the plain law. No program. Conditions: none.
  The document's step: what is done is appended and written; the hand's state anew; the time. Conditions: the bench lies as BQ says.
  As RegApp (JA), where the region also reads another cell of the block that its store hits: who comes ahead of whom (JQ). No program. Conditions: none.
-/
import Derived.Test.YtoihdnekkgpcoaaG12
import Derived.Test.YtoihdnekkgpcoaaG13
import Derived.Test.YtoihdnekkgpcoaaG8
import Derived.Test.YtoihdnekkgpcoaaG10
import Derived.Test.YtoihdnekkgpcoaaG9
import Derived.Test.YtoihdnekkgpcoaaG3
import Derived.Test.YtoihdnekkgpcoaaG11

namespace Go.Proofs.Ytoihdnekkgpcoaa
open Go.ChangeShapes Go.WideShapes Go.ChangeAt Go.RowKit
set_option linter.unusedVariables false
set_option linter.unusedSimpArgs false

variable {K : Bl} {s : St} {dl : List Tl} {bg bc : Nat} {dv : Value} {w w' : World}
set_option maxRecDepth 100000 in
theorem bm_2addn (h : BQ K s dl bg bc dv w) {i : Nat} (hi : i < K.nh) (hp : (s.hd i).p < s.m.n) (hcn : (s.hd i).c < s.m.n) {d : Dd} (h2 : (s.hd i).plc = 2) (hkp : s.m.ky (s.hd i).p ≠ 10) (hk10 : d.key ≠ 10) (hlim : s.m.n ≤ 100000) (hk : d.kind = 1) (hn : K.alg = 4) :
    Calls Try.prog 36 #[ptr K.b, hp5 K i, deedV d] w (HP K s dl i (markS (K.alg == 4) s.m (s.hd i) d)) := by
  have er : markS (K.alg == 4) s.m (s.hd i) d = (s.m.ins (s.hd i).p (s.hd i).c d.key, { s.hd i with is := true }, true) := by
    unfold markS; rw [h2]; simp [hn, hk, h2]
  rw [er]
  have Hhkp := hide hkp
  have Hhk10 := hide hk10
  have Hhk := hide hk
  have Hhn := hide hn
  clear hkp hk10 hk hn
  unfold HP hp5 ptr deedV
  have H0 := hide h
  clear h er
  go_enter Try.func36, Try.ntmps36
  go_upto_region 1 with fail
  obtain ⟨w1, hw1⟩ : ∃ x, x = w.alloc (.cells #[.int .i64 d.kind, .int .i64 d.key] 23) := ⟨_, rfl⟩
  have H1 := hide ((H0.out.kpw (w' := w1) (by rw [hw1]; exact (Kp.refl w).alloc)).add (D := w.heap.size) (t := 23) (c := [.int .i64 d.kind, .int .i64 d.key]) (by rw [hw1]; exact BC.new w _ _) (by unfold okBT; decide))
  try rw [← hw1]
  clear hw1 H0
  generalize w.heap.size = D at *
  have hb := H1.out.less.bsl
  obtain ⟨-, t1, t2, t3, t4, fz⟩ := H1.out.less.hand hi
  obtain ⟨q0, q1, q2, q3, -⟩ := H1.out.less.bead hcn
  obtain ⟨p0, p1, p2, p3, fb⟩ := H1.out.less.bead hp
  have d0 := H1.out.dd0
  have d1 := H1.out.dd1
  go_quiet (fail)
  obtain ⟨w2, hw⟩ : ∃ x, x = w1.drewN nq := ⟨_, rfl⟩
  try rw [← hw]
  have H2 := hide (H1.out.kpw (w' := w2) (by rw [hw]; (focus ((repeat (first | (with_reducible assumption) | (with_reducible exact Kp.refl _) | (with_reducible apply Kp.drew) | (with_reducible apply Kp.drewN) | ((with_reducible apply Kp.setR); (focus (first | (with_reducible assumption) | (simp; done) | (simp; omega)))) | (with_reducible apply Kp.alloc) | ((with_reducible apply Kp.call); (with_reducible assumption)) | ((with_reducible apply Kp.app); (with_reducible assumption)))); done))))
  clear hw
  clear hb t1 t2 t3 t4 fz q0 q1 q2 q3 p0 p1 p2 p3 fb d0 d1
  have hb := H2.out.less.bsl
  obtain ⟨-, t1, t2, t3, t4, fz⟩ := H2.out.less.hand hi
  obtain ⟨q0, q1, q2, q3, -⟩ := H2.out.less.bead hcn
  obtain ⟨p0, p1, p2, p3, fb⟩ := H2.out.less.bead hp
  have d0 := H2.out.dd0
  have d1 := H2.out.dd1
  obtain ⟨x, kx⟩ : ∃ x, (s.m.ky (s.hd i).c == d.key) = x := ⟨_, rfl⟩
  go_wp2_with fail
  go_quiet (fail)
  obtain ⟨w3, hw⟩ : ∃ x, x = w2.drewN nq := ⟨_, rfl⟩
  try rw [← hw]
  have H3 := hide (H2.out.kpw (w' := w3) (by rw [hw]; (focus ((repeat (first | (with_reducible assumption) | (with_reducible exact Kp.refl _) | (with_reducible apply Kp.drew) | (with_reducible apply Kp.drewN) | ((with_reducible apply Kp.setR); (focus (first | (with_reducible assumption) | (simp; done) | (simp; omega)))) | (with_reducible apply Kp.alloc) | ((with_reducible apply Kp.call); (with_reducible assumption)) | ((with_reducible apply Kp.app); (with_reducible assumption)))); done))))
  clear hw
  clear hb t1 t2 t3 t4 fz q0 q1 q2 q3 p0 p1 p2 p3 fb d0 d1
  have hb := H3.out.less.bsl
  obtain ⟨-, t1, t2, t3, t4, fz⟩ := H3.out.less.hand hi
  obtain ⟨q0, q1, q2, q3, -⟩ := H3.out.less.bead hcn
  obtain ⟨p0, p1, p2, p3, fb⟩ := H3.out.less.bead hp
  have d0 := H3.out.dd0
  have d1 := H3.out.dd1
  clear H1 H2
  have j1 : (d.kind == 1) = true := by rw [Hhk.out]; rfl
  have j2 : (d.kind == 2) = false := by rw [Hhk.out]; rfl
  have ba : w3.cell? ⟨K.b, 0, none⟩ = some (.int .i64 4) := by have := H3.out.less.balg; rw [Hhn.out] at this; exact this
  go_upto_region 24 with fail
  have e0 := H3.out.dd1
  go_wp2_with fail
  refine (insert_b H3.out hi hp hcn Hhkp.out (k := d.key) Hhk10.out hlim).mono ?_
  rintro e w7 ⟨rfl, h7⟩
  obtain ⟨bg2, bc2, dv2, h8⟩ := h7.less
  have H8 := hide h8
  clear h7 h8 H3 e0
  clear hb t1 t2 t3 t4 fz q0 q1 q2 q3 p0 p1 p2 p3 fb d0 d1
  obtain ⟨-, t1, t2, t3, t4, fz⟩ := H8.out.hand hi
  go_wp2
  refine ⟨rfl, .bool true, by simp [results, Try.results36, go_sem], rfl, ?_⟩
  exact ⟨bg2, bc2, dv2, H8.out.setis hi true⟩
set_option maxRecDepth 100000 in
theorem bm_2addc (h : BQ K s dl bg bc dv w) {i : Nat} (hi : i < K.nh) (hp : (s.hd i).p < s.m.n) (hcn : (s.hd i).c < s.m.n) {d : Dd} (h2 : (s.hd i).plc = 2) (hkp : s.m.ky (s.hd i).p ≠ 10) (hk10 : d.key ≠ 10) (hlim : s.m.n ≤ 100000) (hk : d.kind = 1) (hn : K.alg ≠ 4) (hcl : clean s.m (s.hd i) = true) :
    Calls Try.prog 36 #[ptr K.b, hp5 K i, deedV d] w (HP K s dl i (markS (K.alg == 4) s.m (s.hd i) d)) := by
  have er : markS (K.alg == 4) s.m (s.hd i) d = (s.m.ins (s.hd i).p (s.hd i).c d.key, { s.hd i with is := true }, true) := by
    unfold markS; rw [h2]; simp [hk, h2, hcl]
  rw [er]
  have Hhkp := hide hkp
  have Hhk10 := hide hk10
  have Hhk := hide hk
  have Hhn := hide hn
  have Hhcl := hide hcl
  clear hkp hk10 hk hn hcl
  unfold HP hp5 ptr deedV
  have H0 := hide h
  clear h er
  go_enter Try.func36, Try.ntmps36
  go_upto_region 1 with fail
  obtain ⟨w1, hw1⟩ : ∃ x, x = w.alloc (.cells #[.int .i64 d.kind, .int .i64 d.key] 23) := ⟨_, rfl⟩
  have H1 := hide ((H0.out.kpw (w' := w1) (by rw [hw1]; exact (Kp.refl w).alloc)).add (D := w.heap.size) (t := 23) (c := [.int .i64 d.kind, .int .i64 d.key]) (by rw [hw1]; exact BC.new w _ _) (by unfold okBT; decide))
  try rw [← hw1]
  clear hw1 H0
  generalize w.heap.size = D at *
  have hb := H1.out.less.bsl
  obtain ⟨-, t1, t2, t3, t4, fz⟩ := H1.out.less.hand hi
  obtain ⟨q0, q1, q2, q3, -⟩ := H1.out.less.bead hcn
  obtain ⟨p0, p1, p2, p3, fb⟩ := H1.out.less.bead hp
  have d0 := H1.out.dd0
  have d1 := H1.out.dd1
  go_quiet (fail)
  obtain ⟨w2, hw⟩ : ∃ x, x = w1.drewN nq := ⟨_, rfl⟩
  try rw [← hw]
  have H2 := hide (H1.out.kpw (w' := w2) (by rw [hw]; (focus ((repeat (first | (with_reducible assumption) | (with_reducible exact Kp.refl _) | (with_reducible apply Kp.drew) | (with_reducible apply Kp.drewN) | ((with_reducible apply Kp.setR); (focus (first | (with_reducible assumption) | (simp; done) | (simp; omega)))) | (with_reducible apply Kp.alloc) | ((with_reducible apply Kp.call); (with_reducible assumption)) | ((with_reducible apply Kp.app); (with_reducible assumption)))); done))))
  clear hw
  clear hb t1 t2 t3 t4 fz q0 q1 q2 q3 p0 p1 p2 p3 fb d0 d1
  have hb := H2.out.less.bsl
  obtain ⟨-, t1, t2, t3, t4, fz⟩ := H2.out.less.hand hi
  obtain ⟨q0, q1, q2, q3, -⟩ := H2.out.less.bead hcn
  obtain ⟨p0, p1, p2, p3, fb⟩ := H2.out.less.bead hp
  have d0 := H2.out.dd0
  have d1 := H2.out.dd1
  obtain ⟨x, kx⟩ : ∃ x, (s.m.ky (s.hd i).c == d.key) = x := ⟨_, rfl⟩
  go_wp2_with fail
  go_quiet (fail)
  obtain ⟨w3, hw⟩ : ∃ x, x = w2.drewN nq := ⟨_, rfl⟩
  try rw [← hw]
  have H3 := hide (H2.out.kpw (w' := w3) (by rw [hw]; (focus ((repeat (first | (with_reducible assumption) | (with_reducible exact Kp.refl _) | (with_reducible apply Kp.drew) | (with_reducible apply Kp.drewN) | ((with_reducible apply Kp.setR); (focus (first | (with_reducible assumption) | (simp; done) | (simp; omega)))) | (with_reducible apply Kp.alloc) | ((with_reducible apply Kp.call); (with_reducible assumption)) | ((with_reducible apply Kp.app); (with_reducible assumption)))); done))))
  clear hw
  clear hb t1 t2 t3 t4 fz q0 q1 q2 q3 p0 p1 p2 p3 fb d0 d1
  have hb := H3.out.less.bsl
  obtain ⟨-, t1, t2, t3, t4, fz⟩ := H3.out.less.hand hi
  obtain ⟨q0, q1, q2, q3, -⟩ := H3.out.less.bead hcn
  obtain ⟨p0, p1, p2, p3, fb⟩ := H3.out.less.bead hp
  have d0 := H3.out.dd0
  have d1 := H3.out.dd1
  clear H1 H2
  have j1 : (d.kind == 1) = true := by rw [Hhk.out]; rfl
  have j2 : (d.kind == 2) = false := by rw [Hhk.out]; rfl
  have ba := H3.out.less.balg
  have kn : (((K.alg : Nat) : Int) == 4) = false := beq_eq_false_iff_ne.2 (by have := Hhn.out; omega)
  go_wp2_with fail
  refine (clean_b H3.out hi hp Hhkp.out).mono ?_
  rintro e w5 ⟨rfl, m9, rfl⟩
  rw [Hhcl.out]
  obtain ⟨w4, hw⟩ : ∃ x, x = w3.drewN m9 := ⟨_, rfl⟩
  try rw [← hw]
  have H4 := hide (H3.out.kpw (w' := w4) (by rw [hw]; (focus ((repeat (first | (with_reducible assumption) | (with_reducible exact Kp.refl _) | (with_reducible apply Kp.drew) | (with_reducible apply Kp.drewN) | ((with_reducible apply Kp.setR); (focus (first | (with_reducible assumption) | (simp; done) | (simp; omega)))) | (with_reducible apply Kp.alloc) | ((with_reducible apply Kp.call); (with_reducible assumption)) | ((with_reducible apply Kp.app); (with_reducible assumption)))); done))))
  clear hw
  clear hb t1 t2 t3 t4 fz q0 q1 q2 q3 p0 p1 p2 p3 fb d0 d1
  have hb := H4.out.less.bsl
  obtain ⟨-, t1, t2, t3, t4, fz⟩ := H4.out.less.hand hi
  obtain ⟨q0, q1, q2, q3, -⟩ := H4.out.less.bead hcn
  obtain ⟨p0, p1, p2, p3, fb⟩ := H4.out.less.bead hp
  have d0 := H4.out.dd0
  have d1 := H4.out.dd1
  clear H3
  go_upto_region 24 with fail
  have e0 := H4.out.dd1
  go_wp2_with fail
  refine (insert_b H4.out hi hp hcn Hhkp.out (k := d.key) Hhk10.out hlim).mono ?_
  rintro e w7 ⟨rfl, h7⟩
  obtain ⟨bg2, bc2, dv2, h8⟩ := h7.less
  have H8 := hide h8
  clear h7 h8 H4 e0
  clear hb t1 t2 t3 t4 fz q0 q1 q2 q3 p0 p1 p2 p3 fb d0 d1
  obtain ⟨-, t1, t2, t3, t4, fz⟩ := H8.out.hand hi
  go_wp2
  refine ⟨rfl, .bool true, by simp [results, Try.results36, go_sem], rfl, ?_⟩
  exact ⟨bg2, bc2, dv2, H8.out.setis hi true⟩
set_option maxRecDepth 100000 in
theorem bm_2addf (h : BQ K s dl bg bc dv w) {i : Nat} (hi : i < K.nh) (hp : (s.hd i).p < s.m.n) (hcn : (s.hd i).c < s.m.n) {d : Dd} (h2 : (s.hd i).plc = 2) (hkp : s.m.ky (s.hd i).p ≠ 10) (hk : d.kind = 1) (hn : K.alg ≠ 4) (hcl : clean s.m (s.hd i) = false) :
    Calls Try.prog 36 #[ptr K.b, hp5 K i, deedV d] w (HP K s dl i (markS (K.alg == 4) s.m (s.hd i) d)) := by
  have er : markS (K.alg == 4) s.m (s.hd i) d = (s.m, { s.hd i with plc := 0 }, false) := by
    unfold markS; rw [h2]; simp [hk, hcl, hn]
  rw [er]
  have Hhkp := hide hkp
  have Hhk := hide hk
  have Hhn := hide hn
  have Hhcl := hide hcl
  clear hkp hk hn hcl
  unfold HP hp5 ptr deedV
  have H0 := hide h
  clear h er
  go_enter Try.func36, Try.ntmps36
  go_upto_region 1 with fail
  obtain ⟨w1, hw1⟩ : ∃ x, x = w.alloc (.cells #[.int .i64 d.kind, .int .i64 d.key] 23) := ⟨_, rfl⟩
  have H1 := hide ((H0.out.kpw (w' := w1) (by rw [hw1]; exact (Kp.refl w).alloc)).add (D := w.heap.size) (t := 23) (c := [.int .i64 d.kind, .int .i64 d.key]) (by rw [hw1]; exact BC.new w _ _) (by unfold okBT; decide))
  try rw [← hw1]
  clear hw1 H0
  generalize w.heap.size = D at *
  have hb := H1.out.less.bsl
  obtain ⟨-, t1, t2, t3, t4, fz⟩ := H1.out.less.hand hi
  obtain ⟨q0, q1, q2, q3, -⟩ := H1.out.less.bead hcn
  obtain ⟨p0, p1, p2, p3, fb⟩ := H1.out.less.bead hp
  have d0 := H1.out.dd0
  have d1 := H1.out.dd1
  go_quiet (fail)
  obtain ⟨w2, hw⟩ : ∃ x, x = w1.drewN nq := ⟨_, rfl⟩
  try rw [← hw]
  have H2 := hide (H1.out.kpw (w' := w2) (by rw [hw]; (focus ((repeat (first | (with_reducible assumption) | (with_reducible exact Kp.refl _) | (with_reducible apply Kp.drew) | (with_reducible apply Kp.drewN) | ((with_reducible apply Kp.setR); (focus (first | (with_reducible assumption) | (simp; done) | (simp; omega)))) | (with_reducible apply Kp.alloc) | ((with_reducible apply Kp.call); (with_reducible assumption)) | ((with_reducible apply Kp.app); (with_reducible assumption)))); done))))
  clear hw
  clear hb t1 t2 t3 t4 fz q0 q1 q2 q3 p0 p1 p2 p3 fb d0 d1
  have hb := H2.out.less.bsl
  obtain ⟨-, t1, t2, t3, t4, fz⟩ := H2.out.less.hand hi
  obtain ⟨q0, q1, q2, q3, -⟩ := H2.out.less.bead hcn
  obtain ⟨p0, p1, p2, p3, fb⟩ := H2.out.less.bead hp
  have d0 := H2.out.dd0
  have d1 := H2.out.dd1
  obtain ⟨x, kx⟩ : ∃ x, (s.m.ky (s.hd i).c == d.key) = x := ⟨_, rfl⟩
  go_wp2_with fail
  go_quiet (fail)
  obtain ⟨w3, hw⟩ : ∃ x, x = w2.drewN nq := ⟨_, rfl⟩
  try rw [← hw]
  have H3 := hide (H2.out.kpw (w' := w3) (by rw [hw]; (focus ((repeat (first | (with_reducible assumption) | (with_reducible exact Kp.refl _) | (with_reducible apply Kp.drew) | (with_reducible apply Kp.drewN) | ((with_reducible apply Kp.setR); (focus (first | (with_reducible assumption) | (simp; done) | (simp; omega)))) | (with_reducible apply Kp.alloc) | ((with_reducible apply Kp.call); (with_reducible assumption)) | ((with_reducible apply Kp.app); (with_reducible assumption)))); done))))
  clear hw
  clear hb t1 t2 t3 t4 fz q0 q1 q2 q3 p0 p1 p2 p3 fb d0 d1
  have hb := H3.out.less.bsl
  obtain ⟨-, t1, t2, t3, t4, fz⟩ := H3.out.less.hand hi
  obtain ⟨q0, q1, q2, q3, -⟩ := H3.out.less.bead hcn
  obtain ⟨p0, p1, p2, p3, fb⟩ := H3.out.less.bead hp
  have d0 := H3.out.dd0
  have d1 := H3.out.dd1
  clear H1 H2
  have j1 : (d.kind == 1) = true := by rw [Hhk.out]; rfl
  have j2 : (d.kind == 2) = false := by rw [Hhk.out]; rfl
  have ba := H3.out.less.balg
  have kn : (((K.alg : Nat) : Int) == 4) = false := beq_eq_false_iff_ne.2 (by have := Hhn.out; omega)
  go_wp2_with fail
  refine (clean_b H3.out hi hp Hhkp.out).mono ?_
  rintro e w5 ⟨rfl, m9, rfl⟩
  rw [Hhcl.out]
  obtain ⟨w4, hw⟩ : ∃ x, x = w3.drewN m9 := ⟨_, rfl⟩
  try rw [← hw]
  have H4 := hide (H3.out.kpw (w' := w4) (by rw [hw]; (focus ((repeat (first | (with_reducible assumption) | (with_reducible exact Kp.refl _) | (with_reducible apply Kp.drew) | (with_reducible apply Kp.drewN) | ((with_reducible apply Kp.setR); (focus (first | (with_reducible assumption) | (simp; done) | (simp; omega)))) | (with_reducible apply Kp.alloc) | ((with_reducible apply Kp.call); (with_reducible assumption)) | ((with_reducible apply Kp.app); (with_reducible assumption)))); done))))
  clear hw
  clear hb t1 t2 t3 t4 fz q0 q1 q2 q3 p0 p1 p2 p3 fb d0 d1
  have hb := H4.out.less.bsl
  obtain ⟨-, t1, t2, t3, t4, fz⟩ := H4.out.less.hand hi
  obtain ⟨q0, q1, q2, q3, -⟩ := H4.out.less.bead hcn
  obtain ⟨p0, p1, p2, p3, fb⟩ := H4.out.less.bead hp
  have d0 := H4.out.dd0
  have d1 := H4.out.dd1
  clear H3
  go_wp2
  refine ⟨rfl, .bool false, by simp [results, Try.results36, go_sem], rfl, ?_⟩
  exact ⟨bg, bc, dv, H4.out.less.setat hi 0⟩
set_option maxRecDepth 100000 in
theorem bm_2nv (h : BQ K s dl bg bc dv w) {i : Nat} (hi : i < K.nh) (hp : (s.hd i).p < s.m.n) (hcn : (s.hd i).c < s.m.n) {d : Dd} (h2 : (s.hd i).plc = 2) (hkp : s.m.ky (s.hd i).p ≠ 10) (hkc : s.m.ky (s.hd i).c ≠ 10) (hk : d.kind = 2) (hn : K.alg = 4) :
    Calls Try.prog 36 #[ptr K.b, hp5 K i, deedV d] w (HP K s dl i (markS (K.alg == 4) s.m (s.hd i) d)) := by
  have er : markS (K.alg == 4) s.m (s.hd i) d = (s.m.drop (s.hd i).p (s.hd i).c, { s.hd i with is := true }, true) := by
    unfold markS; rw [h2]; simp [hk, hn, h2]
  rw [er]
  have Hhkp := hide hkp
  have Hhkc := hide hkc
  have Hhk := hide hk
  have Hhn := hide hn
  clear hkp hkc hk hn
  unfold HP hp5 ptr deedV
  have H0 := hide h
  clear h er
  go_enter Try.func36, Try.ntmps36
  go_upto_region 1 with fail
  obtain ⟨w1, hw1⟩ : ∃ x, x = w.alloc (.cells #[.int .i64 d.kind, .int .i64 d.key] 23) := ⟨_, rfl⟩
  have H1 := hide ((H0.out.kpw (w' := w1) (by rw [hw1]; exact (Kp.refl w).alloc)).add (D := w.heap.size) (t := 23) (c := [.int .i64 d.kind, .int .i64 d.key]) (by rw [hw1]; exact BC.new w _ _) (by unfold okBT; decide))
  try rw [← hw1]
  clear hw1 H0
  generalize w.heap.size = D at *
  have hb := H1.out.less.bsl
  obtain ⟨-, t1, t2, t3, t4, fz⟩ := H1.out.less.hand hi
  obtain ⟨q0, q1, q2, q3, -⟩ := H1.out.less.bead hcn
  obtain ⟨p0, p1, p2, p3, fb⟩ := H1.out.less.bead hp
  have d0 := H1.out.dd0
  have d1 := H1.out.dd1
  go_quiet (fail)
  obtain ⟨w2, hw⟩ : ∃ x, x = w1.drewN nq := ⟨_, rfl⟩
  try rw [← hw]
  have H2 := hide (H1.out.kpw (w' := w2) (by rw [hw]; (focus ((repeat (first | (with_reducible assumption) | (with_reducible exact Kp.refl _) | (with_reducible apply Kp.drew) | (with_reducible apply Kp.drewN) | ((with_reducible apply Kp.setR); (focus (first | (with_reducible assumption) | (simp; done) | (simp; omega)))) | (with_reducible apply Kp.alloc) | ((with_reducible apply Kp.call); (with_reducible assumption)) | ((with_reducible apply Kp.app); (with_reducible assumption)))); done))))
  clear hw
  clear hb t1 t2 t3 t4 fz q0 q1 q2 q3 p0 p1 p2 p3 fb d0 d1
  have hb := H2.out.less.bsl
  obtain ⟨-, t1, t2, t3, t4, fz⟩ := H2.out.less.hand hi
  obtain ⟨q0, q1, q2, q3, -⟩ := H2.out.less.bead hcn
  obtain ⟨p0, p1, p2, p3, fb⟩ := H2.out.less.bead hp
  have d0 := H2.out.dd0
  have d1 := H2.out.dd1
  obtain ⟨x, kx⟩ : ∃ x, (s.m.ky (s.hd i).c == d.key) = x := ⟨_, rfl⟩
  go_wp2_with fail
  go_quiet (fail)
  obtain ⟨w3, hw⟩ : ∃ x, x = w2.drewN nq := ⟨_, rfl⟩
  try rw [← hw]
  have H3 := hide (H2.out.kpw (w' := w3) (by rw [hw]; (focus ((repeat (first | (with_reducible assumption) | (with_reducible exact Kp.refl _) | (with_reducible apply Kp.drew) | (with_reducible apply Kp.drewN) | ((with_reducible apply Kp.setR); (focus (first | (with_reducible assumption) | (simp; done) | (simp; omega)))) | (with_reducible apply Kp.alloc) | ((with_reducible apply Kp.call); (with_reducible assumption)) | ((with_reducible apply Kp.app); (with_reducible assumption)))); done))))
  clear hw
  clear hb t1 t2 t3 t4 fz q0 q1 q2 q3 p0 p1 p2 p3 fb d0 d1
  have hb := H3.out.less.bsl
  obtain ⟨-, t1, t2, t3, t4, fz⟩ := H3.out.less.hand hi
  obtain ⟨q0, q1, q2, q3, -⟩ := H3.out.less.bead hcn
  obtain ⟨p0, p1, p2, p3, fb⟩ := H3.out.less.bead hp
  have d0 := H3.out.dd0
  have d1 := H3.out.dd1
  clear H1 H2
  have j1 : (d.kind == 1) = false := by rw [Hhk.out]; rfl
  have j2 : (d.kind == 2) = true := by rw [Hhk.out]; rfl
  have ba : w3.cell? ⟨K.b, 0, none⟩ = some (.int .i64 4) := by have := H3.out.less.balg; rw [Hhn.out] at this; exact this
  have px : nxt s.m (s.hd i).c = (s.m.nx (s.hd i).c : Int) := nxt_nx _ Hhkc.out
  rw [px] at q1
  go_upto_region 28 with fail
  go_still_tail 14, (by kernel_rfl)
  change wpList _ _ _ _ _ w3.drew
  obtain ⟨w6, hw⟩ : ∃ x, x = w3.drew := ⟨_, rfl⟩
  try rw [← hw]
  have H5 := hide (H3.out.kpw (w' := w6) (by rw [hw]; (focus ((repeat (first | (with_reducible assumption) | (with_reducible exact Kp.refl _) | (with_reducible apply Kp.drew) | (with_reducible apply Kp.drewN) | ((with_reducible apply Kp.setR); (focus (first | (with_reducible assumption) | (simp; done) | (simp; omega)))) | (with_reducible apply Kp.alloc) | ((with_reducible apply Kp.call); (with_reducible assumption)) | ((with_reducible apply Kp.app); (with_reducible assumption)))); done))))
  clear hw
  clear hb t1 t2 t3 t4 fz q0 q1 q2 q3 p0 p1 p2 p3 fb d0 d1
  have hb := H5.out.less.bsl
  obtain ⟨-, t1, t2, t3, t4, fz⟩ := H5.out.less.hand hi
  obtain ⟨q0, q1, q2, q3, -⟩ := H5.out.less.bead hcn
  obtain ⟨p0, p1, p2, p3, fb⟩ := H5.out.less.bead hp
  have d0 := H5.out.dd0
  have d1 := H5.out.dd1
  clear H3
  have px : nxt s.m (s.hd i).c = (s.m.nx (s.hd i).c : Int) := nxt_nx _ Hhkc.out
  rw [px] at q1
  go_upto_region 29 with fail
  have H7 : Hid (BQ (K.add D 23 [.int .i64 d.kind, .int .i64 d.key]) { s with m := s.m.drop (s.hd i).p (s.hd i).c } dl bg bc dv (w6.setCell ⟨bg, (s.hd i).p * 4 + 1, none⟩ (.int .i64 (s.m.nx (s.hd i).c)))) := hide (H5.out.setnx (i := (s.hd i).p) (c := s.m.nx (s.hd i).c) hp Hhkp.out)
  generalize w6.setCell ⟨bg, (s.hd i).p * 4 + 1, none⟩ (.int .i64 (s.m.nx (s.hd i).c)) = w7 at *
  clear H5
  clear hb t1 t2 t3 t4 fz q0 q1 q2 q3 p0 p1 p2 p3 fb d0 d1
  obtain ⟨-, t1, t2, t3, t4, fz⟩ := H7.out.less.hand hi
  go_wp2
  refine ⟨rfl, .bool true, by simp [results, Try.results36, go_sem], rfl, ?_⟩
  have := H7.out.less.setis hi true
  dsimp only at this
  rw [h2] at this
  exact ⟨bg, bc, dv, this⟩
set_option maxRecDepth 100000 in
theorem bm_2mark (h : BQ K s dl bg bc dv w) {i : Nat} (hi : i < K.nh) (hp : (s.hd i).p < s.m.n) (hcn : (s.hd i).c < s.m.n) {d : Dd} (h2 : (s.hd i).plc = 2) (hk : d.kind = 2) (hn : K.alg ≠ 4) (hm : s.m.mr (s.hd i).c = false) :
    Calls Try.prog 36 #[ptr K.b, hp5 K i, deedV d] w (HP K s dl i (markS (K.alg == 4) s.m (s.hd i) d)) := by
  have er : markS (K.alg == 4) s.m (s.hd i) d = (s.m.mark (s.hd i).c, { s.hd i with plc := 3, is := true }, false) := by
    unfold markS; rw [h2]; simp [hk, hn, hm]
  rw [er]
  have Hhk := hide hk
  have Hhn := hide hn
  clear hk hn
  unfold HP hp5 ptr deedV
  have H0 := hide h
  clear h er
  go_enter Try.func36, Try.ntmps36
  go_upto_region 1 with fail
  obtain ⟨w1, hw1⟩ : ∃ x, x = w.alloc (.cells #[.int .i64 d.kind, .int .i64 d.key] 23) := ⟨_, rfl⟩
  have H1 := hide ((H0.out.kpw (w' := w1) (by rw [hw1]; exact (Kp.refl w).alloc)).add (D := w.heap.size) (t := 23) (c := [.int .i64 d.kind, .int .i64 d.key]) (by rw [hw1]; exact BC.new w _ _) (by unfold okBT; decide))
  try rw [← hw1]
  clear hw1 H0
  generalize w.heap.size = D at *
  have hb := H1.out.less.bsl
  obtain ⟨-, t1, t2, t3, t4, fz⟩ := H1.out.less.hand hi
  obtain ⟨q0, q1, q2, q3, -⟩ := H1.out.less.bead hcn
  obtain ⟨p0, p1, p2, p3, fb⟩ := H1.out.less.bead hp
  have d0 := H1.out.dd0
  have d1 := H1.out.dd1
  go_quiet (fail)
  obtain ⟨w2, hw⟩ : ∃ x, x = w1.drewN nq := ⟨_, rfl⟩
  try rw [← hw]
  have H2 := hide (H1.out.kpw (w' := w2) (by rw [hw]; (focus ((repeat (first | (with_reducible assumption) | (with_reducible exact Kp.refl _) | (with_reducible apply Kp.drew) | (with_reducible apply Kp.drewN) | ((with_reducible apply Kp.setR); (focus (first | (with_reducible assumption) | (simp; done) | (simp; omega)))) | (with_reducible apply Kp.alloc) | ((with_reducible apply Kp.call); (with_reducible assumption)) | ((with_reducible apply Kp.app); (with_reducible assumption)))); done))))
  clear hw
  clear hb t1 t2 t3 t4 fz q0 q1 q2 q3 p0 p1 p2 p3 fb d0 d1
  have hb := H2.out.less.bsl
  obtain ⟨-, t1, t2, t3, t4, fz⟩ := H2.out.less.hand hi
  obtain ⟨q0, q1, q2, q3, -⟩ := H2.out.less.bead hcn
  obtain ⟨p0, p1, p2, p3, fb⟩ := H2.out.less.bead hp
  have d0 := H2.out.dd0
  have d1 := H2.out.dd1
  obtain ⟨x, kx⟩ : ∃ x, (s.m.ky (s.hd i).c == d.key) = x := ⟨_, rfl⟩
  go_wp2_with fail
  go_quiet (fail)
  obtain ⟨w3, hw⟩ : ∃ x, x = w2.drewN nq := ⟨_, rfl⟩
  try rw [← hw]
  have H3 := hide (H2.out.kpw (w' := w3) (by rw [hw]; (focus ((repeat (first | (with_reducible assumption) | (with_reducible exact Kp.refl _) | (with_reducible apply Kp.drew) | (with_reducible apply Kp.drewN) | ((with_reducible apply Kp.setR); (focus (first | (with_reducible assumption) | (simp; done) | (simp; omega)))) | (with_reducible apply Kp.alloc) | ((with_reducible apply Kp.call); (with_reducible assumption)) | ((with_reducible apply Kp.app); (with_reducible assumption)))); done))))
  clear hw
  clear hb t1 t2 t3 t4 fz q0 q1 q2 q3 p0 p1 p2 p3 fb d0 d1
  have hb := H3.out.less.bsl
  obtain ⟨-, t1, t2, t3, t4, fz⟩ := H3.out.less.hand hi
  obtain ⟨q0, q1, q2, q3, -⟩ := H3.out.less.bead hcn
  obtain ⟨p0, p1, p2, p3, fb⟩ := H3.out.less.bead hp
  have d0 := H3.out.dd0
  have d1 := H3.out.dd1
  clear H1 H2
  have j1 : (d.kind == 1) = false := by rw [Hhk.out]; rfl
  have j2 : (d.kind == 2) = true := by rw [Hhk.out]; rfl
  have ba := H3.out.less.balg
  have kn : (((K.alg : Nat) : Int) == 4) = false := beq_eq_false_iff_ne.2 (by have := Hhn.out; omega)
  have n2 := H3.out.less.ne2
  go_wp2
  refine ⟨rfl, .bool false, by simp [results, Try.results36, go_sem], rfl, ?_⟩
  have := ((H3.out.less.setmr (i := (s.hd i).c) hcn).setis hi true).setat hi 3
  simp only [up_same, up_up] at this
  exact ⟨bg, bc, dv, this⟩
set_option maxRecDepth 100000 in
theorem bm_2un (h : BQ K s dl bg bc dv w) {i : Nat} (hi : i < K.nh) (hp : (s.hd i).p < s.m.n) (hcn : (s.hd i).c < s.m.n) {d : Dd} (h2 : (s.hd i).plc = 2) (hk : d.kind = 2) (hn : K.alg ≠ 4) (hm : s.m.mr (s.hd i).c = true) :
    Calls Try.prog 36 #[ptr K.b, hp5 K i, deedV d] w (HP K s dl i (markS (K.alg == 4) s.m (s.hd i) d)) := by
  have er : markS (K.alg == 4) s.m (s.hd i) d = (s.m, { s.hd i with plc := 0 }, false) := by
    unfold markS; rw [h2]; simp [hk, hn, hm]
  rw [er]
  have Hhk := hide hk
  have Hhn := hide hn
  clear hk hn
  unfold HP hp5 ptr deedV
  have H0 := hide h
  clear h er
  go_enter Try.func36, Try.ntmps36
  go_upto_region 1 with fail
  obtain ⟨w1, hw1⟩ : ∃ x, x = w.alloc (.cells #[.int .i64 d.kind, .int .i64 d.key] 23) := ⟨_, rfl⟩
  have H1 := hide ((H0.out.kpw (w' := w1) (by rw [hw1]; exact (Kp.refl w).alloc)).add (D := w.heap.size) (t := 23) (c := [.int .i64 d.kind, .int .i64 d.key]) (by rw [hw1]; exact BC.new w _ _) (by unfold okBT; decide))
  try rw [← hw1]
  clear hw1 H0
  generalize w.heap.size = D at *
  have hb := H1.out.less.bsl
  obtain ⟨-, t1, t2, t3, t4, fz⟩ := H1.out.less.hand hi
  obtain ⟨q0, q1, q2, q3, -⟩ := H1.out.less.bead hcn
  obtain ⟨p0, p1, p2, p3, fb⟩ := H1.out.less.bead hp
  have d0 := H1.out.dd0
  have d1 := H1.out.dd1
  go_quiet (fail)
  obtain ⟨w2, hw⟩ : ∃ x, x = w1.drewN nq := ⟨_, rfl⟩
  try rw [← hw]
  have H2 := hide (H1.out.kpw (w' := w2) (by rw [hw]; (focus ((repeat (first | (with_reducible assumption) | (with_reducible exact Kp.refl _) | (with_reducible apply Kp.drew) | (with_reducible apply Kp.drewN) | ((with_reducible apply Kp.setR); (focus (first | (with_reducible assumption) | (simp; done) | (simp; omega)))) | (with_reducible apply Kp.alloc) | ((with_reducible apply Kp.call); (with_reducible assumption)) | ((with_reducible apply Kp.app); (with_reducible assumption)))); done))))
  clear hw
  clear hb t1 t2 t3 t4 fz q0 q1 q2 q3 p0 p1 p2 p3 fb d0 d1
  have hb := H2.out.less.bsl
  obtain ⟨-, t1, t2, t3, t4, fz⟩ := H2.out.less.hand hi
  obtain ⟨q0, q1, q2, q3, -⟩ := H2.out.less.bead hcn
  obtain ⟨p0, p1, p2, p3, fb⟩ := H2.out.less.bead hp
  have d0 := H2.out.dd0
  have d1 := H2.out.dd1
  obtain ⟨x, kx⟩ : ∃ x, (s.m.ky (s.hd i).c == d.key) = x := ⟨_, rfl⟩
  go_wp2_with fail
  go_quiet (fail)
  obtain ⟨w3, hw⟩ : ∃ x, x = w2.drewN nq := ⟨_, rfl⟩
  try rw [← hw]
  have H3 := hide (H2.out.kpw (w' := w3) (by rw [hw]; (focus ((repeat (first | (with_reducible assumption) | (with_reducible exact Kp.refl _) | (with_reducible apply Kp.drew) | (with_reducible apply Kp.drewN) | ((with_reducible apply Kp.setR); (focus (first | (with_reducible assumption) | (simp; done) | (simp; omega)))) | (with_reducible apply Kp.alloc) | ((with_reducible apply Kp.call); (with_reducible assumption)) | ((with_reducible apply Kp.app); (with_reducible assumption)))); done))))
  clear hw
  clear hb t1 t2 t3 t4 fz q0 q1 q2 q3 p0 p1 p2 p3 fb d0 d1
  have hb := H3.out.less.bsl
  obtain ⟨-, t1, t2, t3, t4, fz⟩ := H3.out.less.hand hi
  obtain ⟨q0, q1, q2, q3, -⟩ := H3.out.less.bead hcn
  obtain ⟨p0, p1, p2, p3, fb⟩ := H3.out.less.bead hp
  have d0 := H3.out.dd0
  have d1 := H3.out.dd1
  clear H1 H2
  have j1 : (d.kind == 1) = false := by rw [Hhk.out]; rfl
  have j2 : (d.kind == 2) = true := by rw [Hhk.out]; rfl
  have ba := H3.out.less.balg
  have kn : (((K.alg : Nat) : Int) == 4) = false := beq_eq_false_iff_ne.2 (by have := Hhn.out; omega)
  go_wp2
  refine ⟨rfl, .bool false, by simp [results, Try.results36, go_sem], rfl, ?_⟩
  exact ⟨bg, bc, dv, H3.out.less.setat hi 0⟩
set_option maxRecDepth 100000 in
theorem bm_3y (h : BQ K s dl bg bc dv w) {i : Nat} (hi : i < K.nh) (hp : (s.hd i).p < s.m.n) (hcn : (s.hd i).c < s.m.n) {d : Dd} (h2 : (s.hd i).plc = 3) (hkp : s.m.ky (s.hd i).p ≠ 10) (hkc : s.m.ky (s.hd i).c ≠ 10) (hcl : clean s.m (s.hd i) = true) :
    Calls Try.prog 36 #[ptr K.b, hp5 K i, deedV d] w (HP K s dl i (markS (K.alg == 4) s.m (s.hd i) d)) := by
  have er : markS (K.alg == 4) s.m (s.hd i) d = (s.m.drop (s.hd i).p (s.hd i).c, s.hd i, true) := by
    unfold markS; rw [h2]; simp [hcl]
  rw [er]
  have Hhkp := hide hkp
  have Hhkc := hide hkc
  have Hhcl := hide hcl
  clear hkp hkc hcl
  unfold HP hp5 ptr deedV
  have H0 := hide h
  clear h er
  go_enter Try.func36, Try.ntmps36
  go_upto_region 1 with fail
  obtain ⟨w1, hw1⟩ : ∃ x, x = w.alloc (.cells #[.int .i64 d.kind, .int .i64 d.key] 23) := ⟨_, rfl⟩
  have H1 := hide ((H0.out.kpw (w' := w1) (by rw [hw1]; exact (Kp.refl w).alloc)).add (D := w.heap.size) (t := 23) (c := [.int .i64 d.kind, .int .i64 d.key]) (by rw [hw1]; exact BC.new w _ _) (by unfold okBT; decide))
  try rw [← hw1]
  clear hw1 H0
  generalize w.heap.size = D at *
  have hb := H1.out.less.bsl
  obtain ⟨-, t1, t2, t3, t4, fz⟩ := H1.out.less.hand hi
  obtain ⟨q0, q1, q2, q3, -⟩ := H1.out.less.bead hcn
  obtain ⟨p0, p1, p2, p3, fb⟩ := H1.out.less.bead hp
  have d0 := H1.out.dd0
  have d1 := H1.out.dd1
  go_quiet (fail)
  obtain ⟨w2, hw⟩ : ∃ x, x = w1.drewN nq := ⟨_, rfl⟩
  try rw [← hw]
  have H2 := hide (H1.out.kpw (w' := w2) (by rw [hw]; (focus ((repeat (first | (with_reducible assumption) | (with_reducible exact Kp.refl _) | (with_reducible apply Kp.drew) | (with_reducible apply Kp.drewN) | ((with_reducible apply Kp.setR); (focus (first | (with_reducible assumption) | (simp; done) | (simp; omega)))) | (with_reducible apply Kp.alloc) | ((with_reducible apply Kp.call); (with_reducible assumption)) | ((with_reducible apply Kp.app); (with_reducible assumption)))); done))))
  clear hw
  clear hb t1 t2 t3 t4 fz q0 q1 q2 q3 p0 p1 p2 p3 fb d0 d1
  have hb := H2.out.less.bsl
  obtain ⟨-, t1, t2, t3, t4, fz⟩ := H2.out.less.hand hi
  obtain ⟨q0, q1, q2, q3, -⟩ := H2.out.less.bead hcn
  obtain ⟨p0, p1, p2, p3, fb⟩ := H2.out.less.bead hp
  have d0 := H2.out.dd0
  have d1 := H2.out.dd1
  obtain ⟨x, kx⟩ : ∃ x, (s.m.ky (s.hd i).c == d.key) = x := ⟨_, rfl⟩
  go_wp2_with fail
  go_quiet (fail)
  obtain ⟨w3, hw⟩ : ∃ x, x = w2.drewN nq := ⟨_, rfl⟩
  try rw [← hw]
  have H3 := hide (H2.out.kpw (w' := w3) (by rw [hw]; (focus ((repeat (first | (with_reducible assumption) | (with_reducible exact Kp.refl _) | (with_reducible apply Kp.drew) | (with_reducible apply Kp.drewN) | ((with_reducible apply Kp.setR); (focus (first | (with_reducible assumption) | (simp; done) | (simp; omega)))) | (with_reducible apply Kp.alloc) | ((with_reducible apply Kp.call); (with_reducible assumption)) | ((with_reducible apply Kp.app); (with_reducible assumption)))); done))))
  clear hw
  clear hb t1 t2 t3 t4 fz q0 q1 q2 q3 p0 p1 p2 p3 fb d0 d1
  have hb := H3.out.less.bsl
  obtain ⟨-, t1, t2, t3, t4, fz⟩ := H3.out.less.hand hi
  obtain ⟨q0, q1, q2, q3, -⟩ := H3.out.less.bead hcn
  obtain ⟨p0, p1, p2, p3, fb⟩ := H3.out.less.bead hp
  have d0 := H3.out.dd0
  have d1 := H3.out.dd1
  clear H1 H2
  go_wp2_with fail
  refine (clean_b H3.out hi hp Hhkp.out).mono ?_
  rintro e w5 ⟨rfl, m9, rfl⟩
  rw [Hhcl.out]
  obtain ⟨w4, hw⟩ : ∃ x, x = w3.drewN m9 := ⟨_, rfl⟩
  try rw [← hw]
  have H4 := hide (H3.out.kpw (w' := w4) (by rw [hw]; (focus ((repeat (first | (with_reducible assumption) | (with_reducible exact Kp.refl _) | (with_reducible apply Kp.drew) | (with_reducible apply Kp.drewN) | ((with_reducible apply Kp.setR); (focus (first | (with_reducible assumption) | (simp; done) | (simp; omega)))) | (with_reducible apply Kp.alloc) | ((with_reducible apply Kp.call); (with_reducible assumption)) | ((with_reducible apply Kp.app); (with_reducible assumption)))); done))))
  clear hw
  clear hb t1 t2 t3 t4 fz q0 q1 q2 q3 p0 p1 p2 p3 fb d0 d1
  have hb := H4.out.less.bsl
  obtain ⟨-, t1, t2, t3, t4, fz⟩ := H4.out.less.hand hi
  obtain ⟨q0, q1, q2, q3, -⟩ := H4.out.less.bead hcn
  obtain ⟨p0, p1, p2, p3, fb⟩ := H4.out.less.bead hp
  have d0 := H4.out.dd0
  have d1 := H4.out.dd1
  clear H3
  have px : nxt s.m (s.hd i).c = (s.m.nx (s.hd i).c : Int) := nxt_nx _ Hhkc.out
  rw [px] at q1
  go_upto_region 35 with fail
  go_still_tail 14, (by kernel_rfl)
  change wpList _ _ _ _ _ w4.drew
  obtain ⟨w6, hw⟩ : ∃ x, x = w4.drew := ⟨_, rfl⟩
  try rw [← hw]
  have H5 := hide (H4.out.kpw (w' := w6) (by rw [hw]; (focus ((repeat (first | (with_reducible assumption) | (with_reducible exact Kp.refl _) | (with_reducible apply Kp.drew) | (with_reducible apply Kp.drewN) | ((with_reducible apply Kp.setR); (focus (first | (with_reducible assumption) | (simp; done) | (simp; omega)))) | (with_reducible apply Kp.alloc) | ((with_reducible apply Kp.call); (with_reducible assumption)) | ((with_reducible apply Kp.app); (with_reducible assumption)))); done))))
  clear hw
  clear hb t1 t2 t3 t4 fz q0 q1 q2 q3 p0 p1 p2 p3 fb d0 d1
  have hb := H5.out.less.bsl
  obtain ⟨-, t1, t2, t3, t4, fz⟩ := H5.out.less.hand hi
  obtain ⟨q0, q1, q2, q3, -⟩ := H5.out.less.bead hcn
  obtain ⟨p0, p1, p2, p3, fb⟩ := H5.out.less.bead hp
  have d0 := H5.out.dd0
  have d1 := H5.out.dd1
  clear H4
  have px : nxt s.m (s.hd i).c = (s.m.nx (s.hd i).c : Int) := nxt_nx _ Hhkc.out
  rw [px] at q1
  go_wp2
  refine ⟨rfl, .bool true, by simp [results, Try.results36, go_sem], rfl, ?_⟩
  refine ⟨bg, bc, dv, ?_⟩
  rw [up_eta]
  exact H5.out.less.setnx (i := (s.hd i).p) (c := s.m.nx (s.hd i).c) hp Hhkp.out
set_option maxRecDepth 100000 in
theorem bm_3n (h : BQ K s dl bg bc dv w) {i : Nat} (hi : i < K.nh) (hp : (s.hd i).p < s.m.n) (hcn : (s.hd i).c < s.m.n) {d : Dd} (h2 : (s.hd i).plc = 3) (hkp : s.m.ky (s.hd i).p ≠ 10) (hcl : clean s.m (s.hd i) = false) :
    Calls Try.prog 36 #[ptr K.b, hp5 K i, deedV d] w (HP K s dl i (markS (K.alg == 4) s.m (s.hd i) d)) := by
  have er : markS (K.alg == 4) s.m (s.hd i) d = (s.m, s.hd i, true) := by
    unfold markS; rw [h2]; simp [hcl]
  rw [er]
  have Hhkp := hide hkp
  have Hhcl := hide hcl
  clear hkp hcl
  unfold HP hp5 ptr deedV
  have H0 := hide h
  clear h er
  go_enter Try.func36, Try.ntmps36
  go_upto_region 1 with fail
  obtain ⟨w1, hw1⟩ : ∃ x, x = w.alloc (.cells #[.int .i64 d.kind, .int .i64 d.key] 23) := ⟨_, rfl⟩
  have H1 := hide ((H0.out.kpw (w' := w1) (by rw [hw1]; exact (Kp.refl w).alloc)).add (D := w.heap.size) (t := 23) (c := [.int .i64 d.kind, .int .i64 d.key]) (by rw [hw1]; exact BC.new w _ _) (by unfold okBT; decide))
  try rw [← hw1]
  clear hw1 H0
  generalize w.heap.size = D at *
  have hb := H1.out.less.bsl
  obtain ⟨-, t1, t2, t3, t4, fz⟩ := H1.out.less.hand hi
  obtain ⟨q0, q1, q2, q3, -⟩ := H1.out.less.bead hcn
  obtain ⟨p0, p1, p2, p3, fb⟩ := H1.out.less.bead hp
  have d0 := H1.out.dd0
  have d1 := H1.out.dd1
  go_quiet (fail)
  obtain ⟨w2, hw⟩ : ∃ x, x = w1.drewN nq := ⟨_, rfl⟩
  try rw [← hw]
  have H2 := hide (H1.out.kpw (w' := w2) (by rw [hw]; (focus ((repeat (first | (with_reducible assumption) | (with_reducible exact Kp.refl _) | (with_reducible apply Kp.drew) | (with_reducible apply Kp.drewN) | ((with_reducible apply Kp.setR); (focus (first | (with_reducible assumption) | (simp; done) | (simp; omega)))) | (with_reducible apply Kp.alloc) | ((with_reducible apply Kp.call); (with_reducible assumption)) | ((with_reducible apply Kp.app); (with_reducible assumption)))); done))))
  clear hw
  clear hb t1 t2 t3 t4 fz q0 q1 q2 q3 p0 p1 p2 p3 fb d0 d1
  have hb := H2.out.less.bsl
  obtain ⟨-, t1, t2, t3, t4, fz⟩ := H2.out.less.hand hi
  obtain ⟨q0, q1, q2, q3, -⟩ := H2.out.less.bead hcn
  obtain ⟨p0, p1, p2, p3, fb⟩ := H2.out.less.bead hp
  have d0 := H2.out.dd0
  have d1 := H2.out.dd1
  obtain ⟨x, kx⟩ : ∃ x, (s.m.ky (s.hd i).c == d.key) = x := ⟨_, rfl⟩
  go_wp2_with fail
  go_quiet (fail)
  obtain ⟨w3, hw⟩ : ∃ x, x = w2.drewN nq := ⟨_, rfl⟩
  try rw [← hw]
  have H3 := hide (H2.out.kpw (w' := w3) (by rw [hw]; (focus ((repeat (first | (with_reducible assumption) | (with_reducible exact Kp.refl _) | (with_reducible apply Kp.drew) | (with_reducible apply Kp.drewN) | ((with_reducible apply Kp.setR); (focus (first | (with_reducible assumption) | (simp; done) | (simp; omega)))) | (with_reducible apply Kp.alloc) | ((with_reducible apply Kp.call); (with_reducible assumption)) | ((with_reducible apply Kp.app); (with_reducible assumption)))); done))))
  clear hw
  clear hb t1 t2 t3 t4 fz q0 q1 q2 q3 p0 p1 p2 p3 fb d0 d1
  have hb := H3.out.less.bsl
  obtain ⟨-, t1, t2, t3, t4, fz⟩ := H3.out.less.hand hi
  obtain ⟨q0, q1, q2, q3, -⟩ := H3.out.less.bead hcn
  obtain ⟨p0, p1, p2, p3, fb⟩ := H3.out.less.bead hp
  have d0 := H3.out.dd0
  have d1 := H3.out.dd1
  clear H1 H2
  go_wp2_with fail
  refine (clean_b H3.out hi hp Hhkp.out).mono ?_
  rintro e w5 ⟨rfl, m9, rfl⟩
  rw [Hhcl.out]
  obtain ⟨w4, hw⟩ : ∃ x, x = w3.drewN m9 := ⟨_, rfl⟩
  try rw [← hw]
  have H4 := hide (H3.out.kpw (w' := w4) (by rw [hw]; (focus ((repeat (first | (with_reducible assumption) | (with_reducible exact Kp.refl _) | (with_reducible apply Kp.drew) | (with_reducible apply Kp.drewN) | ((with_reducible apply Kp.setR); (focus (first | (with_reducible assumption) | (simp; done) | (simp; omega)))) | (with_reducible apply Kp.alloc) | ((with_reducible apply Kp.call); (with_reducible assumption)) | ((with_reducible apply Kp.app); (with_reducible assumption)))); done))))
  clear hw
  clear hb t1 t2 t3 t4 fz q0 q1 q2 q3 p0 p1 p2 p3 fb d0 d1
  have hb := H4.out.less.bsl
  obtain ⟨-, t1, t2, t3, t4, fz⟩ := H4.out.less.hand hi
  obtain ⟨q0, q1, q2, q3, -⟩ := H4.out.less.bead hcn
  obtain ⟨p0, p1, p2, p3, fb⟩ := H4.out.less.bead hp
  have d0 := H4.out.dd0
  have d1 := H4.out.dd1
  clear H3
  go_wp2
  refine ⟨rfl, .bool true, by simp [results, Try.results36, go_sem], rfl, ?_⟩
  refine ⟨bg, bc, dv, ?_⟩
  rw [up_eta]
  exact H4.out.less
end Go.Proofs.Ytoihdnekkgpcoaa
namespace Go.Proofs.Ytoihdnekkgpcoaa
open Go.ChangeShapes Go.WideShapes Go.ChangeAt Go.RowKit
set_option linter.unusedVariables false
set_option linter.unusedSimpArgs false

variable {K : Bl} {s : St} {dl : List Tl} {bg bc : Nat} {dv : Value} {w w' : World}
theorem ho_any (h : BQ K s dl bg bc dv w) (mi : MW s.m) {i : Nat} (hi : i < K.nh) (pp : (s.hd i).p < s.m.n) (pc : (s.hd i).c < s.m.n) {d : Dd} (hk : okD d) {A : Prop} (q : QLk s.m (s.hd i) d A) (hlim : s.m.n ≤ 100000) :
    Calls Try.prog 34 #[ptr K.b, hp5 K i, deedV d] w (HP K s dl i (lockS s.m (s.hd i) d)) := by
  obtain ⟨q1, q2⟩ := q
  have hk0 : s.m.ky 0 ≠ 10 := by rw [mi.k0]; omega
  have hky := hk.2.1
  have c3 : (s.hd i).plc = 0 ∨ (s.hd i).plc = 1 ∨ (s.hd i).plc = 2 := by omega
  rcases c3 with e | e | e
  · cases hl : s.m.lk 0 with
    | true => exact ho_0l h hi pp pc e hl
    | false => exact ho_0f h hi pp pc e hk0 hl
  · cases hl : s.m.lk (s.hd i).c with
    | true => exact ho_1l h hi pp pc e hl
    | false => exact ho_1f h hi pp pc e hl
  · obtain ⟨p1, p2, p3, p4, p5⟩ := q2 (by omega)
    have hkp : s.m.ky (s.hd i).p ≠ 10 := by omega
    by_cases h1 : s.m.ky (s.hd i).c < d.key
    · exact ho_on h hi pp pc e (by omega) h1
    · by_cases hke : s.m.ky (s.hd i).c = d.key
      · by_cases hk2 : d.kind = 2
        · exact ho_cut h hi pp pc e hkp hky h1 hk2 hke
        · by_cases hk1 : d.kind = 1
          · exact ho_same1 h hi pp pc e hkp hky h1 hk1 hke
          · exact ho_no h hi pp pc e hkp hky h1 hk1 (fun x => absurd x hk2)
      · by_cases hk1 : d.kind = 1
        · exact ho_add h hi pp pc e hkp hky h1 hk1 hke hlim
        · exact ho_no h hi pp pc e hkp hky h1 hk1 (fun _ => hke)
theorem bl_any (h : BQ K s dl bg bc dv w) (mi : MW s.m) {i : Nat} (hi : i < K.nh) (pp : (s.hd i).p < s.m.n) (pc : (s.hd i).c < s.m.n) {d : Dd} (hk : okD d) {A : Prop} (q : QLz s.m (s.hd i) d A) (hlim : s.m.n ≤ 100000) :
    Calls Try.prog 35 #[ptr K.b, hp5 K i, deedV d] w (HP K s dl i (lazyS s.m (s.hd i) d)) := by
  obtain ⟨q1, q2, q3, q4, q5⟩ := q
  have hk0 : s.m.ky 0 ≠ 10 := by rw [mi.k0]; omega
  have hky := hk.2.1
  have c6 : (s.hd i).plc = 0 ∨ (s.hd i).plc = 1 ∨ (s.hd i).plc = 2 ∨ (s.hd i).plc = 3 ∨ (s.hd i).plc = 4 ∨ (s.hd i).plc = 5 := by omega
  rcases c6 with e | e | e | e | e | e
  · exact bl_0 h hi pp pc e hk0
  · by_cases h1 : s.m.ky (s.hd i).c < d.key
    · exact bl_1on h hi pp pc e (by omega) h1
    · by_cases hk3 : d.kind = 3
      · exact bl_has h hi pp pc e h1 hk3
      · exact bl_first h hi pp pc e h1 hk3
  · exact bl_2 h hi pp pc e
  · cases hl : s.m.lk (s.hd i).c with
    | true => exact bl_3l h hi pp pc e hl
    | false => exact bl_3f h hi pp pc e hl
  · obtain ⟨p1, p2, p3⟩ := q2 (by omega)
    obtain ⟨k1, k2⟩ := q4 (by omega)
    have hkp : s.m.ky (s.hd i).p ≠ 10 := by omega
    cases a1 : s.m.mr (s.hd i).p with
    | true => exact bl_4fa h hi pp pc e hkp a1
    | false => cases a2 : s.m.mr (s.hd i).c with
      | true => exact bl_4fb h hi pp pc e hkp a1 a2
      | false =>
        by_cases a3 : s.m.nx (s.hd i).p = (s.hd i).c
        · by_cases hk1 : d.kind = 1
          · by_cases hke : s.m.ky (s.hd i).c = d.key
            · exact bl_4same1 h hi pp pc e hkp a1 a2 a3 hk1 hke
            · exact bl_4add h hi pp pc e hkp a1 a2 a3 hk1 (by omega) hlim hke
          · have hk2 : d.kind = 2 := by rcases hk.2.2 with x | x | x; exact absurd x hk1; exact x; exact absurd x k2
            by_cases hke : s.m.ky (s.hd i).c = d.key
            · exact bl_4mark h hi pp pc e hkp a1 a2 a3 hk2 hke
            · exact bl_4no h hi pp pc e hkp a1 a2 a3 hk2 hke
        · exact bl_4fc h hi pp pc e hkp a1 a2 a3
  · obtain ⟨p1, p2, p3⟩ := q2 (by omega)
    obtain ⟨w1, w2, w3, w4, w5, w6⟩ := q5 e
    exact bl_5 h hi pp pc e (by omega) (by omega)
theorem bm_any (h : BQ K s dl bg bc dv w) (mi : MW s.m) {i : Nat} (hi : i < K.nh) (pp : (s.hd i).p < s.m.n) (pc : (s.hd i).c < s.m.n) {d : Dd} (hk : okD d) (q : QN s.m (s.hd i) d) (hlim : s.m.n ≤ 100000) :
    Calls Try.prog 36 #[ptr K.b, hp5 K i, deedV d] w (HP K s dl i (markS (K.alg == 4) s.m (s.hd i) d)) := by
  obtain ⟨q1, q2, q3, q4⟩ := q
  have hk0 : s.m.ky 0 ≠ 10 := by rw [mi.k0]; omega
  obtain ⟨hk1, hky, hkk⟩ := hk
  have c4 : (s.hd i).plc = 0 ∨ (s.hd i).plc = 1 ∨ (s.hd i).plc = 2 ∨ (s.hd i).plc = 3 := by omega
  rcases c4 with e | e | e | e
  · exact bm_0 h hi pp pc e hk0
  · obtain ⟨p1, p2, p3⟩ := q2 (by omega)
    have hkp : s.m.ky (s.hd i).p ≠ 10 := by omega
    cases hm : s.m.mr (s.hd i).c with
    | true =>
      by_cases hk3 : d.kind = 3
      · by_cases hlt : s.m.ky (s.hd i).c < d.key
        · exact bm_1onb h hi pp pc e (by omega) hlt hm hk3
        · by_cases hke : s.m.ky (s.hd i).c = d.key
          · exact bm_hastb h hi pp pc e hlt hk3 hm hke
          · exact bm_hasfb h hi pp pc e hlt hk3 hm hke
      · cases hcl : clean s.m (s.hd i) with
        | false => exact bm_1un h hi pp pc e hkp hm hk3 hcl
        | true =>
          obtain ⟨a, b⟩ := clean_iff.1 hcl
          have h3 := mi.ri _ p1 hkp
          rw [b] at h3
          have h4 := mi.md _ p2 hm
          exact bm_1drop h hi pp pc e hkp (by omega) (by intro e2; rw [e2] at h3; omega) hm hk3 hcl
    | false =>
      by_cases hlt : s.m.ky (s.hd i).c < d.key
      · exact bm_1ona h hi pp pc e (by omega) hlt hm
      · rcases hkk with k | k | k
        · by_cases hke : s.m.ky (s.hd i).c = d.key
          · exact bm_1no1 h hi pp pc e hlt k hm hke
          · exact bm_1yes1 h hi pp pc e hlt k hm hke
        · by_cases hke : s.m.ky (s.hd i).c = d.key
          · exact bm_1yes2 h hi pp pc e hlt k hm hke
          · exact bm_1no2 h hi pp pc e hlt k hm hke
        · by_cases hke : s.m.ky (s.hd i).c = d.key
          · exact bm_hasta h hi pp pc e hlt k hm hke
          · exact bm_hasfa h hi pp pc e hlt k hm hke
  · obtain ⟨p1, p2, p3⟩ := q2 (by omega)
    obtain ⟨r1, r2, r3⟩ := q3 e
    have hkp : s.m.ky (s.hd i).p ≠ 10 := by omega
    by_cases hk1 : d.kind = 1
    · by_cases hn : K.alg = 4
      · exact bm_2addn h hi pp pc e hkp (by omega) hlim hk1 hn
      · cases hcl : clean s.m (s.hd i) with
        | true => exact bm_2addc h hi pp pc e hkp (by omega) hlim hk1 hn hcl
        | false => exact bm_2addf h hi pp pc e hkp hk1 hn hcl
    · have hk2 : d.kind = 2 := by omega
      have h5 := r2 hk2
      by_cases hn : K.alg = 4
      · exact bm_2nv h hi pp pc e hkp (by omega) hk2 hn
      · cases hmc : s.m.mr (s.hd i).c with
        | true => exact bm_2un h hi pp pc e hk2 hn hmc
        | false => exact bm_2mark h hi pp pc e hk2 hn hmc
  · obtain ⟨p1, p2, p3⟩ := q2 (by omega)
    obtain ⟨r1, r2⟩ := q4 e
    cases hcl : clean s.m (s.hd i) with
    | true => exact bm_3y h hi pp pc e (by omega) (by omega) hcl
    | false => exact bm_3n h hi pp pc e (by omega) hcl
def wayB (alg : Nat) : Nat := if alg = 1 then 34 else if alg = 2 then 35 else 36
theorem way_b {P : List (List Dd)} {l : List Int} (h : BQ K s dl bg bc dv w) (ok : OkIn l P) (I : WInv K.alg P l s) {i : Nat} (hi : i < K.nh) (pp : (s.hd i).p < s.m.n) (pc : (s.hd i).c < s.m.n) (hlim : s.m.n ≤ 100000) :
    Calls Try.prog (wayB K.alg) #[ptr K.b, hp5 K i, deedV (dd P i (s.deed i))] w (HP K s dl i (algS K.alg s.m (s.hd i) (dd P i (s.deed i)))) := by
  have hk := dd_ok ok.deeds i (s.deed i)
  rcases I with ⟨e, I⟩ | ⟨e, I⟩ | ⟨e, I⟩
  · obtain ⟨_, _, j, _⟩ := I.ex
    rw [show wayB K.alg = 34 by rw [e]; rfl, show algS K.alg s.m (s.hd i) (dd P i (s.deed i)) = lockS s.m (s.hd i) (dd P i (s.deed i)) by rw [e]; rfl]
    exact ho_any h j.mi.mw hi pp pc hk (j.hq i).1 hlim
  · obtain ⟨_, _, j, _⟩ := I.ex
    rw [show wayB K.alg = 35 by rw [e]; rfl, show algS K.alg s.m (s.hd i) (dd P i (s.deed i)) = lazyS s.m (s.hd i) (dd P i (s.deed i)) by rw [e]; rfl]
    exact bl_any h j.mi.mw hi pp pc hk (j.hq i).1 hlim
  · rw [show wayB K.alg = 36 by rcases e with e | e <;> rw [e] <;> rfl, show algS K.alg s.m (s.hd i) (dd P i (s.deed i)) = markS (K.alg == 4) s.m (s.hd i) (dd P i (s.deed i)) by rcases e with e | e <;> rw [e] <;> rfl]
    exact bm_any h I.1 hi pp pc hk (I.2 i) hlim
/-- Both beads of a hand stay beads. -/
def PC (s : St) : Prop := ∀ i, (s.hd i).p < s.m.n ∧ (s.hd i).c < s.m.n
theorem lockS_pc (m : Mm) (h : Hd) (d : Dd) (nl : ∀ i, i < m.n → m.nx i < m.n) (n0 : 0 < m.n) (a : h.p < m.n ∧ h.c < m.n) : m.n ≤ (lockS m h d).1.n ∧ (lockS m h d).2.1.p < m.n ∧ (lockS m h d).2.1.c < m.n := by
  have h1 := nl _ a.2
  have h2 := nl _ n0
  unfold lockS
  split
  · split
    · exact ⟨Nat.le_refl _, a⟩
    · exact ⟨Nat.le_refl _, n0, h2⟩
  · split
    · exact ⟨Nat.le_refl _, a⟩
    · exact ⟨Nat.le_refl _, a⟩
  · repeat' split
    all_goals first | exact ⟨Nat.le_refl _, a⟩ | exact ⟨Nat.le_succ _, a⟩ | exact ⟨Nat.le_refl _, a.2, h1⟩
theorem lazyS_pc (m : Mm) (h : Hd) (d : Dd) (nl : ∀ i, i < m.n → m.nx i < m.n) (n0 : 0 < m.n) (a : h.p < m.n ∧ h.c < m.n) : m.n ≤ (lazyS m h d).1.n ∧ (lazyS m h d).2.1.p < m.n ∧ (lazyS m h d).2.1.c < m.n := by
  have h1 := nl _ a.2
  have h2 := nl _ n0
  unfold lazyS lazy2
  split <;> repeat' split
  all_goals first | exact ⟨Nat.le_refl _, a⟩ | exact ⟨Nat.le_succ _, a⟩ | exact ⟨Nat.le_refl _, a.2, h1⟩ | exact ⟨Nat.le_refl _, n0, h2⟩
theorem markS_pc (nv : Bool) (m : Mm) (h : Hd) (d : Dd) (nl : ∀ i, i < m.n → m.nx i < m.n) (n0 : 0 < m.n) (a : h.p < m.n ∧ h.c < m.n) : m.n ≤ (markS nv m h d).1.n ∧ (markS nv m h d).2.1.p < m.n ∧ (markS nv m h d).2.1.c < m.n := by
  have h1 := nl _ a.2
  have h2 := nl _ n0
  unfold markS
  split <;> repeat' split
  all_goals first | exact ⟨Nat.le_refl _, a⟩ | exact ⟨Nat.le_succ _, a⟩ | exact ⟨Nat.le_refl _, a.2, h1⟩ | exact ⟨Nat.le_refl _, n0, h2⟩ | exact ⟨Nat.le_refl _, a.1, h1⟩
theorem algS_pc (alg : Nat) (m : Mm) (h : Hd) (d : Dd) (nl : ∀ i, i < m.n → m.nx i < m.n) (n0 : 0 < m.n) (a : h.p < m.n ∧ h.c < m.n) : m.n ≤ (algS alg m h d).1.n ∧ (algS alg m h d).2.1.p < m.n ∧ (algS alg m h d).2.1.c < m.n := by
  unfold algS
  split
  · exact lockS_pc m h d nl n0 a
  · split
    · exact lazyS_pc m h d nl n0 a
    · exact markS_pc _ m h d nl n0 a
theorem pc_stp {s : St} (h : PC s) (alg : Nat) (d : Dd) (mi : MW s.m) (i : Nat) : PC (stp alg d s i) := by
  obtain ⟨a1, a2, a3⟩ := algS_pc alg s.m (s.hd i) d mi.nl mi.pos (h i)
  have n0 := mi.pos
  intro j
  have hj := h j
  unfold stp
  dsimp only
  by_cases hf : (algS alg s.m (s.hd i) d).2.2 = true
  · rw [if_pos hf]
    show (up s.hd i hd0 j).p < (algS alg s.m (s.hd i) d).1.n ∧ (up s.hd i hd0 j).c < (algS alg s.m (s.hd i) d).1.n
    by_cases e : j = i
    · rw [e, up_same]; exact ⟨by show 0 < _; omega, by show 0 < _; omega⟩
    · rw [up_ne _ _ e]; omega
  · rw [if_neg hf]
    show (up s.hd i (algS alg s.m (s.hd i) d).2.1 j).p < (algS alg s.m (s.hd i) d).1.n ∧ (up s.hd i (algS alg s.m (s.hd i) d).2.1 j).c < (algS alg s.m (s.hd i) d).1.n
    by_cases e : j = i
    · rw [e, up_same]; omega
    · rw [up_ne _ _ e]; omega
end Go.Proofs.Ytoihdnekkgpcoaa
namespace Go.Proofs.Ytoihdnekkgpcoaa
open Go.ChangeShapes Go.WideShapes Go.ChangeAt Go.RowKit
set_option linter.unusedVariables false
set_option linter.unusedSimpArgs false

set_option maxRecDepth 100000 in
set_option maxHeartbeats 2000000 in
theorem indexDone2_any (D : List Tl) (v : Value) (F : Nat) (cap cap2 : Value) (p : Tl → Bool) (w : World) (hr : RD w eDone v D) (hE : Ent F) (hF : ∀ x ∈ D, ∀ W, Kp w W → Calls Try.prog F #[tlV x, cap, cap2] W (fun e w' => e = .returned (.bool (p x)) ∧ Kp W w')) :
    Calls Try.prog 32 #[v, .func (.func F) #[] #[cap, cap2]] w (IxPost D p w) := by
  obtain ⟨A, c, rfl, hcl, hm⟩ := hr.shape
  have HR := hide hr
  have HE := hide hE
  have HF := hide hF
  clear hr hE hF
  go_enter Try.func32, Try.ntmps32
  go_wp2
  go_loopw [8] (fun iv wx => IxD D p w iv wx) (fun i _ => D.length - (intOf i).toNat)
  case atStart => exact ⟨0, by omega, rfl, fun j h a => by omega, Kp.refl _⟩
  case round =>
    obtain ⟨k, hk, rfl, hall, hkp⟩ := hrel
    have HALL := hide hall
    clear hall
    by_cases hlt : k < D.length
    · obtain ⟨b, o, e, _, x0, x1, x2, x3, x4⟩ := (HR.out.kp hkp).done hlt
      cases e
      have hc := HF.out _ (List.getElem_mem hlt) wr hkp
      obtain ⟨x, hx⟩ : ∃ x, x = D[k]'hlt := ⟨_, rfl⟩
      rw [← hx] at x0 x1 x2 x3 x4 hc
      have HC := hide hc
      have HX := hide hx
      have HKP := hide hkp
      have hlti : (k : Int) < (D.length : Int) := by omega
      have HLT := hide hlt
      obtain ⟨xa, xe, xb, xf, xi⟩ := x
      unfold tlV at HC
      simp only at x0 x1 x2 x3 x4 HC
      clear hc hx hkp
      cases hp : p (xa, xe, ⟨xb, xf, xi⟩) with
      | true =>
        rw [hp] at HC
        have HPX := hide hp
        clear hp
        go_wp2_with fail
        rw [HE.out]
        refine HC.out.mono ?_
        rintro e w1 ⟨rfl, hk1⟩
        have HK1 := hide (HKP.out.trans hk1)
        clear hk1
        go_wp2
        go_ret
        exact ⟨k, rfl, HK1.out, .inl ⟨k, HLT.out, rfl, by rw [← HX.out]; exact HPX.out, HALL.out⟩⟩
      | false =>
        rw [hp] at HC
        have HPX := hide hp
        clear hp
        go_wp2_with fail
        rw [HE.out]
        refine HC.out.mono ?_
        rintro e w1 ⟨rfl, hk1⟩
        have HK1 := hide (HKP.out.trans hk1)
        clear hk1
        go_wp2
        go_roundw
        case rel =>
          exact ⟨k + 1, by have := HLT.out; omega, by go_num, fun j h a => by
            by_cases e : j = k
            · subst e; rw [← HX.out]; exact HPX.out
            · exact HALL.out j h (by omega), HK1.out⟩
        case measure => simp [intOf]; have := HLT.out; omega
    · have HKP := hide hkp
      have HN : Hid (∀ x ∈ D, p x = false) := hide (fun x hx => by
        obtain ⟨j, hj, rfl⟩ := List.mem_iff_getElem.1 hx
        exact HALL.out j hj (by omega))
      have hlti : ¬ (k : Int) < (D.length : Int) := by omega
      clear hkp hlt
      go_wp2
      go_ret
      exact ⟨-1, rfl, HKP.out, .inr ⟨rfl, HN.out⟩⟩
set_option maxRecDepth 100000 in
theorem step1_any (x : Tl) (D1 D2 i : Nat) (hg o5 e : Nat) (w : World) (h1 : w.cell? ⟨D1, 0, none⟩ = some (.int .i64 i)) (h2 : w.cell? ⟨D2, 0, none⟩ = some (.pointer (some ⟨hg, o5, none⟩))) (h3 : w.cell? ⟨hg, o5, none⟩ = some (.int .i64 e)) :
    Calls Try.prog 33 #[tlV x, ptr D1, ptr D2] w (fun r w' => r = .returned (.bool (x.1 == i && x.2.1 == e)) ∧ Kp w w') := by
  obtain ⟨xa, xe, xb, xf, xi⟩ := x
  unfold tlV ptr
  dsimp only
  obtain ⟨g, hg'⟩ : ∃ g, g = (xa == i && xe == e) := ⟨_, rfl⟩
  rw [← hg']
  have HG := hide hg'
  clear hg'
  go_enter Try.func33, Try.ntmps33
  go_upto_region 1 with fail
  obtain ⟨w1, hw1⟩ : ∃ x, x = w.alloc (.cells #[.int .i64 xa, .int .i64 xe, .int .i64 xb, .int .i64 xf, .bool xi] 35) := ⟨_, rfl⟩
  have kk : Kp w w1 := by rw [hw1]; exact (Kp.refl w).alloc
  have hb : BC w1 w.heap.size 35 [.int .i64 xa, .int .i64 xe, .int .i64 xb, .int .i64 xf, .bool xi] := by rw [hw1]; exact BC.new w _ _
  try rw [← hw1]
  clear hw1
  have h1 := kk.cell h1
  have h2 := kk.cell h2
  have h3 := kk.cell h3
  have c0 : w1.cell? ⟨w.heap.size, 0, none⟩ = some (.int .i64 xa) := hb.cell 0
  have c1 : w1.cell? ⟨w.heap.size, 1, none⟩ = some (.int .i64 xe) := hb.cell 1
  have HK := hide kk
  clear hb kk
  generalize w.heap.size = D at *
  by_cases e1 : xa = i
  · have q1 : (xa == i) = true := beq_iff_eq.2 e1
    have HE1 := hide e1
    by_cases e2 : xe = e
    · have e3 : g = true := by rw [HG.out]; simp [e1, e2]
      subst e1 e2
      go_quiet (fail)
      go_wp2
      exact ⟨rfl, .bool true, by simp [results, Try.results33, go_sem], rfl, HK.out.trans (Kp.refl _).drewN⟩
    · have e3 : g = false := by rw [HG.out]; simp [e1, e2]
      subst e1
      go_quiet (fail)
      go_wp2
      exact ⟨rfl, .bool false, by simp [results, Try.results33, go_sem, e2]; omega, rfl, HK.out.trans (Kp.refl _).drewN⟩
  · have e3 : g = false := by rw [HG.out]; simp [e1]
    have q1 : ((xa : Int) == (i : Int)) = false := beq_eq_false_iff_ne.2 (by omega)
    go_quiet (fail)
    go_wp2
    exact ⟨rfl, .bool false, by simp [results, Try.results33, go_sem], by rw [e3], HK.out.trans (Kp.refl _).drewN⟩
end Go.Proofs.Ytoihdnekkgpcoaa
namespace Go.Proofs.Ytoihdnekkgpcoaa
set_option linter.unusedVariables false
set_option linter.unusedSimpArgs false

def DB (t : Nat → List Dn) (dl : List (Nat × Nat × Dn)) : Prop := ∀ i, dl.filter (fun x => x.1 == i) = toldL i (t i)
variable {t : Nat → List Dn} {dl : List (Nat × Nat × Dn)}
theorem DB.nil : DB (fun _ => []) [] := fun i => rfl
theorem DB.none (h : DB t dl) {i e : Nat} (hl : (t i).length ≤ e) : ∀ x ∈ dl, (x.1 == i && x.2.1 == e) = false := by
  intro x hx
  cases hq : (x.1 == i && x.2.1 == e) with
  | false => rfl
  | true =>
    rw [Bool.and_eq_true, beq_iff_eq, beq_iff_eq] at hq
    have hm : x ∈ toldL i (t i) := by rw [← h i]; exact List.mem_filter.2 ⟨hx, by simp [hq.1]⟩
    unfold toldL at hm
    obtain ⟨k, hk, rfl⟩ := List.mem_iff_getElem.1 hm
    simp at hk hq
    omega
theorem DB.len (h : DB t dl) {k : Nat} (hk : k < dl.length) {i e : Nat} (hq : (dl[k].1 == i && dl[k].2.1 == e) = true) : e < (t i).length ∧ ∃ r, dl[k] = (i, e, r) := by
  refine ⟨?_, ?_⟩
  · apply Classical.byContradiction
    intro hn
    have := h.none (i := i) (e := e) (by omega) _ (List.getElem_mem hk)
    rw [this] at hq; cases hq
  · rw [Bool.and_eq_true, beq_iff_eq, beq_iff_eq] at hq
    exact ⟨dl[k].2.2, by rw [← hq.1, ← hq.2]⟩
theorem DB.snoc (h : DB t dl) (i : Nat) (r : Dn) : DB (up t i (t i ++ [r])) (dl ++ [(i, (t i).length, r)]) := by
  intro j
  rw [List.filter_append, h j]
  by_cases e : j = i
  · subst e
    rw [up_same, toldL_snoc]
    simp
  · rw [up_ne _ _ e]
    have : (i == j) = false := beq_eq_false_iff_ne.2 (fun x => e x.symm)
    simp [this]
theorem filter_set {α : Type} (q : α → Bool) (y : α) : ∀ (l : List α) (k : Nat) (hk : k < l.length), q l[k] = q y → (l.set k y).filter q = if q y then (l.filter q).set ((l.take k).filter q).length y else l.filter q
  | a :: l, 0, hk, h => by
    simp only [List.set_cons_zero, List.getElem_cons_zero] at h ⊢
    cases hy : q y with
    | true => simp [List.filter_cons, hy, h.trans hy]
    | false => simp [List.filter_cons, hy, h.trans hy]
  | a :: l, k + 1, hk, h => by
    have ih := filter_set q y l k (by simpa using hk) (by simpa using h)
    simp only [List.set_cons_succ, List.filter_cons, List.take_succ_cons]
    cases ha : q a <;> cases hy : q y <;> simp [ih, hy]
theorem DB.set (h : DB t dl) {k : Nat} (hk : k < dl.length) {i e : Nat} {r0 : Dn} (he : dl[k] = (i, e, r0)) (r : Dn) : DB (up t i ((t i).set e r)) (dl.set k (i, e, r)) := by
  intro j
  have hq : (fun x : Nat × Nat × Dn => x.1 == j) dl[k] = (fun x : Nat × Nat × Dn => x.1 == j) (i, e, r) := by rw [he]
  rw [filter_set _ _ _ _ hk hq]
  by_cases ej : j = i
  · subst ej
    rw [up_same]
    have h1 : ((fun x : Nat × Nat × Dn => x.1 == j) (j, e, r)) = true := by simp
    rw [if_pos h1, h j]
    have hp : ((dl.take k).filter (fun x => x.1 == j)).length = e ∧ e < (t j).length := by
      have h2 := h j
      have h3 : dl = dl.take k ++ dl[k] :: dl.drop (k + 1) := by simp
      rw [h3, List.filter_append, List.filter_cons, he] at h2
      simp only [beq_self_eq_true, if_true] at h2
      have h4 := congrArg (fun l => l[((dl.take k).filter (fun x => x.1 == j)).length]?) h2
      simp only [List.getElem?_append_right (Nat.le_refl _), Nat.sub_self, List.getElem?_cons_zero, toldL, List.getElem?_mapIdx] at h4
      cases h5 : (t j)[((dl.take k).filter (fun x => x.1 == j)).length]? with
      | none => rw [h5] at h4; simp at h4
      | some z =>
        rw [h5] at h4
        simp at h4
        have := (List.getElem?_eq_some_iff.1 h5).1
        omega
    rw [hp.1]
    exact toldL_set j (t j) e r
  · rw [up_ne _ _ ej]
    have h1 : ¬ ((fun x : Nat × Nat × Dn => x.1 == j) (i, e, r)) = true := by simp; exact fun x => ej x.symm
    rw [if_neg h1, h j]
/-- An entry is what is told. -/
theorem DB.entry (h : DB t dl) {k : Nat} (hk : k < dl.length) {i e : Nat} {r : Dn} (he : dl[k] = (i, e, r)) : ∃ h1 : e < (t i).length, r = (t i)[e] := by
  have hm : dl[k] ∈ toldL i (t i) := by rw [← h i]; exact List.mem_filter.2 ⟨List.getElem_mem hk, by rw [he]; simp⟩
  unfold toldL at hm
  obtain ⟨j, hj, ej⟩ := List.mem_iff_getElem.1 hm
  rw [he] at ej
  simp at ej hj
  obtain ⟨rfl, e2⟩ := ej
  exact ⟨hj, e2.symm⟩
theorem modify_set {l : List Dn} {e : Nat} (h : e < l.length) (f : Dn → Dn) : l.modify e f = l.set e (f l[e]) := by
  apply List.ext_getElem?
  intro j
  simp only [List.getElem?_modify, List.getElem?_set]
  by_cases ej : e = j
  · subst ej; simp [h]
  · simp [ej]
theorem DB.fin (h : DB t dl) {k : Nat} (hk : k < dl.length) {i e : Nat} {r : Dn} (he : dl[k] = (i, e, r)) (n : Nat) (b : Bool) : DB (up t i (toldE (t i) e n b)) (dl.set k (i, e, ⟨r.bgn, n, b⟩)) := by
  obtain ⟨h1, h2⟩ := h.entry hk he
  unfold toldE
  rw [modify_set h1, ← h2]
  exact h.set hk he _
/-- All that is told of a hand, deed by deed. -/
theorem DB.all (h : DB t dl) (i : Nat) : ∀ m, (List.range m).flatMap (fun e => dl.filter (fun x => x.1 == i && x.2.1 == e)) = (toldL i (t i)).take m
  | 0 => rfl
  | m + 1 => by
    rw [List.range_succ, List.flatMap_append, h.all i m]
    have e1 : dl.filter (fun x => x.1 == i && x.2.1 == m) = (toldL i (t i)).filter (fun x => x.2.1 == m) := by
      rw [← h i, List.filter_filter]
      congr 1
      funext x
      rw [Bool.and_comm]
    have e2 : ∀ (l : List Dn) (a m : Nat), ((l.mapIdx fun e r => ((i, e + a, r) : Nat × Nat × Dn)).filter (fun x => x.2.1 == m + a)) = (l[m]?.map fun r => (i, m + a, r)).toList := by
      intro l
      induction l with
      | nil => intro a m; rfl
      | cons x l ih =>
        intro a m
        have e3 : (fun (e : Nat) (r : Dn) => ((i, e + 1 + a, r) : Nat × Nat × Dn)) = fun e r => (i, e + (a + 1), r) := by funext e r; rw [Nat.add_assoc, Nat.add_comm 1 a]
        rw [List.mapIdx_cons, e3]
        cases m with
        | zero =>
          have : ((l.mapIdx fun e r => ((i, e + (a + 1), r) : Nat × Nat × Dn)).filter (fun x => x.2.1 == 0 + a)) = [] := by
            rw [List.filter_eq_nil_iff]
            intro z hz
            obtain ⟨k, hk, rfl⟩ := List.mem_iff_getElem.1 hz
            simp
            omega
          rw [List.filter_cons, if_pos (by simp), this]; rfl
        | succ m =>
          have := ih (a + 1) m
          have e4 : m + 1 + a = m + (a + 1) := by omega
          rw [e4, List.filter_cons]
          have e5 : ((0 + a == m + (a + 1)) : Bool) = false := by simp; omega
          simp only [e5]
          simpa using this
    simp only [List.flatMap_cons, List.flatMap_nil, List.append_nil]
    rw [e1]
    have e6 := e2 (t i) 0 m
    simp only [Nat.add_zero] at e6
    unfold toldL
    rw [e6, List.take_add_one]
    congr 1
    simp [List.getElem?_mapIdx]
theorem DB.done (h : DB t dl) {i m : Nat} (hm : (t i).length ≤ m) : (List.range m).flatMap (fun e => dl.filter (fun x => x.1 == i && x.2.1 == e)) = toldL i (t i) := by
  rw [h.all i m]
  exact List.take_of_length_le (by rw [toldL_len]; exact hm)
end Go.Proofs.Ytoihdnekkgpcoaa
namespace Go.Proofs.Ytoihdnekkgpcoaa
open Go.ChangeShapes Go.WideShapes Go.ChangeAt Go.RowKit
set_option linter.unusedVariables false
set_option linter.unusedSimpArgs false

variable {K : Bl} {s : St} {dl : List Tl} {bg bc : Nat} {dv : Value} {w w' : World}
theorem BQ.b5 (h : BQ K s dl bg bc dv w) : w.cell? ⟨K.b, 5, none⟩ = some dv := h.bb.cell 5
theorem BQ.setdeed (h : BQ K s dl bg bc dv w) {i : Nat} (hi : i < K.nh) (q : Nat) : BQ K { s with deed := up s.deed i q } dl bg bc dv (w.setCell ⟨K.hg, i * 5, none⟩ (.int .i64 q)) :=
  h.seth hi 0 (by decide) _ s.hd _ (by rw [up_same]; rfl) (fun k hne => ⟨up_ne _ _ hne, rfl⟩)
theorem BQ.reset (h : BQ K s dl bg bc dv w) {i : Nat} (hi : i < K.nh) (q : Nat) : BQ K { s with deed := up s.deed i q, hd := up s.hd i hd0 } dl bg bc dv (((((w.setCell ⟨K.hg, i * 5, none⟩ (.int .i64 q)).setCell ⟨K.hg, i * 5 + 1, none⟩ (.int .i64 0)).setCell ⟨K.hg, i * 5 + 2, none⟩ (.int .i64 0)).setCell ⟨K.hg, i * 5 + 3, none⟩ (.int .i64 0)).setCell ⟨K.hg, i * 5 + 4, none⟩ (.bool false)) := by
  have := ((((h.setdeed hi q).setat hi 0).setp hi 0).setc hi 0).setis hi false
  simp only [up_same, up_up] at this
  exact this
theorem BQ.setnow (h : BQ K s dl bg bc dv w) (q : Nat) : BQ K { s with now := q } dl bg bc dv (w.setCell ⟨K.b, 4, none⟩ (.int .i64 q)) := by
  obtain ⟨cur, hbg, hB⟩ := h.bgB
  refine ⟨h.kp.setR (by simpa using h.b0), h.b0, h.h0, h.n0, h.bb.set, ?_, ?_, h.hs.far (fun e => h.ne3 e.symm), fun b t c e => ⟨(h.ex b t c e).1.far (BC.ne (h.ex b t c e).1 h.bb (h.ex b t c e).2.1), (h.ex b t c e).2⟩⟩
  · exact h.bd.setCell (p := ⟨K.b, 4, none⟩) (by show (some bg : Option Nat) ≠ some K.b; simpa using fun e => h.ne1 e.symm) _
  · exact h.dn.setCell (OW.bc_ne h.dn h.bb (by decide)) _
/-- One more is done. -/
theorem BQ.addd (h : BQ K s dl bg bc dv w) {W : World} {γ : Value} {x : Tl} (hW : KV dv w W) (hγ : OW W K.w0.heap.size 35 eDone γ (dl ++ [x])) (hat : γ.ownBlock = dv.ownBlock ∨ Hi w.heap.size γ) :
    BQ K s (dl ++ [x]) bg bc γ (W.setCell ⟨K.b, 5, none⟩ γ) := by
  obtain ⟨cur, hbg, hB⟩ := h.bgB
  have n0 := OW.bc_ne h.dn h.bb (by decide)
  have n1 := OW.bc_ne h.dn hbg (by decide)
  have n2 := OW.bc_ne h.dn h.hs (by decide)
  have b1 : BC W K.b _ _ := h.bb.kf hW n0
  have b2 : BC W K.hg _ _ := h.hs.kf hW n2
  have b3 : OW W K.w0.heap.size 65 eBead _ (beadL s.m) := h.bd.kf hW (fun k e1 e2 => by
    have : k = bg := by simpa [Value.ownBlock] using e1.symm
    subst this; exact n1 e2)
  have hn : γ.ownBlock ≠ some K.b := fun e => by
    rcases hat with e1 | e1
    · exact n0 (e1.symm.trans e)
    · have h1 := e1 _ e; have h2 := h.bb.lt; omega
  refine ⟨(hW.kp h.kp (fun k e => (h.dn.lt k e).1)).setR (by simpa using h.b0), h.b0, h.h0, h.n0, b1.set, ?_, hγ.setCell hn _, b2.far (fun e => h.ne3 e.symm), fun b t c e => ?_⟩
  · exact b3.setCell (p := ⟨K.b, 5, none⟩) (by show (some bg : Option Nat) ≠ some K.b; simpa using fun e => h.ne1 e.symm) _
  · obtain ⟨e1, e2⟩ := h.ex b t c e
    exact ⟨(e1.kf hW (fun e9 => OW.bc_ne h.dn e1 (fun x => e2.2.2.2 x.symm) e9)).far (BC.ne e1 h.bb e2.1), e2⟩
/-- What is done, as it lies. -/
theorem BQ.done (h : BQ K s dl bg bc dv w) {k : Nat} (hk : k < dl.length) : ∃ g c, dv = .slice (some ⟨g, 0, none⟩) dl.length c ∧ w.cell? ⟨K.b, 5, none⟩ = some (.slice (some ⟨g, 0, none⟩) dl.length c) ∧ (∃ x, w.cell? ⟨g, k * 5 + 3, none⟩ = some x) ∧ (∃ x, w.cell? ⟨g, k * 5 + 4, none⟩ = some x) ∧ (∀ j, w.frozen? ⟨g, j, none⟩ = false) ∧ ¬ K.b = g ∧ ¬ K.hg = g ∧ (∀ b t c, K.ex b t c → ¬ b = g) ∧
    ∀ (i e : Nat) (r : Dn), dl[k] = (i, e, r) → ∀ (now : Nat) (is : Bool), BQ K s (dl.set k (i, e, ⟨r.bgn, now, is⟩)) bg bc dv ((w.setCell ⟨g, k * 5 + 3, none⟩ (.int .i64 now)).setCell ⟨g, k * 5 + 4, none⟩ (.bool is)) := by
  obtain ⟨g, c, rfl, hg⟩ := h.dn.blk (by omega)
  have hb5 : w.cell? ⟨K.b, 5, none⟩ = some (.slice (some ⟨g, 0, none⟩) dl.length c) := h.bb.cell 5
  obtain ⟨x3, f3⟩ := h.dn.cellAt k hk 3 (by decide)
  obtain ⟨x4, f4⟩ := h.dn.cellAt k hk 4 (by decide)
  obtain ⟨cur, hbg, hB⟩ := h.bgB
  obtain ⟨cur2, hb2, hB2, _⟩ := BK.of_ow h.dn
  have hb2' : BC w g _ _ := hb2
  refine ⟨g, c, rfl, hb5, ⟨_, x3⟩, ⟨_, x4⟩, fun j => hb2'.frozen j, BC.ne h.bb hb2' (by decide), BC.ne h.hs hb2' (by decide), fun b t c e => BC.ne (h.ex b t c e).1 hb2' (h.ex b t c e).2.2.2.2, fun i e r he now is => ?_⟩
  have o1 := h.dn.setAt k hk 3 (by decide) (.int .i64 now) (i, e, ⟨r.bgn, now, r.is⟩) (by rw [he]; rfl)
  have o2 := o1.setAt k (by simpa using hk) 4 (by decide) (.bool is) (i, e, ⟨r.bgn, now, is⟩) (by simp; rfl)
  rw [List.set_set] at o2
  have hlen : (dl.set k (i, e, ⟨r.bgn, now, is⟩)).length = dl.length := by simp
  refine ⟨(h.kp.setR (by simpa using hB2)).setR (by simpa using hB2), h.b0, h.h0, h.n0, (h.bb.far (BC.ne h.bb hb2' (by decide))).far (BC.ne h.bb hb2' (by decide)), ?_, o2, (h.hs.far (BC.ne h.hs hb2' (by decide))).far (BC.ne h.hs hb2' (by decide)), fun b t c e => ⟨((h.ex b t c e).1.far (BC.ne (h.ex b t c e).1 hb2' (h.ex b t c e).2.2.2.2)).far (BC.ne (h.ex b t c e).1 hb2' (h.ex b t c e).2.2.2.2), (h.ex b t c e).2⟩⟩
  have n : ¬ bg = g := BC.ne hbg hb2' (by decide)
  exact (h.bd.setCell (p := ⟨g, _, none⟩) (by show (some bg : Option Nat) ≠ some g; simpa using n) _).setCell (p := ⟨g, _, none⟩) (by show (some bg : Option Nat) ≠ some g; simpa using n) _
end Go.Proofs.Ytoihdnekkgpcoaa
namespace Go.Proofs.Ytoihdnekkgpcoaa
open Go.ChangeShapes Go.WideShapes Go.ChangeAt Go.RowKit
set_option linter.unusedVariables false
set_option linter.unusedSimpArgs false

def JQ {α : Type} (ch : List (Nat × Nat)) (w0 : World) (u : Value) (q : Addr) (kl ka ks : Nat) (B : Nat) (e : TypeId) (E : Enc α) (l : List α) (R : World → Prop) (L : Array Bool) (w : World) (γ : Value) : Prop := JA w0 u q kl ka ks B e E l R L w γ ∧ Cl ch L
section
variable {α : Type} {ch : List (Nat × Nat)} {w0 w w' : World} {u v : Value} {q p : Addr} {kl ka ks B i d ku kv : Nat} {e : TypeId} {E : Enc α} {l : List α} {x : α} {R : World → Prop} {L : Array Bool} {γ γ' : Value}
theorem JQ.start {n : Nat} (h1 : ka < n) (h2 : ks < n) (hc : ∀ y ∈ ch, y.1 < n) : JQ ch w0 u q kl ka ks B e E l R (Array.replicate n false) w0.drew γ :=
  ⟨JA.start h1 h2, fun y hy e => by simp [Array.getD, hc y hy] at e⟩
theorem JQ.go (h : JQ ch w0 u q kl ka ks B e E l R L w γ) (HR : ∀ a b, R a → Kp a b → R b) (k : Kp w w') (i : Nat) (hc : ∀ y ∈ ch, y.1 = i → L.getD y.2 true = true) (ha : i ≠ ka) (hs : i ≠ ks) : JQ ch w0 u q kl ka ks B e E l R (L.setIfInBounds i true) w' γ := ⟨h.1.go HR k i ha hs, h.2.go hc⟩
/-- A cell read ahead of the append. -/
theorem JQ.early (h : JQ ch w0 u q kl ka ks B e E l R L w γ) (t : List Nat) (hp : pth ch ka t = true) (hl : L.getD (lst ka t) true = false) {v : Value} (c : w0.cell? p = some v) : w.cell? p = some v := by
  refine (h.1.k1 ?_).cell c
  cases e : L.getD ka true with
  | false => rfl
  | true => rw [h.2.path t ka hp e] at hl; cases hl
end
end Go.Proofs.Ytoihdnekkgpcoaa
