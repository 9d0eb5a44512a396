/-
  A step of the document's bench. Conditions: the bench lies as BQ says.
  A step of the document's bench, whichever: what may be said of the bench all the way. Conditions: the bench lies as BM says.
  How the document's bench is made: its beads, one by one; what it is then. Conditions: as each theorem says.
-/
import Derived.Test.YtoihdnekkgpcoaaG14
import Derived.Deep.CutBlock
import Derived.Test.YtoihdnekkgpcoaaG10
import Derived.Test.YtoihdnekkgpcoaaG1

namespace Go.Proofs.Ytoihdnekkgpcoaa
open Go.ChangeShapes Go.WideShapes Go.ChangeAt Go.RowKit
set_option linter.unusedVariables false
set_option linter.unusedSimpArgs false

variable {K : Bl} {s : St} {dl : List Tl} {bg bc : Nat} {dv : Value} {w w' : World}
/-- The deeds of a hand, as they lie. -/
theorem prog_at {P : List (List Dd)} {pv : Value} (hp : RDS w eDeed pv P) {i : Nat} (hi : i < P.length) : ∃ b o c A n c2, pv = .slice (some ⟨b, o, none⟩) P.length c ∧ w.cell? ⟨b, o + i, none⟩ = some (.slice A n c2) ∧ n = ndl P i ∧ n ≤ maxLen ∧
    (∀ e, e < ndl P i → ∃ b2 o2, A = some ⟨b2, o2, none⟩ ∧ w.cell? ⟨b2, o2 + e * 2, none⟩ = some (.int .i64 (dd P i e).kind) ∧ w.cell? ⟨b2, o2 + e * 2 + 1, none⟩ = some (.int .i64 (dd P i e).key)) := by
  obtain ⟨A, c, pA, pN, pC, hv, h1, h2, h3⟩ := hp.fn
  obtain ⟨b, o, rfl, hb, hc, hr⟩ := h3 i hi
  have hgd : P.getD i [] = P[i] := by simp [List.getD_eq_getElem?_getD, hi]
  rw [hgd] at hr
  have hn : ndl P i = (P[i]).length := by unfold Go.Proofs.Ytoihdnekkgpcoaa.ndl; simp [hi]
  obtain ⟨A', c', e1, e2, e3, _⟩ := hr
  injection e1 with e4 e5 e6
  have hr2 : RD w eDeed (.slice (pA i) (pN i) (pC i)) P[i] := by obtain ⟨b', o', rfl', hb', hc', hr'⟩ := h3 i hi; rw [hgd] at hr'; exact hr'
  refine ⟨b, o, c, pA i, pN i, pC i, hv, hc, by rw [e5, hn], by rw [e5]; omega, fun e he => ?_⟩
  obtain ⟨b2, o2, e8, _, c1, c2⟩ := RD.deed hr2 (k := e) (by omega)
  have hdd : dd P i e = (P[i])[e]'(by omega) := by unfold dd; simp [hi, show e < (P[i]).length by omega]
  rw [hdd]
  exact ⟨b2, o2, e8, c1, c2⟩
set_option maxRecDepth 100000 in
set_option maxHeartbeats 2000000 in
theorem bstep_no {P : List (List Dd)} (h : BQ K s dl bg bc dv w) (hp : RDS K.w0 eDeed K.pv P) (hn : K.nh = P.length) {i : Nat} (hi : i < P.length) (hc : s.deed i = ndl P i) : Calls Try.prog 24 #[ptr K.b, .int .i64 i] w (fun e w' => e = .returned (.bool false) ∧ BQ K s dl bg bc dv w') := by
  unfold ptr
  have HP := hide hp
  have H0 := hide h
  have hi2 : i < K.nh := by omega
  have hi3 : (i : Int) < (K.nh : Int) := by omega
  clear h hp
  go_enter Try.func24, Try.ntmps24
  go_upto_region 1 with fail
  obtain ⟨w1, hw1⟩ : ∃ x, x = w.alloc (.cells #[.int .i64 i] 3) := ⟨_, rfl⟩
  have H1 := hide ((H0.out.kpw (w' := w1) (by rw [hw1]; exact (Kp.refl w).alloc)).add (D := w.heap.size) (t := 3) (c := [.int .i64 i]) (by rw [hw1]; exact BC.new w _ _) (by unfold okBT; decide))
  try rw [← hw1]
  clear hw1 H0
  generalize w.heap.size = D1 at *
  have hb2 : w1.cell? ⟨K.b, 2, none⟩ = some (.slice (some ⟨K.hg, 0, none⟩) K.nh K.nh) := H1.out.bb.cell 2
  have d1 : w1.cell? ⟨D1, 0, none⟩ = some (.int .i64 i) := H1.out.added.cell 0
  have ka : Kp w1 (w1.alloc (.cells #[.pointer none] 77)) := (Kp.refl w1).alloc
  have hb2a := ka.cell hb2
  have d1a := ka.cell d1
  clear ka
  go_cut [5] from 9 to 14 (fun s5 wx => s5 = .pointer (some ⟨w1.heap.size, 0, none⟩) ∧ wx = (w1.alloc (.cells #[.pointer (some ⟨K.hg, i * 5, none⟩)] 77)).drew)
  case first =>
    go_region_law (fail)
    all_goals
      go_wp2_with fail
      go_meet
      exact ⟨rfl, rfl⟩
  case rest =>
  obtain ⟨rfl, hwc⟩ := hcut
  obtain ⟨w2, hw2⟩ : ∃ x, x = wc := ⟨_, rfl⟩
  rw [← hw2] at hwc ⊢
  have H2 := hide ((H1.out.kpw (w' := w2) (by rw [hwc]; exact (Kp.refl w1).alloc.drew)).add (D := w1.heap.size) (t := 77) (c := [.pointer (some ⟨K.hg, i * 5, none⟩)]) (by rw [hwc]; exact (BC.new w1 _ [.pointer (some ⟨K.hg, i * 5, none⟩)]).kp ((Kp.refl _).drew)) (by unfold okBT; decide))
  clear hw2 hwc H1 hb2 d1 hb2a d1a
  generalize w1.heap.size = D2 at *
  have d1 : _ = some (Value.int .i64 i) := H2.out.less.added.cell 0
  have d2 : _ = some (Value.pointer (some ⟨K.hg, i * 5, none⟩)) := H2.out.added.cell 0
  have hb0 : _ = some (Value.int .i64 K.alg) := H2.out.less.less.bb.cell 0
  have hb3 : _ = some K.pv := H2.out.less.less.bb.cell 3
  have hb4 : _ = some (Value.int .i64 s.now) := H2.out.less.less.bb.cell 4
  have hb5 := H2.out.less.less.b5
  obtain ⟨t0, t1, t2, t3, t4, fz⟩ := H2.out.less.less.hand hi2
  obtain ⟨pb, po, pc, rA, rn, rc, epv, hrow, hrn, hrm, hels⟩ := prog_at (w := w2) (HP.out.kp H2.out.kp) hi
  rw [epv] at hb3
  have HEL := hide hels
  clear hels
  rw [hrn, ← hc] at hrow
  have q1 : ((s.deed i : Int) == (s.deed i : Int)) = true := beq_self_eq_true _
  go_wp2_with fail
  go_quiet (fail)
  go_wp2
  exact ⟨rfl, .bool false, by simp [results, Try.results24, go_sem], rfl, H2.out.less.less.kpw ((Kp.refl _).drewN)⟩
theorem BQ.tld (h : BQ K s dl bg bc dv w) (t : Nat → List Dn) : BQ K { s with told := t } dl bg bc dv w := ⟨h.kp, h.b0, h.h0, h.n0, h.bb, h.bd, h.dn, h.hs, h.ex⟩
/-- The last state of the bench with its list, and where the deed stands in it. -/
def R8 (K : Bl) (s : St) (t : Nat → List Dn) (m : Mm) (hd : Nat → Hd) (i k : Nat) (n : Nat) (w : World) : Prop := ∃ dl bg bc dv r, BQ K { s with m := m, hd := hd } dl bg bc dv w ∧ (∃ hk : k < dl.length, dl[k] = (i, s.deed i, r)) ∧ DB t dl ∧ dl.length ≤ n
theorem R8.kpw {t : Nat → List Dn} {m : Mm} {hd : Nat → Hd} {i k n : Nat} (h : R8 K s t m hd i k n w) (kp : Kp w w') : R8 K s t m hd i k n w' := by
  obtain ⟨dl, bg, bc, dv, r, a, b⟩ := h
  exact ⟨dl, bg, bc, dv, r, a.kpw kp, b⟩
def chB : List (Nat × Nat) := [(16, 15), (15, 14), (14, 13)]
def BsPost (K : Bl) (s' : St) (n : Nat) (w' : World) : Prop := ∃ dl', DB s'.told dl' ∧ dl'.length ≤ n ∧ BN K s' dl' w'
set_option maxRecDepth 100000 in
set_option maxHeartbeats 4000000 in
theorem bstep_yes {P : List (List Dd)} (h : BQ K s dl bg bc dv w) (hp : RDS K.w0 eDeed K.pv P) (hn : K.nh = P.length) {i : Nat} (hi : i < P.length) (hc : s.deed i < ndl P i) (hdb : DB s.told dl) (hlen : (s.told i).length = s.deed i ∨ (s.told i).length = s.deed i + 1) (hdl : dl.length ≤ 100000) (hnow : s.now < 100000) (hdd : s.deed i < 100000) (hal : 1 ≤ K.alg ∧ K.alg ≤ 4)
    (hway : ∀ (K' : Bl) dl' bg' bc' dv' W, K'.alg = K.alg → K'.b = K.b → K'.hg = K.hg → K'.nh = K.nh → BQ K' s dl' bg' bc' dv' W → Calls Try.prog (wayB K.alg) #[ptr K.b, hp5 K i, deedV (dd P i (s.deed i))] W (HP K' s dl' i (algS K.alg s.m (s.hd i) (dd P i (s.deed i))))) :
    Calls Try.prog 24 #[ptr K.b, .int .i64 i] w (fun e w' => e = .returned (.bool true) ∧ BsPost K (stp K.alg (dd P i (s.deed i)) s i) (dl.length + 1) w') := by
  obtain ⟨PO, hPO⟩ : ∃ PO, PO = BsPost K (stp K.alg (dd P i (s.deed i)) s i) (dl.length + 1) := ⟨_, rfl⟩
  rw [← hPO]
  have HPO := hide hPO
  have HWAY := hide hway
  have HDB := hide hdb
  have HLEN := hide hlen
  clear hPO hway hdb hlen
  obtain ⟨A0, n0, c0, rfl⟩ := h.dn.rd.slice
  unfold ptr
  have HP := hide hp
  have H0 := hide h
  have hi2 : i < K.nh := by omega
  have hi3 : (i : Int) < (K.nh : Int) := by omega
  clear h hp
  go_enter Try.func24, Try.ntmps24
  go_upto_region 1 with fail
  obtain ⟨w1, hw1⟩ : ∃ x, x = w.alloc (.cells #[.int .i64 i] 3) := ⟨_, rfl⟩
  have H1 := hide ((H0.out.kpw (w' := w1) (by rw [hw1]; exact (Kp.refl w).alloc)).add (D := w.heap.size) (t := 3) (c := [.int .i64 i]) (by rw [hw1]; exact BC.new w _ _) (by unfold okBT; decide))
  try rw [← hw1]
  clear hw1 H0
  generalize w.heap.size = D1 at *
  have hb2 : w1.cell? ⟨K.b, 2, none⟩ = some (.slice (some ⟨K.hg, 0, none⟩) K.nh K.nh) := H1.out.bb.cell 2
  have d1 : w1.cell? ⟨D1, 0, none⟩ = some (.int .i64 i) := H1.out.added.cell 0
  have ka : Kp w1 (w1.alloc (.cells #[.pointer none] 77)) := (Kp.refl w1).alloc
  have hb2a := ka.cell hb2
  have d1a := ka.cell d1
  clear ka
  go_cut [5] from 9 to 14 (fun s5 wx => s5 = .pointer (some ⟨w1.heap.size, 0, none⟩) ∧ wx = (w1.alloc (.cells #[.pointer (some ⟨K.hg, i * 5, none⟩)] 77)).drew)
  case first =>
    go_region_law (fail)
    all_goals
      go_wp2_with fail
      go_meet
      exact ⟨rfl, rfl⟩
  case rest =>
  obtain ⟨rfl, hwc⟩ := hcut
  obtain ⟨w2, hw2⟩ : ∃ x, x = wc := ⟨_, rfl⟩
  rw [← hw2] at hwc ⊢
  have H2 := hide ((H1.out.kpw (w' := w2) (by rw [hwc]; exact (Kp.refl w1).alloc.drew)).add (D := w1.heap.size) (t := 77) (c := [.pointer (some ⟨K.hg, i * 5, none⟩)]) (by rw [hwc]; exact (BC.new w1 _ [.pointer (some ⟨K.hg, i * 5, none⟩)]).kp ((Kp.refl _).drew)) (by unfold okBT; decide))
  clear hw2 hwc H1 hb2 d1 hb2a d1a
  generalize w1.heap.size = D2 at *
  have d1 : _ = some (Value.int .i64 i) := H2.out.less.added.cell 0
  have d2 : _ = some (Value.pointer (some ⟨K.hg, i * 5, none⟩)) := H2.out.added.cell 0
  have hb0 : _ = some (Value.int .i64 K.alg) := H2.out.less.less.bb.cell 0
  have hb3 : _ = some K.pv := H2.out.less.less.bb.cell 3
  have hb4 : _ = some (Value.int .i64 s.now) := H2.out.less.less.bb.cell 4
  have hb5 := H2.out.less.less.b5
  obtain ⟨t0, t1, t2, t3, t4, fz⟩ := H2.out.less.less.hand hi2
  obtain ⟨pb, po, pc, rA, rn, rc, epv, hrow, hrn, hrm, hels⟩ := prog_at (w := w2) (HP.out.kp H2.out.kp) hi
  rw [epv] at hb3
  have HEL := hide hels
  clear hels
  rw [hrn] at hrow
  have hcI : (s.deed i : Int) < (ndl P i : Int) := by omega
  have q1 : ((s.deed i : Int) == (ndl P i : Int)) = false := beq_eq_false_iff_ne.2 (by omega)
  go_wp2_with fail
  go_quiet (fail)
  obtain ⟨w3, hw3⟩ : ∃ x, x = w2.drewN nq := ⟨_, rfl⟩
  try rw [← hw3]
  have k3 : Kp w2 w3 := by rw [hw3]; exact (Kp.refl _).drewN
  have H3 := hide (H2.out.kpw k3)
  have hrow := k3.cell hrow
  obtain ⟨b2, o2, rfl, e0, e1⟩ := HEL.out _ hc
  have e0 := k3.cell e0
  have e1 := k3.cell e1
  clear hw3 k3 d1 d2 hb0 hb3 hb4 hb5 t0 t1 t2 t3 t4 fz H2 HEL
  have d1 : _ = some (Value.int .i64 i) := H3.out.less.added.cell 0
  have d2 : _ = some (Value.pointer (some ⟨K.hg, i * 5, none⟩)) := H3.out.added.cell 0
  have hb0 : _ = some (Value.int .i64 K.alg) := H3.out.less.less.bb.cell 0
  have hb3 : _ = some K.pv := H3.out.less.less.bb.cell 3
  have hb4 : _ = some (Value.int .i64 s.now) := H3.out.less.less.bb.cell 4
  have hb5 := H3.out.less.less.b5
  obtain ⟨t0, t1, t2, t3, t4, fz⟩ := H3.out.less.less.hand hi2
  rw [epv] at hb3
  obtain ⟨d, hd⟩ : ∃ d, d = dd P i (s.deed i) := ⟨_, rfl⟩
  rw [← hd] at e0 e1 HPO HWAY
  obtain ⟨e, he⟩ : ∃ e, e = s.deed i := ⟨_, rfl⟩
  go_upto_region 4 with fail
  obtain ⟨D3, hD3⟩ : ∃ D3, D3 = w3.heap.size := ⟨_, rfl⟩
  have he9 : (s.deed i : Int) < (ndl P i : Int) := hcI
  obtain ⟨W0, hW0⟩ : ∃ W0, W0 = w3.drew := ⟨_, rfl⟩
  obtain ⟨W1, hW1⟩ : ∃ W1, W1 = W0.alloc (.cells #[.int .i64 0, .int .i64 0] 23) := ⟨_, rfl⟩
  obtain ⟨W2, hW2⟩ : ∃ W2, W2 = (W1.setCell ⟨D3, 0, none⟩ (.int .i64 d.kind)).setCell ⟨D3, 1, none⟩ (.int .i64 d.key) := ⟨_, rfl⟩
  have kk1 : Kp w3 W1 := by rw [hW1, hW0]; exact (Kp.refl w3).drew.alloc
  have hbw : BC W1 D3 23 [.int .i64 0, .int .i64 0] := by rw [hW1, hW0, hD3]; exact BC.new w3.drew _ [.int .i64 0, .int .i64 0]
  have kk2 : Kp w3 W2 := by rw [hW2]; exact (kk1.setR (by simp [hD3])).setR (by simp [hD3])
  have hbw2 : BC W2 D3 23 [.int .i64 d.kind, .int .i64 d.key] := by rw [hW2]; exact (hbw.set (j := 0)).set (j := 1)
  have kk0 : Kp w3 W0 := by rw [hW0]; exact (Kp.refl w3).drew
  have B3 := And.intro (kk0.cell hb3) (And.intro (kk1.cell hb3) (kk2.cell hb3))
  have BI := And.intro (kk0.cell d1) (And.intro (kk1.cell d1) (kk2.cell d1))
  have BP := And.intro (kk0.cell d2) (And.intro (kk1.cell d2) (kk2.cell d2))
  have BE := And.intro (kk0.cell t0) (And.intro (kk1.cell t0) (kk2.cell t0))
  have BR := And.intro (kk0.cell hrow) (And.intro (kk1.cell hrow) (kk2.cell hrow))
  have BK0 := And.intro (kk0.cell e0) (And.intro (kk1.cell e0) (kk2.cell e0))
  have BK1 := And.intro (kk0.cell e1) (And.intro (kk1.cell e1) (kk2.cell e1))
  have S1 : W1.cell? ⟨D3, 0, none⟩ = some (.int .i64 0) := hbw.cell 0
  have S2 : W1.cell? ⟨D3, 1, none⟩ = some (.int .i64 0) := hbw.cell 1
  have T1 : W1.frozen? ⟨D3, 0, none⟩ = false := hbw.frozen 0
  have T2 : W1.frozen? ⟨D3, 1, none⟩ = false := hbw.frozen 1
  have HW1 := hide hW1
  have HW2 : Hid (∀ n, (((W1.drewN n).setCell ⟨D3, 0, none⟩ (.int .i64 d.kind)).setCell ⟨D3, 1, none⟩ (.int .i64 d.key)) = W2.drewN n) := hide (fun n => by rw [hW2]; rfl)
  have HD3 : Hid (W0.heap.size = D3) := hide (by rw [hW0, hD3]; rfl)
  have HW0 := hide hW0
  have HE := hide hd
  have HI := hide he
  have HKK2 := hide kk2
  have HBW2 := hide hbw2
  clear hW0 hW1 hW2 hd he kk0 kk1 kk2 hbw hbw2 hD3
  refine wp_region_tab (by kernel_rfl) [(28, .pointer (some ⟨K.b, 0, none⟩)), (29, .pointer (some ⟨K.b, 0, none⟩)), (30, .pointer (some ⟨K.b, 3, none⟩)), (31, .slice (some ⟨pb, po, none⟩) P.length pc), (32, .int .i64 i), (33, .pointer (some ⟨pb, po + i, none⟩)), (34, .slice (some ⟨b2, o2, none⟩) (ndl P i) rc), (35, .pointer (some ⟨K.hg, i * 5, none⟩)), (36, .pointer (some ⟨K.hg, i * 5, none⟩)), (37, .pointer (some ⟨K.hg, i * 5, none⟩)), (38, .int .i64 (s.deed i)), (39, .pointer (some ⟨b2, o2 + (s.deed i) * 2, none⟩)), (40, .agg #[.int .i64 d.kind, .int .i64 d.key]), (6, .pointer (some ⟨D3, 0, none⟩))] (fun _ _ _ => True) (JN W0 W1 W2 13 14) (by rw [HW0.out]; exact JN.start (by decide) (by decide)) (by kernel_rfl) (by kernel_rfl) ?_ ?_
  · refine ⟨?_, ?_, ?_, ?_, ?_, ?_, ?_, ?_, ?_, ?_, ?_, ?_, ?_, ?_, ?_, trivial⟩
    · intro hop L a w5 hs hk hl ha keep know spec
      have h0 := keep 0 (.pointer (some ⟨K.b, 0, none⟩)) (by kernel_rfl) rfl
      exact wpOp_value hop (wanted_none rfl) (v := .pointer (some ⟨K.b, 0, none⟩)) (by simp only [execOp, Act.eval, h0]; rfl) ⟨_, rfl, (hk.go (by decide) (by decide)), (fun d hd => by injection hd with hd; subst hd; exact ⟨tab rfl, trivial⟩), fun _ _ h => h⟩
    · intro hop L a w5 hs hk hl ha keep know spec
      have h28 := know 28 (.pointer (some ⟨K.b, 0, none⟩)) (by kernel_rfl) rfl
      exact wpOp_value hop (wanted_none rfl) (v := .pointer (some ⟨K.b, 0, none⟩)) (by simp only [execOp, Act.eval, h28]; go_simp) ⟨_, rfl, (hk.go (by decide) (by decide)), (fun d hd => by injection hd with hd; subst hd; exact ⟨tab rfl, trivial⟩), fun _ _ h => h⟩
    · intro hop L a w5 hs hk hl ha keep know spec
      have h29 := know 29 (.pointer (some ⟨K.b, 0, none⟩)) (by kernel_rfl) rfl
      exact wpOp_value hop (wanted_none rfl) (v := .pointer (some ⟨K.b, 3, none⟩)) (by simp only [execOp, Act.eval, h29]; go_simp) ⟨_, rfl, (hk.go (by decide) (by decide)), (fun d hd => by injection hd with hd; subst hd; exact ⟨tab rfl, trivial⟩), fun _ _ h => h⟩
    · intro hop L a w5 hs hk hl ha keep know spec
      have h30 := know 30 (.pointer (some ⟨K.b, 3, none⟩)) (by kernel_rfl) rfl
      have q := hk.cell B3
      exact wpOp_value hop (wanted_none rfl) (v := .slice (some ⟨pb, po, none⟩) P.length pc) (by simp only [execOp, Act.eval, h30]; go_simp) ⟨_, rfl, (hk.go (by decide) (by decide)), (fun d hd => by injection hd with hd; subst hd; exact ⟨tab rfl, trivial⟩), fun _ _ h => h⟩
    · intro hop L a w5 hs hk hl ha keep know spec
      have h3 := keep 3 (.pointer (some ⟨D1, 0, none⟩)) (by kernel_rfl) rfl
      have q := hk.cell BI
      exact wpOp_value hop (wanted_none rfl) (v := .int .i64 i) (by simp only [execOp, Act.eval, h3]; go_simp) ⟨_, rfl, (hk.go (by decide) (by decide)), (fun d hd => by injection hd with hd; subst hd; exact ⟨tab rfl, trivial⟩), fun _ _ h => h⟩
    · intro hop L a w5 hs hk hl ha keep know spec
      have h31 := know 31 (.slice (some ⟨pb, po, none⟩) P.length pc) (by kernel_rfl) rfl
      have h32 := know 32 (.int .i64 i) (by kernel_rfl) rfl
      exact wpOp_value hop (wanted_none rfl) (v := .pointer (some ⟨pb, po + i, none⟩)) (by simp only [execOp, Act.eval, h31, h32]; go_simp) ⟨_, rfl, (hk.go (by decide) (by decide)), (fun d hd => by injection hd with hd; subst hd; exact ⟨tab rfl, trivial⟩), fun _ _ h => h⟩
    · intro hop L a w5 hs hk hl ha keep know spec
      have h33 := know 33 (.pointer (some ⟨pb, po + i, none⟩)) (by kernel_rfl) rfl
      have q := hk.cell BR
      exact wpOp_value hop (wanted_none rfl) (v := .slice (some ⟨b2, o2, none⟩) (ndl P i) rc) (by simp only [execOp, Act.eval, h33]; go_simp) ⟨_, rfl, (hk.go (by decide) (by decide)), (fun d hd => by injection hd with hd; subst hd; exact ⟨tab rfl, trivial⟩), fun _ _ h => h⟩
    · intro hop L a w5 hs hk hl ha keep know spec
      have h5 := keep 5 (.pointer (some ⟨D2, 0, none⟩)) (by kernel_rfl) rfl
      have q := hk.cell BP
      exact wpOp_value hop (wanted_none rfl) (v := .pointer (some ⟨K.hg, i * 5, none⟩)) (by simp only [execOp, Act.eval, h5]; go_simp) ⟨_, rfl, (hk.go (by decide) (by decide)), (fun d hd => by injection hd with hd; subst hd; exact ⟨tab rfl, trivial⟩), fun _ _ h => h⟩
    · intro hop L a w5 hs hk hl ha keep know spec
      have h35 := know 35 (.pointer (some ⟨K.hg, i * 5, none⟩)) (by kernel_rfl) rfl
      exact wpOp_value hop (wanted_none rfl) (v := .pointer (some ⟨K.hg, i * 5, none⟩)) (by simp only [execOp, Act.eval, h35]; go_simp) ⟨_, rfl, (hk.go (by decide) (by decide)), (fun d hd => by injection hd with hd; subst hd; exact ⟨tab rfl, trivial⟩), fun _ _ h => h⟩
    · intro hop L a w5 hs hk hl ha keep know spec
      have h36 := know 36 (.pointer (some ⟨K.hg, i * 5, none⟩)) (by kernel_rfl) rfl
      exact wpOp_value hop (wanted_none rfl) (v := .pointer (some ⟨K.hg, i * 5, none⟩)) (by simp only [execOp, Act.eval, h36]; go_simp) ⟨_, rfl, (hk.go (by decide) (by decide)), (fun d hd => by injection hd with hd; subst hd; exact ⟨tab rfl, trivial⟩), fun _ _ h => h⟩
    · intro hop L a w5 hs hk hl ha keep know spec
      have h37 := know 37 (.pointer (some ⟨K.hg, i * 5, none⟩)) (by kernel_rfl) rfl
      have q := hk.cell BE
      exact wpOp_value hop (wanted_none rfl) (v := .int .i64 (s.deed i)) (by simp only [execOp, Act.eval, h37]; go_simp) ⟨_, rfl, (hk.go (by decide) (by decide)), (fun d hd => by injection hd with hd; subst hd; exact ⟨tab rfl, trivial⟩), fun _ _ h => h⟩
    · intro hop L a w5 hs hk hl ha keep know spec
      have h34 := know 34 (.slice (some ⟨b2, o2, none⟩) (ndl P i) rc) (by kernel_rfl) rfl
      have h38 := know 38 (.int .i64 (s.deed i)) (by kernel_rfl) rfl
      exact wpOp_value hop (wanted_none rfl) (v := .pointer (some ⟨b2, o2 + (s.deed i) * 2, none⟩)) (by simp only [execOp, Act.eval, h34, h38]; go_simp) ⟨_, rfl, (hk.go (by decide) (by decide)), (fun d hd => by injection hd with hd; subst hd; exact ⟨tab rfl, trivial⟩), fun _ _ h => h⟩
    · intro hop L a w5 hs hk hl ha keep know spec
      have h39 := know 39 (.pointer (some ⟨b2, o2 + (s.deed i) * 2, none⟩)) (by kernel_rfl) rfl
      have q := hk.cell BK0
      have q' := hk.cell BK1
      exact wpOp_value hop (wanted_none rfl) (v := .agg #[.int .i64 d.kind, .int .i64 d.key]) (by simp only [execOp, Act.eval, h39]; go_simp) ⟨_, rfl, (hk.go (by decide) (by decide)), (fun d hd => by injection hd with hd; subst hd; exact ⟨tab rfl, trivial⟩), fun _ _ h => h⟩
    · intro hop L a w5 hs hk hl ha keep know spec
      obtain ⟨e5, hk2⟩ := hk.al hl (by decide) HW1.out
      exact wpOp_value hop (wanted_none rfl) (v := .pointer (some ⟨D3, 0, none⟩)) (w' := w5.alloc (.cells #[.int .i64 0, .int .i64 0] 23)) (by simp only [execOp, Act.eval]; go_simp; first | exact HD3.out | exact e5.trans HD3.out) ⟨_, rfl, hk2, (fun d hd => by injection hd with hd; subst hd; exact ⟨tab rfl, trivial⟩), fun _ _ h => h⟩
    · intro hop L a w5 hs hk hl ha keep know spec
      have h6 := know 6 (.pointer (some ⟨D3, 0, none⟩)) (by kernel_rfl) rfl
      have h40 := know 40 (.agg #[.int .i64 d.kind, .int .i64 d.key]) (by kernel_rfl) rfl
      obtain ⟨⟨n5, e5⟩, hk2⟩ := hk.sw hl (after_done ha (k := 13) (by kernel_rfl)) (f := fun W => (W.setCell ⟨D3, 0, none⟩ (.int .i64 d.kind)).setCell ⟨D3, 1, none⟩ (.int .i64 d.key)) HW2.out
      have q : w5.cell? ⟨D3, 0, none⟩ = some _ := (congrArg (fun W : World => W.cell? ⟨D3, 0, none⟩) e5).trans S1
      have q' : w5.cell? ⟨D3, 1, none⟩ = some _ := (congrArg (fun W : World => W.cell? ⟨D3, 1, none⟩) e5).trans S2
      have r : w5.frozen? ⟨D3, 0, none⟩ = false := (congrArg (fun W : World => W.frozen? ⟨D3, 0, none⟩) e5).trans T1
      have r' : w5.frozen? ⟨D3, 1, none⟩ = false := (congrArg (fun W : World => W.frozen? ⟨D3, 1, none⟩) e5).trans T2
      exact wpOp_skip hop (wanted_none rfl) (w' := (w5.setCell ⟨D3, 0, none⟩ (.int .i64 d.kind)).setCell ⟨D3, 1, none⟩ (.int .i64 d.key)) (by clear e5; simp only [execOp, Act.eval, h6, h40]; go_simp) ⟨_, rfl, hk2, (fun d hd => by cases hd), fun _ _ h => h⟩
  · intro a' w7 e1' e2' hk keep know spec
    obtain ⟨tm, df⟩ := a'
    obtain ⟨f9, hf⟩ := frame_puts (D := [28, 29, 30, 31, 32, 33, 34, 35, 36, 37, 38, 39, 40, 6]) e2' keep
    have e3' : df = [] := e1'
    obtain ⟨n7, e6⟩ := hk.done (n := 15) (by decide) (by decide)
    have h6 := know 6 (.pointer (some ⟨D3, 0, none⟩)) (by kernel_rfl) rfl
    clear keep know spec e1' e2' hk B3 BI BP BE BR BK0 BK1 S1 S2 T1 T2 HW1 HW0 HW2
    simp only [List.foldl_cons, List.foldl_nil, List.setIfInBounds_toArray, List.set_cons_zero, List.set_cons_succ] at hf
    subst e3'
    rw [hf] at h6
    have h6 : f9 6 = .pointer (some ⟨D3, 0, none⟩) := h6
    rw [hf, h6]
    clear hf h6
    have k7 : Kp w3 w7 := by rw [e6]; exact HKK2.out.drewN
    have H7 := hide ((H3.out.kpw k7).add (D := D3) (t := 23) (c := [.int .i64 d.kind, .int .i64 d.key]) (by rw [e6]; exact HBW2.out.kp (Kp.refl _).drewN) (by unfold okBT; decide))
    have d1 := k7.cell d1
    have d2 := k7.cell d2
    have hb0 := k7.cell hb0
    have hb4 := k7.cell hb4
    have hb5 := k7.cell hb5
    have t0 := k7.cell t0
    clear e6 HKK2 HBW2 k7 H3 hrow e0 e1 hb3 t1 t2 t3 t4 fz HP epv hrn hrm q1 hcI he9 HD3
    have dd0 : w7.cell? ⟨D3, 0, none⟩ = some (.int .i64 d.kind) := H7.out.added.cell 0
    have dd1 : w7.cell? ⟨D3, 1, none⟩ = some (.int .i64 d.key) := H7.out.added.cell 1
    go_wp2_with fail
    refine (indexDone2_any dl (.slice A0 n0 c0) 33 (ptr D1) (ptr D2) (fun x => x.1 == i && x.2.1 == s.deed i) w7 H7.out.dn.rd (fun _ _ => by kernel_rfl) (fun x _ W k => step1_any x D1 D2 i K.hg (i * 5) (s.deed i) W (k.cell d1) (k.cell d2) (k.cell t0))).mono ?_
    rintro r w8 ⟨rr, rfl, k8, hcase⟩
    have H8 := hide (H7.out.kpw k8)
    have d1 := k8.cell d1
    have d2 := k8.cell d2
    have hb0 := k8.cell hb0
    have hb4 := k8.cell hb4
    have hb5 := k8.cell hb5
    have t0 := k8.cell t0
    have HCS := hide hcase
    clear hcase k8 H7 dd0 dd1
    obtain ⟨K3, hK3⟩ : ∃ K3, K3 = ((K.add D1 3 [.int .i64 i]).add D2 77 [.pointer (some ⟨K.hg, i * 5, none⟩)]).add D3 23 [.int .i64 d.kind, .int .i64 d.key] := ⟨_, rfl⟩
    rw [← hK3] at H8
    have HK3 := hide hK3
    clear hK3
    go_upto_if 48 with fail
    go_cut [7] from 49 to 72 (fun s7 wx => ∃ k : Nat, s7 = .int .i64 k ∧ R8 K3 s (up s.told i (toldB s i)) s.m s.hd i k (dl.length + 1) wx)
    case first =>
      rcases HCS.out with ⟨k, hk, rfl, hq, hall⟩ | ⟨rfl, hno⟩
      · obtain ⟨hl2, r1, he1⟩ := DB.len HDB.out hk hq
        have hz := HLEN.out
        have HR : Hid (∃ k' : Nat, Value.int .i64 (k : Int) = .int .i64 k' ∧ R8 K3 s (up s.told i (toldB s i)) s.m s.hd i k' (dl.length + 1) w8) := hide (by
          have e : toldB s i = s.told i := by unfold toldB; rw [if_neg (by omega)]
          have e9 : up s.told i (toldB s i) = s.told := by rw [e]; exact up_self _ _
          rw [e9]
          exact ⟨k, rfl, dl, bg, bc, _, r1, H8.out, ⟨hk, he1⟩, HDB.out, Nat.le_succ _⟩)
        clear hall hq hl2 he1 hz hk
        go_wp2_with fail
        go_meet
        exact HR.out
      · have hl3 : (s.told i).length = s.deed i := by
          rcases HLEN.out with h1 | h1
          · exact h1
          · exfalso
            have h2 := HDB.out i
            have h3 : (i, s.deed i, (s.told i)[s.deed i]'(by omega)) ∈ toldL i (s.told i) := by
              unfold toldL
              exact List.mem_iff_getElem.2 ⟨s.deed i, by simp; omega, by simp⟩
            rw [← h2] at h3
            have h4 := hno _ (List.mem_filter.1 h3).1
            simp at h4
        have hN0 : n0 = dl.length := by obtain ⟨_, _, e, _⟩ := H8.out.dn.rd; injection e
        have HN0 := hide hN0
        clear hN0
        go_upto_region 8 with fail
        have n1 : (Value.slice A0 n0 c0).ownBlock ≠ some K.b := by have := OW.bc_ne H8.out.dn H8.out.bb (by decide); rw [HK3.out] at this; exact this
        have n2 : (Value.slice A0 n0 c0).ownBlock ≠ some K.hg := by have := OW.bc_ne H8.out.dn H8.out.hs (by decide); rw [HK3.out] at this; exact this
        have HX : ∃ R1 : World → Prop, (∀ a b, R1 a → Kp a b → R1 b) ∧ (∀ W γ, KV (.slice A0 n0 c0) w8 W → OW W K.w0.heap.size 35 eDone γ (dl ++ [(i, s.deed i, ⟨s.now, -1, false⟩)]) → (γ.ownBlock = (Value.slice A0 n0 c0).ownBlock ∨ Hi w8.heap.size γ) → R1 (W.setCell ⟨K.b, 5, none⟩ γ)) ∧
            (∀ W, R1 W → R8 K3 s (up s.told i (toldB s i)) s.m s.hd i dl.length (dl.length + 1) W) := by
          refine ⟨fun W => R8 K3 s (up s.told i (toldB s i)) s.m s.hd i dl.length (dl.length + 1) W, fun a b h k => h.kpw k, fun W γ a1 a2 a3 => ?_, fun W h => h⟩
          have a2 : OW W K3.w0.heap.size 35 eDone γ (dl ++ [(i, s.deed i, ⟨s.now, -1, false⟩)]) := by rw [HK3.out]; exact a2
          have h9 := H8.out.addd a1 a2 a3
          have eb : K3.b = K.b := by rw [HK3.out]; rfl
          rw [eb] at h9
          have e : toldB s i = s.told i ++ [⟨s.now, -1, false⟩] := by unfold toldB; rw [if_pos (by omega)]
          have h10 := HDB.out.snoc i ⟨s.now, -1, false⟩
          rw [hl3, ← e] at h10
          exact ⟨_, bg, bc, γ, _, h9, ⟨by simp, by simp; rfl⟩, h10, by simp⟩
        obtain ⟨R1, hR1, hS, hC⟩ := HX
        have HR1 := hide hR1
        have HS := hide hS
        have HC := hide hC
        clear hR1 hS hC
        have HU : Hid (OW w8 K.w0.heap.size 35 eDone (.slice A0 n0 c0) dl) := hide (by have := H8.out.dn; rw [HK3.out] at this; exact this)
        have HB : Hid (K.w0.heap.size ≤ w8.heap.size) := hide (by have := H8.out.kp.size; rw [HK3.out] at this; exact this)
        have h8' := H8.out
        rw [HK3.out] at h8'
        have HCU : Hid (w8.cell? ⟨K.b, 5, none⟩ = some (.slice A0 n0 c0)) := hide hb5
        have HCI : Hid (w8.cell? ⟨D1, 0, none⟩ = some (.int .i64 i) ∧ (⟨D1, 0, none⟩ : Addr).block ≠ (⟨K.b, 5, none⟩ : Addr).block ∧ (Value.slice A0 n0 c0).ownBlock ≠ some (⟨D1, 0, none⟩ : Addr).block) := hide ⟨d1, BC.ne h8'.less.less.added h8'.less.less.less.bb (by decide), OW.bc_ne h8'.dn h8'.less.less.added (by decide)⟩
        have HCP : Hid (w8.cell? ⟨D2, 0, none⟩ = some (.pointer (some ⟨K.hg, i * 5, none⟩)) ∧ (⟨D2, 0, none⟩ : Addr).block ≠ (⟨K.b, 5, none⟩ : Addr).block ∧ (Value.slice A0 n0 c0).ownBlock ≠ some (⟨D2, 0, none⟩ : Addr).block) := hide ⟨d2, BC.ne h8'.less.added h8'.less.less.less.bb (by decide), OW.bc_ne h8'.dn h8'.less.added (by decide)⟩
        have HCE : Hid (w8.cell? ⟨K.hg, i * 5, none⟩ = some (.int .i64 (s.deed i)) ∧ (⟨K.hg, i * 5, none⟩ : Addr).block ≠ (⟨K.b, 5, none⟩ : Addr).block ∧ (Value.slice A0 n0 c0).ownBlock ≠ some (⟨K.hg, i * 5, none⟩ : Addr).block) := hide ⟨t0, fun e => h8'.less.less.less.ne3 e.symm, n2⟩
        have HCN : Hid (w8.cell? ⟨K.b, 4, none⟩ = some (.int .i64 s.now)) := hide hb4
        have HQL : Hid ((⟨K.b, 5, none⟩ : Addr).block < w8.heap.size) := hide h8'.less.less.less.bb.lt
        have HUN : Hid ((Value.slice A0 n0 c0).ownBlock ≠ some (⟨K.b, 5, none⟩ : Addr).block) := hide n1
        have HF : Hid (w8.frozen? ⟨K.b, 5, none⟩ = false) := hide (h8'.less.less.less.bb.frozen 5)
        have HM1 : Hid ((dl.length + [((i, s.deed i, ⟨s.now, -1, false⟩) : Nat × Nat × Dn)].length) * 40 ≤ 140737488355328) := hide (by simp; omega)
        have HM2 : Hid (dl.length + [((i, s.deed i, ⟨s.now, -1, false⟩) : Nat × Nat × Dn)].length ≤ maxLen) := hide (by simp [maxLen]; omega)
        clear h8'
        refine wp_region_tabG (by kernel_rfl) [(54, .pointer (some ⟨K.b, 0, none⟩)), (55, .pointer (some ⟨K.b, 0, none⟩)), (56, .pointer (some ⟨K.b, 0, none⟩)), (57, .pointer (some ⟨K.b, 5, none⟩)), (58, .slice A0 n0 c0), (59, .int .i64 i), (60, .pointer (some ⟨K.hg, i * 5, none⟩)), (61, .pointer (some ⟨K.hg, i * 5, none⟩)), (62, .pointer (some ⟨K.hg, i * 5, none⟩)), (63, .int .i64 (s.deed i)), (64, .pointer (some ⟨K.b, 0, none⟩)), (65, .pointer (some ⟨K.b, 0, none⟩)), (66, .pointer (some ⟨K.b, 4, none⟩)), (67, .int .i64 s.now), (68, .agg #[.int .i64 i, .int .i64 (s.deed i), .int .i64 s.now, .int .i64 (-1), .bool false]), (71, .pointer (some ⟨K.b, 0, none⟩)), (72, .pointer (some ⟨K.b, 5, none⟩))] (GA w8 69 70 35 eDone (i, s.deed i, ⟨s.now, -1, false⟩)) (JQ chB w8 (.slice A0 n0 c0) ⟨K.b, 5, none⟩ 4 16 19 K.w0.heap.size 35 eDone (dl ++ [(i, s.deed i, ⟨s.now, -1, false⟩)]) R1) .nilFunc (JQ.start (by decide) (by decide) (by decide)) (by kernel_rfl) (by kernel_rfl) ?_ ?_
        · refine ⟨?_, ?_, ?_, ?_, ?_, ?_, ?_, ?_, ?_, ?_, ?_, ?_, ?_, ?_, ?_, ?_, ?_, ?_, ?_, ?_, trivial⟩
          · intro hop L a w5 γ hs hk hl ha keep know spec
            have h0 := keep 0 (.pointer (some ⟨K.b, 0, none⟩)) (by kernel_rfl) rfl
            exact wpOp_value hop (wanted_none rfl) (v := .pointer (some ⟨K.b, 0, none⟩)) (by simp only [execOp, Act.eval, h0]; rfl) ⟨_, γ, rfl, hk.go HR1.out (Kp.refl _) 0 (fun y hy e => absurd e ((by decide : ∀ y ∈ chB, y.1 ≠ 0) y hy)) (by decide) (by decide), (fun d hd => by injection hd with hd; subst hd; exact ⟨tab rfl, GA.none (by decide)⟩), fun _ _ _ h => h⟩
          · intro hop L a w5 γ hs hk hl ha keep know spec
            have h0 := keep 0 (.pointer (some ⟨K.b, 0, none⟩)) (by kernel_rfl) rfl
            exact wpOp_value hop (wanted_none rfl) (v := .pointer (some ⟨K.b, 0, none⟩)) (by simp only [execOp, Act.eval, h0]; rfl) ⟨_, γ, rfl, hk.go HR1.out (Kp.refl _) 1 (fun y hy e => absurd e ((by decide : ∀ y ∈ chB, y.1 ≠ 1) y hy)) (by decide) (by decide), (fun d hd => by injection hd with hd; subst hd; exact ⟨tab rfl, GA.none (by decide)⟩), fun _ _ _ h => h⟩
          · intro hop L a w5 γ hs hk hl ha keep know spec
            have h55 := know 55 (.pointer (some ⟨K.b, 0, none⟩)) (by kernel_rfl) rfl
            exact wpOp_value hop (wanted_none rfl) (v := .pointer (some ⟨K.b, 0, none⟩)) (by simp only [execOp, Act.eval, h55]; rfl) ⟨_, γ, rfl, hk.go HR1.out (Kp.refl _) 2 (fun y hy e => absurd e ((by decide : ∀ y ∈ chB, y.1 ≠ 2) y hy)) (by decide) (by decide), (fun d hd => by injection hd with hd; subst hd; exact ⟨tab rfl, GA.none (by decide)⟩), fun _ _ _ h => h⟩
          · intro hop L a w5 γ hs hk hl ha keep know spec
            have h56 := know 56 (.pointer (some ⟨K.b, 0, none⟩)) (by kernel_rfl) rfl
            exact wpOp_value hop (wanted_none rfl) (v := .pointer (some ⟨K.b, 5, none⟩)) (by simp only [execOp, Act.eval, h56]; rfl) ⟨_, γ, rfl, hk.go HR1.out (Kp.refl _) 3 (fun y hy e => absurd e ((by decide : ∀ y ∈ chB, y.1 ≠ 3) y hy)) (by decide) (by decide), (fun d hd => by injection hd with hd; subst hd; exact ⟨tab rfl, GA.none (by decide)⟩), fun _ _ _ h => h⟩
          · intro hop L a w5 γ hs hk hl ha keep know spec
            have h57 := know 57 (.pointer (some ⟨K.b, 5, none⟩)) (by kernel_rfl) rfl
            have q := hk.1.load hl HCU.out
            exact wpOp_value hop (wanted_none rfl) (v := .slice A0 n0 c0) (by simp only [execOp, Act.eval, h57]; go_simp) ⟨_, γ, rfl, hk.go HR1.out (Kp.refl _) 4 (fun y hy e => absurd e ((by decide : ∀ y ∈ chB, y.1 ≠ 4) y hy)) (by decide) (by decide), (fun d hd => by injection hd with hd; subst hd; exact ⟨tab rfl, GA.none (by decide)⟩), fun _ _ _ h => h⟩
          · intro hop L a w5 γ hs hk hl ha keep know spec
            have h3 := keep 3 (.pointer (some ⟨D1, 0, none⟩)) (by kernel_rfl) rfl
            have q := hk.1.cell HCI.out
            exact wpOp_value hop (wanted_none rfl) (v := .int .i64 i) (by simp only [execOp, Act.eval, h3]; go_simp) ⟨_, γ, rfl, hk.go HR1.out (Kp.refl _) 5 (fun y hy e => absurd e ((by decide : ∀ y ∈ chB, y.1 ≠ 5) y hy)) (by decide) (by decide), (fun d hd => by injection hd with hd; subst hd; exact ⟨tab rfl, GA.none (by decide)⟩), fun _ _ _ h => h⟩
          · intro hop L a w5 γ hs hk hl ha keep know spec
            have h5 := keep 5 (.pointer (some ⟨D2, 0, none⟩)) (by kernel_rfl) rfl
            have q := hk.1.cell HCP.out
            exact wpOp_value hop (wanted_none rfl) (v := .pointer (some ⟨K.hg, i * 5, none⟩)) (by simp only [execOp, Act.eval, h5]; go_simp) ⟨_, γ, rfl, hk.go HR1.out (Kp.refl _) 6 (fun y hy e => absurd e ((by decide : ∀ y ∈ chB, y.1 ≠ 6) y hy)) (by decide) (by decide), (fun d hd => by injection hd with hd; subst hd; exact ⟨tab rfl, GA.none (by decide)⟩), fun _ _ _ h => h⟩
          · intro hop L a w5 γ hs hk hl ha keep know spec
            have h60 := know 60 (.pointer (some ⟨K.hg, i * 5, none⟩)) (by kernel_rfl) rfl
            exact wpOp_value hop (wanted_none rfl) (v := .pointer (some ⟨K.hg, i * 5, none⟩)) (by simp only [execOp, Act.eval, h60]; rfl) ⟨_, γ, rfl, hk.go HR1.out (Kp.refl _) 7 (fun y hy e => absurd e ((by decide : ∀ y ∈ chB, y.1 ≠ 7) y hy)) (by decide) (by decide), (fun d hd => by injection hd with hd; subst hd; exact ⟨tab rfl, GA.none (by decide)⟩), fun _ _ _ h => h⟩
          · intro hop L a w5 γ hs hk hl ha keep know spec
            have h61 := know 61 (.pointer (some ⟨K.hg, i * 5, none⟩)) (by kernel_rfl) rfl
            exact wpOp_value hop (wanted_none rfl) (v := .pointer (some ⟨K.hg, i * 5, none⟩)) (by simp only [execOp, Act.eval, h61]; rfl) ⟨_, γ, rfl, hk.go HR1.out (Kp.refl _) 8 (fun y hy e => absurd e ((by decide : ∀ y ∈ chB, y.1 ≠ 8) y hy)) (by decide) (by decide), (fun d hd => by injection hd with hd; subst hd; exact ⟨tab rfl, GA.none (by decide)⟩), fun _ _ _ h => h⟩
          · intro hop L a w5 γ hs hk hl ha keep know spec
            have h62 := know 62 (.pointer (some ⟨K.hg, i * 5, none⟩)) (by kernel_rfl) rfl
            have q := hk.1.cell HCE.out
            exact wpOp_value hop (wanted_none rfl) (v := .int .i64 (s.deed i)) (by simp only [execOp, Act.eval, h62]; go_simp) ⟨_, γ, rfl, hk.go HR1.out (Kp.refl _) 9 (fun y hy e => absurd e ((by decide : ∀ y ∈ chB, y.1 ≠ 9) y hy)) (by decide) (by decide), (fun d hd => by injection hd with hd; subst hd; exact ⟨tab rfl, GA.none (by decide)⟩), fun _ _ _ h => h⟩
          · intro hop L a w5 γ hs hk hl ha keep know spec
            have h0 := keep 0 (.pointer (some ⟨K.b, 0, none⟩)) (by kernel_rfl) rfl
            exact wpOp_value hop (wanted_none rfl) (v := .pointer (some ⟨K.b, 0, none⟩)) (by simp only [execOp, Act.eval, h0]; rfl) ⟨_, γ, rfl, hk.go HR1.out (Kp.refl _) 10 (fun y hy e => absurd e ((by decide : ∀ y ∈ chB, y.1 ≠ 10) y hy)) (by decide) (by decide), (fun d hd => by injection hd with hd; subst hd; exact ⟨tab rfl, GA.none (by decide)⟩), fun _ _ _ h => h⟩
          · intro hop L a w5 γ hs hk hl ha keep know spec
            have h64 := know 64 (.pointer (some ⟨K.b, 0, none⟩)) (by kernel_rfl) rfl
            exact wpOp_value hop (wanted_none rfl) (v := .pointer (some ⟨K.b, 0, none⟩)) (by simp only [execOp, Act.eval, h64]; rfl) ⟨_, γ, rfl, hk.go HR1.out (Kp.refl _) 11 (fun y hy e => absurd e ((by decide : ∀ y ∈ chB, y.1 ≠ 11) y hy)) (by decide) (by decide), (fun d hd => by injection hd with hd; subst hd; exact ⟨tab rfl, GA.none (by decide)⟩), fun _ _ _ h => h⟩
          · intro hop L a w5 γ hs hk hl ha keep know spec
            have h65 := know 65 (.pointer (some ⟨K.b, 0, none⟩)) (by kernel_rfl) rfl
            exact wpOp_value hop (wanted_none rfl) (v := .pointer (some ⟨K.b, 4, none⟩)) (by simp only [execOp, Act.eval, h65]; rfl) ⟨_, γ, rfl, hk.go HR1.out (Kp.refl _) 12 (fun y hy e => absurd e ((by decide : ∀ y ∈ chB, y.1 ≠ 12) y hy)) (by decide) (by decide), (fun d hd => by injection hd with hd; subst hd; exact ⟨tab rfl, GA.none (by decide)⟩), fun _ _ _ h => h⟩
          · intro hop L a w5 γ hs hk hl ha keep know spec
            have h66 := know 66 (.pointer (some ⟨K.b, 4, none⟩)) (by kernel_rfl) rfl
            have q := hk.early [15, 14, 13] rfl hl HCN.out
            exact wpOp_value hop (wanted_none rfl) (v := .int .i64 s.now) (by simp only [execOp, Act.eval, h66]; go_simp) ⟨_, γ, rfl, hk.go HR1.out (Kp.refl _) 13 (fun y hy e => absurd e ((by decide : ∀ y ∈ chB, y.1 ≠ 13) y hy)) (by decide) (by decide), (fun d hd => by injection hd with hd; subst hd; exact ⟨tab rfl, GA.none (by decide)⟩), fun _ _ _ h => h⟩
          · intro hop L a w5 γ hs hk hl ha keep know spec
            have h59 := know 59 (.int .i64 i) (by kernel_rfl) rfl
            have h63 := know 63 (.int .i64 (s.deed i)) (by kernel_rfl) rfl
            have h67 := know 67 (.int .i64 s.now) (by kernel_rfl) rfl
            exact wpOp_value hop (wanted_none rfl) (v := .agg #[.int .i64 i, .int .i64 (s.deed i), .int .i64 s.now, .int .i64 (-1), .bool false]) (by simp only [execOp, Act.eval, List.map_toArray, List.map_cons, List.map_nil, h59, h63, h67]; go_simp) ⟨_, γ, rfl, hk.go HR1.out (Kp.refl _) 14 (fun y hy e => by simp only [chB, List.mem_cons, List.not_mem_nil, or_false] at hy; rcases hy with rfl | rfl | rfl <;> first | exact absurd e (by decide) | exact after_done ha (k := 15) (by kernel_rfl) | exact after_done ha (k := 14) (by kernel_rfl) | exact after_done ha (k := 13) (by kernel_rfl)) (by decide) (by decide), (fun d hd => by injection hd with hd; subst hd; exact ⟨tab rfl, GA.none (by decide)⟩), fun _ _ _ h => h⟩
          · intro hop L a w5 γ hs hk hl ha keep know spec
            have h68 := know 68 (.agg #[.int .i64 i, .int .i64 (s.deed i), .int .i64 s.now, .int .i64 (-1), .bool false]) (by kernel_rfl) rfl
            exact wpOp_value hop (wanted_none rfl) (v := .slice (some ⟨w5.heap.size, 0, none⟩) 1 1) (w' := w5.alloc (.cells #[.int .i64 i, .int .i64 (s.deed i), .int .i64 s.now, .int .i64 (-1), .bool false] 35)) (by simp only [execOp, Act.eval, List.map_toArray, List.map_cons, List.map_nil, h68]; go_simp) ⟨_, γ, rfl, hk.go HR1.out (Kp.refl _).alloc 15 (fun y hy e => by simp only [chB, List.mem_cons, List.not_mem_nil, or_false] at hy; rcases hy with rfl | rfl | rfl <;> first | exact absurd e (by decide) | exact after_done ha (k := 15) (by kernel_rfl) | exact after_done ha (k := 14) (by kernel_rfl) | exact after_done ha (k := 13) (by kernel_rfl)) (by decide) (by decide), (fun d hd => by injection hd with hd; subst hd; exact ⟨tab_none rfl, ⟨fun _ => ⟨_, rfl, hk.1.k2.size, BC.new w5 _ [.int .i64 i, .int .i64 (s.deed i), .int .i64 s.now, .int .i64 (-1), .bool false]⟩, fun e => by omega⟩⟩), fun _ _ _ h => h.kp (Kp.refl _).alloc⟩
          · intro hop L a w5 γ hs hk hl ha keep know spec
            have h58 := know 58 (.slice A0 n0 c0) (by kernel_rfl) rfl
            obtain ⟨b, e69, hb, bc⟩ := (spec 69 (by kernel_rfl)).1 rfl
            have how := HU.out.kp (hk.1.k1 hl)
            obtain ⟨v', w', hr, hov, hgr, hat⟩ := run_app (P := Try.prog) 26 row_done how (rd_blk (x := ((i, s.deed i, ⟨s.now, -1, false⟩) : Nat × Nat × Dn)) bc) HM1.out HM2.out (Nat.le_trans HB.out (hk.1.k1 hl).size)
            exact wpOp_value hop (wanted_none rfl) (v := v') (w' := w') (run_exec_app (.tmp 58) (.tmp 69) rfl h58 e69 hr) ⟨_, v', rfl, ⟨hk.1.app hl (after_done ha (k := 4) (by kernel_rfl)) (by decide) (by decide) HU.out hgr hov hat, hk.2.go (fun y hy e => by simp only [chB, List.mem_cons, List.not_mem_nil, or_false] at hy; rcases hy with rfl | rfl | rfl <;> first | exact absurd e (by decide) | exact after_done ha (k := 15) (by kernel_rfl) | exact after_done ha (k := 14) (by kernel_rfl) | exact after_done ha (k := 13) (by kernel_rfl))⟩, (fun d hd => by injection hd with hd; subst hd; exact ⟨tab_none rfl, ⟨fun e => by omega, fun _ => rfl⟩⟩), fun j u hd h => h.app (fun e => hd (by rw [e])) HU.out hgr⟩
          · intro hop L a w5 γ hs hk hl ha keep know spec
            have h54 := know 54 (.pointer (some ⟨K.b, 0, none⟩)) (by kernel_rfl) rfl
            exact wpOp_value hop (wanted_none rfl) (v := .pointer (some ⟨K.b, 0, none⟩)) (by simp only [execOp, Act.eval, h54]; rfl) ⟨_, γ, rfl, hk.go HR1.out (Kp.refl _) 17 (fun y hy e => absurd e ((by decide : ∀ y ∈ chB, y.1 ≠ 17) y hy)) (by decide) (by decide), (fun d hd => by injection hd with hd; subst hd; exact ⟨tab rfl, GA.none (by decide)⟩), fun _ _ _ h => h⟩
          · intro hop L a w5 γ hs hk hl ha keep know spec
            have h71 := know 71 (.pointer (some ⟨K.b, 0, none⟩)) (by kernel_rfl) rfl
            exact wpOp_value hop (wanted_none rfl) (v := .pointer (some ⟨K.b, 5, none⟩)) (by simp only [execOp, Act.eval, h71]; rfl) ⟨_, γ, rfl, hk.go HR1.out (Kp.refl _) 18 (fun y hy e => absurd e ((by decide : ∀ y ∈ chB, y.1 ≠ 18) y hy)) (by decide) (by decide), (fun d hd => by injection hd with hd; subst hd; exact ⟨tab rfl, GA.none (by decide)⟩), fun _ _ _ h => h⟩
          · intro hop L a w5 γ hs hk hl ha keep know spec
            have h72 := know 72 (.pointer (some ⟨K.b, 5, none⟩)) (by kernel_rfl) rfl
            have hG := (spec 70 (by kernel_rfl)).2 rfl
            obtain ⟨q, f, ⟨xA, xn, xc, e⟩, hj⟩ := hk.1.store hl (after_done ha (k := 16) (by kernel_rfl)) (by decide) HQL.out HUN.out HCU.out HF.out HS.out
            subst e
            exact wpOp_skip hop (wanted_none rfl) (w' := w5.setCell ⟨K.b, 5, none⟩ (.slice xA xn xc)) (by simp only [execOp, Act.eval, h72, hG]; go_simp) ⟨_, _, rfl, ⟨hj, hk.2.go (fun y hy e => absurd e ((by decide : ∀ y ∈ chB, y.1 ≠ 19) y hy))⟩, (fun d hd => by cases hd), fun _ _ _ h => h.far HQL.out⟩
        · intro a' w9 γ' e1 e2 hk keep know spec
          obtain ⟨tm, df⟩ := a'
          obtain ⟨f8, hf⟩ := frame_puts (D := [54, 55, 56, 57, 58, 59, 60, 61, 62, 63, 64, 65, 66, 67, 68, 69, 70, 71, 72]) e2 keep
          have e1' : df = [] := e1
          clear keep know spec e1 e2
          simp only [List.foldl_cons, List.foldl_nil, List.setIfInBounds_toArray, List.set_cons_zero, List.set_cons_succ] at hf
          subst e1'
          rw [hf]
          clear hf
          have hr := hk.1.k4 (getR_true _ _)
          clear hk HCU HCI HCP HCE HCN HU HB HM1 HM2 HQL HF HUN HS HR1
          have HR : Hid (∃ k' : Nat, Value.int .i64 (n0 : Int) = .int .i64 k' ∧ R8 K3 s (up s.told i (toldB s i)) s.m s.hd i k' (dl.length + 1) w9) := hide ⟨dl.length, by rw [HN0.out], HC.out _ hr⟩
          clear hr HC
          go_wp2_with fail
          go_meet
          exact HR.out
    case rest =>
    obtain ⟨k, rfl, dl1, bg1, bc1, dv1, r1, h9, ⟨hk1, hr1⟩, hdb1, hl1⟩ := hcut
    have hw9 := HWAY.out K3 dl1 bg1 bc1 dv1 wc (by rw [HK3.out]; rfl) (by rw [HK3.out]; rfl) (by rw [HK3.out]; rfl) (by rw [HK3.out]; rfl) h9
    have h9' := h9
    rw [HK3.out] at h9'
    have d2 : wc.cell? ⟨D2, 0, none⟩ = some (.pointer (some ⟨K.hg, i * 5, none⟩)) := h9'.less.added.cell 0
    have dd0 : wc.cell? ⟨D3, 0, none⟩ = some (.int .i64 d.kind) := h9'.added.cell 0
    have dd1 : wc.cell? ⟨D3, 1, none⟩ = some (.int .i64 d.key) := h9'.added.cell 1
    have hb0 : wc.cell? ⟨K.b, 0, none⟩ = some (.int .i64 K.alg) := h9'.less.less.less.bb.cell 0
    clear h9 h9' H8 HCS
    unfold hp5 deedV ptr at hw9
    obtain ⟨r, hr⟩ : ∃ r, r = algS K.alg s.m (s.hd i) d := ⟨_, rfl⟩
    rw [← hr] at hw9
    have HW9 := hide hw9
    have HRE := hide hr
    have HD1 := hide hdb1
    have HL1 := hide hl1
    have HKR : Hid (∃ hk : k < dl1.length, dl1[k] = (i, s.deed i, r1)) := hide ⟨hk1, hr1⟩
    clear hw9 hr hdb1 hl1 HWAY
    clear hr1
    clear hk1
    go_upto_block 0 with fail
    go_cut [8] from 77 to 92 (fun s8 wx => s8 = .bool r.2.2 ∧ R8 K3 s (up s.told i (toldB s i)) r.1 (up s.hd i r.2.1) i k (dl.length + 1) wx)
    case first =>
      have HQ : Hid (∀ e wy, HP K3 s dl1 i r e wy → e = .returned (.bool r.2.2) ∧ R8 K3 s (up s.told i (toldB s i)) r.1 (up s.hd i r.2.1) i k (dl.length + 1) wy) := hide (by
        rintro e wy ⟨rfl, bg', bc', dv', h10⟩
        exact ⟨rfl, dl1, bg', bc', dv', r1, h10, HKR.out, HD1.out, HL1.out⟩)
      have hal3 : K.alg = 1 ∨ K.alg = 2 ∨ (K.alg ≠ 1 ∧ K.alg ≠ 2) := by omega
      rcases hal3 with ha | ha | ⟨ha, hb⟩
      · have ha1 : ((K.alg : Int) == 1) = true := by rw [ha]; rfl
        have hwB : wayB K.alg = 34 := by rw [ha]; rfl
        rw [hwB] at HW9
        clear ha hwB
        go_wp2_with fail
        refine HW9.out.mono ?_
        intro e wy hq
        obtain ⟨rfl, h10⟩ := HQ.out e wy hq
        have H10 := hide h10
        clear h10 hq
        go_wp2
        go_meet
        exact ⟨rfl, H10.out⟩
      · have ha1 : ((K.alg : Int) == 1) = false := by rw [ha]; rfl
        have ha2 : ((K.alg : Int) == 2) = true := by rw [ha]; rfl
        have hwB : wayB K.alg = 35 := by rw [ha]; rfl
        rw [hwB] at HW9
        clear ha hwB
        go_wp2_with fail
        refine HW9.out.mono ?_
        intro e wy hq
        obtain ⟨rfl, h10⟩ := HQ.out e wy hq
        have H10 := hide h10
        clear h10 hq
        go_wp2
        go_meet
        exact ⟨rfl, H10.out⟩
      · have ha1 : ((K.alg : Int) == 1) = false := beq_eq_false_iff_ne.2 (by omega)
        have ha2 : ((K.alg : Int) == 2) = false := beq_eq_false_iff_ne.2 (by omega)
        have hwB : wayB K.alg = 36 := by unfold wayB; rw [if_neg ha, if_neg hb]
        rw [hwB] at HW9
        clear ha hb hwB
        go_wp2_with fail
        refine HW9.out.mono ?_
        intro e wy hq
        obtain ⟨rfl, h10⟩ := HQ.out e wy hq
        have H10 := hide h10
        clear h10 hq
        go_wp2
        go_meet
        exact ⟨rfl, H10.out⟩
    case rest =>
    clear HKR HW9 d2 dd0 dd1 hb0 HL1 HD1
    obtain ⟨rfl, dl2, bg2, bc2, dv2, r2, h11, ⟨hk2, hr2⟩, hdb2, hl2⟩ := hcut
    obtain ⟨ob, hob⟩ : ∃ ob, ob = r.2.2 := ⟨_, rfl⟩
    rw [← hob]
    have wn : IntKind.i64.wrap ((s.now : Int) + 1) = ((s.now + 1 : Nat) : Int) := wrap_suc _ (by omega)
    cases ob with
    | false =>
      have hb4 : wc.cell? ⟨K.b, 4, none⟩ = some (.int .i64 s.now) := by have := h11.bb.cell 4; rw [HK3.out] at this; exact this
      have fz4 : wc.frozen? ⟨K.b, 4, none⟩ = false := by have := h11.bb.frozen 4; rw [HK3.out] at this; exact this
      have HF : Hid (PO (wc.setCell ⟨K.b, 4, none⟩ (.int .i64 ((s.now + 1 : Nat) : Int)))) := hide (by
        rw [HPO.out]
        rw [HK3.out] at h11
        refine ⟨dl2, ?_, hl2, bg2, bc2, dv2, ?_⟩
        · have e : (stp K.alg d s i).told = up s.told i (toldB s i) := by unfold stp; simp only []; rw [← HRE.out, ← hob]; rfl
          rw [e]; exact hdb2
        · have e : stp K.alg d s i = { m := r.1, hd := up s.hd i r.2.1, deed := s.deed, told := up s.told i (toldB s i), now := s.now + 1 } := by unfold stp; simp only []; rw [← HRE.out, ← hob]; rfl
          rw [e]
          exact (h11.less.less.less.setnow (s.now + 1)).tld _)
      clear h11 hk2 hr2 hdb2 hl2 hob HRE HPO
      go_wp2
      exact ⟨rfl, .bool true, by simp [results, Try.results24, go_sem], rfl, HF.out⟩
    | true =>
      have hdone := (h11.kpw ((Kp.refl wc).drew)).done hk2
      have HHD := hide h11
      obtain ⟨g, gc, rfl, hb5, ⟨x3, S1⟩, ⟨x4, x4c⟩, fg, n1, n2, n3, hdn⟩ := hdone
      have HDN := hide (hdn i (s.deed i) r2 hr2 s.now r.2.1.is)
      have eKb : K3.b = K.b := by rw [HK3.out]; rfl
      have eKh : K3.hg = K.hg := by rw [HK3.out]; rfl
      have h11' := h11
      rw [HK3.out] at h11'
      obtain ⟨-, -, -, -, t4, -⟩ := h11'.less.less.less.hand hi2
      dsimp only at t4
      rw [up_same] at t4
      have hb4 : wc.cell? ⟨K.b, 4, none⟩ = some (.int .i64 s.now) := h11'.less.less.less.bb.cell 4
      have d2 : wc.cell? ⟨D2, 0, none⟩ = some (.pointer (some ⟨K.hg, i * 5, none⟩)) := h11'.less.added.cell 0
      have n3' : ¬ D2 = g := n3 D2 _ _ (by rw [HK3.out]; exact .inl (.inr ⟨rfl, rfl, rfl⟩))
      rw [eKb] at n1 hb5
      rw [eKh] at n2
      obtain ⟨W0, hW0⟩ : ∃ W0, W0 = wc.drew := ⟨_, rfl⟩
      rw [← hW0] at hb5 S1 x4c fg HDN
      have kk0 : Kp wc W0 := by rw [hW0]; exact (Kp.refl wc).drew
      obtain ⟨is, his⟩ : ∃ is, is = r.2.1.is := ⟨_, rfl⟩
      rw [← his] at t4 HDN
      obtain ⟨W1, hW1⟩ : ∃ W1, W1 = W0.setCell ⟨g, k * 5 + 3, none⟩ (.int .i64 s.now) := ⟨_, rfl⟩
      obtain ⟨W2, hW2⟩ : ∃ W2, W2 = W1.setCell ⟨g, k * 5 + 4, none⟩ (.bool is) := ⟨_, rfl⟩
      have far : ∀ (p : Addr) (v : Value), ¬ p.block = g → W0.cell? p = some v → W0.cell? p = some v ∧ W1.cell? p = some v ∧ W2.cell? p = some v := by
        intro p v hp hc
        have h1 : W1.cell? p = some v := by rw [hW1]; exact (World.cell?_setCell_far _ _ _ _ (fun e => hp e.symm)).trans hc
        exact ⟨hc, h1, by rw [hW2]; exact (World.cell?_setCell_far _ _ _ _ (fun e => hp e.symm)).trans h1⟩
      obtain ⟨n, hnn⟩ : ∃ n, n = dl2.length := ⟨_, rfl⟩
      have hkn : (k : Int) < (n : Int) := by omega
      rw [← hnn] at hb5
      have B5 := far _ _ n1 hb5
      have B4 := far _ _ n1 (kk0.cell hb4)
      have BP := far _ _ n3' (kk0.cell d2)
      have BI := far _ _ n2 (kk0.cell t4)
      have S2 : W1.cell? ⟨g, k * 5 + 4, none⟩ = some x4 := by rw [hW1]; exact (World.cell?_setCell_other _ _ _ _ (by simp)).trans x4c
      have T1 : W0.frozen? ⟨g, k * 5 + 3, none⟩ = false := fg _
      have T2 : W1.frozen? ⟨g, k * 5 + 4, none⟩ = false := by rw [hW1]; exact (by simpa using fg (k * 5 + 4))
      rw [← hW1, ← hW2] at HDN
      have HW0 := hide hW0
      have HW1 := hide hW1
      have HW2 := hide hW2
      have HNN := hide hnn
      have HHB := hide hdb2
      have HHL := hide hl2
      have HKE : Hid (∃ hk : k < dl2.length, dl2[k] = (i, s.deed i, r2)) := hide ⟨hk2, hr2⟩
      have HIS := hide his
      have HOB := hide hob
      clear hW0 hW1 hW2 hnn hdb2 hl2 hr2 his hob h11' h11 hb4 d2 t4 hb5 x4c fg n1 n2 n3 n3' hdn far kk0 HHD
      clear hk2
      go_upto_region 17 with fail
      refine wp_region_tab (by kernel_rfl) [(94, .pointer (some ⟨K.b, 0, none⟩)), (95, .pointer (some ⟨K.b, 0, none⟩)), (96, .pointer (some ⟨K.b, 5, none⟩)), (97, .slice (some ⟨g, 0, none⟩) n gc), (98, .int .i64 k), (99, .pointer (some ⟨K.b, 0, none⟩)), (100, .pointer (some ⟨K.b, 0, none⟩)), (101, .pointer (some ⟨K.b, 5, none⟩)), (102, .slice (some ⟨g, 0, none⟩) n gc), (103, .int .i64 k), (104, .pointer (some ⟨K.b, 0, none⟩)), (105, .pointer (some ⟨K.b, 0, none⟩)), (106, .pointer (some ⟨K.b, 4, none⟩)), (107, .int .i64 s.now), (108, .pointer (some ⟨K.hg, i * 5, none⟩)), (109, .pointer (some ⟨K.hg, i * 5, none⟩)), (110, .pointer (some ⟨K.hg, i * 5 + 4, none⟩)), (111, .bool is), (112, .pointer (some ⟨g, k * 5, none⟩)), (113, .pointer (some ⟨g, k * 5 + 3, none⟩)), (114, .pointer (some ⟨g, k * 5, none⟩)), (115, .pointer (some ⟨g, k * 5 + 4, none⟩))] (fun _ _ _ => True) (JN W0 W1 W2 20 23) (by rw [HW0.out]; exact JN.start (by decide) (by decide)) (by kernel_rfl) (by kernel_rfl) ?_ ?_
      · refine ⟨?_, ?_, ?_, ?_, ?_, ?_, ?_, ?_, ?_, ?_, ?_, ?_, ?_, ?_, ?_, ?_, ?_, ?_, ?_, ?_, ?_, ?_, ?_, ?_, trivial⟩
        · intro hop L a w5 hs hk hl ha keep know spec
          have h0 := keep 0 (.pointer (some ⟨K.b, 0, none⟩)) (by kernel_rfl) rfl
          exact wpOp_value hop (wanted_none rfl) (v := .pointer (some ⟨K.b, 0, none⟩)) (by simp only [execOp, Act.eval, h0]; rfl) ⟨_, rfl, (hk.go (by decide) (by decide)), (fun d hd => by injection hd with hd; subst hd; exact ⟨tab rfl, trivial⟩), fun _ _ h => h⟩
        · intro hop L a w5 hs hk hl ha keep know spec
          have h94 := know 94 (.pointer (some ⟨K.b, 0, none⟩)) (by kernel_rfl) rfl
          exact wpOp_value hop (wanted_none rfl) (v := .pointer (some ⟨K.b, 0, none⟩)) (by simp only [execOp, Act.eval, h94]; go_simp) ⟨_, rfl, (hk.go (by decide) (by decide)), (fun d hd => by injection hd with hd; subst hd; exact ⟨tab rfl, trivial⟩), fun _ _ h => h⟩
        · intro hop L a w5 hs hk hl ha keep know spec
          have h95 := know 95 (.pointer (some ⟨K.b, 0, none⟩)) (by kernel_rfl) rfl
          exact wpOp_value hop (wanted_none rfl) (v := .pointer (some ⟨K.b, 5, none⟩)) (by simp only [execOp, Act.eval, h95]; go_simp) ⟨_, rfl, (hk.go (by decide) (by decide)), (fun d hd => by injection hd with hd; subst hd; exact ⟨tab rfl, trivial⟩), fun _ _ h => h⟩
        · intro hop L a w5 hs hk hl ha keep know spec
          have h96 := know 96 (.pointer (some ⟨K.b, 5, none⟩)) (by kernel_rfl) rfl
          have q := hk.cell B5
          exact wpOp_value hop (wanted_none rfl) (v := .slice (some ⟨g, 0, none⟩) n gc) (by simp only [execOp, Act.eval, h96]; go_simp) ⟨_, rfl, (hk.go (by decide) (by decide)), (fun d hd => by injection hd with hd; subst hd; exact ⟨tab rfl, trivial⟩), fun _ _ h => h⟩
        · intro hop L a w5 hs hk hl ha keep know spec
          have h7 := keep 7 (.int .i64 k) (by kernel_rfl) rfl
          exact wpOp_value hop (wanted_none rfl) (v := .int .i64 k) (by simp only [execOp, Act.eval, h7]; rfl) ⟨_, rfl, (hk.go (by decide) (by decide)), (fun d hd => by injection hd with hd; subst hd; exact ⟨tab rfl, trivial⟩), fun _ _ h => h⟩
        · intro hop L a w5 hs hk hl ha keep know spec
          have h0 := keep 0 (.pointer (some ⟨K.b, 0, none⟩)) (by kernel_rfl) rfl
          exact wpOp_value hop (wanted_none rfl) (v := .pointer (some ⟨K.b, 0, none⟩)) (by simp only [execOp, Act.eval, h0]; rfl) ⟨_, rfl, (hk.go (by decide) (by decide)), (fun d hd => by injection hd with hd; subst hd; exact ⟨tab rfl, trivial⟩), fun _ _ h => h⟩
        · intro hop L a w5 hs hk hl ha keep know spec
          have h99 := know 99 (.pointer (some ⟨K.b, 0, none⟩)) (by kernel_rfl) rfl
          exact wpOp_value hop (wanted_none rfl) (v := .pointer (some ⟨K.b, 0, none⟩)) (by simp only [execOp, Act.eval, h99]; go_simp) ⟨_, rfl, (hk.go (by decide) (by decide)), (fun d hd => by injection hd with hd; subst hd; exact ⟨tab rfl, trivial⟩), fun _ _ h => h⟩
        · intro hop L a w5 hs hk hl ha keep know spec
          have h100 := know 100 (.pointer (some ⟨K.b, 0, none⟩)) (by kernel_rfl) rfl
          exact wpOp_value hop (wanted_none rfl) (v := .pointer (some ⟨K.b, 5, none⟩)) (by simp only [execOp, Act.eval, h100]; go_simp) ⟨_, rfl, (hk.go (by decide) (by decide)), (fun d hd => by injection hd with hd; subst hd; exact ⟨tab rfl, trivial⟩), fun _ _ h => h⟩
        · intro hop L a w5 hs hk hl ha keep know spec
          have h101 := know 101 (.pointer (some ⟨K.b, 5, none⟩)) (by kernel_rfl) rfl
          have q := hk.cell B5
          exact wpOp_value hop (wanted_none rfl) (v := .slice (some ⟨g, 0, none⟩) n gc) (by simp only [execOp, Act.eval, h101]; go_simp) ⟨_, rfl, (hk.go (by decide) (by decide)), (fun d hd => by injection hd with hd; subst hd; exact ⟨tab rfl, trivial⟩), fun _ _ h => h⟩
        · intro hop L a w5 hs hk hl ha keep know spec
          have h7 := keep 7 (.int .i64 k) (by kernel_rfl) rfl
          exact wpOp_value hop (wanted_none rfl) (v := .int .i64 k) (by simp only [execOp, Act.eval, h7]; rfl) ⟨_, rfl, (hk.go (by decide) (by decide)), (fun d hd => by injection hd with hd; subst hd; exact ⟨tab rfl, trivial⟩), fun _ _ h => h⟩
        · intro hop L a w5 hs hk hl ha keep know spec
          have h0 := keep 0 (.pointer (some ⟨K.b, 0, none⟩)) (by kernel_rfl) rfl
          exact wpOp_value hop (wanted_none rfl) (v := .pointer (some ⟨K.b, 0, none⟩)) (by simp only [execOp, Act.eval, h0]; rfl) ⟨_, rfl, (hk.go (by decide) (by decide)), (fun d hd => by injection hd with hd; subst hd; exact ⟨tab rfl, trivial⟩), fun _ _ h => h⟩
        · intro hop L a w5 hs hk hl ha keep know spec
          have h104 := know 104 (.pointer (some ⟨K.b, 0, none⟩)) (by kernel_rfl) rfl
          exact wpOp_value hop (wanted_none rfl) (v := .pointer (some ⟨K.b, 0, none⟩)) (by simp only [execOp, Act.eval, h104]; go_simp) ⟨_, rfl, (hk.go (by decide) (by decide)), (fun d hd => by injection hd with hd; subst hd; exact ⟨tab rfl, trivial⟩), fun _ _ h => h⟩
        · intro hop L a w5 hs hk hl ha keep know spec
          have h105 := know 105 (.pointer (some ⟨K.b, 0, none⟩)) (by kernel_rfl) rfl
          exact wpOp_value hop (wanted_none rfl) (v := .pointer (some ⟨K.b, 4, none⟩)) (by simp only [execOp, Act.eval, h105]; go_simp) ⟨_, rfl, (hk.go (by decide) (by decide)), (fun d hd => by injection hd with hd; subst hd; exact ⟨tab rfl, trivial⟩), fun _ _ h => h⟩
        · intro hop L a w5 hs hk hl ha keep know spec
          have h106 := know 106 (.pointer (some ⟨K.b, 4, none⟩)) (by kernel_rfl) rfl
          have q := hk.cell B4
          exact wpOp_value hop (wanted_none rfl) (v := .int .i64 s.now) (by simp only [execOp, Act.eval, h106]; go_simp) ⟨_, rfl, (hk.go (by decide) (by decide)), (fun d hd => by injection hd with hd; subst hd; exact ⟨tab rfl, trivial⟩), fun _ _ h => h⟩
        · intro hop L a w5 hs hk hl ha keep know spec
          have h5 := keep 5 (.pointer (some ⟨D2, 0, none⟩)) (by kernel_rfl) rfl
          have q := hk.cell BP
          exact wpOp_value hop (wanted_none rfl) (v := .pointer (some ⟨K.hg, i * 5, none⟩)) (by simp only [execOp, Act.eval, h5]; go_simp) ⟨_, rfl, (hk.go (by decide) (by decide)), (fun d hd => by injection hd with hd; subst hd; exact ⟨tab rfl, trivial⟩), fun _ _ h => h⟩
        · intro hop L a w5 hs hk hl ha keep know spec
          have h108 := know 108 (.pointer (some ⟨K.hg, i * 5, none⟩)) (by kernel_rfl) rfl
          exact wpOp_value hop (wanted_none rfl) (v := .pointer (some ⟨K.hg, i * 5, none⟩)) (by simp only [execOp, Act.eval, h108]; go_simp) ⟨_, rfl, (hk.go (by decide) (by decide)), (fun d hd => by injection hd with hd; subst hd; exact ⟨tab rfl, trivial⟩), fun _ _ h => h⟩
        · intro hop L a w5 hs hk hl ha keep know spec
          have h109 := know 109 (.pointer (some ⟨K.hg, i * 5, none⟩)) (by kernel_rfl) rfl
          exact wpOp_value hop (wanted_none rfl) (v := .pointer (some ⟨K.hg, i * 5 + 4, none⟩)) (by simp only [execOp, Act.eval, h109]; go_simp) ⟨_, rfl, (hk.go (by decide) (by decide)), (fun d hd => by injection hd with hd; subst hd; exact ⟨tab rfl, trivial⟩), fun _ _ h => h⟩
        · intro hop L a w5 hs hk hl ha keep know spec
          have h110 := know 110 (.pointer (some ⟨K.hg, i * 5 + 4, none⟩)) (by kernel_rfl) rfl
          have q := hk.cell BI
          exact wpOp_value hop (wanted_none rfl) (v := .bool is) (by simp only [execOp, Act.eval, h110]; go_simp) ⟨_, rfl, (hk.go (by decide) (by decide)), (fun d hd => by injection hd with hd; subst hd; exact ⟨tab rfl, trivial⟩), fun _ _ h => h⟩
        · intro hop L a w5 hs hk hl ha keep know spec
          have h97 := know 97 (.slice (some ⟨g, 0, none⟩) n gc) (by kernel_rfl) rfl
          have h98 := know 98 (.int .i64 k) (by kernel_rfl) rfl
          exact wpOp_value hop (wanted_none rfl) (v := .pointer (some ⟨g, k * 5, none⟩)) (by simp only [execOp, Act.eval, h97, h98]; go_simp) ⟨_, rfl, (hk.go (by decide) (by decide)), (fun d hd => by injection hd with hd; subst hd; exact ⟨tab rfl, trivial⟩), fun _ _ h => h⟩
        · intro hop L a w5 hs hk hl ha keep know spec
          have h112 := know 112 (.pointer (some ⟨g, k * 5, none⟩)) (by kernel_rfl) rfl
          exact wpOp_value hop (wanted_none rfl) (v := .pointer (some ⟨g, k * 5 + 3, none⟩)) (by simp only [execOp, Act.eval, h112]; go_simp) ⟨_, rfl, (hk.go (by decide) (by decide)), (fun d hd => by injection hd with hd; subst hd; exact ⟨tab rfl, trivial⟩), fun _ _ h => h⟩
        · intro hop L a w5 hs hk hl ha keep know spec
          have h113 := know 113 (.pointer (some ⟨g, k * 5 + 3, none⟩)) (by kernel_rfl) rfl
          have h107 := know 107 (.int .i64 s.now) (by kernel_rfl) rfl
          obtain ⟨⟨n5, e5⟩, hk2⟩ := hk.st1 hl (by decide) (p := ⟨g, k * 5 + 3, none⟩) (v := .int .i64 s.now) HW1.out
          have q : w5.cell? ⟨g, k * 5 + 3, none⟩ = some _ := (congrArg (fun W : World => W.cell? ⟨g, k * 5 + 3, none⟩) e5).trans S1
          have r : w5.frozen? ⟨g, k * 5 + 3, none⟩ = false := (congrArg (fun W : World => W.frozen? ⟨g, k * 5 + 3, none⟩) e5).trans T1
          exact wpOp_skip hop (wanted_none rfl) (w' := w5.setCell ⟨g, k * 5 + 3, none⟩ (.int .i64 s.now)) (by simp only [execOp, Act.eval, h113, h107]; go_simp) ⟨_, rfl, hk2, (fun d hd => by cases hd), fun _ _ h => h⟩
        · intro hop L a w5 hs hk hl ha keep know spec
          have h102 := know 102 (.slice (some ⟨g, 0, none⟩) n gc) (by kernel_rfl) rfl
          have h103 := know 103 (.int .i64 k) (by kernel_rfl) rfl
          exact wpOp_value hop (wanted_none rfl) (v := .pointer (some ⟨g, k * 5, none⟩)) (by simp only [execOp, Act.eval, h102, h103]; go_simp) ⟨_, rfl, (hk.go (by decide) (by decide)), (fun d hd => by injection hd with hd; subst hd; exact ⟨tab rfl, trivial⟩), fun _ _ h => h⟩
        · intro hop L a w5 hs hk hl ha keep know spec
          have h114 := know 114 (.pointer (some ⟨g, k * 5, none⟩)) (by kernel_rfl) rfl
          exact wpOp_value hop (wanted_none rfl) (v := .pointer (some ⟨g, k * 5 + 4, none⟩)) (by simp only [execOp, Act.eval, h114]; go_simp) ⟨_, rfl, (hk.go (by decide) (by decide)), (fun d hd => by injection hd with hd; subst hd; exact ⟨tab rfl, trivial⟩), fun _ _ h => h⟩
        · intro hop L a w5 hs hk hl ha keep know spec
          have h115 := know 115 (.pointer (some ⟨g, k * 5 + 4, none⟩)) (by kernel_rfl) rfl
          have h111 := know 111 (.bool is) (by kernel_rfl) rfl
          obtain ⟨⟨n5, e5⟩, hk2⟩ := hk.st2 hl (after_done ha (k := 20) (by kernel_rfl)) (p := ⟨g, k * 5 + 4, none⟩) (v := .bool is) HW2.out
          have q : w5.cell? ⟨g, k * 5 + 4, none⟩ = some _ := (congrArg (fun W : World => W.cell? ⟨g, k * 5 + 4, none⟩) e5).trans S2
          have r : w5.frozen? ⟨g, k * 5 + 4, none⟩ = false := (congrArg (fun W : World => W.frozen? ⟨g, k * 5 + 4, none⟩) e5).trans T2
          exact wpOp_skip hop (wanted_none rfl) (w' := w5.setCell ⟨g, k * 5 + 4, none⟩ (.bool is)) (by simp only [execOp, Act.eval, h115, h111]; go_simp) ⟨_, rfl, hk2, (fun d hd => by cases hd), fun _ _ h => h⟩
      · intro a' w9 e1' e2' hk keep know spec
        obtain ⟨tm, df⟩ := a'
        obtain ⟨f9, hf⟩ := frame_puts (D := [94, 95, 96, 97, 98, 99, 100, 101, 102, 103, 104, 105, 106, 107, 108, 109, 110, 111, 112, 113, 114, 115]) e2' keep
        have e3' : df = [] := e1'
        obtain ⟨n7, e6⟩ := hk.done (n := 24) (by decide) (by decide)
        clear keep know spec e1' e2' hk B5 B4 BP BI S1 S2 T1 T2 HW1 HW0 HW2
        simp only [List.foldl_cons, List.foldl_nil, List.setIfInBounds_toArray, List.set_cons_zero, List.set_cons_succ] at hf
        subst e3'
        rw [hf]
        clear hf
        have H12 := hide (HDN.out.kpw (w' := w9) (by rw [e6]; exact (Kp.refl _).drewN))
        rw [HK3.out] at H12
        have d2 : w9.cell? ⟨D2, 0, none⟩ = some (.pointer (some ⟨K.hg, i * 5, none⟩)) := H12.out.less.added.cell 0
        have t0 := (H12.out.less.less.less.hand hi2).1
        clear HDN e6
        have wd : IntKind.i64.wrap ((s.deed i : Int) + 1) = ((s.deed i + 1 : Nat) : Int) := wrap_suc _ (by omega)
        go_upto_region 18 with fail
        go_still_tail 8, (by kernel_rfl)
        change wpList _ _ _ _ _ w9.drew
        have H13 := hide (H12.out.less.less.less.kpw ((Kp.refl w9).drew))
        clear H12 d2 t0
        obtain ⟨w10, hw10⟩ : ∃ x, x = w9.drew := ⟨_, rfl⟩
        rw [← hw10] at H13 ⊢
        clear hw10
        obtain ⟨t0, t1, t2, t3, t4, fz⟩ := H13.out.hand hi2
        have z0 := fz 0
        have hb4 : w10.cell? ⟨K.b, 4, none⟩ = some (.int .i64 s.now) := H13.out.bb.cell 4
        have fz4 : w10.frozen? ⟨K.b, 4, none⟩ = false := H13.out.bb.frozen 4
        have nbh : ¬ K.hg = K.b := fun e => H13.out.ne3 e.symm
        have HF : Hid (PO ((((((w10.setCell ⟨K.hg, i * 5, none⟩ (.int .i64 ((s.deed i + 1 : Nat) : Int))).setCell ⟨K.hg, i * 5 + 1, none⟩ (.int .i64 0)).setCell ⟨K.hg, i * 5 + 2, none⟩ (.int .i64 0)).setCell ⟨K.hg, i * 5 + 3, none⟩ (.int .i64 0)).setCell ⟨K.hg, i * 5 + 4, none⟩ (.bool false)).setCell ⟨K.b, 4, none⟩ (.int .i64 ((s.now + 1 : Nat) : Int)))) := hide (by
          rw [HPO.out]
          have h14 := ((H13.out.reset hi2 (s.deed i + 1)).setnow (s.now + 1))
          simp only [up_up] at h14
          obtain ⟨hk2, hr2⟩ := HKE.out
          have e : stp K.alg d s i = { m := r.1, hd := up s.hd i hd0, deed := up s.deed i (s.deed i + 1), told := up s.told i (toldE (toldB s i) (s.deed i) s.now is), now := s.now + 1 } := by unfold stp; simp only []; rw [← HRE.out, ← HOB.out, HIS.out]; rfl
          refine ⟨dl2.set k (i, s.deed i, ⟨r2.bgn, s.now, is⟩), ?_, by rw [List.length_set]; exact HHL.out, bg2, bc2, .slice (some ⟨g, 0, none⟩) dl2.length gc, ?_⟩
          · rw [e]
            have h := HHB.out.fin hk2 hr2 s.now is
            simp only [up_same, up_up] at h
            exact h
          · rw [e]
            exact h14.tld _)
        clear H13 HHB HHL HKE HIS HOB HRE HPO HDB HLEN
        go_wp2
        exact ⟨rfl, .bool true, by simp [results, Try.results24, go_sem], rfl, HF.out⟩
end Go.Proofs.Ytoihdnekkgpcoaa
namespace Go.Proofs.Ytoihdnekkgpcoaa
open Go.ChangeShapes Go.WideShapes Go.ChangeAt Go.RowKit
set_option linter.unusedVariables false
set_option linter.unusedSimpArgs false

theorem lockS_n1 (m : Mm) (h : Hd) (d : Dd) : (lockS m h d).1.n ≤ m.n + 1 := by
  unfold lockS
  split <;> repeat' split
  all_goals first | exact Nat.le_succ _ | exact Nat.le_refl _
theorem lazyS_n1 (m : Mm) (h : Hd) (d : Dd) : (lazyS m h d).1.n ≤ m.n + 1 := by
  unfold lazyS lazy2
  split <;> repeat' split
  all_goals first | exact Nat.le_succ _ | exact Nat.le_refl _
theorem markS_n1 (nv : Bool) (m : Mm) (h : Hd) (d : Dd) : (markS nv m h d).1.n ≤ m.n + 1 := by
  unfold markS
  split <;> repeat' split
  all_goals first | exact Nat.le_succ _ | exact Nat.le_refl _
theorem algS_n1 (alg : Nat) (m : Mm) (h : Hd) (d : Dd) : (algS alg m h d).1.n ≤ m.n + 1 := by
  unfold algS
  split
  · exact lockS_n1 m h d
  · split
    · exact lazyS_n1 m h d
    · exact markS_n1 _ m h d
theorem stp_n1 (alg : Nat) (d : Dd) (s : St) (i : Nat) : (stp alg d s i).m.n ≤ s.m.n + 1 ∧ (stp alg d s i).now = s.now + 1 := by
  have h := algS_n1 alg s.m (s.hd i) d
  unfold stp
  dsimp only
  split <;> exact ⟨h, rfl⟩
/-- What is said of the bench all the way. -/
structure BM (K : Bl) (P : List (List Dd)) (l : List Int) (s : St) (w : World) : Prop where
  ex : ∃ dl, DB s.told dl ∧ dl.length ≤ s.now ∧ BN K s dl w
  hp : RDS K.w0 eDeed K.pv P
  ok : OkIn l P
  inv : WInv K.alg P l s
  nh : K.nh = P.length
  alg : 1 ≤ K.alg ∧ K.alg ≤ 4
  pc : PC s
  lim : s.m.n ≤ l.length + 2 + s.now
  dl : ∀ i, s.deed i ≤ ndl P i
  gl : ∀ i, (s.told i).length = s.deed i ∨ (s.told i).length = s.deed i + 1
  gn : ∀ i, (s.told i).length ≤ ndl P i
variable {K : Bl} {P : List (List Dd)} {l : List Int} {s : St} {w w' : World}
theorem BM.kpw (h : BM K P l s w) (k : Kp w w') : BM K P l s w' := by
  obtain ⟨dl, a, b, c⟩ := h.ex
  exact ⟨⟨dl, a, b, c.kpw k⟩, h.hp, h.ok, h.inv, h.nh, h.alg, h.pc, h.lim, h.dl, h.gl, h.gn⟩
theorem BM.kp (h : BM K P l s w) : Kp K.w0 w := by
  obtain ⟨dl, _, _, a, b, c, h⟩ := h.ex
  exact h.kp
theorem BM.len (h : OkIn l P) : l.length ≤ 10 := by
  have h1 := (mm0_MW l h.keys h.sort)
  have key : ∀ i, i < l.length → (i : Int) ≤ (mm0 l).ky (i + 1) := by
    intro i
    induction i with
    | zero => intro hi; have := h.keys _ (List.getElem_mem hi); rw [mm0_ky hi]; omega
    | succ i ih =>
      intro hi
      have h2 := ih (by omega)
      have h3 := h1.ri (i + 1) (by show i + 1 < l.length + 2; omega) (by rw [mm0_ky (show i < l.length by omega)]; have := (h.keys _ (List.getElem_mem (show i < l.length by omega))).2; omega)
      rw [mm0_nxI (by omega)] at h3
      omega
  by_cases h0 : l.length = 0
  · omega
  · have h2 := key (l.length - 1) (by omega)
    rw [mm0_ky (by omega)] at h2
    have := (h.keys _ (List.getElem_mem (show l.length - 1 < l.length by omega))).2
    omega
theorem BM.next (h : BM K P l s w) {i : Nat} (hc : can P s i = true) (hb : BsPost K (stp K.alg (dd P i (s.deed i)) s i) (s.now + 1) w') : BM K P l (stp K.alg (dd P i (s.deed i)) s i) w' := by
  obtain ⟨dl, a, b, c⟩ := hb
  obtain ⟨n1, n2⟩ := stp_n1 K.alg (dd P i (s.deed i)) s i
  have hlt : s.deed i < ndl P i := can_iff.1 hc
  have hlim := h.lim
  have hTB := toldB_len (s := s) (i := i) (by have := h.gl i; omega)
  refine ⟨⟨dl, a, by rw [n2]; exact b, c⟩, h.hp, h.ok, WInv.step h.ok h.inv i hc, h.nh, h.alg, pc_stp h.pc _ _ h.inv.mw i, by rw [n2]; omega, fun j => ?_, fun j => ?_, fun j => ?_⟩
  · have hj := h.dl j
    unfold stp
    dsimp only
    split
    · show up s.deed i (s.deed i + 1) j ≤ _
      by_cases e : j = i
      · rw [e, up_same]; exact hlt
      · rw [up_ne _ _ e]; exact hj
    · exact hj
  · have hj := h.gl j
    unfold stp
    dsimp only
    split
    · show (up s.told i _ j).length = up s.deed i (s.deed i + 1) j ∨ (up s.told i _ j).length = up s.deed i (s.deed i + 1) j + 1
      by_cases e : j = i
      · rw [e, up_same, up_same, toldE_len]; exact .inl hTB
      · rw [up_ne _ _ e, up_ne _ _ e]; exact hj
    · show (up s.told i _ j).length = s.deed j ∨ (up s.told i _ j).length = s.deed j + 1
      by_cases e : j = i
      · rw [e, up_same]; exact .inr hTB
      · rw [up_ne _ _ e]; exact hj
  · have hj := h.gn j
    unfold stp
    dsimp only
    split
    · show (up s.told i _ j).length ≤ _
      by_cases e : j = i
      · rw [e, up_same, toldE_len, hTB]; exact hlt
      · rw [up_ne _ _ e]; exact hj
    · show (up s.told i _ j).length ≤ _
      by_cases e : j = i
      · rw [e, up_same, hTB]; exact hlt
      · rw [up_ne _ _ e]; exact hj
/-- One step, if there is a deed left. -/
theorem bstep_any (h : BM K P l s w) {i : Nat} (hi : i < P.length) (hn : s.now < 90000) : Calls Try.prog 24 #[ptr K.b, .int .i64 i] w (fun e w' => e = .returned (.bool (can P s i)) ∧ BM K P l (stpO K.alg P s i) w') := by
  obtain ⟨dl, a, b, bg, bc, dv, hb⟩ := h.ex
  have h4 := h.ok.ndl i
  have h5 := h.dl i
  have hl := BM.len h.ok
  have h6 := h.lim
  cases hc : can P s i with
  | false =>
    have e : s.deed i = ndl P i := by
      have : ¬ s.deed i < ndl P i := fun x => by rw [can_iff.2 x] at hc; cases hc
      omega
    refine (bstep_no hb h.hp h.nh hi e).mono ?_
    rintro e w' ⟨rfl, hb'⟩
    rw [stpO_cannot _ _ _ _ hc]
    exact ⟨rfl, ⟨dl, a, b, bg, bc, dv, hb'⟩, h.hp, h.ok, h.inv, h.nh, h.alg, h.pc, h.lim, h.dl, h.gl, h.gn⟩
  | true =>
    have hlt : s.deed i < ndl P i := can_iff.1 hc
    refine (bstep_yes hb h.hp h.nh hi hlt a (h.gl i) (by omega) (by omega) (by omega) h.alg ?_).mono ?_
    · intro K' dl' bg' bc' dv' W e1 e2 e3 e4 hb'
      have := way_b (K := K') (l := l) hb' h.ok (by rw [e1]; exact h.inv) (i := i) (by rw [e4, h.nh]; exact hi) (h.pc i).1 (h.pc i).2 (by omega)
      rw [e1, e2] at this
      unfold hp5 at this ⊢
      rw [e3] at this
      exact this
    · rintro e w' ⟨rfl, hp⟩
      rw [stpO_can hc]
      refine ⟨rfl, h.next hc ?_⟩
      obtain ⟨dl', x, y, z⟩ := hp
      exact ⟨dl', x, by omega, z⟩
end Go.Proofs.Ytoihdnekkgpcoaa
namespace Go.Proofs.Ytoihdnekkgpcoaa
open Go.ChangeShapes Go.WideShapes Go.ChangeAt Go.RowKit
set_option linter.unusedVariables false
set_option linter.unusedSimpArgs false

/-- The head and so many of the beads that follow; the last one's next not yet mended. -/
def preB (l : List Int) (k : Nat) : List Bd := (-1, 1, false, false) :: (List.range k).map fun j => ((l ++ [10]).getD j 0, ((j + 2 : Nat) : Int), false, false)
theorem preB_len (l : List Int) (k : Nat) : (preB l k).length = k + 1 := by simp [preB]
theorem preB_succ (l : List Int) (k : Nat) : preB l (k + 1) = preB l k ++ [((l ++ [10]).getD k 0, ((k + 2 : Nat) : Int), false, false)] := by
  unfold preB
  rw [List.range_succ, List.map_append]
  rfl
theorem preB_at (l : List Int) (k j : Nat) (hj : j < k) (h : j + 1 < (preB l k).length) : (preB l k)[j + 1] = ((l ++ [10]).getD j 0, ((j + 2 : Nat) : Int), false, false) := by
  simp [preB]
theorem preB_end {l : List Int} (hl : ∀ x ∈ l, x ≤ 9) : (preB l (l.length + 1)).set (l.length + 1) (10, -1, false, false) = beadL (mm0 l) := by
  refine List.ext_getElem (by rw [List.length_set, preB_len, beadL_len]; rfl) fun i h1 h2 => ?_
  rw [List.length_set, preB_len] at h1
  rw [beadL_get (mm0 l) (show i < (mm0 l).n from h1)]
  by_cases e : i = l.length + 1
  · subst e
    rw [List.getElem_set_self]
    unfold nxt
    rw [mm0_kyE, if_pos rfl]
    rfl
  · rw [List.getElem_set_ne (by omega)]
    cases i with
    | zero =>
      unfold nxt
      rw [mm0_nxI (Nat.zero_le _)]
      rfl
    | succ j =>
      have hj : j < l.length := by omega
      rw [preB_at _ _ _ (by omega)]
      have hk := mm0_ky hj
      have h9 := hl _ (List.getElem_mem hj)
      unfold nxt
      rw [hk, if_neg (by omega), mm0_nxI (by omega)]
      have e2 : (l ++ [10]).getD j 0 = l[j] := by rw [List.getD_eq_getElem?_getD, List.getElem?_append_left hj]; simp [hj]
      rw [e2]
      rfl
theorem info_hs : (Try.prog.info? 79).map (fun i => (i.zero, i.size, i.bytes)) = some (some (.agg #[.int .i64 0, .int .i64 0, .int .i64 0, .int .i64 0, .bool false]), 5, 40) := by kernel_rfl
theorem row_hs : Row Try.prog 63 79 eHs 40 := row_of info_hs Try.underlying63 rfl rfl (by decide)
theorem zero_hs : ∀ i z, Try.prog.info? 79 = some i → i.zero = some z → z.cells.toList = eHs.cells ((0, hd0) : Hs) := zero_of info_hs rfl
/-- The bench in the making. -/
structure B1 (w0 w1 : World) (b g0 hg nh alg : Nat) (pv bv : Value) (bl : List Bd) (w : World) : Prop where
  kf : Kf (fun x => x = b ∨ x = g0) w1 w
  bb : BC w b 68 [.int .i64 alg, bv, .slice (some ⟨hg, 0, none⟩) nh nh, pv, .int .i64 0, .slice none 0 0]
  ow : OW w w0.heap.size 65 eBead bv bl
  at_ : ∀ k, bv.ownBlock = some k → k = g0 ∨ w1.heap.size ≤ k
def B1Rel (w0 w1 : World) (b g0 hg nh alg : Nat) (pv : Value) (l : List Int) (iv : Value) (wx : World) : Prop :=
  ∃ (k : Nat) (bv : Value), k ≤ l.length + 1 ∧ iv = .int .i64 k ∧ B1 w0 w1 b g0 hg nh alg pv bv (preB l k) wx
end Go.Proofs.Ytoihdnekkgpcoaa
