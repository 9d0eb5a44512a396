/-
  What a hand does next, called: of each of the three ways. Conditions: as each theorem says.
  copy, append within the capacity, clear, append of zeros: at slices of elements of several cells, in a block that is known whole; slices.overlaps of two blocks. Conditions: those of each law.
  A store into a cell of an element of an owned slice. Conditions: none.
  What the writes of a step leave of the table: what is told, the time, what a hand does next. Conditions: as each theorem says.
  A region that draws its order, told slot by slot as by wp_region_tab, with a ghost: what is told of a slot and of the world may speak of a ghost that each operation may carry on (whose each new block is). No program. Conditions: none.
  A region that draws, reads, makes a block of one element, appends it to a slice that it has read, and stores the slice: what its world is, whatever the order (JA, GA). No program. Conditions: none.
-/
import Derived.Test.YtoihdnekkgpcoaaG12
import Derived.Test.YtoihdnekkgpcoaaG5
import Derived.Laws.CopyOwn
import Derived.Lib.AppendZerosOnto
import Derived.Lib.Overlaps
import Derived.Lib.SliceRun
import Derived.Test.YtoihdnekkgpcoaaG6

namespace Go.Proofs.Ytoihdnekkgpcoaa
open Go.ChangeShapes Go.WideShapes Go.ChangeAt Go.RowKit
set_option linter.unusedVariables false
set_option linter.unusedSimpArgs false

variable {L : Lay} {s : St} {dv : Nat → Value} {w w' : World}
/-- A function of Go's that is entered when it is called. -/
def Ent (F : Nat) : Prop := ∀ W args, (callFunc F args).run Try.prog W = .ok (.enter F args) W
/-- The closure that hand i holds: called it makes the step r. -/
def DoC (DO : Lay → Nat → Nat → Value → Prop) (L : Lay) (s : St) (dv : Nat → Value) (w : World) (i : Nat) (r : Mm × Hd × Bool) : Prop :=
  ∃ F caps, dv i = clo F caps ∧ Ent F ∧ ∀ W, Kp w W → Calls Try.prog F caps W (CP DO L s dv i r)
theorem lk_doc (h : WN L s dv w) (mi : MW s.m) {i : Nat} (hi : i < L.nh) {d : Dd} (hd : (L.P i)[s.deed i]? = some d) (hk : okD d) {A : Prop} (q : QLk s.m (s.hd i) d A) (hv : DLk L i (s.hd i).plc (dv i)) : DoC DLk L s dv w i (lockS s.m (s.hd i) d) := by
  obtain ⟨e0, e1, e2, e3, he, hv⟩ := hv
  obtain ⟨q1, q2⟩ := q
  have hk0 : s.m.ky 0 ≠ 10 := by rw [mi.k0]; omega
  have hky := hk.2.1
  have c3 : (s.hd i).plc = 0 ∨ (s.hd i).plc = 1 ∨ (s.hd i).plc = 2 := by omega
  rcases c3 with e | e | e
  · rw [e] at hv
    exact ⟨_, _, hv.trans rfl, fun _ _ => by kernel_rfl, fun W k => lk3_any (h.kpw k) hi hd e hk0 he hv⟩
  · rw [e] at hv
    exact ⟨_, _, hv.trans rfl, fun _ _ => by kernel_rfl, fun W k => lk1_any (h.kpw k) hi e he hv⟩
  · rw [e] at hv
    obtain ⟨p1, p2, p3, p4, p5⟩ := q2 (by omega)
    have hkp : s.m.ky (s.hd i).p ≠ 10 := by omega
    have hne : (s.hd i).p ≠ (s.hd i).c := by
      intro e2
      have := mi.ri _ p1 hkp
      rw [p5, ← e2] at this; omega
    refine ⟨_, _, hv.trans rfl, fun _ _ => by kernel_rfl, fun W k => ?_⟩
    by_cases h1 : s.m.ky (s.hd i).c < d.key
    · exact lk2_on (h.kpw k) hi hd e (by omega) h1 he hv
    · by_cases hke : s.m.ky (s.hd i).c = d.key
      · by_cases hk2 : d.kind = 2
        · exact lk2_cut (h.kpw k) hi hd e hne hkp hky h1 hk2 hke he hv
        · refine lk2_same (h.kpw k) hi hd e hne hkp hky h1 _ rfl (fun hh => ?_) he hv
          rcases hh with hh | hh
          · simp [hke, hh]
          · exact absurd hh hk2
      · by_cases hk1 : d.kind = 1
        · exact lk2_add (h.kpw k) hi hd e hne hkp hky h1 hk1 hke he hv
        · exact lk2_same (h.kpw k) hi hd e hne hkp hky h1 _ rfl (fun hh => by simp [hke, hk1]) he hv
theorem lz_doc (h : WN L s dv w) (mi : MW s.m) {i : Nat} (hi : i < L.nh) {d : Dd} (hd : (L.P i)[s.deed i]? = some d) (hk : okD d) {A : Prop} (q : QLz s.m (s.hd i) d A) (hv : DLz L i (s.hd i).plc (dv i)) : DoC DLz L s dv w i (lazyS s.m (s.hd i) d) := by
  obtain ⟨e0, e1, e2, e3, e4, e5, e6, e7, he, hv⟩ := hv
  obtain ⟨q1, q2, q3, q4, q5⟩ := q
  have hk0 : s.m.ky 0 ≠ 10 := by rw [mi.k0]; omega
  have hky := hk.2.1
  have hvn : dv i ≠ .nilFunc := by rw [hv]; exact vLz_nil _ _ _ _ _ _ _ _ _
  have c6 : (s.hd i).plc = 0 ∨ (s.hd i).plc = 1 ∨ (s.hd i).plc = 2 ∨ (s.hd i).plc = 3 ∨ (s.hd i).plc = 4 ∨ (s.hd i).plc = 5 := by omega
  rcases c6 with e | e | e | e | e | e
  · rw [e] at hv
    exact ⟨_, _, hv.trans rfl, fun _ _ => by kernel_rfl, fun W k => lz1_any (h.kpw k) hi e hk0 he hv⟩
  · rw [e] at hv
    refine ⟨_, _, hv.trans rfl, fun _ _ => by kernel_rfl, fun W k => ?_⟩
    by_cases h1 : s.m.ky (s.hd i).c < d.key
    · exact lz2_on (h.kpw k) hi hd e (by omega) h1 he hv
    · by_cases hk3 : d.kind = 3
      · by_cases hke : s.m.ky (s.hd i).c = d.key
        · exact lz2_hasY (h.kpw k) hi hd e h1 hk3 hke he hvn
        · exact lz2_hasN (h.kpw k) hi hd e h1 hk3 hke he hvn
      · exact lz2_first (h.kpw k) hi hd e h1 hk3 he hv
  · rw [e] at hv
    refine ⟨_, _, hv.trans rfl, fun _ _ => by kernel_rfl, fun W k => ?_⟩
    have er : lazyS s.m (s.hd i) d = lazy2 s.m (s.hd i) := by unfold lazyS; rw [e]; rfl
    rw [er]
    exact lz3_any (h.kpw k) hi (Or.inr e) he hvn
  · rw [e] at hv
    exact ⟨_, _, hv.trans rfl, fun _ _ => by kernel_rfl, fun W k => lz4_any (h.kpw k) hi e he hv⟩
  · rw [e] at hv
    obtain ⟨p1, p2, p3⟩ := q2 (by omega)
    obtain ⟨k1, k2⟩ := q4 (by omega)
    have hkp : s.m.ky (s.hd i).p ≠ 10 := by omega
    have hne : (s.hd i).p ≠ (s.hd i).c := by intro e2; rw [e2] at p3; omega
    refine ⟨_, _, hv.trans rfl, fun _ _ => by kernel_rfl, fun W k => ?_⟩
    cases hch : (s.m.mr (s.hd i).p || s.m.mr (s.hd i).c || s.m.nx (s.hd i).p != (s.hd i).c) with
    | true => exact lz5_fail (h.kpw k) hi hd e hne hkp hch he hvn
    | false =>
      have hm : s.m.mr (s.hd i).p = false ∧ s.m.mr (s.hd i).c = false ∧ s.m.nx (s.hd i).p = (s.hd i).c := by
        cases a1 : s.m.mr (s.hd i).p <;> cases a2 : s.m.mr (s.hd i).c <;> simp_all
      by_cases hk1 : d.kind = 1
      · by_cases hke : s.m.ky (s.hd i).c = d.key
        · exact lz5_there (h.kpw k) hi hd e hne hkp hm.1 hm.2.1 hm.2.2 hk1 hke he hvn
        · exact lz5_add (h.kpw k) hi hd e hne hkp hm.1 hm.2.1 hm.2.2 hky hk1 hke he hvn
      · by_cases hke : s.m.ky (s.hd i).c = d.key
        · exact lz5_cut (h.kpw k) hi hd e hne hkp hm.1 hm.2.1 hm.2.2 hk1 hke he hvn
        · exact lz5_none (h.kpw k) hi hd e hne hkp hm.1 hm.2.1 hm.2.2 hk1 hke he hvn
  · rw [e] at hv
    obtain ⟨p1, p2, p3⟩ := q2 (by omega)
    obtain ⟨w1, w2, w3, w4, w5, w6⟩ := q5 e
    have hne : (s.hd i).p ≠ (s.hd i).c := by intro e2; rw [e2] at p3; omega
    exact ⟨_, _, hv.trans rfl, fun _ _ => by kernel_rfl, fun W k => lz6_any (h.kpw k) hi e hne (by omega) (by omega) he hvn⟩
theorem mk_doc (h : WN L s dv w) (mi : MW s.m) {i : Nat} (hi : i < L.nh) {d : Dd} (nv : Bool) (hnv : ((L.alg : Int) == 4) = nv) (hd : (L.P i)[s.deed i]? = some d) (hk : okD d) (q : QN s.m (s.hd i) d) (hv : DMk L i (s.hd i).plc (dv i)) : DoC DMk L s dv w i (markS nv s.m (s.hd i) d) := by
  obtain ⟨e0, e1, e2, e3, e4, e5, e6, he, hv⟩ := hv
  obtain ⟨q1, q2, q3, q4⟩ := q
  have hk0 : s.m.ky 0 ≠ 10 := by rw [mi.k0]; omega
  obtain ⟨hk1, hky, hkk⟩ := hk
  have hvn : dv i ≠ .nilFunc := by rw [hv]; exact vMk_nil _ _ _ _ _ _ _ _
  have c4 : (s.hd i).plc = 0 ∨ (s.hd i).plc = 1 ∨ (s.hd i).plc = 2 ∨ (s.hd i).plc = 3 := by omega
  rcases c4 with e | e | e | e
  · rw [e] at hv
    exact ⟨_, _, hv.trans rfl, fun _ _ => by kernel_rfl, fun W k => mk2_any (h.kpw k) hi nv e hk0 he hv⟩
  · rw [e] at hv
    obtain ⟨p1, p2, p3⟩ := q2 (by omega)
    have hkp : s.m.ky (s.hd i).p ≠ 10 := by omega
    refine ⟨_, _, hv.trans rfl, fun _ _ => by kernel_rfl, fun W k => ?_⟩
    by_cases hm : s.m.mr (s.hd i).c = true ∧ d.kind ≠ 3
    · obtain ⟨hm, hk3⟩ := hm
      cases hcl : clean s.m (s.hd i) with
      | false => exact mk3_again (h.kpw k) hi nv hd e hkp hm hk3 hcl he hv
      | true =>
        obtain ⟨a, b⟩ := clean_iff.1 hcl
        have h3 := mi.ri _ p1 hkp
        rw [b] at h3
        have h4 := mi.md _ p2 hm
        exact mk3_off (h.kpw k) hi nv hd e hkp hm hk3 hcl (by intro e2; rw [e2] at h3; omega) (by omega) he hv
    · have hmk : s.m.mr (s.hd i).c = true → d.kind = 3 := fun hh => Classical.byContradiction fun h3 => hm ⟨hh, h3⟩
      by_cases hlt : s.m.ky (s.hd i).c < d.key
      · exact mk3_on (h.kpw k) hi nv hd e (by omega) hmk hlt he hv
      · by_cases hk3 : d.kind = 3
        · by_cases hke : s.m.ky (s.hd i).c = d.key
          · exact mk3_hasY (h.kpw k) hi nv hd e hlt hk3 hke he hv
          · exact mk3_hasN (h.kpw k) hi nv hd e hlt hk3 hke he hv
        · have hmc : s.m.mr (s.hd i).c = false := by
            cases hh : s.m.mr (s.hd i).c with
            | false => rfl
            | true => exact absurd (hmk hh) hk3
          by_cases heq : decide (s.m.ky (s.hd i).c = d.key) = decide (d.kind = 1)
          · exact mk3_no (h.kpw k) hi nv hd e hmc hlt hk3 heq he hv
          · exact mk3_deed (h.kpw k) hi nv hd e hmc hlt hk3 heq he hv
  · rw [e] at hv
    obtain ⟨p1, p2, p3⟩ := q2 (by omega)
    obtain ⟨r1, r2, r3⟩ := q3 e
    have hkp : s.m.ky (s.hd i).p ≠ 10 := by omega
    refine ⟨_, _, hv.trans rfl, fun _ _ => by kernel_rfl, fun W k => ?_⟩
    by_cases hk1 : d.kind = 1
    · cases nv with
      | true => exact mk4_addN (h.kpw k) hi true hnv hd e hkp hky hk1 rfl he hvn
      | false =>
        cases hcl : clean s.m (s.hd i) with
        | true => exact mk4_addC (h.kpw k) hi false hnv hd e hkp hky hk1 rfl hcl he hvn
        | false => exact mk4_addF (h.kpw k) hi false hnv hd e hkp hk1 rfl hcl he hvn
    · have hk2 : d.kind = 2 := by omega
      have h5 := r2 hk2
      cases nv with
      | true => exact mk4_cutN (h.kpw k) hi true hnv hd e hkp (by omega) (by intro e2; rw [e2] at p3; omega) hk2 rfl he hvn
      | false =>
        cases hmc : s.m.mr (s.hd i).c with
        | true => exact mk4_cutF (h.kpw k) hi false hnv hd e hkp hk2 rfl hmc he hvn
        | false => exact mk4_mark (h.kpw k) hi false hnv hd e hkp hk2 rfl hmc he hvn
  · rw [e] at hv
    obtain ⟨p1, p2, p3⟩ := q2 (by omega)
    obtain ⟨r1, r2⟩ := q4 e
    exact ⟨_, _, hv.trans rfl, fun _ _ => by kernel_rfl, fun W k => mk5_any (h.kpw k) hi nv e (by intro e2; rw [e2] at p3; omega) (by omega) (by omega) he hvn⟩

/-- All else lies as it did; what stays may be more. -/
structure ExL (L L' : Lay) (n : Nat) : Prop where
  w0 : L'.w0 = L.w0
  Hb : L'.Hb = L.Hb
  T : L'.T = L.T
  nh : L'.nh = L.nh
  alg : L'.alg = L.alg
  P : L'.P = L.P
  cst : ∀ b x, L.cst b = some x → L'.cst b = some x
  B : ∀ i, i < n → L'.B i = L.B i
theorem Lx.ex {L L' : Lay} {n : Nat} (h : Lx L L' n) : ExL L L' n := by
  obtain ⟨a, b, c, d, e, f, g, k⟩ := h
  exact ⟨a, b, c, d, e, f, fun b x hx => by rw [g]; exact hx, k⟩
theorem ExL.refl (L : Lay) (n : Nat) : ExL L L n := ⟨rfl, rfl, rfl, rfl, rfl, rfl, fun _ _ h => h, fun _ _ => rfl⟩
theorem ExL.trans {L L' L2 : Lay} {n n' : Nat} (h : ExL L L' n) (k : ExL L' L2 n') (hn : n ≤ n') : ExL L L2 n :=
  ⟨k.w0.trans h.w0, k.Hb.trans h.Hb, k.T.trans h.T, k.nh.trans h.nh, k.alg.trans h.alg, k.P.trans h.P, fun b x hx => k.cst b x (h.cst b x hx), fun i hi => (k.B i (Nat.lt_of_lt_of_le hi hn)).trans (h.B i hi)⟩
/-- What a hand does next, whatever the way. -/
def DD (L : Lay) (i q : Nat) (v : Value) : Prop := (L.alg = 1 ∧ DLk L i q v) ∨ (L.alg = 2 ∧ DLz L i q v) ∨ ((L.alg = 3 ∨ L.alg = 4) ∧ DMk L i q v)
theorem DD.ex {L L' : Lay} {n i q : Nat} {v : Value} (h : DD L i q v) (x : ExL L L' n) : DD L' i q v := by
  unfold DD
  rw [x.alg]
  rcases h with ⟨a, e0, e1, e2, e3, ⟨c0, c1, c2, c3⟩, ev⟩ | ⟨a, e0, e1, e2, e3, e4, e5, e6, e7, ⟨c0, c1, c2, c3, c4, c5, c6, c7⟩, ev⟩ | ⟨a, e0, e1, e2, e3, e4, e5, e6, ⟨c0, c1, c2, c3, c4, c5, c6⟩, ev⟩
  · exact .inl ⟨a, e0, e1, e2, e3, ⟨by rw [x.T]; exact x.cst _ _ c0, by rw [x.Hb]; exact x.cst _ _ c1, x.cst _ _ c2, x.cst _ _ c3⟩, ev⟩
  · exact .inr (.inl ⟨a, e0, e1, e2, e3, e4, e5, e6, e7, ⟨by rw [x.T]; exact x.cst _ _ c0, by rw [x.Hb]; exact x.cst _ _ c1, x.cst _ _ c2, x.cst _ _ c3, x.cst _ _ c4, x.cst _ _ c5, x.cst _ _ c6, x.cst _ _ c7⟩, ev⟩)
  · exact .inr (.inr ⟨a, e0, e1, e2, e3, e4, e5, e6, ⟨by rw [x.T]; exact x.cst _ _ c0, by rw [x.Hb]; exact x.cst _ _ c1, x.cst _ _ c2, x.cst _ _ c3, x.cst _ _ c4, x.cst _ _ c5, x.cst _ _ c6⟩, ev⟩)
theorem CP.mono {D1 D2 : Lay → Nat → Nat → Value → Prop} {i : Nat} {r : Mm × Hd × Bool} {e : Ending} (h : CP D1 L s dv i r e w') (hm : ∀ L' q v, L'.alg = L.alg → D1 L' i q v → D2 L' i q v) : CP D2 L s dv i r e w' := by
  obtain ⟨a, L', dv', x, b, c, d, f⟩ := h
  exact ⟨a, L', dv', x, b, c, d, fun hh => hm _ _ _ x.ex.alg (f hh)⟩
theorem DoC.mono {D1 D2 : Lay → Nat → Nat → Value → Prop} {i : Nat} {r : Mm × Hd × Bool} (h : DoC D1 L s dv w i r) (hm : ∀ L' q v, L'.alg = L.alg → D1 L' i q v → D2 L' i q v) : DoC D2 L s dv w i r := by
  obtain ⟨F, c, a, a2, b⟩ := h
  exact ⟨F, c, a, a2, fun W k => (b W k).mono fun e w' hc => hc.mono hm⟩
/-- What a hand does next, called: whatever the way. -/
theorem do_any {P : List (List Dd)} {l : List Int} {t : Nat → List Dn} (h : WN L { s with told := t } dv w) (ok : OkIn l P) (I : WInv L.alg P l s) {i : Nat} (hi : i < L.nh) (hd : (L.P i)[s.deed i]? = some (dd P i (s.deed i))) (hv : DD L i (s.hd i).plc (dv i)) : DoC DD L { s with told := t } dv w i (algS L.alg s.m (s.hd i) (dd P i (s.deed i))) := by
  have hk := dd_ok ok.deeds i (s.deed i)
  rcases I with ⟨e, I⟩ | ⟨e, I⟩ | ⟨e, I⟩
  · obtain ⟨_, _, j, _⟩ := I.ex
    have hv : DLk L i (s.hd i).plc (dv i) := by rcases hv with ⟨_, hv⟩ | ⟨a, _⟩ | ⟨a, _⟩; exact hv; all_goals omega
    rw [show algS L.alg s.m (s.hd i) (dd P i (s.deed i)) = lockS s.m (s.hd i) (dd P i (s.deed i)) by rw [e]; rfl]
    exact (lk_doc h j.mi.mw hi hd hk (j.hq i).1 hv).mono fun L' q v ea hh => .inl ⟨ea.trans e, hh⟩
  · obtain ⟨_, _, j, _⟩ := I.ex
    have hv : DLz L i (s.hd i).plc (dv i) := by rcases hv with ⟨a, _⟩ | ⟨_, hv⟩ | ⟨a, _⟩; omega; exact hv; omega
    rw [show algS L.alg s.m (s.hd i) (dd P i (s.deed i)) = lazyS s.m (s.hd i) (dd P i (s.deed i)) by rw [e]; rfl]
    exact (lz_doc h j.mi.mw hi hd hk (j.hq i).1 hv).mono fun L' q v ea hh => .inr (.inl ⟨ea.trans e, hh⟩)
  · have hv : DMk L i (s.hd i).plc (dv i) := by rcases hv with ⟨a, _⟩ | ⟨a, _⟩ | ⟨_, hv⟩; omega; omega; exact hv
    rw [show algS L.alg s.m (s.hd i) (dd P i (s.deed i)) = markS (L.alg == 4) s.m (s.hd i) (dd P i (s.deed i)) by rcases e with e | e <;> rw [e] <;> rfl]
    exact (mk_doc h I.1 hi (L.alg == 4) (by rcases e with e | e <;> rw [e] <;> rfl) hd hk (I.2 i) hv).mono fun L' q v ea hh => .inr (.inr ⟨by rw [ea]; exact e, hh⟩)
/-- Blocks that stay are laid down. -/
theorem WN.more (h : WN L s dv w) {b : Nat} {t : TypeId} {c : List Value} (hb : BC w b t c) (ht : okT t) : ∃ L', ExL L L' s.m.n ∧ WN L' s dv w ∧ L'.cst b = some (t, c) ∧ L'.B = L.B := by
  refine ⟨{ L with cst := up L.cst b (some (t, c)) }, ⟨rfl, rfl, rfl, rfl, rfl, rfl, fun b' x hx => ?_, fun _ _ => rfl⟩, h.addc hb ht, up_same _ _ _, rfl⟩
  show up L.cst b (some (t, c)) b' = some x
  by_cases e : b' = b
  · subst e
    rw [up_same]
    obtain ⟨t', c'⟩ := x
    have h2 := (h.cs _ _ _ hx).1
    unfold BC at hb h2
    rw [hb] at h2
    injection h2 with h2
    injection h2 with h3 h4
    rw [h4]
    have := congrArg Array.toList h3
    simp at this
    rw [this]
  · rw [up_ne _ _ e]; exact hx
/-- Several blocks that stay. -/
theorem WN.mores : ∀ (bs : List (Nat × TypeId × List Value)) {L : Lay}, WN L s dv w → (∀ x ∈ bs, BC w x.1 x.2.1 x.2.2 ∧ okT x.2.1) → ∃ L', ExL L L' s.m.n ∧ WN L' s dv w ∧ ∀ x ∈ bs, L'.cst x.1 = some x.2
  | [], L, h, _ => ⟨L, ExL.refl _ _, h, fun x hx => absurd hx (by simp)⟩
  | x :: bs, L, h, hb => by
    obtain ⟨L1, a1, a2, a3, _⟩ := h.more (hb x (by simp)).1 (hb x (by simp)).2
    obtain ⟨L2, c1, c2, c3⟩ := WN.mores bs a2 (fun y hy => hb y (by simp [hy]))
    refine ⟨L2, a1.trans c1 (Nat.le_refl _), c2, fun y hy => ?_⟩
    rcases List.mem_cons.1 hy with rfl | hy
    · exact c1.cst _ _ a3
    · exact c3 y hy
theorem okT_t : okT 49 ∧ okT 54 ∧ okT 33 := by unfold okT; decide
def wayF (alg : Nat) : Nat := if alg = 1 then 29 else if alg = 2 then 30 else 31
/-- A way, begun. -/
theorem way_any (L : Lay) (i alg : Nat) (ha : L.alg = alg) (h1 : 1 ≤ alg) (h4 : alg ≤ 4) (w : World) : Calls Try.prog (wayF alg) #[ptr L.T, ptr (L.Hb i)] w (fun e w' => ∃ v, e = .returned v ∧ Kp w w' ∧ (∃ F c, v = clo F c) ∧
    ∀ (s : St) (dv : Nat → Value) (W : World), WN L s dv W → Kp w' W → ∃ L', ExL L L' s.m.n ∧ WN L' s dv W ∧ DD L' i 0 v) := by
  obtain ⟨t1, t2, t3⟩ := okT_t
  have c : alg = 1 ∨ alg = 2 ∨ (alg = 3 ∨ alg = 4) := by omega
  rcases c with e | e | e
  · rw [show wayF alg = 29 by rw [e]; rfl]
    refine (lock_any L.T (L.Hb i) w).mono ?_
    rintro r w' ⟨e0, e1, e2, e3, rfl, k, b0, b1, b2, b3⟩
    refine ⟨_, rfl, k, ⟨_, _, rfl⟩, fun s dv W h kW => ?_⟩
    obtain ⟨L', x, h', hc⟩ := WN.mores [(e0, _, _), (e1, _, _), (e2, _, _), (e3, _, _)] h (by
      simp only [List.forall_mem_cons, List.not_mem_nil, false_implies, implies_true, and_true]
      exact ⟨⟨b0.kp kW, t1⟩, ⟨b1.kp kW, t2⟩, ⟨b2.kp kW, t3⟩, ⟨b3.kp kW, t3⟩⟩)
    simp only [List.forall_mem_cons, List.not_mem_nil, false_implies, implies_true, and_true] at hc
    obtain ⟨c0, c1, c2, c3⟩ := hc
    exact ⟨L', x, h', .inl ⟨by rw [x.alg, ha, e], e0, e1, e2, e3, ⟨by rw [x.T]; exact c0, by rw [x.Hb]; exact c1, c2, c3⟩, rfl⟩⟩
  · rw [show wayF alg = 30 by rw [e]; rfl]
    refine (lazy_any L.T (L.Hb i) w).mono ?_
    rintro r w' ⟨e0, e1, e2, e3, e4, e5, e6, e7, rfl, k, b0, b1, b2, b3, b4, b5, b6, b7⟩
    refine ⟨_, rfl, k, ⟨_, _, rfl⟩, fun s dv W h kW => ?_⟩
    obtain ⟨L', x, h', hc⟩ := WN.mores [(e0, _, _), (e1, _, _), (e2, _, _), (e3, _, _), (e4, _, _), (e5, _, _), (e6, _, _), (e7, _, _)] h (by
      simp only [List.forall_mem_cons, List.not_mem_nil, false_implies, implies_true, and_true]
      exact ⟨⟨b0.kp kW, t1⟩, ⟨b1.kp kW, t2⟩, ⟨b2.kp kW, t3⟩, ⟨b3.kp kW, t3⟩, ⟨b4.kp kW, t3⟩, ⟨b5.kp kW, t3⟩, ⟨b6.kp kW, t3⟩, ⟨b7.kp kW, t3⟩⟩)
    simp only [List.forall_mem_cons, List.not_mem_nil, false_implies, implies_true, and_true] at hc
    obtain ⟨c0, c1, c2, c3, c4, c5, c6, c7⟩ := hc
    exact ⟨L', x, h', .inr (.inl ⟨by rw [x.alg, ha, e], e0, e1, e2, e3, e4, e5, e6, e7, ⟨by rw [x.T]; exact c0, by rw [x.Hb]; exact c1, c2, c3, c4, c5, c6, c7⟩, rfl⟩)⟩
  · rw [show wayF alg = 31 by rcases e with e | e <;> rw [e] <;> rfl]
    refine (mark_any L.T (L.Hb i) w).mono ?_
    rintro r w' ⟨e0, e1, e2, e3, e4, e5, e6, rfl, k, b0, b1, b2, b3, b4, b5, b6⟩
    refine ⟨_, rfl, k, ⟨_, _, rfl⟩, fun s dv W h kW => ?_⟩
    obtain ⟨L', x, h', hc⟩ := WN.mores [(e0, _, _), (e1, _, _), (e2, _, _), (e3, _, _), (e4, _, _), (e5, _, _), (e6, _, _)] h (by
      simp only [List.forall_mem_cons, List.not_mem_nil, false_implies, implies_true, and_true]
      exact ⟨⟨b0.kp kW, t1⟩, ⟨b1.kp kW, t2⟩, ⟨b2.kp kW, t3⟩, ⟨b3.kp kW, t3⟩, ⟨b4.kp kW, t3⟩, ⟨b5.kp kW, t3⟩, ⟨b6.kp kW, t3⟩⟩)
    simp only [List.forall_mem_cons, List.not_mem_nil, false_implies, implies_true, and_true] at hc
    obtain ⟨c0, c1, c2, c3, c4, c5, c6⟩ := hc
    exact ⟨L', x, h', .inr (.inr ⟨by rw [x.alg, ha]; exact e, e0, e1, e2, e3, e4, e5, e6, ⟨by rw [x.T]; exact c0, by rw [x.Hb]; exact c1, c2, c3, c4, c5, c6⟩, rfl⟩)⟩
end Go.Proofs.Ytoihdnekkgpcoaa
namespace Go.Proofs.Ytoihdnekkgpcoaa
open Go.ChangeShapes Go.WideShapes Go.ChangeAt Go.RowKit
set_option linter.unusedVariables false
set_option linter.unusedSimpArgs false

/-- The block g is just these cells. -/
def BK (w : World) (g : Nat) (t : TypeId) (cur : List Value) : Prop := w.heap[g]? = some (.cells cur.toArray t (0, 0))
section
variable {P : Program} {w w' : World} {g : Nat} {t : TypeId} {cur cs : List Value}
theorem BK.lt (h : BK w g t cur) : g < w.heap.size := (Array.getElem?_eq_some_iff.1 h).1
theorem BK.kp (h : BK w g t cur) (hk : Kp w w') : BK w' g t cur := (hk.bel.block g h.lt).trans h
theorem BK.kg {b : Nat} (h : BK w g t cur) (hn : g ≠ b) (hk : Kg b w w') : BK w' g t cur := (hk.block h.lt hn).trans h
theorem BK.cell (h : BK w g t cur) (j : Nat) : w.cell? ⟨g, j, none⟩ = cur[j]? := by
  rw [cell_of_row w g j _ t (0, 0) h]; simp
theorem Kg.setRow (w : World) (g : Nat) (cs : Array Value) : Kg g w (w.setRow g cs) := ⟨rfl, rfl, rfl, by simp, fun k hk hn => setRow_other w g k cs (fun e => hn (by rw [e]))⟩
theorem BK.setRow (h : BK w g t cur) (cs : List Value) : BK (w.setRow g cs.toArray) g t cs := setRow_heap w g _ _ t _ h
theorem BK.of_ow {α : Type} {B : Nat} {E : Enc α} {e : TypeId} {n c : Nat} {l : List α} (h : OW w B e E (.slice (some ⟨g, 0, none⟩) n c) l) : ∃ cur : List Value, BK w g e cur ∧ B ≤ g ∧ n ≤ c ∧ c ≤ maxLen ∧ cur.length = c * E.size ∧ cur.take (n * E.size) = l.flatMap E.cells ∧ n = l.length := by
  obtain ⟨h1, h2⟩ := h
  have hn : n = l.length := by
    rcases h2 with ⟨h2, _⟩ | ⟨g', cap, cur, hv, _⟩
    · cases h2
    · injection hv
  rcases h2 with ⟨h2, _⟩ | ⟨g', cap, cur, hv, hb, hg, h3, h4, h5, h6⟩
  · cases h2
  · injection hv with e1 e2 e3
    injection e1 with e1
    injection e1 with e1 _
    subst e1 e3
    refine ⟨cur.toList, ?_, hb, by omega, h4, by simpa using h5, by rw [hn]; simpa using h6, hn⟩
    unfold BK
    simpa using hg
theorem BK.ow {α : Type} {B : Nat} {E : Enc α} {e : TypeId} {c : Nat} {l : List α} (h : BK w g e cur) (hB : B ≤ g) (hn : l.length ≤ c) (hc : c ≤ maxLen) (hl : cur.length = c * E.size) (ht : cur.take (l.length * E.size) = l.flatMap E.cells) :
    OW w B e E (.slice (some ⟨g, 0, none⟩) l.length c) l :=
  ⟨flat_len E l, .inr ⟨g, c, cur.toArray, rfl, hB, h, hn, hc, by simpa using hl, by simpa using ht⟩⟩

theorem splice_len (L : List Value) (off : Nat) (cs : List Value) (h : off + cs.length ≤ L.length) : (splice L off cs).length = L.length := length_splice L off cs h
theorem splice_at {α : Type} (L : List α) (off : Nat) (cs : List α) (h : off + cs.length ≤ L.length) (j : Nat) : (splice L off cs)[j]? = if j < off then L[j]? else if j < off + cs.length then cs[j - off]? else L[j]? := by
  unfold splice
  by_cases h1 : j < off
  · rw [if_pos h1, List.getElem?_append_left (by simp; omega), List.getElem?_take, if_pos h1]
  · rw [if_neg h1, List.getElem?_append_right (by simp; omega)]
    have e : (L.take off).length = off := by simp; omega
    rw [e]
    by_cases h2 : j < off + cs.length
    · rw [if_pos h2, List.getElem?_append_left (by omega)]
    · rw [if_neg h2, List.getElem?_append_right (by omega), List.getElem?_drop]
      congr 1; omega

theorem run_storeRow (hg : BK w g t cur) (o : Nat) (hfit : o + cs.length ≤ cur.length) (h1 : ∀ v ∈ cs, v.oneCell' = true) : (storeCells ⟨g, o, none⟩ cs).run P w = .ok () (w.setRow g (splice cur o cs).toArray) := by
  have h := run_storeCells_at P g o t cs 0 cur.toArray w hg (by simpa using hfit) h1
  rw [h]
  simp [splice]
theorem add_lit (b o j : Nat) : (⟨b, o, none⟩ : Addr).add j = ⟨b, o + j, none⟩ := by unfold Addr.add; split <;> simp_all
theorem run_copyK {dT sT ty elem : TypeId} {i0 : TypeInfo} (hi : P.info? elem = some i0) (hu : P.underlying dT = some (.slice elem)) (o dLen dCap : Nat) (a : Addr) (sLen sCap : Nat) (hg : BK w g t cur)
    (hn : cs.length = Nat.min sLen dLen * i0.size) (hsrc : ∀ j v, cs[j]? = some v → w.cell? (a.add j) = some v) (hfit : o + cs.length ≤ cur.length) (h1 : ∀ v ∈ cs, v.oneCell' = true) :
    (Builtin.copy_ #[dT, sT] ty #[.slice (some ⟨g, o, none⟩) dLen dCap, .slice (some a) sLen sCap]).run P w = .ok (goInt (Nat.min sLen dLen)) (w.setRow g (splice cur o cs).toArray) := by
  have hf := run_firstCells_some (P := P) w i0.size (Nat.min sLen dLen) a sLen sCap cs hn hsrc
  have hst := run_storeRow (P := P) hg o hfit h1
  simp [Builtin.copy_, run_underlying hu, Builtin.lenOf, sizeOf, typeInfo, hi, hf, hst]
theorem run_appendK {tt tx ty elem : TypeId} {i0 : TypeInfo} (hi : P.info? elem = some i0) (hu : P.underlying tt = some (.slice elem)) (hx : P.underlying tx = some (.slice elem)) (n c : Nat) (a : Addr) (m sCap : Nat) (hg : BK w g t cur)
    (hn : cs.length = m * i0.size) (hroom : n + m ≤ c) (hsrc : ∀ j v, cs[j]? = some v → w.cell? (a.add j) = some v) (hfit : n * i0.size + cs.length ≤ cur.length) (h1 : ∀ v ∈ cs, v.oneCell' = true) :
    (Builtin.append_ #[tt, tx] ty #[.slice (some ⟨g, 0, none⟩) n c, .slice (some a) m sCap]).run P w = .ok (.slice (some ⟨g, 0, none⟩) (n + m) c) (w.setRow g (splice cur (n * i0.size) cs).toArray) := by
  have hs : Src P i0.size tx (.slice (some a) m sCap) m cs w := Src.ofSlice w hx a m sCap cs hn hsrc h1
  have h := run_append_room_src (P := P) w tt tx ty elem i0 hu hi g 0 n c (.slice (some a) m sCap) m cs hs hroom (fun j hj => by
    rw [Nat.zero_add, hg.cell, List.getElem?_eq_getElem (by omega)]; rfl) (fun j hj => by
    unfold BK at hg
    simp [World.frozen?, hg])
  rw [h]
  have h2 := run_storeRow (P := P) hg (n * i0.size) hfit h1
  have h3 := run_storeCells_cells (P := P) g (n * i0.size) cs 0 w (fun j hj => by rw [Nat.add_zero, hg.cell, List.getElem?_eq_getElem (by omega)]; rfl) (fun j hj => by
    unfold BK at hg
    simp [World.frozen?, hg]) h1
  rw [h2] at h3
  injection h3 with _ h3
  rw [h3]
  simp
theorem run_clearK {tt ty elem : TypeId} {i0 : TypeInfo} {z : Value} (hi : P.info? elem = some i0) (hz : i0.zero = some z) (hu : P.underlying tt = some (.slice elem)) (o n c : Nat) (hn : 0 < n) (hg : BK w g t cur)
    (hzs : z.cells.size = i0.size) (hfit : o + n * i0.size ≤ cur.length) (h1 : ∀ v ∈ (Builtin.zeroCells z.cells n).toList, v.oneCell' = true) :
    (Builtin.clear_ #[tt] ty #[.slice (some ⟨g, o, none⟩) n c]).run P w = .ok (.tuple #[]) (w.setRow g (splice cur o (Builtin.zeroCells z.cells n).toList).toArray) := by
  have hl : (Builtin.zeroCells z.cells n).toList.length = n * i0.size := by rw [Array.length_toList, size_zeroCells, hzs]
  have hst := run_storeRow (P := P) hg o (cs := (Builtin.zeroCells z.cells n).toList) (by rw [hl]; exact hfit) h1
  cases n with
  | zero => omega
  | succ n => simp [Builtin.clear_, run_underlying hu, zeroValue, typeInfo, hi, hz, hst]
end
section
variable {P : Program} {w : World} {ops : Array Oper} {rest : List Oper} {o : Oper} {a : Act} {Q : Exit → Act → World → Prop} {K : Act → World → Prop} {F : Prop}
/-- A copy whose run is known, at a plain region and at a step of one that draws: the world behind it is a letter. -/
theorem list_copy (hgd : o.guard = none) (d x : Operand) {dT sT : TypeId} (ho : o.op = .call { callee := .builtin .copy, args := #[d, x], argTypes := #[dT, sT] }) (v u : Value) (hd : a.eval d = v) (hx : a.eval x = u) {n : Nat} {g : Nat} {t : TypeId} {cur : List Value}
    (hg : BK w g t cur) {cs' : List Value} (hr : ∀ ty, (Builtin.copy_ #[dT, sT] ty #[v, u]).run P w = .ok (goInt n) (w.setRow g cs'.toArray))
    (h : ∀ w', Hid (BK w' g t cs') → Kg g w w' → wpList P ops Q rest (a.put o.dst (goInt n)) w') : wpList P ops Q (o :: rest) a w := by
  refine wpList_plain hgd fun K hK => ?_
  unfold Oper.wp execOp
  simp only [ho, resolve, invoke, builtin, Sem.run_bind, Sem.run_pure, Result.andThen_ok, List.map_toArray, List.map_cons, List.map_nil, hd, hx, hr]
  exact hK _ _ (h _ (hg.setRow cs') (Kg.setRow _ _ _))
theorem step_copy (hgd : o.guard = none) (d x : Operand) {dT sT : TypeId} (ho : o.op = .call { callee := .builtin .copy, args := #[d, x], argTypes := #[dT, sT] }) (v u : Value) (hd : a.eval d = v) (hx : a.eval x = u) {n : Nat} {g : Nat} {t : TypeId} {cur : List Value}
    (hg : BK w g t cur) {cs' : List Value} (hr : ∀ ty, (Builtin.copy_ #[dT, sT] ty #[v, u]).run P w = .ok (goInt n) (w.setRow g cs'.toArray))
    (h : ∀ w', Hid (BK w' g t cs') → Kg g w w' → K (a.put o.dst (goInt n)) w') : if Region.wanted o (yielded ops a.tmps) = true then Oper.wp P o a w K Q else F := by
  have hw : Region.wanted o (yielded ops a.tmps) = true := by simp [Region.wanted, hgd]
  rw [if_pos hw]
  unfold Oper.wp execOp
  simp only [ho, resolve, invoke, builtin, Sem.run_bind, Sem.run_pure, Result.andThen_ok, List.map_toArray, List.map_cons, List.map_nil, hd, hx, hr]
  exact h _ (hg.setRow cs') (Kg.setRow _ _ _)
/-- An append whose run is known to stay in its block. -/
theorem step_appK (hgd : o.guard = none) (d x : Operand) {dT sT : TypeId} (ho : o.op = .call { callee := .builtin .append, args := #[d, x], argTypes := #[dT, sT] }) (v u r : Value) (hd : a.eval d = v) (hx : a.eval x = u) {g : Nat} {t : TypeId} {cur : List Value}
    (hg : BK w g t cur) {cs' : List Value} (hr : ∀ ty, (Builtin.append_ #[dT, sT] ty #[v, u]).run P w = .ok r (w.setRow g cs'.toArray))
    (h : ∀ w', Hid (BK w' g t cs') → Kg g w w' → K (a.put o.dst r) w') : if Region.wanted o (yielded ops a.tmps) = true then Oper.wp P o a w K Q else F := by
  have hw : Region.wanted o (yielded ops a.tmps) = true := by simp [Region.wanted, hgd]
  rw [if_pos hw]
  unfold Oper.wp execOp
  simp only [ho, resolve, invoke, builtin, Sem.run_bind, Sem.run_pure, Result.andThen_ok, List.map_toArray, List.map_cons, List.map_nil, hd, hx, hr]
  exact h _ (hg.setRow cs') (Kg.setRow _ _ _)
theorem list_clear (hgd : o.guard = none) (d : Operand) {dT : TypeId} (ho : o.op = .call { callee := .builtin .clear, args := #[d], argTypes := #[dT] }) (v : Value) (hd : a.eval d = v) {g : Nat} {t : TypeId} {cur : List Value}
    (hg : BK w g t cur) {cs' : List Value} (hr : ∀ ty, (Builtin.clear_ #[dT] ty #[v]).run P w = .ok (.tuple #[]) (w.setRow g cs'.toArray))
    (h : ∀ w', Hid (BK w' g t cs') → Kg g w w' → wpList P ops Q rest (a.put o.dst (.tuple #[])) w') : wpList P ops Q (o :: rest) a w := by
  refine wpList_plain hgd fun K hK => ?_
  unfold Oper.wp execOp
  simp only [ho, resolve, invoke, builtin, Sem.run_bind, Sem.run_pure, Result.andThen_ok, List.map_toArray, List.map_cons, List.map_nil, hd, hr]
  exact hK _ _ (h _ (hg.setRow cs') (Kg.setRow _ _ _))
end
end Go.Proofs.Ytoihdnekkgpcoaa
namespace Go.Proofs.Ytoihdnekkgpcoaa
open Go.ChangeShapes Go.WideShapes Go.ChangeAt Go.RowKit
set_option linter.unusedVariables false
set_option linter.unusedSimpArgs false

theorem flat_set_one {α : Type} (E : Enc α) (x : α) (j : Nat) (u : Value) : ∀ (l : List α) (k : Nat) (h : k < l.length), j < E.size → (E.cells l[k]).set j u = E.cells x → (l.flatMap E.cells).set (k * E.size + j) u = (l.set k x).flatMap E.cells
  | a :: t, 0, h, hj, hx => by
    simp only [List.flatMap_cons, List.set_cons_zero, Nat.zero_mul, Nat.zero_add]
    rw [List.set_append_left _ _ (by rw [E.len]; exact hj)]
    have hx : (E.cells a).set j u = E.cells x := hx
    rw [hx]
  | a :: t, k + 1, h, hj, hx => by
    simp only [List.flatMap_cons, List.set_cons_succ]
    rw [List.set_append_right _ _ (by rw [E.len, Nat.add_mul]; omega), E.len, show (k + 1) * E.size + j - E.size = k * E.size + j from by rw [Nat.add_mul]; omega]
    rw [flat_set_one E x j u t k (by simpa using h) hj hx]
theorem OW.setAt {α : Type} {E : Enc α} {w : World} {B : Nat} {e : TypeId} {g n c : Nat} {l : List α} (h : OW w B e E (.slice (some ⟨g, 0, none⟩) n c) l) (k : Nat) (hk : k < l.length) (j : Nat) (hj : j < E.size) (u : Value) (x : α) (hx : (E.cells l[k]).set j u = E.cells x) :
    OW (w.setCell ⟨g, k * E.size + j, none⟩ u) B e E (.slice (some ⟨g, 0, none⟩) n c) (l.set k x) := by
  obtain ⟨cur, hbk, hB, hnc, hcm, hcl, htk, hn⟩ := BK.of_ow h
  have hn' : n = (l.set k x).length := by simp [hn]
  have hb2 : BK (w.setCell ⟨g, k * E.size + j, none⟩ u) g e (cur.set (k * E.size + j) u) := by
    unfold BK at hbk ⊢
    simp only [World.setCell, Array.getElem?_modify, hbk]
    simp
  rw [hn']
  refine BK.ow (E := E) hb2 hB (by omega) hcm (by rw [List.length_set, hcl]) ?_
  rw [← flat_set_one E x j u l k hk hj hx, List.take_set]
  simp only [List.length_set]
  rw [← hn, htk]
theorem OW.cellAt {α : Type} {E : Enc α} {w : World} {B : Nat} {e : TypeId} {g n c : Nat} {l : List α} (h : OW w B e E (.slice (some ⟨g, 0, none⟩) n c) l) (k : Nat) (hk : k < l.length) (j : Nat) (hj : j < E.size) :
    w.cell? ⟨g, k * E.size + j, none⟩ = (E.cells l[k])[j]? ∧ w.frozen? ⟨g, k * E.size + j, none⟩ = false := by
  obtain ⟨cur, hbk, _, _, _, _, _, hn⟩ := BK.of_ow h
  subst hn
  obtain ⟨A, c', e1, _, _, _, h4⟩ := h.rd
  obtain ⟨b, o, rfl, _, hc⟩ := h4 (by omega)
  injection e1 with e1
  injection e1 with e1
  injection e1 with e2 e3
  subst e2 e3
  have := hc k hk j hj
  refine ⟨by rw [Nat.zero_add] at this; exact this, ?_⟩
  unfold BK at hbk
  simp [World.frozen?, hbk]
theorem OW.blk {α : Type} {E : Enc α} {w : World} {B : Nat} {e : TypeId} {v : Value} {l : List α} (h : OW w B e E v l) (h0 : 0 < l.length) : ∃ g c, v = .slice (some ⟨g, 0, none⟩) l.length c ∧ v.ownBlock = some g := by
  rcases h.2 with ⟨rfl, h1⟩ | ⟨g, cap, cur, rfl, hg, hh, r⟩
  · omega
  · exact ⟨g, cap, rfl, rfl⟩
end Go.Proofs.Ytoihdnekkgpcoaa
namespace Go.Proofs.Ytoihdnekkgpcoaa
open Go.ChangeShapes Go.WideShapes Go.ChangeAt Go.RowKit
set_option linter.unusedVariables false
set_option linter.unusedSimpArgs false

variable {L : Lay} {s : St} {dv : Nat → Value} {w w' : World}
def toldL (i : Nat) (t : List Dn) : List (Nat × Nat × Dn) := t.mapIdx (fun e r => (i, e, r))
theorem toldM_eq (s : St) (i : Nat) : toldM s i = toldL i (s.told i) := rfl
theorem toldL_len (i : Nat) (t : List Dn) : (toldL i t).length = t.length := by simp [toldL]
theorem toldL_snoc (i : Nat) (t : List Dn) (x : Dn) : toldL i (t ++ [x]) = toldL i t ++ [(i, t.length, x)] := by simp [toldL, List.mapIdx_concat]
theorem toldL_get (i : Nat) (t : List Dn) (k : Nat) (h : k < t.length) : (toldL i t)[k]'(by rw [toldL_len]; exact h) = (i, k, t[k]) := by simp [toldL]
theorem toldL_set (i : Nat) (t : List Dn) (k : Nat) (x : Dn) : (toldL i t).set k (i, k, x) = toldL i (t.set k x) := by
  apply List.ext_getElem?
  intro j
  simp only [toldL, List.getElem?_set, List.getElem?_mapIdx, List.length_mapIdx]
  by_cases e : k = j
  · subst e
    by_cases h : k < t.length <;> simp [h]
  · simp [e]
/-- What is told of a hand, written. -/
theorem WN.updt (h : WN L s dv w) {i : Nat} (hi : i < L.nh) {tv : Nat → Value} (hb0 : BC w L.tg 26 ((List.range L.nh).map tv)) (ho0 : ∀ i, i < L.nh → OW w L.w0.heap.size 35 eDone (tv i) (toldM s i))
    (hd0 : ∀ i j k, i < L.nh → j < L.nh → i ≠ j → (tv i).ownBlock = some k → (tv j).ownBlock ≠ some k) {u' : Value} {t' : List Dn}
    (hk : Kf (fun k => k = L.tg ∨ (tv i).ownBlock = some k) w w') (hb : BC w' L.tg 26 ((List.range L.nh).map (up tv i u'))) (ho : OW w' L.w0.heap.size 35 eDone u' (toldL i t'))
    (hat : u'.ownBlock = (tv i).ownBlock ∨ Hi w.heap.size u') : WN L { s with told := up s.told i t' } dv w' := by
  obtain ⟨t1, t2, -⟩ := h.td (by omega)
  have hne : ∀ b t c, BC w b t c → t ≠ 26 → t ≠ 35 → ¬ (b = L.tg ∨ (tv i).ownBlock = some b) := by
    intro b t c hbc h1 h2 e
    rcases e with e | e
    · exact BC.ne hbc hb0 h1 e
    · exact OW.bc_ne (ho0 i hi) hbc (fun x => h2 x.symm) e
  refine ⟨hk.kp h.kp (fun k e => ?_), ?_, h.bi, h.nn, h.n0, ?_, h.hi, ?_, ?_, ?_, ?_, h.pg⟩
  · rcases e with e | e
    · rw [e]; exact t2
    · exact ((ho0 i hi).lt k e).1
  · intro j hj
    obtain ⟨c1, c2⟩ := h.bd j hj
    exact ⟨c1.kf hk (hne _ _ _ c1 (by decide) (by decide)), c2⟩
  · intro j hj
    obtain ⟨pv, cv, b, a1, a2⟩ := h.hn j hj
    exact ⟨pv, cv, b, a1.kf hk (hne _ _ _ a1 (by decide) (by decide)), a2⟩
  · exact ⟨h.tb.1.kf hk (hne _ _ _ h.tb.1 (by decide) (by decide)), h.tb.2⟩
  · intro h0
    obtain ⟨a, b, c, d⟩ := h.hs h0
    exact ⟨a, b, c, d.kf hk (hne _ _ _ d (by decide) (by decide))⟩
  · intro h0
    refine ⟨t1, t2, up tv i u', hb, fun j hj => ?_, fun a b k ha hb' hab e1 e2 => ?_⟩
    · by_cases e : j = i
      · subst e
        rw [up_same]
        show OW w' _ _ _ _ (toldL j (up s.told j t' j))
        rw [up_same]; exact ho
      · rw [up_ne _ _ e]
        show OW w' _ _ _ _ (toldL j (up s.told i t' j))
        rw [up_ne _ _ e]
        refine (ho0 j hj).kf hk (fun k e1 e2 => ?_)
        rcases e2 with e2 | e2
        · exact OW.bc_ne (ho0 j hj) hb0 (by decide) (by rw [e1, e2])
        · exact hd0 j i k hj hi e e1 e2
    · have lo : ∀ j, j < L.nh → (tv j).ownBlock = some k → k < w.heap.size := fun j hj e => ((ho0 j hj).lt k e).2
      by_cases ea : a = i
      · subst ea
        rw [up_same] at e1
        rw [up_ne _ _ (fun e => hab e.symm)] at e2
        rcases hat with e | e
        · rw [e] at e1; exact hd0 a b k ha hb' hab e1 e2
        · have := e k e1; have := lo b hb' e2; omega
      · rw [up_ne _ _ ea] at e1
        by_cases eb : b = i
        · subst eb
          rw [up_same] at e2
          rcases hat with e | e
          · rw [e] at e2; exact hd0 a b k ha hb' hab e1 e2
          · have := e k e2; have := lo a ha e1; omega
        · rw [up_ne _ _ eb] at e2
          exact hd0 a b k ha hb' hab e1 e2
  · intro b t c e
    obtain ⟨a, o⟩ := h.cs b t c e
    exact ⟨a.kf hk (hne _ _ _ a o.2.2.2.1 o.2.2.2.2), o⟩
theorem map_set_up {α : Type} (f : Nat → α) (n i : Nat) (x : α) (hi : i < n) : ((List.range n).map f).set i x = (List.range n).map (up f i x) := by
  apply List.ext_getElem?
  intro j
  simp only [List.getElem?_set, List.getElem?_map, List.length_map, List.length_range]
  by_cases e : i = j
  · subst e; simp [hi, up_same]
  · have e2 : j ≠ i := fun x => e x.symm
    by_cases hj : j < n
    · simp [e, hj, up_ne f x e2]
    · simp [e, hj]
/-- What is told of a hand, as it lies; what it may become. -/
theorem WN.told (h : WN L s dv w) {i : Nat} (hi : i < L.nh) : ∃ u, w.cell? ⟨L.tg, i, none⟩ = some u ∧ (∀ k, w.frozen? ⟨L.tg, k, none⟩ = false) ∧ L.tg < w.heap.size ∧ L.tov = .slice (some ⟨L.tg, 0, none⟩) L.nh L.nh ∧ OW w L.w0.heap.size 35 eDone u (toldL i (s.told i)) ∧ u.ownBlock ≠ some L.tg ∧
    (∀ W γ t', KV u w W → OW W L.w0.heap.size 35 eDone γ (toldL i t') → (γ.ownBlock = u.ownBlock ∨ Hi w.heap.size γ) → WN L { s with told := up s.told i t' } dv (W.setCell ⟨L.tg, i, none⟩ γ)) ∧
    (∀ W t', KV u w W → OW W L.w0.heap.size 35 eDone u (toldL i t') → WN L { s with told := up s.told i t' } dv W) := by
  obtain ⟨t1, t2, tv, hb, ho, hd⟩ := h.td (by omega)
  have hne : (tv i).ownBlock ≠ some L.tg := OW.bc_ne (ho i hi) hb (by decide)
  refine ⟨tv i, ?_, fun k => hb.frozen k, hb.lt, t1, ho i hi, hne, fun W γ t' hk hγ hat => ?_, fun W t' hk hγ => ?_⟩
  · rw [hb.cell]; simp [hi]
  · have hbW : BC W L.tg _ _ := hb.kf hk hne
    have hk2 : Kf (fun k => k = L.tg ∨ (tv i).ownBlock = some k) w (W.setCell ⟨L.tg, i, none⟩ γ) := Kf.set (hk.mono (fun k _ e => .inr e)) (.inl (.inl rfl))
    refine h.updt hi hb ho hd (u' := γ) hk2 ?_ ?_ hat
    · rw [← map_set_up _ _ _ _ hi]; exact hbW.set
    · refine hγ.setCell ?_ _
      show γ.ownBlock ≠ some L.tg
      rcases hat with e | e
      · rw [e]; exact hne
      · intro e2; have := e _ e2; have := hb.lt; omega
  · refine h.updt hi hb ho hd (u' := tv i) (hk.mono (fun k _ e => .inr e)) ?_ hγ (.inl rfl)
    have : up tv i (tv i) = tv := by funext j; unfold up; split <;> simp_all
    rw [this]
    exact hb.kf hk hne
/-- The time. -/
theorem WN.setnow (h : WN L s dv w) (t : Nat) : WN L { s with now := t } dv (w.setCell ⟨L.T, 3, none⟩ (.int .i64 t)) := by
  refine ⟨h.kp.setR (by simpa using h.tb.2), ?_, h.bi, h.nn, h.n0, ?_, h.hi, ?_, ?_, ?_, ?_, h.pg⟩
  · intro j hj
    obtain ⟨c1, c2⟩ := h.bd j hj
    exact ⟨c1.far (BC.ne c1 h.tb.1 (by decide)), c2⟩
  · intro j hj
    obtain ⟨pv, cv, b, a1, a2⟩ := h.hn j hj
    exact ⟨pv, cv, b, a1.far (BC.ne a1 h.tb.1 (by decide)), a2⟩
  · exact ⟨h.tb.1.set (j := 3) (u := .int .i64 t), h.tb.2⟩
  · intro h0
    obtain ⟨a, b, c, d⟩ := h.hs h0
    exact ⟨a, b, c, d.far (BC.ne d h.tb.1 (by decide))⟩
  · intro h0
    obtain ⟨a, b, tv, c, d, e⟩ := h.td h0
    exact ⟨a, b, tv, c.far (BC.ne c h.tb.1 (by decide)), fun j hj => (d j hj).setCell (OW.bc_ne (d j hj) h.tb.1 (by decide)) _, e⟩
  · intro b t c e
    obtain ⟨a, o⟩ := h.cs b t c e
    exact ⟨a.far (BC.ne a h.tb.1 o.2.2.1), o⟩
/-- A hand begins a deed: what it does next, no answer yet. -/
theorem WN.setbeg (h : WN L s dv w) {i : Nat} (hi : i < L.nh) (v : Value) (hp : s.hd i = hd0) : WN L s (up dv i v) ((w.setCell ⟨L.Hb i, 2, none⟩ v).setCell ⟨L.Hb i, 5, none⟩ (.bool false)) := by
  obtain ⟨pv, cv, b, b1, b2, b3, b4⟩ := h.hn i hi
  refine h.updh hi (Kf.set (Kf.set (Kf.refl _ w) (.inl rfl)) (.inl rfl)) s.hd s.deed _ (fun j hj => ⟨rfl, rfl, up_ne _ _ hj⟩) pv cv false ?_ b3 ?_
  · rw [up_same]; exact (b1.set (j := 2) (u := v)).set (j := 5) (u := .bool false)
  · rw [hp]; exact fun _ => rfl
/-- A deed is done. -/
theorem WN.setend (h : WN L s dv w) {i : Nat} (hi : i < L.nh) : WN L { s with hd := up s.hd i hd0, deed := up s.deed i (s.deed i + 1) } (up dv i .nilFunc) ((w.setCell ⟨L.Hb i, 1, none⟩ (.int .i64 ((s.deed i + 1 : Nat) : Int))).setCell ⟨L.Hb i, 2, none⟩ .nilFunc) := by
  obtain ⟨pv, cv, b, b1, b2, b3, b4⟩ := h.hn i hi
  refine h.updh hi (Kf.set (Kf.set (Kf.refl _ w) (.inl rfl)) (.inl rfl)) _ _ _ (fun j hj => ⟨up_ne _ _ hj, up_ne _ _ hj, up_ne _ _ hj⟩) pv cv b ?_ ?_ ?_
  · rw [up_same, up_same]; exact (b1.set (j := 1) (u := .int .i64 ((s.deed i + 1 : Nat) : Int))).set (j := 2) (u := .nilFunc)
  · rw [up_same]; exact fun e => absurd rfl e
  · rw [up_same]; exact fun e => absurd rfl e
theorem eDone_set3 (i k : Nat) (r : Dn) (t : Int) : (eDone.cells (i, k, r)).set 3 (.int .i64 t) = eDone.cells (i, k, { r with fin := t }) := rfl
theorem eDone_set4 (i k : Nat) (r : Dn) (b : Bool) : (eDone.cells (i, k, r)).set 4 (.bool b) = eDone.cells (i, k, { r with is := b }) := rfl
/-- The end of a deed is told. -/
theorem WN.setfin (h : WN L s dv w) {i : Nat} (hi : i < L.nh) {k : Nat} (hk : k < (s.told i).length) (t : Nat) (b : Bool) : ∃ g c, w.cell? ⟨L.tg, i, none⟩ = some (.slice (some ⟨g, 0, none⟩) (s.told i).length c) ∧ (∃ x, w.cell? ⟨g, k * 5 + 3, none⟩ = some x) ∧ (∃ x, w.cell? ⟨g, k * 5 + 4, none⟩ = some x) ∧ (∀ k, w.frozen? ⟨g, k, none⟩ = false) ∧ g < w.heap.size ∧ (∀ b t c, BC w b t c → t ≠ 35 → b ≠ g) ∧
    WN L { s with told := up s.told i (toldE (s.told i) k t b) } dv ((w.setCell ⟨g, k * 5 + 3, none⟩ (.int .i64 t)).setCell ⟨g, k * 5 + 4, none⟩ (.bool b)) := by
  obtain ⟨u, c0, -, -, -, ho, hne, -, hB⟩ := h.told hi
  obtain ⟨g, c, rfl, hog⟩ := ho.blk (by rw [toldL_len]; omega)
  rw [toldL_len] at c0 ho hog
  have hk' : k < (toldL i (s.told i)).length := by rw [toldL_len]; exact hk
  obtain ⟨x3, f3⟩ := ho.cellAt k hk' 3 (by decide)
  obtain ⟨x4, f4⟩ := ho.cellAt k hk' 4 (by decide)
  have hgl := (ho.lt g hog).2
  have e3 : (eDone.cells (toldL i (s.told i))[k])[3]? = some (.int .i64 (s.told i)[k].fin) := by rw [toldL_get i _ k hk]; rfl
  have e4 : (eDone.cells (toldL i (s.told i))[k])[4]? = some (.bool (s.told i)[k].is) := by rw [toldL_get i _ k hk]; rfl
  rw [toldL_len] at hB
  refine ⟨g, c, c0, ⟨_, x3.trans e3⟩, ⟨_, x4.trans e4⟩, fun k => ?_, hgl, fun b t c hbc hn e => OW.bc_ne ho hbc (fun x => hn x.symm) (by rw [hog, e]), ?_⟩
  · have hh : w.heap[g]? ≠ none := by simp [hgl]
    obtain ⟨cur, hbk, _⟩ := BK.of_ow ho
    unfold BK at hbk
    simp [World.frozen?, hbk]
  · have h1 := ho.setAt k hk' 3 (by decide) (.int .i64 t) (i, k, { (s.told i)[k] with fin := t }) (by rw [toldL_get i _ k hk]; rfl)
    rw [toldL_set] at h1
    have hk2 : k < (toldL i ((s.told i).set k { (s.told i)[k] with fin := t })).length := by rw [toldL_len, List.length_set]; exact hk
    have h2 := h1.setAt k hk2 4 (by decide) (.bool b) (i, k, { (s.told i)[k] with fin := t, is := b }) (by rw [toldL_get i _ k (by rw [List.length_set]; exact hk)]; simp; rfl)
    rw [toldL_set, List.set_set] at h2
    have e : (s.told i).set k { (s.told i)[k] with fin := t, is := b } = toldE (s.told i) k t b := by
      unfold toldE
      apply List.ext_getElem?
      intro j
      rw [List.getElem?_set, List.getElem?_modify]
      by_cases ej : k = j
      · subst ej; simp [hk]
      · simp [ej]
    rw [e] at h2
    refine hB _ _ ?_ h2
    exact Kf.set (Kf.set (Kf.refl _ w) (.inl hog)) (.inl hog)
end Go.Proofs.Ytoihdnekkgpcoaa
namespace Go.Proofs.Ytoihdnekkgpcoaa
open Go
set_option linter.unusedVariables false

section
variable {Γ : Type}
def ValsAtG (ops : Array Oper) (Val : Nat → Value → World → Γ → Prop) (J : Array Bool → World → Γ → Prop) (n : Nat) (D : List Deferred) (L : Array Bool) (a : Act) (w : World) : Prop :=
  ∃ γ, a.defers = D ∧ a.tmps.size = n ∧ J L w γ ∧ ∀ d, d < n → ((dstsOf ops).contains d = false ∨ ∃ i o, L.getD i false = true ∧ ops[i]? = some o ∧ o.dst = some d) → Val d (a.tmps.getD d undef) w γ
/-- One operation, with what it may know. -/
def StepAtG (P : Program) (ops : Array Oper) (Q : Exit → Act → World → Prop) (Val : Nat → Value → World → Γ → Prop) (J : Array Bool → World → Γ → Prop) (n : Nat) (i : Nat) (o : Oper) : Prop :=
  ∀ L a w γ, a.tmps.size = n → J L w γ → L.getD i true = false → (∀ e ∈ o.after.toList, Region.binds .any e = true → L.getD e.on false = true) → (∀ d, d < n → knowsAt ops o d = true → Val d (a.tmps.getD d undef) w γ) →
    wpOp P ops Q i (fun a' w' => ∃ v γ', a' = a.put o.dst v ∧ J (L.setIfInBounds i true) w' γ' ∧ (∀ d, o.dst = some d → Val d v w' γ') ∧ ∀ d v, o.dst ≠ some d → Val d v w γ → Val d v w' γ') a w
theorem wp_region_valsG {P : Program} {ops : Array Oper} {Q : Exit → Act → World → Prop} {id : Nat} {a : Act} {w : World} (hm : P.follows .mixedOrders = true) (Val : Nat → Value → World → Γ → Prop) (J : Array Bool → World → Γ → Prop)
    (γ0 : Γ) (hJ : J (Array.replicate ops.size false) { w with drawn := w.drawn + 1 } γ0)
    (h0 : ∀ d, d < a.tmps.size → (dstsOf ops).contains d = false → Val d (a.tmps.getD d undef) { w with drawn := w.drawn + 1 } γ0)
    (hsteps : StepsFrom (StepAtG P ops Q Val J a.tmps.size) 0 ops.toList)
    (hb : backs ops = true)
    (hend : ∀ a' w' γ, a'.defers = a.defers → a'.tmps.size = a.tmps.size → J (Array.replicate ops.size true) w' γ → (∀ d, d < a.tmps.size → Val d (a'.tmps.getD d undef) w' γ) → Q .normal a' w') :
    (Code.region id ops true).wp P Q a w := by
  refine wp_region_inv hm (ValsAtG ops Val J a.tmps.size a.defers) ⟨γ0, rfl, rfl, hJ, fun d hd h => ?_⟩ ?_ ?_
  · rcases h with h | ⟨i, o, h, _⟩
    · exact h0 d hd h
    · simp [Array.getD, Array.getElem_replicate] at h
  · rintro L a' w' hs ⟨γ, e1, e2, hj, hv⟩ i hr
    unfold Region.ready at hr
    rw [List.mem_filter, List.mem_range] at hr
    obtain ⟨hi, hr⟩ := hr
    simp only [Bool.and_eq_true, Bool.not_eq_true'] at hr
    obtain ⟨hl, hr⟩ := hr
    have ho : ops[i]? = some ops[i] := by simp [hi]
    have hi' : i < L.size := by omega
    generalize ops[i] = o at ho
    rw [ho] at hr
    have haft : ∀ e ∈ o.after.toList, Region.binds .any e = true → L.getD e.on false = true := fun e he hb => by
      have hr2 : (o.after.all fun e => !Region.binds .any e || L.getD e.on false) = true := by simpa using hr
      have := Array.all_eq_true'.1 hr2 e (by simpa using he)
      simpa [hb] using this
    have hst := hsteps.at (i := i) (o := o) (by simpa using ho)
    rw [Nat.zero_add] at hst
    refine wpOp_mono ?_ (hst L a' w' γ e2 hj hl haft fun d hd hk => hv d hd ?_)
    · rintro a2 w2 ⟨v, γ', rfl, hj2, hval, hmono⟩
      have hsz : (a'.put o.dst v).tmps.size = a'.tmps.size := by
        cases o.dst <;> simp [Act.put]
      refine ⟨γ', ?_, by rw [hsz, e2], hj2, fun d hd hk => ?_⟩
      · rw [← e1]
        cases o.dst <;> rfl
      · by_cases hdd : o.dst = some d
        · have : (a'.put o.dst v).tmps.getD d undef = v := by
            rw [hdd]
            simp [Act.put, Array.getD, e2, hd]
          rw [this]
          exact hval d hdd
        · have : (a'.put o.dst v).tmps.getD d undef = a'.tmps.getD d undef := by
            cases hq : o.dst with
            | none => rfl
            | some d2 =>
              have : d2 ≠ d := fun h => hdd (by rw [hq, h])
              simp only [Act.put, Array.getD_eq_getD_getElem?, Array.getElem?_setIfInBounds_ne this]
          rw [this]
          refine hmono d _ hdd (hv d hd ?_)
          rcases hk with hk | ⟨j, oj, h1, h2, h3⟩
          · exact .inl hk
          · by_cases hji : j = i
            · subst hji
              rw [ho] at h2
              injection h2 with h2
              subst h2
              exact absurd h3 hdd
            · refine .inr ⟨j, oj, ?_, h2, h3⟩
              have : (L.setIfInBounds i true).getD j false = L.getD j false := by
                simp only [Array.getD_eq_getD_getElem?, Array.getElem?_setIfInBounds_ne (Ne.symm hji)]
              rw [← this]
              exact h1
    · unfold knowsAt at hk
      rw [Bool.or_eq_true] at hk
      rcases hk with hk | hk
      · exact .inl (by simpa using hk)
      · rw [List.any_eq_true] at hk
        obtain ⟨e, he, hk⟩ := hk
        rw [Bool.and_eq_true] at hk
        have hk2 : (ops[e.on]?).bind (·.dst) = some d := by simpa using hk.2
        obtain ⟨oe, h1, h2⟩ := Option.bind_eq_some_iff.1 hk2
        exact .inr ⟨e.on, oe, haft e he hk.1, h1, h2⟩
  · rintro L a' w' hs ⟨γ, e1, e2, hj, hv⟩ hr
    have hall := fun i h => all_listed hb hs hr ops.size i h h
    have hL : L = Array.replicate ops.size true := by
      apply Array.ext (by simp [hs])
      intro i h1 h2
      have := hall i (by omega)
      simpa [Array.getD, h1] using this
    refine hend a' w' γ e1 e2 (hL ▸ hj) fun d hd => hv d hd ?_
    cases hc : (dstsOf ops).contains d with
    | false => exact .inl rfl
    | true =>
      right
      have hm : d ∈ dstsOf ops := by simpa using hc
      unfold dstsOf at hm
      rw [List.mem_filterMap] at hm
      obtain ⟨o, ho, hod⟩ := hm
      obtain ⟨i, hi, rfl⟩ := List.mem_iff_getElem.1 ho
      have hi' : i < ops.size := by simpa using hi
      refine ⟨i, ops[i], ?_, by simp [hi'], by simpa using hod⟩
      have := hall i hi'
      have h3 : i < L.size := by omega
      simpa [Array.getD, h3] using this
/-- One operation of a region whose slots are told by a table T, but for some that are told by G. -/
def StepTG (P : Program) (ops : Array Oper) (Q : Exit → Act → World → Prop) (T : List (Nat × Value)) (G : Nat → Value → World → Γ → Prop) (J : Array Bool → World → Γ → Prop) (a0 : Act) (i : Nat) (o : Oper) : Prop :=
  ops[i]? = some o → ∀ L a w γ, a.tmps.size = a0.tmps.size → J L w γ → L.getD i true = false → (∀ e ∈ o.after.toList, Region.binds .any e = true → L.getD e.on false = true) →
    (∀ d x, (dstsOf ops).contains d = false → a0.tmps.getD d undef = x → a.tmps.getD d undef = x) →
    (∀ d x, waitsFor ops o d = true → T.lookup d = some x → a.tmps.getD d undef = x) →
    (∀ d, waitsFor ops o d = true → G d (a.tmps.getD d undef) w γ) →
    wpOp P ops Q i (fun a' w' => ∃ v γ', a' = a.put o.dst v ∧ J (L.setIfInBounds i true) w' γ' ∧ (∀ d, o.dst = some d → (∀ x, T.lookup d = some x → v = x) ∧ G d v w' γ') ∧ ∀ d v, o.dst ≠ some d → G d v w γ → G d v w' γ') a w
theorem wp_region_tabG {P : Program} {ops : Array Oper} {Q : Exit → Act → World → Prop} {id : Nat} {a : Act} {w : World} (hm : P.follows .mixedOrders = true) (T : List (Nat × Value)) (G : Nat → Value → World → Γ → Prop) (J : Array Bool → World → Γ → Prop)
    (γ0 : Γ) (hJ : J (Array.replicate ops.size false) { w with drawn := w.drawn + 1 } γ0) (hb : backs ops = true) (hds : ((dstsOf ops).all fun d => decide (d < a.tmps.size)) = true)
    (hsteps : StepsFrom (StepTG P ops Q T G J a) 0 ops.toList)
    (hend : ∀ a' w' γ, a'.defers = a.defers → a'.tmps.size = a.tmps.size → J (Array.replicate ops.size true) w' γ →
      (∀ d x, (dstsOf ops).contains d = false → a.tmps.getD d undef = x → a'.tmps.getD d undef = x) →
      (∀ d x, (dstsOf ops).contains d = true → T.lookup d = some x → a'.tmps.getD d undef = x) →
      (∀ d, (dstsOf ops).contains d = true → G d (a'.tmps.getD d undef) w' γ) → Q .normal a' w') :
    (Code.region id ops true).wp P Q a w := by
  have hlt : ∀ d, (dstsOf ops).contains d = true → d < a.tmps.size := fun d hd => by
    rw [List.all_eq_true] at hds
    simpa using hds d (by simpa using hd)
  have hout : ∀ b : Act, b.tmps.size = a.tmps.size → ∀ d, ¬ d < a.tmps.size → b.tmps.getD d undef = a.tmps.getD d undef := fun b hb d hd => by
    simp [Array.getD, hb, hd]
  refine wp_region_valsG hm (fun d v w γ => if (dstsOf ops).contains d then (∀ x, T.lookup d = some x → v = x) ∧ G d v w γ else v = a.tmps.getD d undef) J γ0 hJ (fun d _ h => by rw [if_neg (by simpa using h)]) ?_ hb fun a' w' γ e1 e2 hj hv => ?_
  · have key : ∀ (l : List Oper) (k : Nat), (∀ i o, l[i]? = some o → ops[k + i]? = some o) → StepsFrom (StepTG P ops Q T G J a) k l → StepsFrom (StepAtG P ops Q (fun d v w γ => if (dstsOf ops).contains d then (∀ x, T.lookup d = some x → v = x) ∧ G d v w γ else v = a.tmps.getD d undef) J a.tmps.size) k l := by
      intro l
      induction l with
      | nil => exact fun _ _ _ => trivial
      | cons o l ih =>
        intro k hk h
        refine ⟨?_, ih (k + 1) (fun i o h => by rw [show k + 1 + i = k + (i + 1) from by omega]; exact hk (i + 1) o (by simpa using h)) h.2⟩
        intro L b w γ hs hJ hl haft hknow
        have hko := hk 0 o rfl
        have hin : ∀ d, waitsFor ops o d = true → (dstsOf ops).contains d = true := fun d hd => by
          unfold waitsFor at hd
          rw [List.any_eq_true] at hd
          obtain ⟨e, he, hd⟩ := hd
          rw [Bool.and_eq_true] at hd
          have hk2 : (ops[e.on]?).bind (·.dst) = some d := by simpa using hd.2
          obtain ⟨oe, h1, h2⟩ := Option.bind_eq_some_iff.1 hk2
          have : d ∈ dstsOf ops := by
            unfold dstsOf
            rw [List.mem_filterMap]
            exact ⟨oe, by
              obtain ⟨hlt, rfl⟩ := Array.getElem?_eq_some_iff.1 h1
              simp, h2⟩
          simpa using this
        have hw : ∀ d, waitsFor ops o d = true → knowsAt ops o d = true := fun d hd => by
          unfold knowsAt waitsFor at *
          rw [hd, Bool.or_true]
        refine wpOp_mono ?_ (h.1 (by simpa using hko) L b w γ hs hJ hl haft (fun d x hc hx => ?_) (fun d x hw1 hx => ?_) (fun d hw1 => ?_))
        · rintro a2 w2 ⟨v, γ', rfl, hj2, hval, hmono⟩
          refine ⟨v, γ', rfl, hj2, fun d hd => ?_, fun d v hne h => ?_⟩
          · have : (dstsOf ops).contains d = true := by
              have : d ∈ dstsOf ops := by
                unfold dstsOf
                rw [List.mem_filterMap]
                exact ⟨o, by
                  obtain ⟨hlt, rfl⟩ := Array.getElem?_eq_some_iff.1 hko
                  simp, hd⟩
              simpa using this
            simp only [this, if_true]
            exact hval d hd
          · by_cases hc : (dstsOf ops).contains d = true
            · simp only [hc, if_true] at h ⊢
              exact ⟨h.1, hmono d v hne h.2⟩
            · simp only [hc] at h ⊢
              exact h
        · by_cases hd : d < a.tmps.size
          · have := hknow d hd (by unfold knowsAt; rw [hc]; rfl)
            simp only [hc] at this
            rw [← hx]
            simpa using this
          · rw [← hx]
            exact hout b hs d hd
        · have := hknow d (hlt d (hin d hw1)) (hw d hw1)
          simp only [hin d hw1, if_true] at this
          exact this.1 x hx
        · have := hknow d (hlt d (hin d hw1)) (hw d hw1)
          simp only [hin d hw1, if_true] at this
          exact this.2
    exact key ops.toList 0 (fun i o h => by rw [Nat.zero_add]; simpa using h) hsteps
  · refine hend a' w' γ e1 e2 hj (fun d x hc hx => ?_) (fun d x hc hx => ?_) (fun d hc => ?_)
    · by_cases hd : d < a.tmps.size
      · have := hv d hd
        simp only [hc] at this
        rw [← hx]
        simpa using this
      · rw [← hx]
        exact hout a' e2 d hd
    · have := hv d (hlt d hc)
      simp only [hc, if_true] at this
      exact this.1 x hx
    · have := hv d (hlt d hc)
      simp only [hc, if_true] at this
      exact this.2
end
end Go.Proofs.Ytoihdnekkgpcoaa
namespace Go.Proofs.Ytoihdnekkgpcoaa
open Go.ChangeShapes Go.WideShapes Go.ChangeAt Go.RowKit
set_option linter.unusedVariables false
set_option linter.unusedSimpArgs false

theorem getS_same (L : Array Bool) (k : Nat) : (L.setIfInBounds k true).getD k true = true := by
  by_cases h : k < L.size
  · simp [Array.getD, h]
  · simp [Array.getD, h]
theorem getS_far (L : Array Bool) (k j : Nat) (h : k ≠ j) : (L.setIfInBounds k true).getD j true = L.getD j true := by
  simp only [Array.getD_eq_getD_getElem?, Array.getElem?_setIfInBounds_ne h]
theorem getS_mono (L : Array Bool) (k j : Nat) (h : L.getD j true = true) : (L.setIfInBounds k true).getD j true = true := by
  by_cases e : k = j
  · subst e; exact getS_same _ _
  · rw [getS_far _ _ _ e]; exact h
theorem getR_true (n j : Nat) : (Array.replicate n true).getD j true = true := by
  simp only [Array.getD]
  split
  · simp
  · rfl
/-- u: the slice, read at q by operation kl; ka: the append; ks: the store; R what holds behind it. -/
structure JA {α : Type} (w0 : World) (u : Value) (q : Addr) (kl ka ks : Nat) (B : Nat) (e : TypeId) (E : Enc α) (l : List α) (R : World → Prop) (L : Array Bool) (w : World) (γ : Value) : Prop where
  s1 : L.getD ka true = true → L.getD kl true = true
  s2 : L.getD ks true = true → L.getD ka true = true
  k1 : L.getD ka true = false → Kp w0 w
  k2 : Kf (fun i => i = q.block ∨ u.ownBlock = some i) w0 w
  k3 : L.getD ka true = true → L.getD ks true = false → KV u w0 w ∧ OW w B e E γ l ∧ (γ.ownBlock = u.ownBlock ∨ Hi w0.heap.size γ)
  k4 : L.getD ks true = true → R w
/-- ku: the slot of the new block; kv: of the slice behind the append. -/
def GA {α : Type} (w0 : World) (ku kv : Nat) (e : TypeId) (E : Enc α) (x : α) (d : Nat) (v : Value) (w : World) (γ : Value) : Prop :=
  (d = ku → ∃ b, v = .slice (some ⟨b, 0, none⟩) 1 1 ∧ w0.heap.size ≤ b ∧ BC w b e (E.cells x)) ∧ (d = kv → v = γ)
section
variable {α : Type} {w0 w w' : World} {u v : Value} {q p : Addr} {kl ka ks B i d ku kv : Nat} {e : TypeId} {E : Enc α} {l : List α} {x : α} {R : World → Prop} {L : Array Bool} {γ γ' : Value}
theorem JA.start {n : Nat} (h1 : ka < n) (h2 : ks < n) : JA w0 u q kl ka ks B e E l R (Array.replicate n false) w0.drew γ := by
  have a1 : (Array.replicate n false).getD ka true = false := by simp [Array.getD, h1]
  have a2 : (Array.replicate n false).getD ks true = false := by simp [Array.getD, h2]
  have f : false = true → ∀ {p : Prop}, p := fun h => by cases h
  exact ⟨fun h => f (a1.symm.trans h), fun h => f (a2.symm.trans h), fun _ => (Kp.refl _).drew, Kf.of (Kp.refl _).drew, fun h => f (a1.symm.trans h), fun h => f (a2.symm.trans h)⟩
theorem JA.go (h : JA w0 u q kl ka ks B e E l R L w γ) (HR : ∀ a b, R a → Kp a b → R b) (k : Kp w w') (i : Nat) (ha : i ≠ ka) (hs : i ≠ ks) : JA w0 u q kl ka ks B e E l R (L.setIfInBounds i true) w' γ := by
  refine ⟨?_, ?_, ?_, h.k2.on k, ?_, ?_⟩
  · rw [getS_far _ _ _ ha]; exact fun e => getS_mono _ _ _ (h.s1 e)
  · rw [getS_far _ _ _ ha, getS_far _ _ _ hs]; exact h.s2
  · rw [getS_far _ _ _ ha]; exact fun e => (h.k1 e).trans k
  · rw [getS_far _ _ _ ha, getS_far _ _ _ hs]
    intro e1 e2
    obtain ⟨a, b, c⟩ := h.k3 e1 e2
    exact ⟨KV.call k a, b.kp k, c⟩
  · rw [getS_far _ _ _ hs]; exact fun e => HR _ _ (h.k4 e) k
theorem JA.cell (h : JA w0 u q kl ka ks B e E l R L w γ) {v : Value} (c : w0.cell? p = some v ∧ p.block ≠ q.block ∧ u.ownBlock ≠ some p.block) : w.cell? p = some v :=
  h.k2.cell (fun hh => hh.elim c.2.1 c.2.2) c.1
theorem JA.load (h : JA w0 u q kl ka ks B e E l R L w γ) (hl : L.getD kl true = false) (c : w0.cell? q = some u) : w.cell? q = some u := by
  refine (h.k1 ?_).cell c
  cases e : L.getD ka true with
  | false => rfl
  | true => rw [h.s1 e] at hl; cases hl
theorem JA.app {l0 : List α} (h : JA w0 u q kl ka ks B e E l R L w γ) (hl : L.getD ka true = false) (hk : L.getD kl true = true) (hn : ka ≠ ks) (hkl : ka ≠ kl) (hu : OW w0 B e E u l0) (hg : w.grownBy w' u.ownBlock) (ho : OW w' B e E γ' l) (hat : γ'.ownBlock = u.ownBlock ∨ γ'.ownBlock = some w.heap.size) :
    JA w0 u q kl ka ks B e E l R (L.setIfInBounds ka true) w' γ' := by
  have hks : L.getD ks true = false := by
    cases e : L.getD ks true with
    | false => rfl
    | true => rw [h.s2 e] at hl; cases hl
  have kp := h.k1 hl
  refine ⟨?_, fun _ => getS_same _ _, ?_, ?_, ?_, ?_⟩
  · exact fun _ => getS_mono _ _ _ hk
  · rw [getS_same]; intro e; cases e
  · exact Kf.app (Kf.of kp) hg (fun k hh => .inl (.inr hh))
  · intro _ _
    refine ⟨KV.app hg (Kf.of kp), ho, hat.imp id fun e k hh => ?_⟩
    rw [e] at hh; injection hh with hh; subst hh; exact kp.size
  · rw [getS_far _ _ _ hn, hks]; intro e; cases e
theorem JA.store (h : JA w0 u q kl ka ks B e E l R L w γ) (hl : L.getD ks true = false) (ha : L.getD ka true = true) (hn : ks ≠ ka) (hq : q.block < w0.heap.size) (hv : u.ownBlock ≠ some q.block) (c : w0.cell? q = some u) (f : w0.frozen? q = false)
    (HS : ∀ W γ, KV u w0 W → OW W B e E γ l → (γ.ownBlock = u.ownBlock ∨ Hi w0.heap.size γ) → R (W.setCell q γ)) :
    w.cell? q = some u ∧ w.frozen? q = false ∧ (∃ A n c, γ = .slice A n c) ∧ JA w0 u q kl ka ks B e E l R (L.setIfInBounds ks true) (w.setCell q γ) γ := by
  obtain ⟨a, b, cc⟩ := h.k3 ha hl
  refine ⟨a.cell hv c, (a.frozen hq hv).trans f, b.rd.slice, ?_, ?_, ?_, ?_, ?_, ?_⟩
  · rw [getS_far _ _ _ hn]; exact fun e => getS_mono _ _ _ (h.s1 e)
  · rw [getS_far _ _ _ hn]; exact fun _ => ha
  · rw [getS_far _ _ _ hn, ha]; intro e; cases e
  · exact h.k2.set (.inl (.inl rfl))
  · rw [getS_same]; intro _ e; cases e
  · exact fun _ => HS _ _ a b cc
theorem GA.none (h : d ≠ ku ∧ d ≠ kv) : GA w0 ku kv e E x d v w γ := ⟨fun e => absurd e h.1, fun e => absurd e h.2⟩
theorem GA.kp (h : GA w0 ku kv e E x d v w γ) (k : Kp w w') : GA w0 ku kv e E x d v w' γ :=
  ⟨fun e => by obtain ⟨b, a1, a2, a3⟩ := h.1 e; exact ⟨b, a1, a2, a3.kp k⟩, h.2⟩
theorem GA.app {l0 : List α} (h : GA w0 ku kv e E x d v w γ) (hd : d ≠ kv) (hu : OW w0 B e E u l0) (hg : w.grownBy w' u.ownBlock) : GA w0 ku kv e E x d v w' γ' := by
  refine ⟨fun e => ?_, fun e => absurd e hd⟩
  obtain ⟨b, a1, a2, a3⟩ := h.1 e
  refine ⟨b, a1, a2, ?_⟩
  have := (hu.lt b)
  exact a3.kf (Kf.app (F := fun i => u.ownBlock = some i) (Kf.refl _ w) hg (fun k hh => .inl hh)) (fun hh => by have := (hu.lt b hh).2; omega)
theorem GA.far (h : GA w0 ku kv e E x d v w γ) (hq : q.block < w0.heap.size) {z : Value} : GA w0 ku kv e E x d v (w.setCell q z) γ := by
  refine ⟨fun e => ?_, h.2⟩
  obtain ⟨b, a1, a2, a3⟩ := h.1 e
  exact ⟨b, a1, a2, a3.far (by omega)⟩
theorem rd_blk {b : Nat} (h : BC w b e (E.cells x)) : RD w E (.slice (some ⟨b, 0, none⟩) 1 1) [x] := RD.block (l := [x]) h (by simp) (by simp [maxLen])
end
end Go.Proofs.Ytoihdnekkgpcoaa
