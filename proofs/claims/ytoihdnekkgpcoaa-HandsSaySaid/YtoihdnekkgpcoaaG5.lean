/-
  The closures of one that goes hand over hand: begin, lock. Conditions: the table lies as WN says.
  The closure that looks, of one that goes hand over hand. Conditions: the table lies as WN says.
  The closure that looks, of one that goes hand over hand: the deed is done. Conditions: the table lies as WN says.
  A region that reads and stores twice at its end, whatever the order (JS): what its world is. No program. Conditions: none.
  A region that reads, draws in calls, and stores once or twice, whatever the order (JN, J1): what its world is. No program. Conditions: none.
  The closure that looks, of one that goes hand over hand: the deed is done. Conditions: the table lies as WN says.
  The closures of one that looks twice: how they are made, begin, the second lock. Conditions: the table lies as WN says.
  The closures of one that looks twice: the first lock, off the way. Conditions: the table lies as WN says.
  The closure that looks, of one that looks twice: one bead farther, or on to the first lock. Conditions: the table lies as WN says.
-/
import Derived.Test.YtoihdnekkgpcoaaG4
import Derived.Laws.EntriesVeiled

namespace Go.Proofs.Ytoihdnekkgpcoaa
open Go.ChangeShapes Go.WideShapes Go.ChangeAt Go.RowKit
set_option linter.unusedVariables false
set_option linter.unusedSimpArgs false

variable {L : Lay} {s : St} {dv : Nat → Value} {w w' : World}
/-- A closure with what it caught. -/
def clo (F : Nat) (vs : Array Value) : Value := .func (.func F) #[] vs
theorem up_self {α : Type} (f : Nat → α) (i : Nat) : up f i (f i) = f := by funext j; unfold up; split <;> simp_all
/-- What a closure leaves: the answer, and the table behind the step r. -/
def CP (DO : Lay → Nat → Nat → Value → Prop) (L : Lay) (s : St) (dv : Nat → Value) (i : Nat) (r : Mm × Hd × Bool) (e : Ending) (w' : World) : Prop :=
  e = .returned (.bool r.2.2) ∧ ∃ L' dv', Lx L L' s.m.n ∧ WN L' { s with m := r.1, hd := up s.hd i r.2.1 } dv' w' ∧ (∀ j, j ≠ i → dv' j = dv j) ∧ dv' i ≠ .nilFunc ∧ (r.2.2 = false → DO L' i r.2.1.plc (dv' i))
theorem Lx.refl (L : Lay) (n : Nat) : Lx L L n := ⟨rfl, rfl, rfl, rfl, rfl, rfl, rfl, fun _ _ => rfl⟩
theorem WN.cst (h : WN L s dv w) {b : Nat} {t : TypeId} {v : Value} (e : L.cst b = some (t, [v])) : w.cell? ⟨b, 0, none⟩ = some v := (h.cs b t [v] e).1.cell 0
theorem WN.hb_lt (h : WN L s dv w) {i : Nat} (hi : i < L.nh) : L.Hb i < w.heap.size := by obtain ⟨_, _, _, a, _⟩ := h.hn i hi; exact a.lt
/-- Blocks that are made one behind the other. -/
theorem size_one (w : World) (o : Obj) : (w.alloc o).heap.size = w.heap.size + 1 := by simp
theorem allocs_keep (os : List Obj) : ∀ (w : World) (j : Nat), j < w.heap.size → (os.foldl (fun w o => w.alloc o) w).heap[j]? = w.heap[j]? := by
  induction os with
  | nil => intro w j _; rfl
  | cons o os ih =>
    intro w j hj
    refine (ih (w.alloc o) j (by rw [size_one]; omega)).trans ?_
    exact (Kp.refl w).alloc.bel.block j hj
theorem allocs_at (os : List Obj) : ∀ (w : World) (i : Nat) (o : Obj), os[i]? = some o → (os.foldl (fun w o => w.alloc o) w).heap[w.heap.size + i]? = some o := by
  induction os with
  | nil => intro w i o h; simp at h
  | cons a os ih =>
    intro w i o h
    cases i with
    | zero =>
      simp at h
      subst h
      refine (allocs_keep os (w.alloc a) w.heap.size (by rw [size_one]; omega)).trans ?_
      exact heap_alloc_new w _
    | succ i =>
      have := ih (w.alloc a) i o (by simpa using h)
      rw [size_one] at this
      rw [show w.heap.size + (i + 1) = w.heap.size + 1 + i by omega]
      exact this
theorem BC.made (os : List Obj) (w : World) (i : Nat) {t : TypeId} {cs : List Value} (h : os[i]? = some (.cells cs.toArray t (0, 0))) : BC (os.foldl (fun w o => w.alloc o) w) (w.heap.size + i) t cs := allocs_at os w i _ h
/-- What a hand that goes hand over hand does next. -/
def ELk (L : Lay) (H e0 e1 e2 e3 : Nat) : Prop := L.cst e0 = some (49, [ptr L.T]) ∧ L.cst e1 = some (54, [ptr H]) ∧
  L.cst e2 = some (33, [clo 37 #[ptr e1, ptr e3]]) ∧ L.cst e3 = some (33, [clo 39 #[ptr e1, ptr e2]])
def vLk (q e0 e1 e2 e3 : Nat) : Value := if q = 0 then clo 45 #[ptr e0, ptr e1, ptr e2] else if q = 1 then clo 37 #[ptr e1, ptr e3] else clo 39 #[ptr e1, ptr e2]
def DLk (L : Lay) (i q : Nat) (v : Value) : Prop := ∃ e0 e1 e2 e3, ELk L (L.Hb i) e0 e1 e2 e3 ∧ v = vLk q e0 e1 e2 e3
theorem ELk.lx {L L' : Lay} {n H e0 e1 e2 e3 : Nat} (h : ELk L H e0 e1 e2 e3) (hl : Lx L L' n) : ELk L' H e0 e1 e2 e3 := by
  obtain ⟨_, _, a, _, _, _, b, _⟩ := hl
  unfold ELk; rw [a, b]; exact h
theorem clo_nil (F : Nat) (vs : Array Value) : clo F vs ≠ .nilFunc := by unfold clo; intro h; cases h
theorem vLk_nil (q e0 e1 e2 e3 : Nat) : vLk q e0 e1 e2 e3 ≠ .nilFunc := by
  unfold vLk; split
  · exact clo_nil _ _
  · split <;> exact clo_nil _ _
set_option maxRecDepth 100000 in
set_option maxHeartbeats 4000000 in
theorem lock_any (T H : Nat) (w : World) : Calls Try.prog 29 #[ptr T, ptr H] w (fun e w' => ∃ e0 e1 e2 e3, e = .returned (vLk 0 e0 e1 e2 e3) ∧ Kp w w' ∧ BC w' e0 49 [ptr T] ∧ BC w' e1 54 [ptr H] ∧
    BC w' e2 33 [clo 37 #[ptr e1, ptr e3]] ∧ BC w' e3 33 [clo 39 #[ptr e1, ptr e2]]) := by
  unfold vLk clo
  simp only [reduceIte]
  unfold ptr
  go_enter Try.func29, Try.ntmps29
  go_wp2
  go_ret
  obtain ⟨os, hos⟩ : ∃ os : List Obj, os = [.cells #[.pointer (some ⟨T, 0, none⟩)] 49, .cells #[.pointer (some ⟨H, 0, none⟩)] 54, .cells #[.func (.func 37) #[] #[.pointer (some ⟨w.heap.size + 1, 0, none⟩), .pointer (some ⟨w.heap.size + 1 + 1 + 1, 0, none⟩)]] 33, .cells #[.func (.func 39) #[] #[.pointer (some ⟨w.heap.size + 1, 0, none⟩), .pointer (some ⟨w.heap.size + 1 + 1, 0, none⟩)]] 33] := ⟨_, rfl⟩
  have b0 : BC (os.foldl (fun w o => w.alloc o) w) (w.heap.size + 0) 49 [.pointer (some ⟨T, 0, none⟩)] := BC.made os w 0 (by rw [hos]; rfl)
  have b1 : BC (os.foldl (fun w o => w.alloc o) w) (w.heap.size + 1) 54 [.pointer (some ⟨H, 0, none⟩)] := BC.made os w 1 (by rw [hos]; rfl)
  have b2 : BC (os.foldl (fun w o => w.alloc o) w) (w.heap.size + 2) 33 [.func (.func 37) #[] #[.pointer (some ⟨w.heap.size + 1, 0, none⟩), .pointer (some ⟨w.heap.size + 1 + 1 + 1, 0, none⟩)]] := BC.made os w 2 (by rw [hos]; rfl)
  have b3 : BC (os.foldl (fun w o => w.alloc o) w) (w.heap.size + 3) 33 [.func (.func 39) #[] #[.pointer (some ⟨w.heap.size + 1, 0, none⟩), .pointer (some ⟨w.heap.size + 1 + 1, 0, none⟩)]] := BC.made os w 3 (by rw [hos]; rfl)
  rw [hos] at b0 b1 b2 b3
  exact ⟨w.heap.size, w.heap.size + 1, w.heap.size + 1 + 1, w.heap.size + 1 + 1 + 1, rfl, by (focus ((repeat (first | (with_reducible assumption) | (with_reducible exact Kp.refl _) | (with_reducible apply Kp.drew) | (with_reducible apply Kp.drewN) | ((with_reducible apply Kp.setR); (focus (first | (with_reducible assumption) | (simp; done) | (simp; omega)))) | (with_reducible apply Kp.alloc) | ((with_reducible apply Kp.call); (with_reducible assumption)) | ((with_reducible apply Kp.app); (with_reducible assumption)))); done)), b0, b1, b2, b3⟩
set_option maxRecDepth 100000 in
theorem lk3_any (h : WN L s dv w) {i : Nat} (hi : i < L.nh) {d : Dd} (hd : (L.P i)[s.deed i]? = some d) (hp : (s.hd i).plc = 0) (hk : s.m.ky 0 ≠ 10) {e0 e1 e2 e3 : Nat} (he : ELk L (L.Hb i) e0 e1 e2 e3) (hv : dv i = vLk 0 e0 e1 e2 e3) :
    Calls Try.prog 45 #[ptr e0, ptr e1, ptr e2] w (CP DLk L s dv i (lockS s.m (s.hd i) d)) := by
  have c0 := h.cst he.1
  have c1 := h.cst he.2.1
  have t1 : w.cell? ⟨L.T, 1, none⟩ = some (ptr (L.B 0)) := h.tb.1.cell 1
  cases hl : s.m.lk 0 with
  | true =>
    have er : lockS s.m (s.hd i) d = (s.m, s.hd i, false) := by unfold lockS; rw [hp]; simp [hl]
    rw [er]
    have HT := hide (take_no h h.n0 hl)
    have HE : Hid (∀ W, Kp w W → CP DLk L s dv i (s.m, s.hd i, false) (.returned (.bool false)) W) := hide (fun W k => ⟨rfl, L, dv, Lx.refl _ _, by simp only [up_self]; exact h.kpw k, fun _ _ => rfl, by rw [hv]; exact vLk_nil _ _ _ _ _, fun _ => ⟨e0, e1, e2, e3, he, by rw [hv]; show _ = vLk (s.hd i).plc _ _ _ _; rw [hp]⟩⟩)
    obtain ⟨R, hR⟩ : ∃ R, R = CP DLk L s dv i (s.m, s.hd i, false) := ⟨_, rfl⟩
    rw [← hR] at HE ⊢
    obtain ⟨T, hT⟩ : ∃ T, T = L.T := ⟨_, rfl⟩
    obtain ⟨b, hb⟩ : ∃ b, b = L.B 0 := ⟨_, rfl⟩
    obtain ⟨H, hH⟩ : ∃ b, b = L.Hb i := ⟨_, rfl⟩
    rw [← hT] at c0 t1
    rw [← hb] at t1 HT
    rw [← hH] at c1
    clear h hi hd hp hk he hv hl er hR hT hb hH
    unfold ptr at *
    go_enter Try.func45, Try.ntmps45
    go_wp2_with fail
    refine (HT.out).mono ?_
    rintro e w1 ⟨rfl, hb1⟩
    go_wp2
    exact HE.out _ hb1
  | false =>
    have er : lockS s.m (s.hd i) d = (s.m.lock 0, (s.hd i).again s.m, false) := by unfold lockS; rw [hp]; simp [hl]
    rw [er]
    have HT := hide (take_yes h h.n0 hl)
    have HB := hide (fun w1 (h1 : WN L { s with m := s.m.lock 0 } dv w1) => begin_any h1 hi hk)
    have HF := hide (fun w1 (h1 : WN L { s with m := s.m.lock 0 } dv w1) => And.intro (h1.cst he.1) (h1.cst he.2.1))
    have HG := hide (fun w1 (h1 : WN L { s with m := s.m.lock 0, hd := up s.hd i ((s.hd i).again s.m) } dv w1) => (⟨h1.cst he.2.1, h1.cst he.2.2.1, by obtain ⟨_, _, _, _, _, x, _, _, _, y, _⟩ := h1.hand hi; exact ⟨⟨_, x⟩, y 2⟩⟩ : w1.cell? ⟨e1, 0, none⟩ = _ ∧ w1.cell? ⟨e2, 0, none⟩ = _ ∧ (∃ x, w1.cell? ⟨L.Hb i, 2, none⟩ = some x) ∧ w1.frozen? ⟨L.Hb i, 2, none⟩ = false))
    have HE : Hid (∀ w1, WN L { s with m := s.m.lock 0, hd := up s.hd i ((s.hd i).again s.m) } dv w1 → CP DLk L s dv i (s.m.lock 0, (s.hd i).again s.m, false) (.returned (.bool false)) (w1.setCell ⟨L.Hb i, 2, none⟩ (clo 37 #[ptr e1, ptr e3]))) := hide (by
      intro w1 h1
      have h2 := h1.setdo hi (clo 37 #[ptr e1, ptr e3]) 1 (fun _ => by show (up s.hd i ((s.hd i).again s.m) i).plc ≠ 0; rw [up_same]; exact Nat.one_ne_zero) (by rw [hv]; exact vLk_nil _ _ _ _ _)
      refine ⟨rfl, L, up dv i (clo 37 #[ptr e1, ptr e3]), Lx.refl _ _, ?_, fun j hj => up_ne _ _ hj, by rw [up_same]; exact clo_nil _ _, fun _ => ⟨e0, e1, e2, e3, he, by rw [up_same]; rfl⟩⟩
      have e9 : up (up s.hd i ((s.hd i).again s.m)) i { up s.hd i ((s.hd i).again s.m) i with plc := 1 } = up s.hd i ((s.hd i).again s.m) := by
        funext j
        by_cases e : j = i
        · subst e; simp only [up_same]; rfl
        · simp only [up_ne _ _ e]
      have h2 : WN L { s with m := s.m.lock 0, hd := up (up s.hd i ((s.hd i).again s.m)) i { up s.hd i ((s.hd i).again s.m) i with plc := 1 } } _ _ := h2
      rw [e9] at h2
      exact h2)
    obtain ⟨R, hR⟩ : ∃ R, R = CP DLk L s dv i (s.m.lock 0, (s.hd i).again s.m, false) := ⟨_, rfl⟩
    rw [← hR] at HE ⊢
    obtain ⟨R1, hR1⟩ : ∃ R1 : World → Prop, R1 = fun w1 => WN L { s with m := s.m.lock 0 } dv w1 := ⟨_, rfl⟩
    have hR1' : ∀ w1, WN L { s with m := s.m.lock 0 } dv w1 = R1 w1 := fun w1 => by rw [hR1]
    obtain ⟨R2, hR2⟩ : ∃ R2 : World → Prop, R2 = fun w1 => WN L { s with m := s.m.lock 0, hd := up s.hd i ((s.hd i).again s.m) } dv w1 := ⟨_, rfl⟩
    have hR2' : ∀ w1, WN L { s with m := s.m.lock 0, hd := up s.hd i ((s.hd i).again s.m) } dv w1 = R2 w1 := fun w1 => by rw [hR2]
    have hR3' : ∀ w1, WN L { m := s.m.lock 0, hd := up s.hd i ((s.hd i).again (s.m.lock 0)), deed := s.deed, told := s.told, now := s.now } dv w1 = R2 w1 := fun w1 => by rw [hR2]; rfl
    simp only [hR1', hR2', hR3'] at HT HB HF HG HE
    obtain ⟨T, hT⟩ : ∃ T, T = L.T := ⟨_, rfl⟩
    obtain ⟨b, hb⟩ : ∃ b, b = L.B 0 := ⟨_, rfl⟩
    obtain ⟨H, hH⟩ : ∃ b, b = L.Hb i := ⟨_, rfl⟩
    rw [← hT] at c0 t1 HB HF
    rw [← hb] at t1 HT
    rw [← hH] at c1 HB HF HG HE
    clear h hi hd hp hk he hv hl er hR hT hb hH hR1 hR1' hR2 hR2' hR3'
    unfold ptr clo at *
    go_enter Try.func45, Try.ntmps45
    go_wp2_with fail
    refine (HT.out).mono ?_
    rintro e w1 ⟨rfl, h1⟩
    obtain ⟨k0, k1⟩ := HF.out _ h1
    go_wp2_with fail
    refine (HB.out _ h1).mono ?_
    rintro e w2 ⟨rfl, h2⟩
    obtain ⟨g1, g2, ⟨g3, g4⟩, g5⟩ := HG.out _ h2
    go_wp2
    exact HE.out _ h2
set_option maxRecDepth 100000 in
theorem lk1_any (h : WN L s dv w) {i : Nat} (hi : i < L.nh) {d : Dd} (hp : (s.hd i).plc = 1) {e0 e1 e2 e3 : Nat} (he : ELk L (L.Hb i) e0 e1 e2 e3) (hv : dv i = vLk 1 e0 e1 e2 e3) :
    Calls Try.prog 37 #[ptr e1, ptr e3] w (CP DLk L s dv i (lockS s.m (s.hd i) d)) := by
  have c1 := h.cst he.2.1
  obtain ⟨pv, cv, bb, -, -, -, -, c4, -, -, -, hpc, -⟩ := h.hand hi
  obtain ⟨-, rfl, -, p2⟩ := hpc (by omega)
  cases hl : s.m.lk (s.hd i).c with
  | true =>
    have er : lockS s.m (s.hd i) d = (s.m, s.hd i, false) := by unfold lockS; rw [hp]; simp [hl]
    rw [er]
    have HT := hide (take_no h p2 hl)
    have HE : Hid (∀ W, Kp w W → CP DLk L s dv i (s.m, s.hd i, false) (.returned (.bool false)) W) := hide (fun W k => ⟨rfl, L, dv, Lx.refl _ _, by simp only [up_self]; exact h.kpw k, fun _ _ => rfl, by rw [hv]; exact vLk_nil _ _ _ _ _, fun _ => ⟨e0, e1, e2, e3, he, by rw [hv]; show _ = vLk (s.hd i).plc _ _ _ _; rw [hp]⟩⟩)
    obtain ⟨R, hR⟩ : ∃ R, R = CP DLk L s dv i (s.m, s.hd i, false) := ⟨_, rfl⟩
    rw [← hR] at HE ⊢
    obtain ⟨b, hb⟩ : ∃ b, b = L.B (s.hd i).c := ⟨_, rfl⟩
    obtain ⟨H, hH⟩ : ∃ b, b = L.Hb i := ⟨_, rfl⟩
    rw [← hb] at c4 HT
    rw [← hH] at c1 c4
    clear h hi hp he hv hl er hR hb hH hpc p2
    unfold ptr at *
    go_enter Try.func37, Try.ntmps37
    go_wp2_with fail
    refine (HT.out).mono ?_
    rintro e w1 ⟨rfl, hb1⟩
    go_wp2
    exact HE.out _ hb1
  | false =>
    have er : lockS s.m (s.hd i) d = (s.m.lock (s.hd i).c, { s.hd i with plc := 2 }, false) := by unfold lockS; rw [hp]; simp [hl]
    rw [er]
    have HX : ∃ R1 : World → Prop, Calls Try.prog 38 #[ptr (L.B (s.hd i).c)] w (fun e w' => e = .returned (.bool true) ∧ R1 w') ∧
        (∀ w1, R1 w1 → w1.cell? ⟨e1, 0, none⟩ = some (ptr (L.Hb i)) ∧ w1.cell? ⟨e3, 0, none⟩ = some (clo 39 #[ptr e1, ptr e2]) ∧ (∃ x, w1.cell? ⟨L.Hb i, 2, none⟩ = some x) ∧ w1.frozen? ⟨L.Hb i, 2, none⟩ = false) ∧
        (∀ w1, R1 w1 → CP DLk L s dv i (s.m.lock (s.hd i).c, { s.hd i with plc := 2 }, false) (.returned (.bool false)) (w1.setCell ⟨L.Hb i, 2, none⟩ (clo 39 #[ptr e1, ptr e2]))) := by
      refine ⟨fun w1 => WN L { s with m := s.m.lock (s.hd i).c } dv w1, take_yes h p2 hl, fun w1 h1 => ⟨h1.cst he.2.1, h1.cst he.2.2.2, by obtain ⟨_, _, _, _, _, x, _, _, _, y, _⟩ := h1.hand hi; exact ⟨⟨_, x⟩, y 2⟩⟩, fun w1 h1 => ?_⟩
      have h2 := h1.setdo hi (clo 39 #[ptr e1, ptr e2]) 2 (fun _ => by show (s.hd i).plc ≠ 0; omega) (by rw [hv]; exact vLk_nil _ _ _ _ _)
      exact ⟨rfl, L, up dv i (clo 39 #[ptr e1, ptr e2]), Lx.refl _ _, h2, fun j hj => up_ne _ _ hj, by rw [up_same]; exact clo_nil _ _, fun _ => ⟨e0, e1, e2, e3, he, by rw [up_same]; rfl⟩⟩
    obtain ⟨R1, HT, HG, HE⟩ := HX
    have HT := hide HT
    have HG := hide HG
    have HE := hide HE
    obtain ⟨R, hR⟩ : ∃ R, R = CP DLk L s dv i (s.m.lock (s.hd i).c, { s.hd i with plc := 2 }, false) := ⟨_, rfl⟩
    rw [← hR] at HE ⊢
    obtain ⟨b, hb⟩ : ∃ b, b = L.B (s.hd i).c := ⟨_, rfl⟩
    obtain ⟨H, hH⟩ : ∃ b, b = L.Hb i := ⟨_, rfl⟩
    rw [← hb] at c4 HT
    rw [← hH] at c1 c4 HG HE
    clear h hi hp he hv hl er hR hb hH hpc p2
    unfold ptr clo at *
    go_enter Try.func37, Try.ntmps37
    go_wp2_with fail
    refine (HT.out).mono ?_
    rintro e w1 ⟨rfl, h1⟩
    obtain ⟨g1, g2, ⟨g3, g4⟩, g5⟩ := HG.out _ h1
    go_wp2
    exact HE.out _ h1
end Go.Proofs.Ytoihdnekkgpcoaa
namespace Go.Proofs.Ytoihdnekkgpcoaa
open Go.ChangeShapes Go.WideShapes Go.ChangeAt Go.RowKit
set_option linter.unusedVariables false
set_option linter.unusedSimpArgs false

variable {L : Lay} {s : St} {dv : Nat → Value} {w w' : World}
set_option maxRecDepth 100000 in
/-- One bead farther. -/
theorem lk2_on (h : WN L s dv w) {i : Nat} (hi : i < L.nh) {d : Dd} (hd : (L.P i)[s.deed i]? = some d) (hp : (s.hd i).plc = 2) (hk : s.m.ky (s.hd i).c ≠ 10) (hlt : s.m.ky (s.hd i).c < d.key) {e0 e1 e2 e3 : Nat} (he : ELk L (L.Hb i) e0 e1 e2 e3) (hv : dv i = vLk 2 e0 e1 e2 e3) :
    Calls Try.prog 39 #[ptr e1, ptr e2] w (CP DLk L s dv i (lockS s.m (s.hd i) d)) := by
  have c1 := h.cst he.2.1
  have c2 := h.cst he.2.2.1
  obtain ⟨pv, cv, bb, -, -, -, h3, h4, -, -, -, hpc, -⟩ := h.hand hi
  obtain ⟨rfl, rfl, p1, p2⟩ := hpc (by omega)
  obtain ⟨b0, -⟩ := h.bead p2
  obtain ⟨-, -, -, x3, fz, -⟩ := h.bead p1
  have f3 := fz 3
  have er : lockS s.m (s.hd i) d = (s.m.free1 (s.hd i).p, { (s.hd i).on s.m with plc := 1 }, false) := by unfold lockS; rw [hp]; simp only [hlt, if_true]
  rw [er]
  have HK := hide (fun n => key_quiet (h.kpw (w' := w.drewN n) ((Kp.refl w).drewN)) hi hd)
  have HX : ∃ R1 R2 : World → Prop, (∀ n, R1 ((w.drewN n).setCell ⟨L.B (s.hd i).p, 3, none⟩ (.bool false))) ∧ (∀ w1, R1 w1 → Calls Try.prog 41 #[ptr (L.Hb i)] w1 (fun e w' => e = .returned (.tuple #[]) ∧ R2 w')) ∧
      (∀ w1, R1 w1 → w1.cell? ⟨e1, 0, none⟩ = some (ptr (L.Hb i))) ∧
      (∀ w1, R2 w1 → w1.cell? ⟨e1, 0, none⟩ = some (ptr (L.Hb i)) ∧ w1.cell? ⟨e2, 0, none⟩ = some (clo 37 #[ptr e1, ptr e3]) ∧ (∃ x, w1.cell? ⟨L.Hb i, 2, none⟩ = some x) ∧ w1.frozen? ⟨L.Hb i, 2, none⟩ = false) ∧
      (∀ w1, R2 w1 → CP DLk L s dv i (s.m.free1 (s.hd i).p, { (s.hd i).on s.m with plc := 1 }, false) (.returned (.bool false)) (w1.setCell ⟨L.Hb i, 2, none⟩ (clo 37 #[ptr e1, ptr e3]))) := by
    refine ⟨fun w1 => WN L { s with m := s.m.free1 (s.hd i).p } dv w1, fun w1 => WN L { s with m := s.m.free1 (s.hd i).p, hd := up s.hd i ((s.hd i).on s.m) } dv w1, fun n => (h.kpw (w' := w.drewN n) ((Kp.refl w).drewN)).setlk p1 false, fun w1 h1 => on_any h1 hi (by show (s.hd i).plc ≠ 0; omega) hk, fun w1 h1 => h1.cst he.2.1, fun w1 h1 => ⟨h1.cst he.2.1, h1.cst he.2.2.1, by obtain ⟨_, _, _, _, _, x, _, _, _, y, _⟩ := h1.hand hi; exact ⟨⟨_, x⟩, y 2⟩⟩, fun w1 h1 => ?_⟩
    have h2 := h1.setdo hi (clo 37 #[ptr e1, ptr e3]) 1 (fun _ => by show (up s.hd i ((s.hd i).on s.m) i).plc ≠ 0; rw [up_same]; show (s.hd i).plc ≠ 0; omega) (by rw [hv]; exact vLk_nil _ _ _ _ _)
    refine ⟨rfl, L, up dv i (clo 37 #[ptr e1, ptr e3]), Lx.refl _ _, ?_, fun j hj => up_ne _ _ hj, by rw [up_same]; exact clo_nil _ _, fun _ => ⟨e0, e1, e2, e3, he, by rw [up_same]; rfl⟩⟩
    have e9 : up (up s.hd i ((s.hd i).on s.m)) i { up s.hd i ((s.hd i).on s.m) i with plc := 1 } = up s.hd i { (s.hd i).on s.m with plc := 1 } := by
      funext j
      by_cases e : j = i
      · subst e; simp only [up_same]
      · simp only [up_ne _ _ e]
    have h2 : WN L { s with m := s.m.free1 (s.hd i).p, hd := up (up s.hd i ((s.hd i).on s.m)) i { up s.hd i ((s.hd i).on s.m) i with plc := 1 } } _ _ := h2
    rw [e9] at h2
    exact h2
  obtain ⟨R1, R2, h10, h11, h12, h13, h14⟩ := HX
  have H10 := hide h10
  have H11 := hide h11
  have H12 := hide h12
  have H13 := hide h13
  have H14 := hide h14
  obtain ⟨R, hR⟩ : ∃ R, R = CP DLk L s dv i (s.m.free1 (s.hd i).p, { (s.hd i).on s.m with plc := 1 }, false) := ⟨_, rfl⟩
  rw [← hR] at H14 ⊢
  obtain ⟨b, hb⟩ : ∃ b, b = L.B (s.hd i).c := ⟨_, rfl⟩
  obtain ⟨b9, hb9⟩ : ∃ b, b = L.B (s.hd i).p := ⟨_, rfl⟩
  obtain ⟨H, hH⟩ : ∃ b, b = L.Hb i := ⟨_, rfl⟩
  obtain ⟨x9, hx9⟩ : ∃ b, b = s.m.lk (s.hd i).p := ⟨_, rfl⟩
  obtain ⟨K, hK⟩ : ∃ b, b = s.m.ky (s.hd i).c := ⟨_, rfl⟩
  obtain ⟨D, hD⟩ : ∃ b, b = d.key := ⟨_, rfl⟩
  rw [← hb] at h4 b0
  rw [← hb9] at h3 x3 f3 H10
  rw [← hH] at c1 h3 h4 HK H11 H12 H13 H14
  rw [← hx9] at x3
  rw [← hK] at b0 hlt
  rw [← hD] at HK hlt
  clear h hi hd hp hk he hv er hR hb hb9 hH hx9 hK hD hpc p1 p2 fz h10 h11 h12 h13 h14
  unfold ptr clo at *
  go_enter Try.func39, Try.ntmps39
  go_wp2_with fail
  go_quiet ((go_at_call 40; exact Calls.quiet_of (HK.out _)))
  go_wp2_with fail
  refine (H11.out _ (H10.out _)).mono ?_
  rintro e w1 ⟨rfl, h1⟩
  obtain ⟨g1, g2, ⟨g3, g4⟩, g5⟩ := H13.out _ h1
  go_wp2
  exact H14.out _ h1
end Go.Proofs.Ytoihdnekkgpcoaa
namespace Go.Proofs.Ytoihdnekkgpcoaa
open Go.ChangeShapes Go.WideShapes Go.ChangeAt Go.RowKit
set_option linter.unusedVariables false
set_option linter.unusedSimpArgs false

variable {L : Lay} {s : St} {dv : Nat → Value} {w w' : World}
theorem beq_dec (a b : Int) : (a == b) = decide (a = b) := by
  by_cases h : a = b
  · subst h; simp
  · rw [beq_eq_false_iff_ne.2 h, decide_eq_false h]
theorem bne_dec (a b : Int) : (a != b) = decide (a ≠ b) := by
  by_cases h : a = b
  · subst h; simp
  · rw [decide_eq_true h]; exact bne_iff_ne.2 h
theorem ins_free (m : Mm) {p c : Nat} (hp : p < m.n) (hc : c < m.n) (k : Int) : (m.ins p c k).free p c = (m.free p c).ins p c k := by
  have : up (up (up m.lk m.n false) p false) c false = up (up (up m.lk p false) c false) m.n false := by
    funext j
    simp only [up]
    by_cases h1 : j = c
    · subst h1; simp
    · by_cases h2 : j = p
      · subst h2; simp
      · by_cases h3 : j = m.n
        · simp [h3]
        · simp [h1, h2, h3]
  show (⟨_, _, _, _, up (up (up m.lk m.n false) p false) c false⟩ : Mm) = ⟨_, _, _, _, up (up (up m.lk p false) c false) m.n false⟩
  rw [this]; rfl
set_option maxRecDepth 100000 in
/-- The deed is done, the list stays as it is. -/
theorem lk2_same (h : WN L s dv w) {i : Nat} (hi : i < L.nh) {d : Dd} (hd : (L.P i)[s.deed i]? = some d) (hp : (s.hd i).plc = 2) (hne : (s.hd i).p ≠ (s.hd i).c) (hkp : s.m.ky (s.hd i).p ≠ 10) (hd10 : d.key ≤ 9) (hlt : ¬ s.m.ky (s.hd i).c < d.key) (x : Bool) (hx : x = (decide (s.m.ky (s.hd i).c = d.key) == decide (d.kind ≠ 1))) (hno : (d.kind = 1 ∨ d.kind = 2) → x = false) {e0 e1 e2 e3 : Nat} (he : ELk L (L.Hb i) e0 e1 e2 e3) (hv : dv i = vLk 2 e0 e1 e2 e3) :
    Calls Try.prog 39 #[ptr e1, ptr e2] w (CP DLk L s dv i (lockS s.m (s.hd i) d)) := by
  have c1 := h.cst he.2.1
  obtain ⟨pv, cv, bb, -, -, -, h3, h4, h5, hz, n1, hpc, -⟩ := h.hand hi
  obtain ⟨rfl, rfl, p1, p2⟩ := hpc (by omega)
  obtain ⟨b0, b1, b2, -, fc, n2⟩ := h.bead p2
  obtain ⟨-, q1, -, -, fp, n3⟩ := h.bead p1
  have f5 := hz 5
  have hvn : dv i ≠ .nilFunc := by rw [hv]; exact vLk_nil _ _ _ _ _
  have er : lockS s.m (s.hd i) d = (s.m.free (s.hd i).p (s.hd i).c, { s.hd i with is := x }, true) := by
    unfold lockS; rw [hp]; simp only [hlt, if_false]
    by_cases hke : s.m.ky (s.hd i).c = d.key
    · by_cases hk1 : d.kind = 1
      · rw [if_pos hk1, if_pos hke]; rw [hx]; simp [hke, hk1, hp]
      · rw [if_neg hk1, if_pos hke]
        by_cases hk2 : d.kind = 2
        · have := hno (Or.inr hk2); rw [hx] at this; simp [hke, hk2] at this
        · rw [if_neg hk2]; rw [hx]; simp [hke, hk1, hp]
    · by_cases hk1 : d.kind = 1
      · have := hno (Or.inl hk1); rw [hx] at this; simp [hke, hk1] at this
      · rw [if_neg hk1, if_neg hke]; rw [hx]; simp [hke, hk1, hp]
  rw [er]
  have HK := hide (fun W (k : Kp w W) => key_quiet (h.kpw k) hi hd)
  have HKd := hide (fun W (k : Kp w W) => kind_quiet (h.kpw k) hi hd)
  have HX : ∃ R1 R2 : World → Prop, (∀ W, Kp w W → R1 (W.setCell ⟨L.Hb i, 5, none⟩ (.bool x))) ∧ (∀ w1, R1 w1 → Calls Try.prog 42 #[ptr (L.Hb i)] w1 (fun e w' => e = .returned (.int .i64 d.kind) ∧ ∃ m, w' = w1.drewN m)) ∧
      (∀ w1 m, R1 w1 → R1 (w1.drewN m)) ∧ (∀ w1, R1 w1 → Calls Try.prog 44 #[ptr (L.Hb i)] w1 (fun e w' => e = .returned (.tuple #[]) ∧ R2 w')) ∧
      (∀ w1, R1 w1 → w1.cell? ⟨e1, 0, none⟩ = some (ptr (L.Hb i)) ∧ w1.cell? ⟨L.Hb i, 5, none⟩ = some (.bool x)) ∧
      (∀ w1, R2 w1 → CP DLk L s dv i (s.m.free (s.hd i).p (s.hd i).c, { s.hd i with is := x }, true) (.returned (.bool true)) w1) := by
    refine ⟨fun w1 => WN L { s with hd := up s.hd i { s.hd i with is := x } } dv w1, fun w1 => WN L { s with m := s.m.free (s.hd i).p (s.hd i).c, hd := up s.hd i { s.hd i with is := x } } dv w1, fun W k => (h.kpw k).setis hi x, fun w1 h1 => kind_quiet h1 hi hd, fun w1 m h1 => h1.kpw ((Kp.refl w1).drewN), fun w1 h1 => ?_, fun w1 h1 => ⟨h1.cst he.2.1, ?_⟩, fun w1 h1 => ?_⟩
    · have h2 := free_any h1 hi (by show (up s.hd i _ i).plc ≠ 0; rw [up_same]; show (s.hd i).plc ≠ 0; omega) (by show (up s.hd i _ i).p ≠ (up s.hd i _ i).c; rw [up_same]; exact hne)
      have e4 : ({ s with hd := up s.hd i { s.hd i with is := x } } : St).m.free (({ s with hd := up s.hd i { s.hd i with is := x } } : St).hd i).p (({ s with hd := up s.hd i { s.hd i with is := x } } : St).hd i).c = s.m.free (s.hd i).p (s.hd i).c := by
        show s.m.free (up s.hd i _ i).p (up s.hd i _ i).c = _
        rw [up_same]
      rw [e4] at h2
      exact h2
    · obtain ⟨_, _, b, _, _, _, _, _, y, _, _, _, z⟩ := h1.hand hi
      rw [y, z hvn]
      show some (Value.bool (up s.hd i _ i).is) = _
      rw [up_same]
    · exact ⟨rfl, L, dv, Lx.refl _ _, h1, fun _ _ => rfl, hvn, fun e => absurd e (by simp)⟩
  obtain ⟨R1, R2, h10, h11, h12, h13, h14, h15⟩ := HX
  have H10 := hide h10
  have H11 := hide h11
  have H12 := hide h12
  have H13 := hide h13
  have H14 := hide h14
  have H15 := hide h15
  obtain ⟨R, hR⟩ : ∃ R, R = CP DLk L s dv i (s.m.free (s.hd i).p (s.hd i).c, { s.hd i with is := x }, true) := ⟨_, rfl⟩
  rw [← hR] at H15 ⊢
  obtain ⟨b, hb⟩ : ∃ b, b = L.B (s.hd i).c := ⟨_, rfl⟩
  obtain ⟨H, hH⟩ : ∃ b, b = L.Hb i := ⟨_, rfl⟩
  obtain ⟨K, hK⟩ : ∃ b, b = s.m.ky (s.hd i).c := ⟨_, rfl⟩
  obtain ⟨D, hD⟩ : ∃ b, b = d.key := ⟨_, rfl⟩
  obtain ⟨Q, hQ⟩ : ∃ b, b = d.kind := ⟨_, rfl⟩
  rw [← hb] at h4 b0
  rw [← hH] at c1 h4 h5 f5 n1 HK HKd H10 H11 H13 H14
  rw [← hK] at b0 hlt hx
  rw [← hD] at HK hlt hx
  rw [← hQ] at HKd H11 hno hx
  have HX1 : Hid (((K == D) == (Q != 1)) = x) := hide (by rw [hx, beq_dec, bne_dec])
  have HQ : Hid (((Q == 1) = true ∧ (Q == 2) = false ∧ x = false) ∨ ((Q == 1) = false ∧ (Q == 2) = true ∧ x = false) ∨ ((Q == 1) = false ∧ (Q == 2) = false)) := hide (by
    by_cases hq1 : Q = 1
    · exact Or.inl ⟨by simp [hq1], by simp [hq1], hno (Or.inl hq1)⟩
    · by_cases hq2 : Q = 2
      · exact Or.inr (Or.inl ⟨by simp [hq2], by simp [hq2], hno (Or.inr hq2)⟩)
      · exact Or.inr (Or.inr ⟨by simp [hq1], by simp [hq2]⟩))
  clear h hi hd hp hne hkp hd10 he hv hvn er hR hb hH hK hD hQ hpc p1 p2 fc fp n2 n3 b1 b2 h3 q1 hz hx hno h10 h11 h12 h13 h14 h15
  unfold ptr at *
  go_enter Try.func39, Try.ntmps39
  go_wp2_with fail
  go_quiet ((go_at_call 40; exact Calls.quiet_of (HK.out _ (by (focus ((repeat (first | (with_reducible assumption) | (with_reducible exact Kp.refl _) | (with_reducible apply Kp.drew) | (with_reducible apply Kp.drewN) | ((with_reducible apply Kp.setR); (focus (first | (with_reducible assumption) | (simp; done) | (simp; omega)))) | (with_reducible apply Kp.alloc) | ((with_reducible apply Kp.call); (with_reducible assumption)) | ((with_reducible apply Kp.app); (with_reducible assumption)))); done))))))
  have k1 : Kp w (w.drewN nq) := (Kp.refl w).drewN
  have HK1 := hide (fun W (k : Kp (w.drewN nq) W) => HK.out W (k1.trans k))
  have HKd1 := hide (fun W (k : Kp (w.drewN nq) W) => HKd.out W (k1.trans k))
  have H101 := hide (fun W (k : Kp (w.drewN nq) W) => H10.out W (k1.trans k))
  have c11 := k1.cell c1
  have h41 := k1.cell h4
  have b01 := k1.cell b0
  have h51 := k1.cell h5
  have f51 := (k1.frozen (p := ⟨H, 5, none⟩) n1).trans f5
  have n11 := Nat.lt_of_lt_of_le n1 k1.size
  clear HK HKd H10 k1 c1 h4 b0 h5 f5 n1
  generalize w.drewN nq = w1 at *
  go_wp2_with fail
  go_quiet ((go_at_call 40; exact Calls.quiet_of (HK1.out _ (by (focus ((repeat (first | (with_reducible assumption) | (with_reducible exact Kp.refl _) | (with_reducible apply Kp.drew) | (with_reducible apply Kp.drewN) | ((with_reducible apply Kp.setR); (focus (first | (with_reducible assumption) | (simp; done) | (simp; omega)))) | (with_reducible apply Kp.alloc) | ((with_reducible apply Kp.call); (with_reducible assumption)) | ((with_reducible apply Kp.app); (with_reducible assumption)))); done))))))
  obtain ⟨w2, hw2⟩ : ∃ x, x = w1.drewN nq := ⟨_, rfl⟩
  rw [← hw2]
  have k2 : Kp w1 w2 := by rw [hw2]; exact (Kp.refl w1).drewN
  clear hw2
  have c12 := k2.cell c11
  have h52 := k2.cell h51
  have f52 := (k2.frozen (p := ⟨H, 5, none⟩) n11).trans f51
  go_wp2_with fail
  go_region_law ((refine step_gocall (f := 42) (args := #[.pointer (some ⟨H, 0, none⟩)]) rfl (by simp [execOp, resolve, Act.eval, go_sem]) (HKd1.out _ (by (focus ((repeat (first | (with_reducible assumption) | (with_reducible exact Kp.refl _) | (with_reducible apply Kp.drew) | (with_reducible apply Kp.drewN) | ((with_reducible apply Kp.setR); (focus (first | (with_reducible assumption) | (simp; done) | (simp; omega)))) | (with_reducible apply Kp.alloc) | ((with_reducible apply Kp.call); (with_reducible assumption)) | ((with_reducible apply Kp.app); (with_reducible assumption)))); done)))) ?_); (rintro _ w3 ⟨rfl, m3, rfl⟩); (refine ⟨_, rfl, ?_⟩))
  all_goals
    rw [HX1.out]
    have r1 := H101.out (w2.drewN (1 + m3)) (k2.trans ((Kp.refl w2).drewN))
    generalize (w2.drewN (1 + m3)).setCell ⟨H, 5, none⟩ (.bool x) = w4 at r1 ⊢
    obtain ⟨c14, h54⟩ := H14.out _ r1
    go_wp2_with fail
    refine (H11.out _ r1).mono ?_
    rintro e w5 ⟨rfl, m5, rfl⟩
    have r2 := H12.out _ m5 r1
    generalize w4.drewN m5 = w5 at r2 ⊢
    obtain ⟨c15, h55⟩ := H14.out _ r2
    rcases HQ.out with ⟨q1, q2, rfl⟩ | ⟨q1, q2, rfl⟩ | ⟨q1, q2⟩
    all_goals
      go_wp2_with fail
      refine (H11.out _ r2).mono ?_
      rintro e w6 ⟨rfl, m6, rfl⟩
      have r3 := H12.out _ m6 r2
      generalize w5.drewN m6 = w6 at r3 ⊢
      obtain ⟨c16, h56⟩ := H14.out _ r3
      go_wp2_with fail
      refine (H13.out _ r3).mono ?_
      rintro e w7 ⟨rfl, r4⟩
      go_wp2
      exact H15.out _ r4
set_option maxRecDepth 100000 in
/-- A new bead. -/
theorem lk2_add (h : WN L s dv w) {i : Nat} (hi : i < L.nh) {d : Dd} (hd : (L.P i)[s.deed i]? = some d) (hp : (s.hd i).plc = 2) (hne : (s.hd i).p ≠ (s.hd i).c) (hkp : s.m.ky (s.hd i).p ≠ 10) (hd10 : d.key ≤ 9) (hlt : ¬ s.m.ky (s.hd i).c < d.key) (hk1 : d.kind = 1) (hke : s.m.ky (s.hd i).c ≠ d.key) {e0 e1 e2 e3 : Nat} (he : ELk L (L.Hb i) e0 e1 e2 e3) (hv : dv i = vLk 2 e0 e1 e2 e3) :
    Calls Try.prog 39 #[ptr e1, ptr e2] w (CP DLk L s dv i (lockS s.m (s.hd i) d)) := by
  have c1 := h.cst he.2.1
  obtain ⟨pv, cv, bb, -, -, -, h3, h4, h5, hz, n1, hpc, -⟩ := h.hand hi
  obtain ⟨rfl, rfl, p1, p2⟩ := hpc (by omega)
  obtain ⟨b0, b1, b2, -, fc, n2⟩ := h.bead p2
  obtain ⟨-, q1, -, -, fp, n3⟩ := h.bead p1
  have f5 := hz 5
  have hvn : dv i ≠ .nilFunc := by rw [hv]; exact vLk_nil _ _ _ _ _
  have er : lockS s.m (s.hd i) d = ((s.m.free (s.hd i).p (s.hd i).c).ins (s.hd i).p (s.hd i).c d.key, { s.hd i with is := true }, true) := by unfold lockS; rw [hp]; simp [hlt, hk1, hke, hp]
  rw [er]
  have HK := hide (fun W (k : Kp w W) => key_quiet (h.kpw k) hi hd)
  have HKd := hide (fun W (k : Kp w W) => kind_quiet (h.kpw k) hi hd)
  have hm : (s.m.ins (s.hd i).p (s.hd i).c d.key).free (s.hd i).p (s.hd i).c = (s.m.free (s.hd i).p (s.hd i).c).ins (s.hd i).p (s.hd i).c d.key := by
    exact ins_free s.m p1 p2 d.key
  have HX : ∃ R1 R2 R3 : World → Prop, (∀ W, Kp w W → R1 (W.setCell ⟨L.Hb i, 5, none⟩ (.bool true))) ∧ (∀ w1, R1 w1 → Calls Try.prog 42 #[ptr (L.Hb i)] w1 (fun e w' => e = .returned (.int .i64 d.kind) ∧ ∃ m, w' = w1.drewN m)) ∧
      (∀ w1 m, R1 w1 → R1 (w1.drewN m)) ∧ (∀ w1, R1 w1 → Calls Try.prog 43 #[ptr (L.Hb i)] w1 (fun e w' => e = .returned (.tuple #[]) ∧ R2 w')) ∧
      (∀ w1, R2 w1 → Calls Try.prog 44 #[ptr (L.Hb i)] w1 (fun e w' => e = .returned (.tuple #[]) ∧ R3 w')) ∧
      (∀ w1, R1 w1 → w1.cell? ⟨e1, 0, none⟩ = some (ptr (L.Hb i)) ∧ w1.cell? ⟨L.Hb i, 5, none⟩ = some (.bool true)) ∧ (∀ w1, R2 w1 → w1.cell? ⟨e1, 0, none⟩ = some (ptr (L.Hb i))) ∧
      (∀ w1, R3 w1 → CP DLk L s dv i ((s.m.free (s.hd i).p (s.hd i).c).ins (s.hd i).p (s.hd i).c d.key, { s.hd i with is := true }, true) (.returned (.bool true)) w1) := by
    refine ⟨fun w1 => WN L { s with hd := up s.hd i { s.hd i with is := true } } dv w1, fun w1 => ∃ L', Lx L L' s.m.n ∧ WN L' { s with m := s.m.ins (s.hd i).p (s.hd i).c d.key, hd := up s.hd i { s.hd i with is := true } } dv w1, fun w1 => ∃ L', Lx L L' s.m.n ∧ WN L' { s with m := (s.m.free (s.hd i).p (s.hd i).c).ins (s.hd i).p (s.hd i).c d.key, hd := up s.hd i { s.hd i with is := true } } dv w1, fun W k => (h.kpw k).setis hi true, fun w1 h1 => kind_quiet h1 hi hd, fun w1 m h1 => h1.kpw ((Kp.refl w1).drewN), fun w1 h1 => ?_, fun w1 h1 => ?_, fun w1 h1 => ⟨h1.cst he.2.1, ?_⟩, fun w1 h1 => ?_, fun w1 h1 => ?_⟩
    · have h2 := add_any h1 hi hd (by show (up s.hd i _ i).plc ≠ 0; rw [up_same]; show (s.hd i).plc ≠ 0; omega) (by show s.m.ky (up s.hd i _ i).p ≠ 10; rw [up_same]; exact hkp) (by omega)
      have e4 : ({ s with hd := up s.hd i { s.hd i with is := true } } : St).m.ins (({ s with hd := up s.hd i { s.hd i with is := true } } : St).hd i).p (({ s with hd := up s.hd i { s.hd i with is := true } } : St).hd i).c d.key = s.m.ins (s.hd i).p (s.hd i).c d.key := by
        show s.m.ins (up s.hd i _ i).p (up s.hd i _ i).c _ = _
        rw [up_same]
      rw [e4] at h2
      exact h2
    · obtain ⟨L', l1, h1⟩ := h1
      have h2 := free_any h1 (i := i) (by rw [l1.2.2.2.1]; exact hi) (by show (up s.hd i _ i).plc ≠ 0; rw [up_same]; show (s.hd i).plc ≠ 0; omega) (by show (up s.hd i _ i).p ≠ (up s.hd i _ i).c; rw [up_same]; exact hne)
      have e4 : (s.m.ins (s.hd i).p (s.hd i).c d.key).free (up s.hd i { s.hd i with is := true } i).p (up s.hd i { s.hd i with is := true } i).c = (s.m.free (s.hd i).p (s.hd i).c).ins (s.hd i).p (s.hd i).c d.key := by
        rw [up_same]; exact hm
      have h2 : Calls Try.prog 44 #[ptr (L'.Hb i)] w1 (fun e w' => e = .returned (.tuple #[]) ∧ WN L' { s with m := (s.m.ins (s.hd i).p (s.hd i).c d.key).free (up s.hd i { s.hd i with is := true } i).p (up s.hd i { s.hd i with is := true } i).c, hd := up s.hd i { s.hd i with is := true } } dv w') := h2
      rw [e4, l1.2.1] at h2
      exact h2.mono (fun e w' q => ⟨q.1, L', l1, q.2⟩)
    · obtain ⟨_, _, b, _, _, _, _, _, y, _, _, _, z⟩ := h1.hand hi
      rw [y, z hvn]
      show some (Value.bool (up s.hd i _ i).is) = _
      rw [up_same]
    · obtain ⟨L', l1, h1⟩ := h1
      have := h1.cst (he.lx l1).2.1
      exact this
    · obtain ⟨L', l1, h1⟩ := h1
      exact ⟨rfl, L', dv, l1, h1, fun _ _ => rfl, hvn, fun e => absurd e (by simp)⟩
  obtain ⟨R1, R2, R3, h10, h11, h12, h13, h13b, h14, h14b, h15⟩ := HX
  have H10 := hide h10
  have H11 := hide h11
  have H12 := hide h12
  have H13 := hide h13
  have H13b := hide h13b
  have H14 := hide h14
  have H14b := hide h14b
  have H15 := hide h15
  obtain ⟨R, hR⟩ : ∃ R, R = CP DLk L s dv i ((s.m.free (s.hd i).p (s.hd i).c).ins (s.hd i).p (s.hd i).c d.key, { s.hd i with is := true }, true) := ⟨_, rfl⟩
  rw [← hR] at H15 ⊢
  obtain ⟨b, hb⟩ : ∃ b, b = L.B (s.hd i).c := ⟨_, rfl⟩
  obtain ⟨H, hH⟩ : ∃ b, b = L.Hb i := ⟨_, rfl⟩
  obtain ⟨K, hK⟩ : ∃ b, b = s.m.ky (s.hd i).c := ⟨_, rfl⟩
  obtain ⟨D, hD⟩ : ∃ b, b = d.key := ⟨_, rfl⟩
  obtain ⟨Q, hQ⟩ : ∃ b, b = d.kind := ⟨_, rfl⟩
  rw [← hb] at h4 b0
  rw [← hH] at c1 h4 h5 f5 n1 HK HKd H10 H11 H13 H13b H14 H14b
  rw [← hK] at b0 hlt hke
  rw [← hD] at HK hlt hke
  rw [← hQ] at HKd H11 hk1
  have HX1 : Hid (((K == D) == (Q != 1)) = true) := hide (by rw [beq_dec, bne_dec, decide_eq_false hke, hk1]; rfl)
  have HQ : Hid ((Q == 1) = true) := hide (by rw [hk1]; rfl)
  clear h hi hd hp hne hkp hd10 he hv hvn er hR hb hH hK hD hQ hpc p1 p2 fc fp n2 n3 b1 b2 h3 q1 hz hk1 hke hm h10 h11 h12 h13 h13b h14 h14b h15
  unfold ptr at *
  go_enter Try.func39, Try.ntmps39
  go_wp2_with fail
  go_quiet ((go_at_call 40; exact Calls.quiet_of (HK.out _ (by (focus ((repeat (first | (with_reducible assumption) | (with_reducible exact Kp.refl _) | (with_reducible apply Kp.drew) | (with_reducible apply Kp.drewN) | ((with_reducible apply Kp.setR); (focus (first | (with_reducible assumption) | (simp; done) | (simp; omega)))) | (with_reducible apply Kp.alloc) | ((with_reducible apply Kp.call); (with_reducible assumption)) | ((with_reducible apply Kp.app); (with_reducible assumption)))); done))))))
  have k1 : Kp w (w.drewN nq) := (Kp.refl w).drewN
  have HK1 := hide (fun W (k : Kp (w.drewN nq) W) => HK.out W (k1.trans k))
  have HKd1 := hide (fun W (k : Kp (w.drewN nq) W) => HKd.out W (k1.trans k))
  have H101 := hide (fun W (k : Kp (w.drewN nq) W) => H10.out W (k1.trans k))
  have c11 := k1.cell c1
  have h41 := k1.cell h4
  have b01 := k1.cell b0
  have h51 := k1.cell h5
  have f51 := (k1.frozen (p := ⟨H, 5, none⟩) n1).trans f5
  have n11 := Nat.lt_of_lt_of_le n1 k1.size
  clear HK HKd H10 k1 c1 h4 b0 h5 f5 n1
  generalize w.drewN nq = w1 at *
  go_wp2_with fail
  go_quiet ((go_at_call 40; exact Calls.quiet_of (HK1.out _ (by (focus ((repeat (first | (with_reducible assumption) | (with_reducible exact Kp.refl _) | (with_reducible apply Kp.drew) | (with_reducible apply Kp.drewN) | ((with_reducible apply Kp.setR); (focus (first | (with_reducible assumption) | (simp; done) | (simp; omega)))) | (with_reducible apply Kp.alloc) | ((with_reducible apply Kp.call); (with_reducible assumption)) | ((with_reducible apply Kp.app); (with_reducible assumption)))); done))))))
  obtain ⟨w2, hw2⟩ : ∃ x, x = w1.drewN nq := ⟨_, rfl⟩
  rw [← hw2]
  have k2 : Kp w1 w2 := by rw [hw2]; exact (Kp.refl w1).drewN
  clear hw2
  have c12 := k2.cell c11
  have h52 := k2.cell h51
  have f52 := (k2.frozen (p := ⟨H, 5, none⟩) n11).trans f51
  go_wp2_with fail
  go_region_law ((refine step_gocall (f := 42) (args := #[.pointer (some ⟨H, 0, none⟩)]) rfl (by simp [execOp, resolve, Act.eval, go_sem]) (HKd1.out _ (by (focus ((repeat (first | (with_reducible assumption) | (with_reducible exact Kp.refl _) | (with_reducible apply Kp.drew) | (with_reducible apply Kp.drewN) | ((with_reducible apply Kp.setR); (focus (first | (with_reducible assumption) | (simp; done) | (simp; omega)))) | (with_reducible apply Kp.alloc) | ((with_reducible apply Kp.call); (with_reducible assumption)) | ((with_reducible apply Kp.app); (with_reducible assumption)))); done)))) ?_); (rintro _ w3 ⟨rfl, m3, rfl⟩); (refine ⟨_, rfl, ?_⟩))
  all_goals
    rw [HX1.out]
    have r1 := H101.out (w2.drewN (1 + m3)) (k2.trans ((Kp.refl w2).drewN))
    generalize (w2.drewN (1 + m3)).setCell ⟨H, 5, none⟩ (.bool true) = w4 at r1 ⊢
    obtain ⟨c14, h54⟩ := H14.out _ r1
    go_wp2_with fail
    refine (H11.out _ r1).mono ?_
    rintro e w5 ⟨rfl, m5, rfl⟩
    have r2 := H12.out _ m5 r1
    generalize w4.drewN m5 = w5 at r2 ⊢
    obtain ⟨c15, h55⟩ := H14.out _ r2
    have q1 := HQ.out
    go_wp2_with fail
    refine (H13.out _ r2).mono ?_
    rintro e w6 ⟨rfl, r3⟩
    have c16 := H14b.out _ r3
    go_wp2_with fail
    refine (H13b.out _ r3).mono ?_
    rintro e w7 ⟨rfl, r4⟩
    go_wp2
    exact H15.out _ r4
end Go.Proofs.Ytoihdnekkgpcoaa
namespace Go.Proofs.Ytoihdnekkgpcoaa
open Go
set_option linter.unusedVariables false
set_option linter.unusedSimpArgs false

/-- W0: nothing stored yet; W1: behind the first store (operation s1), both loads (d1, d2) are done then; W2: behind the second one (s2). -/
def JS (W0 W1 W2 : World) (s1 s2 d1 d2 : Nat) (L : Array Bool) (w : World) : Prop :=
  (L.getD s1 true = false ∧ L.getD s2 true = false ∧ w = W0) ∨ (L.getD s1 true = true ∧ L.getD s2 true = false ∧ L.getD d1 true = true ∧ L.getD d2 true = true ∧ w = W1) ∨
    (L.getD s1 true = true ∧ L.getD s2 true = true ∧ L.getD d1 true = true ∧ L.getD d2 true = true ∧ w = W2)
section
variable {W0 W1 W2 w : World} {s1 s2 d1 d2 i : Nat} {L : Array Bool}
theorem getD_set_ne (h : i ≠ s1) : (L.setIfInBounds i true).getD s1 true = L.getD s1 true := by
  simp only [Array.getD_eq_getD_getElem?, Array.getElem?_setIfInBounds_ne h]
theorem getD_set_true (h : L.getD s1 true = true) : (L.setIfInBounds i true).getD s1 true = true := by
  by_cases e : i = s1
  · subst e
    simp only [Array.getD_eq_getD_getElem?]
    by_cases hlt : i < L.size
    · simp [Array.getElem?_setIfInBounds_self_of_lt hlt]
    · simp [hlt]
  · rw [getD_set_ne e, h]
theorem getD_set_self : (L.setIfInBounds i true).getD i true = true := by
  simp only [Array.getD_eq_getD_getElem?]
  by_cases hlt : i < L.size
  · simp [Array.getElem?_setIfInBounds_self_of_lt hlt]
  · simp [hlt]
theorem JS.go (h : JS W0 W1 W2 s1 s2 d1 d2 L w) (h1 : i ≠ s1) (h2 : i ≠ s2) : JS W0 W1 W2 s1 s2 d1 d2 (L.setIfInBounds i true) w := by
  unfold JS at h ⊢
  rw [getD_set_ne h1, getD_set_ne h2]
  rcases h with h | ⟨a, b, c, d, e⟩ | ⟨a, b, c, d, e⟩
  · exact .inl h
  · exact .inr (.inl ⟨a, b, getD_set_true c, getD_set_true d, e⟩)
  · exact .inr (.inr ⟨a, b, getD_set_true c, getD_set_true d, e⟩)
theorem JS.ld1 (h : JS W0 W1 W2 s1 s2 d1 d2 L w) (hl : L.getD d1 true = false) : w = W0 := by
  rcases h with h | ⟨a, b, c, d, e⟩ | ⟨a, b, c, d, e⟩
  · exact h.2.2
  · rw [hl] at c; cases c
  · rw [hl] at c; cases c
theorem JS.ld2 (h : JS W0 W1 W2 s1 s2 d1 d2 L w) (hl : L.getD d2 true = false) : w = W0 := by
  rcases h with h | ⟨a, b, c, d, e⟩ | ⟨a, b, c, d, e⟩
  · exact h.2.2
  · rw [hl] at d; cases d
  · rw [hl] at d; cases d
theorem JS.st1 (h : JS W0 W1 W2 s1 s2 d1 d2 L w) (hl : L.getD s1 true = false) (a1 : L.getD d1 true = true) (a2 : L.getD d2 true = true) (hn : s1 ≠ s2) : w = W0 ∧ JS W0 W1 W2 s1 s2 d1 d2 (L.setIfInBounds s1 true) W1 := by
  rcases h with ⟨a, b, e⟩ | ⟨a, b, c, d, e⟩ | ⟨a, b, c, d, e⟩
  · exact ⟨e, .inr (.inl ⟨getD_set_self, (getD_set_ne hn).trans b, getD_set_true a1, getD_set_true a2, rfl⟩)⟩
  · rw [hl] at a; cases a
  · rw [hl] at a; cases a
theorem JS.st2 (h : JS W0 W1 W2 s1 s2 d1 d2 L w) (hl : L.getD s2 true = false) (a1 : L.getD s1 true = true) : w = W1 ∧ JS W0 W1 W2 s1 s2 d1 d2 (L.setIfInBounds s2 true) W2 := by
  rcases h with ⟨a, b, e⟩ | ⟨a, b, c, d, e⟩ | ⟨a, b, c, d, e⟩
  · rw [a1] at a; cases a
  · exact ⟨e, .inr (.inr ⟨getD_set_true a, getD_set_self, getD_set_true c, getD_set_true d, rfl⟩)⟩
  · rw [hl] at b; cases b
theorem JS.start {n : Nat} (h1 : s1 < n) (h2 : s2 < n) : JS W0 W1 W2 s1 s2 d1 d2 (Array.replicate n false) W0 :=
  .inl ⟨by simp [Array.getD, h1], by simp [Array.getD, h2], rfl⟩
theorem JS.done {n : Nat} (h : JS W0 W1 W2 s1 s2 d1 d2 (Array.replicate n true) w) (h1 : s1 < n) (h2 : s2 < n) : w = W2 := by
  rcases h with ⟨a, b, e⟩ | ⟨a, b, c, d, e⟩ | ⟨a, b, c, d, e⟩
  · simp [Array.getD, h1] at a
  · simp [Array.getD, h2] at b
  · exact e
end
end Go.Proofs.Ytoihdnekkgpcoaa
namespace Go.Proofs.Ytoihdnekkgpcoaa
open Go
set_option linter.unusedVariables false
set_option linter.unusedSimpArgs false

/-- W0: nothing stored yet; W1: behind the first store (operation s1); W2: behind the second one (s2); but for draws. -/
def JN (W0 W1 W2 : World) (s1 s2 : Nat) (L : Array Bool) (w : World) : Prop :=
  (L.getD s1 true = false ∧ L.getD s2 true = false ∧ ∃ n, w = W0.drewN n) ∨ (L.getD s1 true = true ∧ L.getD s2 true = false ∧ ∃ n, w = W1.drewN n) ∨ (L.getD s1 true = true ∧ L.getD s2 true = true ∧ ∃ n, w = W2.drewN n)
section
variable {W0 W1 W2 w : World} {s1 s2 i : Nat} {L : Array Bool}
theorem JN.go (h : JN W0 W1 W2 s1 s2 L w) (h1 : i ≠ s1) (h2 : i ≠ s2) : JN W0 W1 W2 s1 s2 (L.setIfInBounds i true) w := by
  unfold JN at h ⊢
  rw [getD_set_ne h1, getD_set_ne h2]
  exact h
theorem JN.draw (h : JN W0 W1 W2 s1 s2 L w) (m : Nat) : JN W0 W1 W2 s1 s2 L (w.drewN m) := by
  rcases h with ⟨a, b, n, rfl⟩ | ⟨a, b, n, rfl⟩ | ⟨a, b, n, rfl⟩
  · exact .inl ⟨a, b, n + m, World.drewN_drewN _ _ _⟩
  · exact .inr (.inl ⟨a, b, n + m, World.drewN_drewN _ _ _⟩)
  · exact .inr (.inr ⟨a, b, n + m, World.drewN_drewN _ _ _⟩)
theorem JN.cell (h : JN W0 W1 W2 s1 s2 L w) {p : Addr} {v : Value} (c : W0.cell? p = some v ∧ W1.cell? p = some v ∧ W2.cell? p = some v) : w.cell? p = some v := by
  rcases h with ⟨a, b, n, rfl⟩ | ⟨a, b, n, rfl⟩ | ⟨a, b, n, rfl⟩
  · exact c.1
  · exact c.2.1
  · exact c.2.2
theorem JN.st1 (h : JN W0 W1 W2 s1 s2 L w) (hl : L.getD s1 true = false) (hn : s1 ≠ s2) {p : Addr} {v : Value} (e : W1 = W0.setCell p v) : (∃ n, w = W0.drewN n) ∧ JN W0 W1 W2 s1 s2 (L.setIfInBounds s1 true) (w.setCell p v) := by
  rcases h with ⟨a, b, n, rfl⟩ | ⟨a, b, n, rfl⟩ | ⟨a, b, n, rfl⟩
  · exact ⟨⟨n, rfl⟩, .inr (.inl ⟨getD_set_self, (getD_set_ne hn).trans b, n, by rw [e]; rfl⟩)⟩
  · rw [hl] at a; cases a
  · rw [hl] at a; cases a
theorem JN.st2 (h : JN W0 W1 W2 s1 s2 L w) (hl : L.getD s2 true = false) (a2 : L.getD s1 true = true) {p : Addr} {v : Value} (e : W2 = W1.setCell p v) : (∃ n, w = W1.drewN n) ∧ JN W0 W1 W2 s1 s2 (L.setIfInBounds s2 true) (w.setCell p v) := by
  rcases h with ⟨a, b, n, rfl⟩ | ⟨a, b, n, rfl⟩ | ⟨a, b, n, rfl⟩
  · rw [a2] at a; cases a
  · exact ⟨⟨n, rfl⟩, .inr (.inr ⟨getD_set_true a, getD_set_self, n, by rw [e]; rfl⟩)⟩
  · rw [hl] at b; cases b
/-- The first of the two makes a block. -/
theorem JN.al (h : JN W0 W1 W2 s1 s2 L w) (hl : L.getD s1 true = false) (hn : s1 ≠ s2) {o : Obj} (e : W1 = W0.alloc o) : w.heap.size = W0.heap.size ∧ JN W0 W1 W2 s1 s2 (L.setIfInBounds s1 true) (w.alloc o) := by
  rcases h with ⟨a, b, n, rfl⟩ | ⟨a, b, n, rfl⟩ | ⟨a, b, n, rfl⟩
  · exact ⟨rfl, .inr (.inl ⟨getD_set_self, (getD_set_ne hn).trans b, n, by rw [e]; rfl⟩)⟩
  · rw [hl] at a; cases a
  · rw [hl] at a; cases a
theorem JN.sw (h : JN W0 W1 W2 s1 s2 L w) (hl : L.getD s2 true = false) (a2 : L.getD s1 true = true) {f : World → World} (e : ∀ n, f (W1.drewN n) = W2.drewN n) : (∃ n, w = W1.drewN n) ∧ JN W0 W1 W2 s1 s2 (L.setIfInBounds s2 true) (f w) := by
  rcases h with ⟨a, b, n, rfl⟩ | ⟨a, b, n, rfl⟩ | ⟨a, b, n, rfl⟩
  · rw [a2] at a; cases a
  · exact ⟨⟨n, rfl⟩, .inr (.inr ⟨getD_set_true a, getD_set_self, n, e n⟩)⟩
  · rw [hl] at b; cases b
theorem JN.start {n : Nat} (h1 : s1 < n) (h2 : s2 < n) : JN W0 W1 W2 s1 s2 (Array.replicate n false) W0 :=
  .inl ⟨by simp [Array.getD, h1], by simp [Array.getD, h2], 0, rfl⟩
theorem JN.done {n : Nat} (h : JN W0 W1 W2 s1 s2 (Array.replicate n true) w) (h1 : s1 < n) (h2 : s2 < n) : ∃ n, w = W2.drewN n := by
  rcases h with ⟨a, _⟩ | ⟨_, b, _⟩ | ⟨_, _, c⟩
  · simp [Array.getD, h1] at a
  · simp [Array.getD, h2] at b
  · exact c
/-- One store. -/
def J1 (W0 W1 : World) (s1 : Nat) (L : Array Bool) (w : World) : Prop := (L.getD s1 true = false ∧ ∃ n, w = W0.drewN n) ∨ (L.getD s1 true = true ∧ ∃ n, w = W1.drewN n)
theorem J1.go (h : J1 W0 W1 s1 L w) (h1 : i ≠ s1) : J1 W0 W1 s1 (L.setIfInBounds i true) w := by
  unfold J1 at h ⊢
  rw [getD_set_ne h1]
  exact h
theorem J1.draw (h : J1 W0 W1 s1 L w) (m : Nat) : J1 W0 W1 s1 L (w.drewN m) := by
  rcases h with ⟨a, n, rfl⟩ | ⟨a, n, rfl⟩
  · exact .inl ⟨a, n + m, World.drewN_drewN _ _ _⟩
  · exact .inr ⟨a, n + m, World.drewN_drewN _ _ _⟩
theorem J1.cell (h : J1 W0 W1 s1 L w) {p : Addr} {v : Value} (c : W0.cell? p = some v ∧ W1.cell? p = some v) : w.cell? p = some v := by
  rcases h with ⟨a, n, rfl⟩ | ⟨a, n, rfl⟩
  · exact c.1
  · exact c.2
theorem J1.st1 (h : J1 W0 W1 s1 L w) (hl : L.getD s1 true = false) {p : Addr} {v : Value} (e : W1 = W0.setCell p v) : (∃ n, w = W0.drewN n) ∧ J1 W0 W1 s1 (L.setIfInBounds s1 true) (w.setCell p v) := by
  rcases h with ⟨a, n, rfl⟩ | ⟨a, n, rfl⟩
  · exact ⟨⟨n, rfl⟩, .inr ⟨getD_set_self, n, by rw [e]; rfl⟩⟩
  · rw [hl] at a; cases a
theorem J1.start {n : Nat} (h1 : s1 < n) : J1 W0 W1 s1 (Array.replicate n false) W0 := .inl ⟨by simp [Array.getD, h1], 0, rfl⟩
theorem J1.done {n : Nat} (h : J1 W0 W1 s1 (Array.replicate n true) w) (h1 : s1 < n) : ∃ n, w = W1.drewN n := by
  rcases h with ⟨a, _⟩ | ⟨_, c⟩
  · simp [Array.getD, h1] at a
  · exact c
end
end Go.Proofs.Ytoihdnekkgpcoaa
namespace Go.Proofs.Ytoihdnekkgpcoaa
open Go.ChangeShapes Go.WideShapes Go.ChangeAt Go.RowKit
set_option linter.unusedVariables false
set_option linter.unusedSimpArgs false

variable {L : Lay} {s : St} {dv : Nat → Value} {w w' : World}
set_option maxRecDepth 100000 in
set_option maxHeartbeats 2000000 in
/-- A bead goes. -/
theorem lk2_cut (h : WN L s dv w) {i : Nat} (hi : i < L.nh) {d : Dd} (hd : (L.P i)[s.deed i]? = some d) (hp : (s.hd i).plc = 2) (hne : (s.hd i).p ≠ (s.hd i).c) (hkp : s.m.ky (s.hd i).p ≠ 10) (hd10 : d.key ≤ 9) (hlt : ¬ s.m.ky (s.hd i).c < d.key) (hk2 : d.kind = 2) (hke : s.m.ky (s.hd i).c = d.key) {e0 e1 e2 e3 : Nat} (he : ELk L (L.Hb i) e0 e1 e2 e3) (hv : dv i = vLk 2 e0 e1 e2 e3) :
    Calls Try.prog 39 #[ptr e1, ptr e2] w (CP DLk L s dv i (lockS s.m (s.hd i) d)) := by
  have c1 := h.cst he.2.1
  obtain ⟨pv, cv, bb, -, -, -, h3, h4, h5, hz, n1, hpc, -⟩ := h.hand hi
  obtain ⟨rfl, rfl, p1, p2⟩ := hpc (by omega)
  obtain ⟨b0, b1, b2, -, fc, n2⟩ := h.bead p2
  obtain ⟨-, q1, -, -, fp, n3⟩ := h.bead p1
  have f5 := hz 5
  have hvn : dv i ≠ .nilFunc := by rw [hv]; exact vLk_nil _ _ _ _ _
  have er : lockS s.m (s.hd i) d = (((s.m.free (s.hd i).p (s.hd i).c).mark (s.hd i).c).drop (s.hd i).p (s.hd i).c, { s.hd i with is := true }, true) := by
    have hq : ¬ d.key < d.key := by omega
    unfold lockS; rw [hp]; simp [hk2, hke, hp, hq]
  rw [er]
  have HK := hide (fun W (k : Kp w W) => key_quiet (h.kpw k) hi hd)
  have HKd := hide (fun W (k : Kp w W) => kind_quiet (h.kpw k) hi hd)
  have hc10 : s.m.ky (s.hd i).c ≠ 10 := by omega
  have hnx := h.nn _ p2
  have HX : ∃ R1 R2 R3 : World → Prop, (∀ W, Kp w W → R1 (W.setCell ⟨L.Hb i, 5, none⟩ (.bool true))) ∧ (∀ w1, R1 w1 → Calls Try.prog 42 #[ptr (L.Hb i)] w1 (fun e w' => e = .returned (.int .i64 d.kind) ∧ ∃ m, w' = w1.drewN m)) ∧
      (∀ w1 m, R1 w1 → R1 (w1.drewN m)) ∧ (∀ w1 W, R1 w1 → Kp ((w1.setCell ⟨L.B (s.hd i).p, 1, none⟩ (ptr (L.B (s.m.nx (s.hd i).c)))).setCell ⟨L.B (s.hd i).c, 2, none⟩ (.bool true)) W → R2 W) ∧
      (∀ w1, R2 w1 → Calls Try.prog 44 #[ptr (L.Hb i)] w1 (fun e w' => e = .returned (.tuple #[]) ∧ R3 w')) ∧
      (∀ w1, R1 w1 → w1.cell? ⟨e1, 0, none⟩ = some (ptr (L.Hb i)) ∧ w1.cell? ⟨L.Hb i, 5, none⟩ = some (.bool true)) ∧ (∀ w1, R2 w1 → w1.cell? ⟨e1, 0, none⟩ = some (ptr (L.Hb i))) ∧
      (∀ w1, R1 w1 → w1.cell? ⟨L.Hb i, 3, none⟩ = some (ptr (L.B (s.hd i).p)) ∧ w1.cell? ⟨L.Hb i, 4, none⟩ = some (ptr (L.B (s.hd i).c)) ∧ w1.cell? ⟨L.B (s.hd i).c, 1, none⟩ = some (ptr (L.B (s.m.nx (s.hd i).c))) ∧ (∃ x, w1.cell? ⟨L.B (s.hd i).p, 1, none⟩ = some x) ∧ (∃ x, w1.cell? ⟨L.B (s.hd i).c, 2, none⟩ = some x) ∧ w1.frozen? ⟨L.B (s.hd i).p, 1, none⟩ = false ∧ w1.frozen? ⟨L.B (s.hd i).c, 2, none⟩ = false) ∧
      (¬ L.B (s.hd i).p = L.B (s.hd i).c ∧ ¬ L.B (s.hd i).p = L.Hb i ∧ ¬ L.B (s.hd i).c = L.Hb i ∧ ¬ e1 = L.B (s.hd i).p ∧ ¬ e1 = L.B (s.hd i).c) ∧
      (∀ w1, R3 w1 → CP DLk L s dv i (((s.m.free (s.hd i).p (s.hd i).c).mark (s.hd i).c).drop (s.hd i).p (s.hd i).c, { s.hd i with is := true }, true) (.returned (.bool true)) w1) := by
    refine ⟨fun w1 => WN L { s with hd := up s.hd i { s.hd i with is := true } } dv w1, fun w1 => WN L { s with m := (s.m.mark (s.hd i).c).drop (s.hd i).p (s.hd i).c, hd := up s.hd i { s.hd i with is := true } } dv w1, fun w1 => WN L { s with m := ((s.m.free (s.hd i).p (s.hd i).c).mark (s.hd i).c).drop (s.hd i).p (s.hd i).c, hd := up s.hd i { s.hd i with is := true } } dv w1, fun W k => (h.kpw k).setis hi true, fun w1 h1 => kind_quiet h1 hi hd, fun w1 m h1 => h1.kpw ((Kp.refl w1).drewN), fun w1 W h1 k => ?_, fun w1 h1 => ?_, fun w1 h1 => ⟨h1.cst he.2.1, ?_⟩, fun w1 h1 => h1.cst he.2.1, fun w1 h1 => ?_, ?_, fun w1 h1 => ?_⟩
    · have h2 := (h1.setnx (i := (s.hd i).p) (c := s.m.nx (s.hd i).c) p1 hnx hkp).setmr (i := (s.hd i).c) p2
      exact WN.kpw h2 k
    · have h2 := free_any h1 hi (by show (up s.hd i _ i).plc ≠ 0; rw [up_same]; show (s.hd i).plc ≠ 0; omega) (by show (up s.hd i _ i).p ≠ (up s.hd i _ i).c; rw [up_same]; exact hne)
      have h2 : Calls Try.prog 44 #[ptr (L.Hb i)] w1 (fun e w' => e = .returned (.tuple #[]) ∧ WN L { s with m := ((s.m.mark (s.hd i).c).drop (s.hd i).p (s.hd i).c).free (up s.hd i { s.hd i with is := true } i).p (up s.hd i { s.hd i with is := true } i).c, hd := up s.hd i { s.hd i with is := true } } dv w') := h2
      rw [up_same] at h2
      exact h2
    · obtain ⟨_, _, b, _, _, _, _, _, y, _, _, _, z⟩ := h1.hand hi
      rw [y, z hvn]
      show some (Value.bool (up s.hd i _ i).is) = _
      rw [up_same]
    · obtain ⟨pv', cv', _, _, _, _, y3, y4, _, _, _, z, _⟩ := h1.hand hi
      have z := z (by show (up s.hd i _ i).plc ≠ 0; rw [up_same]; show (s.hd i).plc ≠ 0; omega)
      have z : pv' = ptr (L.B (up s.hd i { s.hd i with is := true } i).p) ∧ cv' = ptr (L.B (up s.hd i { s.hd i with is := true } i).c) ∧ _ := z
      rw [up_same] at z
      obtain ⟨_, v1, v2, _, v4, _⟩ := h1.bead (i := (s.hd i).c) p2
      obtain ⟨_, u1, _, _, u4, _⟩ := h1.bead (i := (s.hd i).p) p1
      have v1 : w1.cell? ⟨L.B (s.hd i).c, 1, none⟩ = some (if s.m.ky (s.hd i).c = 10 then .pointer none else ptr (L.B (s.m.nx (s.hd i).c))) := v1
      rw [if_neg hc10] at v1
      exact ⟨by rw [y3, z.1], by rw [y4, z.2.1], v1, ⟨_, u1⟩, ⟨_, v2⟩, u4 1, v4 2⟩
    · obtain ⟨_, _, _, a, _⟩ := h.hn i hi
      obtain ⟨c9, c8⟩ := h.cs _ _ _ he.2.1
      exact ⟨fun e => hne (h.bi _ _ p1 p2 e), BC.ne (h.bd _ p1).1 a (by decide), BC.ne (h.bd _ p2).1 a (by decide), BC.ne c9 (h.bd _ p1).1 (by decide), BC.ne c9 (h.bd _ p2).1 (by decide)⟩
    · exact ⟨rfl, L, dv, Lx.refl _ _, h1, fun _ _ => rfl, hvn, fun e => absurd e (by simp)⟩
  obtain ⟨R1, R2, R3, h10, h11, h12, h13, h13b, h14, h14b, h14c, ⟨n41, n42, n43, n44, n45⟩, h15⟩ := HX
  have H10 := hide h10
  have H11 := hide h11
  have H12 := hide h12
  have H13 := hide h13
  have H13b := hide h13b
  have H14 := hide h14
  have H14b := hide h14b
  have H14c := hide h14c
  have H15 := hide h15
  obtain ⟨R, hR⟩ : ∃ R, R = CP DLk L s dv i (((s.m.free (s.hd i).p (s.hd i).c).mark (s.hd i).c).drop (s.hd i).p (s.hd i).c, { s.hd i with is := true }, true) := ⟨_, rfl⟩
  rw [← hR] at H15 ⊢
  obtain ⟨b, hb⟩ : ∃ b, b = L.B (s.hd i).c := ⟨_, rfl⟩
  obtain ⟨b9, hb9⟩ : ∃ b, b = L.B (s.hd i).p := ⟨_, rfl⟩
  obtain ⟨b8, hb8⟩ : ∃ b, b = L.B (s.m.nx (s.hd i).c) := ⟨_, rfl⟩
  obtain ⟨H, hH⟩ : ∃ b, b = L.Hb i := ⟨_, rfl⟩
  obtain ⟨K, hK⟩ : ∃ b, b = s.m.ky (s.hd i).c := ⟨_, rfl⟩
  obtain ⟨D, hD⟩ : ∃ b, b = d.key := ⟨_, rfl⟩
  obtain ⟨Q, hQ⟩ : ∃ b, b = d.kind := ⟨_, rfl⟩
  rw [← hb] at h4 b0 H13 H14c n41 n43 n45
  rw [← hb9] at H13 H14c n41 n42 n44
  rw [← hb8] at H13 H14c
  rw [← hH] at c1 h4 h5 f5 n1 HK HKd H10 H11 H13b H14 H14b H14c n42 n43
  rw [← hK] at b0 hlt hke
  rw [← hD] at HK hlt hke
  rw [← hQ] at HKd H11 hk2
  have HX1 : Hid (((K == D) == (Q != 1)) = true) := hide (by rw [beq_dec, bne_dec, decide_eq_true hke, hk2]; rfl)
  have HQ : Hid ((Q == 1) = false ∧ (Q == 2) = true) := hide (by rw [hk2]; exact ⟨rfl, rfl⟩)
  clear h hi hd hp hne hkp hd10 he hv hvn er hR hb hb9 hb8 hH hK hD hQ hpc p1 p2 fc fp n2 n3 b1 b2 h3 q1 hz hk2 hke hc10 hnx h10 h11 h12 h13 h13b h14 h14b h14c h15
  unfold ptr at *
  go_enter Try.func39, Try.ntmps39
  go_wp2_with fail
  go_quiet ((go_at_call 40; exact Calls.quiet_of (HK.out _ (by (focus ((repeat (first | (with_reducible assumption) | (with_reducible exact Kp.refl _) | (with_reducible apply Kp.drew) | (with_reducible apply Kp.drewN) | ((with_reducible apply Kp.setR); (focus (first | (with_reducible assumption) | (simp; done) | (simp; omega)))) | (with_reducible apply Kp.alloc) | ((with_reducible apply Kp.call); (with_reducible assumption)) | ((with_reducible apply Kp.app); (with_reducible assumption)))); done))))))
  have k1 : Kp w (w.drewN nq) := (Kp.refl w).drewN
  have HK1 := hide (fun W (k : Kp (w.drewN nq) W) => HK.out W (k1.trans k))
  have HKd1 := hide (fun W (k : Kp (w.drewN nq) W) => HKd.out W (k1.trans k))
  have H101 := hide (fun W (k : Kp (w.drewN nq) W) => H10.out W (k1.trans k))
  have c11 := k1.cell c1
  have h41 := k1.cell h4
  have b01 := k1.cell b0
  have h51 := k1.cell h5
  have f51 := (k1.frozen (p := ⟨H, 5, none⟩) n1).trans f5
  have n11 := Nat.lt_of_lt_of_le n1 k1.size
  clear HK HKd H10 k1 c1 h4 b0 h5 f5 n1
  generalize w.drewN nq = w1 at *
  go_wp2_with fail
  go_quiet ((go_at_call 40; exact Calls.quiet_of (HK1.out _ (by (focus ((repeat (first | (with_reducible assumption) | (with_reducible exact Kp.refl _) | (with_reducible apply Kp.drew) | (with_reducible apply Kp.drewN) | ((with_reducible apply Kp.setR); (focus (first | (with_reducible assumption) | (simp; done) | (simp; omega)))) | (with_reducible apply Kp.alloc) | ((with_reducible apply Kp.call); (with_reducible assumption)) | ((with_reducible apply Kp.app); (with_reducible assumption)))); done))))))
  obtain ⟨w2, hw2⟩ : ∃ x, x = w1.drewN nq := ⟨_, rfl⟩
  rw [← hw2]
  have k2 : Kp w1 w2 := by rw [hw2]; exact (Kp.refl w1).drewN
  clear hw2
  have c12 := k2.cell c11
  have h52 := k2.cell h51
  have f52 := (k2.frozen (p := ⟨H, 5, none⟩) n11).trans f51
  go_wp2_with fail
  go_region_law ((refine step_gocall (f := 42) (args := #[.pointer (some ⟨H, 0, none⟩)]) rfl (by simp [execOp, resolve, Act.eval, go_sem]) (HKd1.out _ (by (focus ((repeat (first | (with_reducible assumption) | (with_reducible exact Kp.refl _) | (with_reducible apply Kp.drew) | (with_reducible apply Kp.drewN) | ((with_reducible apply Kp.setR); (focus (first | (with_reducible assumption) | (simp; done) | (simp; omega)))) | (with_reducible apply Kp.alloc) | ((with_reducible apply Kp.call); (with_reducible assumption)) | ((with_reducible apply Kp.app); (with_reducible assumption)))); done)))) ?_); (rintro _ w3 ⟨rfl, m3, rfl⟩); (refine ⟨_, rfl, ?_⟩))
  all_goals
    rw [HX1.out]
    have r1 := H101.out (w2.drewN (1 + m3)) (k2.trans ((Kp.refl w2).drewN))
    generalize (w2.drewN (1 + m3)).setCell ⟨H, 5, none⟩ (.bool true) = w4 at r1 ⊢
    obtain ⟨c14, h54⟩ := H14.out _ r1
    go_wp2_with fail
    refine (H11.out _ r1).mono ?_
    rintro e w5 ⟨rfl, m5, rfl⟩
    have r2 := H12.out _ m5 r1
    generalize w4.drewN m5 = w5 at r2 ⊢
    obtain ⟨c15, h55⟩ := H14.out _ r2
    obtain ⟨q1, q2⟩ := HQ.out
    go_wp2_with fail
    refine (H11.out _ r2).mono ?_
    rintro e w6 ⟨rfl, m6, rfl⟩
    have r3 := H12.out _ m6 r2
    generalize w5.drewN m6 = w6 at r3 ⊢
    obtain ⟨c16, h56⟩ := H14.out _ r3
    obtain ⟨g3, g4, g1, ⟨x1, g5⟩, ⟨x2, g6⟩, g7, g8⟩ := H14c.out _ r3
    have h13 := fun W k => H13.out w6 W r3 k
    go_wp2_with fail
    obtain ⟨W0, hW0⟩ : ∃ W0, W0 = w6.drew := ⟨_, rfl⟩
    obtain ⟨W1, hW1⟩ : ∃ W1, W1 = W0.setCell ⟨b9, 1, none⟩ (.pointer (some ⟨b8, 0, none⟩)) := ⟨_, rfl⟩
    obtain ⟨W2, hW2⟩ : ∃ W2, W2 = W1.setCell ⟨b, 2, none⟩ (.bool true) := ⟨_, rfl⟩
    have r4 : ∀ n, R2 (W2.drewN n) := fun n => h13 _ (by rw [hW2, hW1, hW0]; exact ((Kp.refl _).drew).drewN)
    have n46 : ¬ b9 = b := n41
    have n47 : ¬ H = b9 := fun e => n42 e.symm
    have n48 : ¬ H = b := fun e => n43 e.symm
    have n49 : ¬ b = b9 := fun e => n41 e.symm
    have B0 : W0.cell? ⟨e1, 0, none⟩ = some (.pointer (some ⟨H, 0, none⟩)) ∧ W1.cell? ⟨e1, 0, none⟩ = some (.pointer (some ⟨H, 0, none⟩)) ∧ W2.cell? ⟨e1, 0, none⟩ = some (.pointer (some ⟨H, 0, none⟩)) := by
      rw [hW2, hW1, hW0]; refine ⟨c16, ?_, ?_⟩ <;> simp [go_sem, c16, n44, n45]
    have B3 : W0.cell? ⟨H, 3, none⟩ = some (.pointer (some ⟨b9, 0, none⟩)) ∧ W1.cell? ⟨H, 3, none⟩ = some (.pointer (some ⟨b9, 0, none⟩)) ∧ W2.cell? ⟨H, 3, none⟩ = some (.pointer (some ⟨b9, 0, none⟩)) := by
      rw [hW2, hW1, hW0]; refine ⟨g3, ?_, ?_⟩ <;> simp [go_sem, g3, n47, n48]
    have B4 : W0.cell? ⟨H, 4, none⟩ = some (.pointer (some ⟨b, 0, none⟩)) ∧ W1.cell? ⟨H, 4, none⟩ = some (.pointer (some ⟨b, 0, none⟩)) ∧ W2.cell? ⟨H, 4, none⟩ = some (.pointer (some ⟨b, 0, none⟩)) := by
      rw [hW2, hW1, hW0]; refine ⟨g4, ?_, ?_⟩ <;> simp [go_sem, g4, n47, n48]
    have B1 : W0.cell? ⟨b, 1, none⟩ = some (.pointer (some ⟨b8, 0, none⟩)) ∧ W1.cell? ⟨b, 1, none⟩ = some (.pointer (some ⟨b8, 0, none⟩)) ∧ W2.cell? ⟨b, 1, none⟩ = some (.pointer (some ⟨b8, 0, none⟩)) := by
      rw [hW2, hW1, hW0]; refine ⟨g1, ?_, ?_⟩ <;> simp [go_sem, g1, n49]
    have S1 : W0.cell? ⟨b9, 1, none⟩ = some x1 := by rw [hW0]; exact g5
    have T1 : W0.frozen? ⟨b9, 1, none⟩ = false := by rw [hW0]; exact g7
    have S2 : W1.cell? ⟨b, 2, none⟩ = some x2 := by rw [hW1, hW0]; simp [go_sem, g6, n49]
    have T2 : W1.frozen? ⟨b, 2, none⟩ = false := by rw [hW1, hW0]; simp [go_sem, g8]
    refine wp_region_tab (by kernel_rfl) [(66, .pointer (some ⟨H, 0, none⟩)), (67, .pointer (some ⟨H, 0, none⟩)), (68, .pointer (some ⟨H, 3, none⟩)), (69, .pointer (some ⟨b9, 0, none⟩)), (70, .pointer (some ⟨H, 0, none⟩)), (71, .pointer (some ⟨H, 0, none⟩)), (72, .pointer (some ⟨H, 4, none⟩)), (73, .pointer (some ⟨b, 0, none⟩)), (74, .pointer (some ⟨H, 0, none⟩)), (75, .pointer (some ⟨H, 0, none⟩)), (76, .pointer (some ⟨H, 4, none⟩)), (77, .pointer (some ⟨b, 0, none⟩)), (78, .pointer (some ⟨b, 0, none⟩)), (79, .pointer (some ⟨b, 1, none⟩)), (80, .pointer (some ⟨b8, 0, none⟩)), (81, .pointer (some ⟨b9, 0, none⟩)), (82, .pointer (some ⟨b9, 1, none⟩)), (83, .pointer (some ⟨b, 0, none⟩)), (84, .pointer (some ⟨b, 2, none⟩))] (fun _ _ _ => True) (JN W0 W1 W2 17 20) (by rw [hW0]; exact JN.start (by decide) (by decide)) (by kernel_rfl) (by kernel_rfl) ?_ ?_
    · refine ⟨?_, ?_, ?_, ?_, ?_, ?_, ?_, ?_, ?_, ?_, ?_, ?_, ?_, ?_, ?_, ?_, ?_, ?_, ?_, ?_, ?_, trivial⟩
      · intro hop L a w5 hs hk hl ha keep know spec
        have h0 := keep 0 (.pointer (some ⟨e1, 0, none⟩)) (by kernel_rfl) rfl
        have q := hk.cell B0
        exact wpOp_value hop (wanted_none rfl) (v := .pointer (some ⟨H, 0, none⟩)) (by simp only [execOp, Act.eval, h0]; go_simp) ⟨_, rfl, (hk.go (by decide) (by decide)), (fun d hd => by injection hd with hd; subst hd; exact ⟨tab rfl, trivial⟩), fun _ _ h => h⟩
      · intro hop L a w5 hs hk hl ha keep know spec
        have h66 := know 66 (.pointer (some ⟨H, 0, none⟩)) (by kernel_rfl) rfl
        exact wpOp_value hop (wanted_none rfl) (v := .pointer (some ⟨H, 0, none⟩)) (by simp only [execOp, Act.eval, h66]; go_simp) ⟨_, rfl, (hk.go (by decide) (by decide)), (fun d hd => by injection hd with hd; subst hd; exact ⟨tab rfl, trivial⟩), fun _ _ h => h⟩
      · intro hop L a w5 hs hk hl ha keep know spec
        have h67 := know 67 (.pointer (some ⟨H, 0, none⟩)) (by kernel_rfl) rfl
        exact wpOp_value hop (wanted_none rfl) (v := .pointer (some ⟨H, 3, none⟩)) (by simp only [execOp, Act.eval, h67]; go_simp) ⟨_, rfl, (hk.go (by decide) (by decide)), (fun d hd => by injection hd with hd; subst hd; exact ⟨tab rfl, trivial⟩), fun _ _ h => h⟩
      · intro hop L a w5 hs hk hl ha keep know spec
        have h68 := know 68 (.pointer (some ⟨H, 3, none⟩)) (by kernel_rfl) rfl
        have q := hk.cell B3
        exact wpOp_value hop (wanted_none rfl) (v := .pointer (some ⟨b9, 0, none⟩)) (by simp only [execOp, Act.eval, h68]; go_simp) ⟨_, rfl, (hk.go (by decide) (by decide)), (fun d hd => by injection hd with hd; subst hd; exact ⟨tab rfl, trivial⟩), fun _ _ h => h⟩
      · intro hop L a w5 hs hk hl ha keep know spec
        have h0 := keep 0 (.pointer (some ⟨e1, 0, none⟩)) (by kernel_rfl) rfl
        have q := hk.cell B0
        exact wpOp_value hop (wanted_none rfl) (v := .pointer (some ⟨H, 0, none⟩)) (by simp only [execOp, Act.eval, h0]; go_simp) ⟨_, rfl, (hk.go (by decide) (by decide)), (fun d hd => by injection hd with hd; subst hd; exact ⟨tab rfl, trivial⟩), fun _ _ h => h⟩
      · intro hop L a w5 hs hk hl ha keep know spec
        have h70 := know 70 (.pointer (some ⟨H, 0, none⟩)) (by kernel_rfl) rfl
        exact wpOp_value hop (wanted_none rfl) (v := .pointer (some ⟨H, 0, none⟩)) (by simp only [execOp, Act.eval, h70]; go_simp) ⟨_, rfl, (hk.go (by decide) (by decide)), (fun d hd => by injection hd with hd; subst hd; exact ⟨tab rfl, trivial⟩), fun _ _ h => h⟩
      · intro hop L a w5 hs hk hl ha keep know spec
        have h71 := know 71 (.pointer (some ⟨H, 0, none⟩)) (by kernel_rfl) rfl
        exact wpOp_value hop (wanted_none rfl) (v := .pointer (some ⟨H, 4, none⟩)) (by simp only [execOp, Act.eval, h71]; go_simp) ⟨_, rfl, (hk.go (by decide) (by decide)), (fun d hd => by injection hd with hd; subst hd; exact ⟨tab rfl, trivial⟩), fun _ _ h => h⟩
      · intro hop L a w5 hs hk hl ha keep know spec
        have h72 := know 72 (.pointer (some ⟨H, 4, none⟩)) (by kernel_rfl) rfl
        have q := hk.cell B4
        exact wpOp_value hop (wanted_none rfl) (v := .pointer (some ⟨b, 0, none⟩)) (by simp only [execOp, Act.eval, h72]; go_simp) ⟨_, rfl, (hk.go (by decide) (by decide)), (fun d hd => by injection hd with hd; subst hd; exact ⟨tab rfl, trivial⟩), fun _ _ h => h⟩
      · intro hop L a w5 hs hk hl ha keep know spec
        have h0 := keep 0 (.pointer (some ⟨e1, 0, none⟩)) (by kernel_rfl) rfl
        have q := hk.cell B0
        exact wpOp_value hop (wanted_none rfl) (v := .pointer (some ⟨H, 0, none⟩)) (by simp only [execOp, Act.eval, h0]; go_simp) ⟨_, rfl, (hk.go (by decide) (by decide)), (fun d hd => by injection hd with hd; subst hd; exact ⟨tab rfl, trivial⟩), fun _ _ h => h⟩
      · intro hop L a w5 hs hk hl ha keep know spec
        have h74 := know 74 (.pointer (some ⟨H, 0, none⟩)) (by kernel_rfl) rfl
        exact wpOp_value hop (wanted_none rfl) (v := .pointer (some ⟨H, 0, none⟩)) (by simp only [execOp, Act.eval, h74]; go_simp) ⟨_, rfl, (hk.go (by decide) (by decide)), (fun d hd => by injection hd with hd; subst hd; exact ⟨tab rfl, trivial⟩), fun _ _ h => h⟩
      · intro hop L a w5 hs hk hl ha keep know spec
        have h75 := know 75 (.pointer (some ⟨H, 0, none⟩)) (by kernel_rfl) rfl
        exact wpOp_value hop (wanted_none rfl) (v := .pointer (some ⟨H, 4, none⟩)) (by simp only [execOp, Act.eval, h75]; go_simp) ⟨_, rfl, (hk.go (by decide) (by decide)), (fun d hd => by injection hd with hd; subst hd; exact ⟨tab rfl, trivial⟩), fun _ _ h => h⟩
      · intro hop L a w5 hs hk hl ha keep know spec
        have h76 := know 76 (.pointer (some ⟨H, 4, none⟩)) (by kernel_rfl) rfl
        have q := hk.cell B4
        exact wpOp_value hop (wanted_none rfl) (v := .pointer (some ⟨b, 0, none⟩)) (by simp only [execOp, Act.eval, h76]; go_simp) ⟨_, rfl, (hk.go (by decide) (by decide)), (fun d hd => by injection hd with hd; subst hd; exact ⟨tab rfl, trivial⟩), fun _ _ h => h⟩
      · intro hop L a w5 hs hk hl ha keep know spec
        have h77 := know 77 (.pointer (some ⟨b, 0, none⟩)) (by kernel_rfl) rfl
        exact wpOp_value hop (wanted_none rfl) (v := .pointer (some ⟨b, 0, none⟩)) (by simp only [execOp, Act.eval, h77]; go_simp) ⟨_, rfl, (hk.go (by decide) (by decide)), (fun d hd => by injection hd with hd; subst hd; exact ⟨tab rfl, trivial⟩), fun _ _ h => h⟩
      · intro hop L a w5 hs hk hl ha keep know spec
        have h78 := know 78 (.pointer (some ⟨b, 0, none⟩)) (by kernel_rfl) rfl
        exact wpOp_value hop (wanted_none rfl) (v := .pointer (some ⟨b, 1, none⟩)) (by simp only [execOp, Act.eval, h78]; go_simp) ⟨_, rfl, (hk.go (by decide) (by decide)), (fun d hd => by injection hd with hd; subst hd; exact ⟨tab rfl, trivial⟩), fun _ _ h => h⟩
      · intro hop L a w5 hs hk hl ha keep know spec
        have h79 := know 79 (.pointer (some ⟨b, 1, none⟩)) (by kernel_rfl) rfl
        have q := hk.cell B1
        exact wpOp_value hop (wanted_none rfl) (v := .pointer (some ⟨b8, 0, none⟩)) (by simp only [execOp, Act.eval, h79]; go_simp) ⟨_, rfl, (hk.go (by decide) (by decide)), (fun d hd => by injection hd with hd; subst hd; exact ⟨tab rfl, trivial⟩), fun _ _ h => h⟩
      · intro hop L a w5 hs hk hl ha keep know spec
        have h69 := know 69 (.pointer (some ⟨b9, 0, none⟩)) (by kernel_rfl) rfl
        exact wpOp_value hop (wanted_none rfl) (v := .pointer (some ⟨b9, 0, none⟩)) (by simp only [execOp, Act.eval, h69]; go_simp) ⟨_, rfl, (hk.go (by decide) (by decide)), (fun d hd => by injection hd with hd; subst hd; exact ⟨tab rfl, trivial⟩), fun _ _ h => h⟩
      · intro hop L a w5 hs hk hl ha keep know spec
        have h81 := know 81 (.pointer (some ⟨b9, 0, none⟩)) (by kernel_rfl) rfl
        exact wpOp_value hop (wanted_none rfl) (v := .pointer (some ⟨b9, 1, none⟩)) (by simp only [execOp, Act.eval, h81]; go_simp) ⟨_, rfl, (hk.go (by decide) (by decide)), (fun d hd => by injection hd with hd; subst hd; exact ⟨tab rfl, trivial⟩), fun _ _ h => h⟩
      · intro hop L a w5 hs hk hl ha keep know spec
        have h82 := know 82 (.pointer (some ⟨b9, 1, none⟩)) (by kernel_rfl) rfl
        have h80 := know 80 (.pointer (some ⟨b8, 0, none⟩)) (by kernel_rfl) rfl
        obtain ⟨⟨n5, e5⟩, hk2⟩ := hk.st1 hl (by decide) (p := ⟨b9, 1, none⟩) (v := .pointer (some ⟨b8, 0, none⟩)) hW1
        have q : w5.cell? ⟨b9, 1, none⟩ = some _ := (congrArg (fun W : World => W.cell? ⟨b9, 1, none⟩) e5).trans S1
        have r : w5.frozen? ⟨b9, 1, none⟩ = false := (congrArg (fun W : World => W.frozen? ⟨b9, 1, none⟩) e5).trans T1
        exact wpOp_skip hop (wanted_none rfl) (w' := w5.setCell ⟨b9, 1, none⟩ (.pointer (some ⟨b8, 0, none⟩))) (by simp only [execOp, Act.eval, h82, h80]; go_simp) ⟨_, rfl, hk2, (fun d hd => by cases hd), fun _ _ h => h⟩
      · intro hop L a w5 hs hk hl ha keep know spec
        have h73 := know 73 (.pointer (some ⟨b, 0, none⟩)) (by kernel_rfl) rfl
        exact wpOp_value hop (wanted_none rfl) (v := .pointer (some ⟨b, 0, none⟩)) (by simp only [execOp, Act.eval, h73]; go_simp) ⟨_, rfl, (hk.go (by decide) (by decide)), (fun d hd => by injection hd with hd; subst hd; exact ⟨tab rfl, trivial⟩), fun _ _ h => h⟩
      · intro hop L a w5 hs hk hl ha keep know spec
        have h83 := know 83 (.pointer (some ⟨b, 0, none⟩)) (by kernel_rfl) rfl
        exact wpOp_value hop (wanted_none rfl) (v := .pointer (some ⟨b, 2, none⟩)) (by simp only [execOp, Act.eval, h83]; go_simp) ⟨_, rfl, (hk.go (by decide) (by decide)), (fun d hd => by injection hd with hd; subst hd; exact ⟨tab rfl, trivial⟩), fun _ _ h => h⟩
      · intro hop L a w5 hs hk hl ha keep know spec
        have h84 := know 84 (.pointer (some ⟨b, 2, none⟩)) (by kernel_rfl) rfl
        obtain ⟨⟨n5, e5⟩, hk2⟩ := hk.st2 hl (after_done ha (k := 17) (by kernel_rfl)) (p := ⟨b, 2, none⟩) (v := .bool true) hW2
        have q : w5.cell? ⟨b, 2, none⟩ = some _ := (congrArg (fun W : World => W.cell? ⟨b, 2, none⟩) e5).trans S2
        have r : w5.frozen? ⟨b, 2, none⟩ = false := (congrArg (fun W : World => W.frozen? ⟨b, 2, none⟩) e5).trans T2
        exact wpOp_skip hop (wanted_none rfl) (w' := w5.setCell ⟨b, 2, none⟩ (.bool true)) (by simp only [execOp, Act.eval, h84]; go_simp) ⟨_, rfl, hk2, (fun d hd => by cases hd), fun _ _ h => h⟩
    · intro a' w7 e1' e2' hk keep know spec
      obtain ⟨tm, df⟩ := a'
      obtain ⟨f, hf⟩ := frame_puts (D := [66, 67, 68, 69, 70, 71, 72, 73, 74, 75, 76, 77, 78, 79, 80, 81, 82, 83, 84]) e2' keep
      have e3' : df = [] := e1'
      obtain ⟨n7, e6⟩ := hk.done (n := 21) (by decide) (by decide)
      have r5 := r4 n7
      rw [← e6] at r5
      clear keep know spec e1' e2' hk r4 B0 B1 B3 B4 S1 S2 T1 T2 hW0 hW1 hW2 e6
      simp only [List.foldl_cons, List.foldl_nil] at hf
      subst e3'
      rw [hf]
      clear hf
      have c17 := H14b.out _ r5
      go_wp2_with fail
      refine (H13b.out _ r5).mono ?_
      rintro e w8 ⟨rfl, r6⟩
      go_wp2
      exact H15.out _ r6
end Go.Proofs.Ytoihdnekkgpcoaa
namespace Go.Proofs.Ytoihdnekkgpcoaa
open Go.ChangeShapes Go.WideShapes Go.ChangeAt Go.RowKit
set_option linter.unusedVariables false
set_option linter.unusedSimpArgs false

variable {L : Lay} {s : St} {dv : Nat → Value} {w w' : World}
/-- What a hand that looks twice does next. -/
structure ELz (L : Lay) (H e0 e1 e2 e3 e4 e5 e6 e7 : Nat) : Prop where
  c0 : L.cst e0 = some (49, [ptr L.T])
  c1 : L.cst e1 = some (54, [ptr H])
  c2 : L.cst e2 = some (33, [clo 47 #[ptr e0, ptr e1, ptr e3]])
  c3 : L.cst e3 = some (33, [clo 48 #[ptr e1, ptr e4]])
  c4 : L.cst e4 = some (33, [clo 49 #[ptr e4, ptr e1, ptr e5]])
  c5 : L.cst e5 = some (33, [clo 50 #[ptr e1, ptr e6]])
  c6 : L.cst e6 = some (33, [clo 51 #[ptr e1, ptr e2, ptr e7]])
  c7 : L.cst e7 = some (33, [clo 52 #[ptr e1]])
def vLz (q e0 e1 e2 e3 e4 e5 e6 e7 : Nat) : Value := if q = 0 then clo 47 #[ptr e0, ptr e1, ptr e3] else if q = 1 then clo 48 #[ptr e1, ptr e4] else if q = 2 then clo 49 #[ptr e4, ptr e1, ptr e5] else if q = 3 then clo 50 #[ptr e1, ptr e6] else if q = 4 then clo 51 #[ptr e1, ptr e2, ptr e7] else clo 52 #[ptr e1]
def DLz (L : Lay) (i q : Nat) (v : Value) : Prop := ∃ e0 e1 e2 e3 e4 e5 e6 e7, ELz L (L.Hb i) e0 e1 e2 e3 e4 e5 e6 e7 ∧ v = vLz q e0 e1 e2 e3 e4 e5 e6 e7
theorem ELz.lx {L L' : Lay} {n H e0 e1 e2 e3 e4 e5 e6 e7 : Nat} (h : ELz L H e0 e1 e2 e3 e4 e5 e6 e7) (hl : Lx L L' n) : ELz L' H e0 e1 e2 e3 e4 e5 e6 e7 := by
  obtain ⟨_, _, a, _, _, _, b, _⟩ := hl
  exact ⟨by rw [a, b]; exact h.c0, by rw [b]; exact h.c1, by rw [b]; exact h.c2, by rw [b]; exact h.c3, by rw [b]; exact h.c4, by rw [b]; exact h.c5, by rw [b]; exact h.c6, by rw [b]; exact h.c7⟩
theorem vLz_nil (q e0 e1 e2 e3 e4 e5 e6 e7 : Nat) : vLz q e0 e1 e2 e3 e4 e5 e6 e7 ≠ .nilFunc := by
  unfold vLz
  repeat' split
  all_goals exact clo_nil _ _
set_option maxRecDepth 100000 in
set_option maxHeartbeats 4000000 in
theorem lazy_any (T H : Nat) (w : World) : Calls Try.prog 30 #[ptr T, ptr H] w (fun e w' => ∃ e0 e1 e2 e3 e4 e5 e6 e7, e = .returned (vLz 0 e0 e1 e2 e3 e4 e5 e6 e7) ∧ Kp w w' ∧ BC w' e0 49 [ptr T] ∧ BC w' e1 54 [ptr H] ∧
    BC w' e2 33 [clo 47 #[ptr e0, ptr e1, ptr e3]] ∧ BC w' e3 33 [clo 48 #[ptr e1, ptr e4]] ∧ BC w' e4 33 [clo 49 #[ptr e4, ptr e1, ptr e5]] ∧ BC w' e5 33 [clo 50 #[ptr e1, ptr e6]] ∧ BC w' e6 33 [clo 51 #[ptr e1, ptr e2, ptr e7]] ∧ BC w' e7 33 [clo 52 #[ptr e1]]) := by
  unfold vLz clo
  simp only [reduceIte]
  unfold ptr
  go_enter Try.func30, Try.ntmps30
  go_wp2
  go_ret
  obtain ⟨os, hos⟩ : ∃ os : List Obj, os = [.cells #[.pointer (some ⟨T, 0, none⟩)] 49, .cells #[.pointer (some ⟨H, 0, none⟩)] 54, .cells #[.func (.func 47) #[] #[.pointer (some ⟨w.heap.size, 0, none⟩), .pointer (some ⟨w.heap.size + 1, 0, none⟩), .pointer (some ⟨w.heap.size + 1 + 1 + 1, 0, none⟩)]] 33, .cells #[.func (.func 48) #[] #[.pointer (some ⟨w.heap.size + 1, 0, none⟩), .pointer (some ⟨w.heap.size + 1 + 1 + 1 + 1, 0, none⟩)]] 33, .cells #[.func (.func 49) #[] #[.pointer (some ⟨w.heap.size + 1 + 1 + 1 + 1, 0, none⟩), .pointer (some ⟨w.heap.size + 1, 0, none⟩), .pointer (some ⟨w.heap.size + 1 + 1 + 1 + 1 + 1, 0, none⟩)]] 33, .cells #[.func (.func 50) #[] #[.pointer (some ⟨w.heap.size + 1, 0, none⟩), .pointer (some ⟨w.heap.size + 1 + 1 + 1 + 1 + 1 + 1, 0, none⟩)]] 33, .cells #[.func (.func 51) #[] #[.pointer (some ⟨w.heap.size + 1, 0, none⟩), .pointer (some ⟨w.heap.size + 1 + 1, 0, none⟩), .pointer (some ⟨w.heap.size + 1 + 1 + 1 + 1 + 1 + 1 + 1, 0, none⟩)]] 33, .cells #[.func (.func 52) #[] #[.pointer (some ⟨w.heap.size + 1, 0, none⟩)]] 33] := ⟨_, rfl⟩
  have b0 : BC (os.foldl (fun w o => w.alloc o) w) (w.heap.size + 0) 49 [.pointer (some ⟨T, 0, none⟩)] := BC.made os w 0 (by rw [hos]; rfl)
  have b1 : BC (os.foldl (fun w o => w.alloc o) w) (w.heap.size + 1) 54 [.pointer (some ⟨H, 0, none⟩)] := BC.made os w 1 (by rw [hos]; rfl)
  have b2 : BC (os.foldl (fun w o => w.alloc o) w) (w.heap.size + 2) 33 [.func (.func 47) #[] #[.pointer (some ⟨w.heap.size, 0, none⟩), .pointer (some ⟨w.heap.size + 1, 0, none⟩), .pointer (some ⟨w.heap.size + 1 + 1 + 1, 0, none⟩)]] := BC.made os w 2 (by rw [hos]; rfl)
  have b3 : BC (os.foldl (fun w o => w.alloc o) w) (w.heap.size + 3) 33 [.func (.func 48) #[] #[.pointer (some ⟨w.heap.size + 1, 0, none⟩), .pointer (some ⟨w.heap.size + 1 + 1 + 1 + 1, 0, none⟩)]] := BC.made os w 3 (by rw [hos]; rfl)
  have b4 : BC (os.foldl (fun w o => w.alloc o) w) (w.heap.size + 4) 33 [.func (.func 49) #[] #[.pointer (some ⟨w.heap.size + 1 + 1 + 1 + 1, 0, none⟩), .pointer (some ⟨w.heap.size + 1, 0, none⟩), .pointer (some ⟨w.heap.size + 1 + 1 + 1 + 1 + 1, 0, none⟩)]] := BC.made os w 4 (by rw [hos]; rfl)
  have b5 : BC (os.foldl (fun w o => w.alloc o) w) (w.heap.size + 5) 33 [.func (.func 50) #[] #[.pointer (some ⟨w.heap.size + 1, 0, none⟩), .pointer (some ⟨w.heap.size + 1 + 1 + 1 + 1 + 1 + 1, 0, none⟩)]] := BC.made os w 5 (by rw [hos]; rfl)
  have b6 : BC (os.foldl (fun w o => w.alloc o) w) (w.heap.size + 6) 33 [.func (.func 51) #[] #[.pointer (some ⟨w.heap.size + 1, 0, none⟩), .pointer (some ⟨w.heap.size + 1 + 1, 0, none⟩), .pointer (some ⟨w.heap.size + 1 + 1 + 1 + 1 + 1 + 1 + 1, 0, none⟩)]] := BC.made os w 6 (by rw [hos]; rfl)
  have b7 : BC (os.foldl (fun w o => w.alloc o) w) (w.heap.size + 7) 33 [.func (.func 52) #[] #[.pointer (some ⟨w.heap.size + 1, 0, none⟩)]] := BC.made os w 7 (by rw [hos]; rfl)
  rw [hos] at b0 b1 b2 b3 b4 b5 b6 b7
  exact ⟨w.heap.size, w.heap.size + 1, w.heap.size + 1 + 1, w.heap.size + 1 + 1 + 1, w.heap.size + 1 + 1 + 1 + 1, w.heap.size + 1 + 1 + 1 + 1 + 1, w.heap.size + 1 + 1 + 1 + 1 + 1 + 1, w.heap.size + 1 + 1 + 1 + 1 + 1 + 1 + 1, rfl, by (focus ((repeat (first | (with_reducible assumption) | (with_reducible exact Kp.refl _) | (with_reducible apply Kp.drew) | (with_reducible apply Kp.drewN) | ((with_reducible apply Kp.setR); (focus (first | (with_reducible assumption) | (simp; done) | (simp; omega)))) | (with_reducible apply Kp.alloc) | ((with_reducible apply Kp.call); (with_reducible assumption)) | ((with_reducible apply Kp.app); (with_reducible assumption)))); done)), b0, b1, b2, b3, b4, b5, b6, b7⟩
set_option maxRecDepth 100000 in
theorem lz1_any (h : WN L s dv w) {i : Nat} (hi : i < L.nh) {d : Dd} (hp : (s.hd i).plc = 0) (hk : s.m.ky 0 ≠ 10) {e0 e1 e2 e3 e4 e5 e6 e7 : Nat} (he : ELz L (L.Hb i) e0 e1 e2 e3 e4 e5 e6 e7) (hv : dv i = vLz 0 e0 e1 e2 e3 e4 e5 e6 e7) :
    Calls Try.prog 47 #[ptr e0, ptr e1, ptr e3] w (CP DLz L s dv i (lazyS s.m (s.hd i) d)) := by
  have c0 := h.cst he.c0
  have c1 := h.cst he.c1
  have er : lazyS s.m (s.hd i) d = (s.m, (s.hd i).again s.m, false) := by unfold lazyS; rw [hp]; rfl
  rw [er]
  have HX : ∃ R2 : World → Prop, Calls Try.prog 46 #[ptr L.T, ptr (L.Hb i)] w (fun e w' => e = .returned (.tuple #[]) ∧ R2 w') ∧
      (∀ w1, R2 w1 → w1.cell? ⟨e1, 0, none⟩ = some (ptr (L.Hb i)) ∧ w1.cell? ⟨e3, 0, none⟩ = some (clo 48 #[ptr e1, ptr e4]) ∧ (∃ x, w1.cell? ⟨L.Hb i, 2, none⟩ = some x) ∧ w1.frozen? ⟨L.Hb i, 2, none⟩ = false) ∧
      (∀ w1, R2 w1 → CP DLz L s dv i (s.m, (s.hd i).again s.m, false) (.returned (.bool false)) (w1.setCell ⟨L.Hb i, 2, none⟩ (clo 48 #[ptr e1, ptr e4]))) := by
    refine ⟨fun w1 => WN L { s with hd := up s.hd i ((s.hd i).again s.m) } dv w1, begin_any h hi hk, fun w1 h1 => ⟨h1.cst he.c1, h1.cst he.c3, by obtain ⟨_, _, _, _, _, x, _, _, _, y, _⟩ := h1.hand hi; exact ⟨⟨_, x⟩, y 2⟩⟩, fun w1 h1 => ?_⟩
    have h2 := h1.setdo hi (clo 48 #[ptr e1, ptr e4]) 1 (fun _ => by show (up s.hd i ((s.hd i).again s.m) i).plc ≠ 0; rw [up_same]; exact Nat.one_ne_zero) (by rw [hv]; exact vLz_nil _ _ _ _ _ _ _ _ _)
    have e9 : up (up s.hd i ((s.hd i).again s.m)) i { up s.hd i ((s.hd i).again s.m) i with plc := 1 } = up s.hd i ((s.hd i).again s.m) := by
      funext j
      by_cases e : j = i
      · subst e; simp only [up_same]; rfl
      · simp only [up_ne _ _ e]
    have h2 : WN L { s with hd := up (up s.hd i ((s.hd i).again s.m)) i { up s.hd i ((s.hd i).again s.m) i with plc := 1 } } _ _ := h2
    rw [e9] at h2
    exact ⟨rfl, L, up dv i (clo 48 #[ptr e1, ptr e4]), Lx.refl _ _, h2, fun j hj => up_ne _ _ hj, by rw [up_same]; exact clo_nil _ _, fun _ => ⟨e0, e1, e2, e3, e4, e5, e6, e7, he, by rw [up_same]; rfl⟩⟩
  obtain ⟨R2, h11, h12, h13⟩ := HX
  have H11 := hide h11
  have H12 := hide h12
  have H13 := hide h13
  obtain ⟨R, hR⟩ : ∃ R, R = CP DLz L s dv i (s.m, (s.hd i).again s.m, false) := ⟨_, rfl⟩
  rw [← hR] at H13 ⊢
  obtain ⟨T, hT⟩ : ∃ T, T = L.T := ⟨_, rfl⟩
  obtain ⟨H, hH⟩ : ∃ b, b = L.Hb i := ⟨_, rfl⟩
  rw [← hT] at c0 H11
  rw [← hH] at c1 H11 H12 H13
  clear h hi hp hk he hv er hR hT hH h11 h12 h13
  unfold ptr clo at *
  go_enter Try.func47, Try.ntmps47
  go_wp2_with fail
  refine (H11.out).mono ?_
  rintro e w1 ⟨rfl, h1⟩
  obtain ⟨g1, g2, ⟨g3, g4⟩, g5⟩ := H12.out _ h1
  go_wp2
  exact H13.out _ h1
set_option maxRecDepth 100000 in
theorem lz4_any (h : WN L s dv w) {i : Nat} (hi : i < L.nh) {d : Dd} (hp : (s.hd i).plc = 3) {e0 e1 e2 e3 e4 e5 e6 e7 : Nat} (he : ELz L (L.Hb i) e0 e1 e2 e3 e4 e5 e6 e7) (hv : dv i = vLz 3 e0 e1 e2 e3 e4 e5 e6 e7) :
    Calls Try.prog 50 #[ptr e1, ptr e6] w (CP DLz L s dv i (lazyS s.m (s.hd i) d)) := by
  have c1 := h.cst he.c1
  obtain ⟨pv, cv, bb, -, -, -, -, c4, -, -, -, hpc, -⟩ := h.hand hi
  obtain ⟨-, rfl, -, p2⟩ := hpc (by omega)
  cases hl : s.m.lk (s.hd i).c with
  | true =>
    have er : lazyS s.m (s.hd i) d = (s.m, s.hd i, false) := by unfold lazyS; rw [hp]; simp [hl]
    rw [er]
    have HT := hide (take_no h p2 hl)
    have HE : Hid (∀ W, Kp w W → CP DLz L s dv i (s.m, s.hd i, false) (.returned (.bool false)) W) := hide (fun W k => ⟨rfl, L, dv, Lx.refl _ _, by simp only [up_self]; exact h.kpw k, fun _ _ => rfl, by rw [hv]; exact vLz_nil _ _ _ _ _ _ _ _ _, fun _ => ⟨e0, e1, e2, e3, e4, e5, e6, e7, he, by rw [hv]; show _ = vLz (s.hd i).plc _ _ _ _ _ _ _ _; rw [hp]⟩⟩)
    obtain ⟨R, hR⟩ : ∃ R, R = CP DLz L s dv i (s.m, s.hd i, false) := ⟨_, rfl⟩
    rw [← hR] at HE ⊢
    obtain ⟨b, hb⟩ : ∃ b, b = L.B (s.hd i).c := ⟨_, rfl⟩
    obtain ⟨H, hH⟩ : ∃ b, b = L.Hb i := ⟨_, rfl⟩
    rw [← hb] at c4 HT
    rw [← hH] at c1 c4
    clear h hi hp he hv hl er hR hb hH hpc p2
    unfold ptr at *
    go_enter Try.func50, Try.ntmps50
    go_wp2_with fail
    refine (HT.out).mono ?_
    rintro e w1 ⟨rfl, hb1⟩
    go_wp2
    exact HE.out _ hb1
  | false =>
    have er : lazyS s.m (s.hd i) d = (s.m.lock (s.hd i).c, { s.hd i with plc := 4 }, false) := by unfold lazyS; rw [hp]; simp [hl]
    rw [er]
    have HX : ∃ R1 : World → Prop, Calls Try.prog 38 #[ptr (L.B (s.hd i).c)] w (fun e w' => e = .returned (.bool true) ∧ R1 w') ∧
        (∀ w1, R1 w1 → w1.cell? ⟨e1, 0, none⟩ = some (ptr (L.Hb i)) ∧ w1.cell? ⟨e6, 0, none⟩ = some (clo 51 #[ptr e1, ptr e2, ptr e7]) ∧ (∃ x, w1.cell? ⟨L.Hb i, 2, none⟩ = some x) ∧ w1.frozen? ⟨L.Hb i, 2, none⟩ = false) ∧
        (∀ w1, R1 w1 → CP DLz L s dv i (s.m.lock (s.hd i).c, { s.hd i with plc := 4 }, false) (.returned (.bool false)) (w1.setCell ⟨L.Hb i, 2, none⟩ (clo 51 #[ptr e1, ptr e2, ptr e7]))) := by
      refine ⟨fun w1 => WN L { s with m := s.m.lock (s.hd i).c } dv w1, take_yes h p2 hl, fun w1 h1 => ⟨h1.cst he.c1, h1.cst he.c6, by obtain ⟨_, _, _, _, _, x, _, _, _, y, _⟩ := h1.hand hi; exact ⟨⟨_, x⟩, y 2⟩⟩, fun w1 h1 => ?_⟩
      have h2 := h1.setdo hi (clo 51 #[ptr e1, ptr e2, ptr e7]) 4 (fun _ => by show (s.hd i).plc ≠ 0; omega) (by rw [hv]; exact vLz_nil _ _ _ _ _ _ _ _ _)
      exact ⟨rfl, L, up dv i (clo 51 #[ptr e1, ptr e2, ptr e7]), Lx.refl _ _, h2, fun j hj => up_ne _ _ hj, by rw [up_same]; exact clo_nil _ _, fun _ => ⟨e0, e1, e2, e3, e4, e5, e6, e7, he, by rw [up_same]; rfl⟩⟩
    obtain ⟨R1, HT, HG, HE⟩ := HX
    have HT := hide HT
    have HG := hide HG
    have HE := hide HE
    obtain ⟨R, hR⟩ : ∃ R, R = CP DLz L s dv i (s.m.lock (s.hd i).c, { s.hd i with plc := 4 }, false) := ⟨_, rfl⟩
    rw [← hR] at HE ⊢
    obtain ⟨b, hb⟩ : ∃ b, b = L.B (s.hd i).c := ⟨_, rfl⟩
    obtain ⟨H, hH⟩ : ∃ b, b = L.Hb i := ⟨_, rfl⟩
    rw [← hb] at c4 HT
    rw [← hH] at c1 c4 HG HE
    clear h hi hp he hv hl er hR hb hH hpc p2
    unfold ptr clo at *
    go_enter Try.func50, Try.ntmps50
    go_wp2_with fail
    refine (HT.out).mono ?_
    rintro e w1 ⟨rfl, h1⟩
    obtain ⟨g1, g2, ⟨g3, g4⟩, g5⟩ := HG.out _ h1
    go_wp2
    exact HE.out _ h1
end Go.Proofs.Ytoihdnekkgpcoaa
namespace Go.Proofs.Ytoihdnekkgpcoaa
open Go.ChangeShapes Go.WideShapes Go.ChangeAt Go.RowKit
set_option linter.unusedVariables false
set_option linter.unusedSimpArgs false

variable {L : Lay} {s : St} {dv : Nat → Value} {w w' : World}
theorem up_up {α : Type} (f : Nat → α) (i : Nat) (a b : α) : up (up f i a) i b = up f i b := by
  funext j; unfold up; split <;> rfl
set_option maxRecDepth 100000 in
theorem lz3_any (h : WN L s dv w) {i : Nat} (hi : i < L.nh) (hp : (s.hd i).plc = 1 ∨ (s.hd i).plc = 2) {e0 e1 e2 e3 e4 e5 e6 e7 : Nat} (he : ELz L (L.Hb i) e0 e1 e2 e3 e4 e5 e6 e7) (hvn : dv i ≠ .nilFunc) :
    Calls Try.prog 49 #[ptr e4, ptr e1, ptr e5] w (CP DLz L s dv i (lazy2 s.m (s.hd i))) := by
  have c1 := h.cst he.c1
  have c4 := h.cst he.c4
  have c5 := h.cst he.c5
  obtain ⟨pv, cv, bb, -, -, h2, h3, -, -, hz, n1, hpc, -⟩ := h.hand hi
  obtain ⟨rfl, -, p1, -⟩ := hpc (by omega)
  have f2 := hz 2
  have n2 : ¬ e1 = L.Hb i := by
    obtain ⟨_, _, _, a, _⟩ := h.hn i hi
    exact BC.ne (h.cs _ _ _ he.c1).1 a (by decide)
  have n5 : ¬ e5 = L.Hb i := by
    obtain ⟨_, _, _, a, _⟩ := h.hn i hi
    exact BC.ne (h.cs _ _ _ he.c5).1 a (by decide)
  have hq := h.setdo hi (clo 49 #[ptr e4, ptr e1, ptr e5]) 2 (fun _ => by omega) hvn
  cases hl : s.m.lk (s.hd i).p with
  | true =>
    have er : lazy2 s.m (s.hd i) = (s.m, { s.hd i with plc := 2 }, false) := by unfold lazy2; rw [if_pos hl]
    rw [er]
    have HT := hide (take_no hq (i := (s.hd i).p) p1 hl)
    have HE : Hid (∀ W, Kp (w.setCell ⟨L.Hb i, 2, none⟩ (clo 49 #[ptr e4, ptr e1, ptr e5])) W → CP DLz L s dv i (s.m, { s.hd i with plc := 2 }, false) (.returned (.bool false)) W) := hide (fun W k => ⟨rfl, L, up dv i (clo 49 #[ptr e4, ptr e1, ptr e5]), Lx.refl _ _, hq.kpw k, fun j hj => up_ne _ _ hj, by rw [up_same]; exact clo_nil _ _, fun _ => ⟨e0, e1, e2, e3, e4, e5, e6, e7, he, by rw [up_same]; rfl⟩⟩)
    obtain ⟨R, hR⟩ : ∃ R, R = CP DLz L s dv i (s.m, { s.hd i with plc := 2 }, false) := ⟨_, rfl⟩
    rw [← hR] at HE ⊢
    obtain ⟨b, hb⟩ : ∃ b, b = L.B (s.hd i).p := ⟨_, rfl⟩
    obtain ⟨H, hH⟩ : ∃ b, b = L.Hb i := ⟨_, rfl⟩
    obtain ⟨x2, hx2⟩ : ∃ x, x = dv i := ⟨_, rfl⟩
    rw [← hb] at h3 HT
    rw [← hH] at c1 h2 h3 f2 n2 n5 HT HE
    rw [← hx2] at h2
    clear h hi hp he hvn hl er hR hb hH hpc p1 hq hz n1 hx2
    unfold ptr clo at *
    go_enter Try.func49, Try.ntmps49
    go_wp2_with fail
    refine (HT.out).mono ?_
    rintro e w1 ⟨rfl, hb1⟩
    go_wp2
    exact HE.out _ hb1
  | false =>
    have er : lazy2 s.m (s.hd i) = (s.m.lock (s.hd i).p, { s.hd i with plc := 3 }, false) := by unfold lazy2; rw [hl]; rfl
    rw [er]
    have HX : ∃ R1 : World → Prop, Calls Try.prog 38 #[ptr (L.B (s.hd i).p)] (w.setCell ⟨L.Hb i, 2, none⟩ (clo 49 #[ptr e4, ptr e1, ptr e5])) (fun e w' => e = .returned (.bool true) ∧ R1 w') ∧
        (∀ w1, R1 w1 → w1.cell? ⟨e1, 0, none⟩ = some (ptr (L.Hb i)) ∧ w1.cell? ⟨e5, 0, none⟩ = some (clo 50 #[ptr e1, ptr e6]) ∧ (∃ x, w1.cell? ⟨L.Hb i, 2, none⟩ = some x) ∧ w1.frozen? ⟨L.Hb i, 2, none⟩ = false) ∧
        (∀ w1, R1 w1 → CP DLz L s dv i (s.m.lock (s.hd i).p, { s.hd i with plc := 3 }, false) (.returned (.bool false)) (w1.setCell ⟨L.Hb i, 2, none⟩ (clo 50 #[ptr e1, ptr e6]))) := by
      refine ⟨fun w1 => WN L { s with m := s.m.lock (s.hd i).p, hd := up s.hd i { s.hd i with plc := 2 } } (up dv i (clo 49 #[ptr e4, ptr e1, ptr e5])) w1, take_yes hq (i := (s.hd i).p) p1 hl, fun w1 h1 => ⟨h1.cst he.c1, h1.cst he.c5, by obtain ⟨_, _, _, _, _, x, _, _, _, y, _⟩ := h1.hand hi; exact ⟨⟨_, x⟩, y 2⟩⟩, fun w1 h1 => ?_⟩
      have h2 := h1.setdo hi (clo 50 #[ptr e1, ptr e6]) 3 (fun _ => by show (up s.hd i _ i).plc ≠ 0; rw [up_same]; exact Nat.succ_ne_zero 1) (by rw [up_same]; exact clo_nil _ _)
      have h2 : WN L { s with m := s.m.lock (s.hd i).p, hd := up (up s.hd i { s.hd i with plc := 2 }) i { up s.hd i { s.hd i with plc := 2 } i with plc := 3 } } (up (up dv i (clo 49 #[ptr e4, ptr e1, ptr e5])) i (clo 50 #[ptr e1, ptr e6])) _ := h2
      rw [up_same, up_up, up_up] at h2
      exact ⟨rfl, L, up dv i (clo 50 #[ptr e1, ptr e6]), Lx.refl _ _, h2, fun j hj => up_ne _ _ hj, by rw [up_same]; exact clo_nil _ _, fun _ => ⟨e0, e1, e2, e3, e4, e5, e6, e7, he, by rw [up_same]; rfl⟩⟩
    obtain ⟨R1, h10, h11, h12⟩ := HX
    have HT := hide h10
    have HG := hide h11
    have HE := hide h12
    obtain ⟨R, hR⟩ : ∃ R, R = CP DLz L s dv i (s.m.lock (s.hd i).p, { s.hd i with plc := 3 }, false) := ⟨_, rfl⟩
    rw [← hR] at HE ⊢
    obtain ⟨b, hb⟩ : ∃ b, b = L.B (s.hd i).p := ⟨_, rfl⟩
    obtain ⟨H, hH⟩ : ∃ b, b = L.Hb i := ⟨_, rfl⟩
    obtain ⟨x2, hx2⟩ : ∃ x, x = dv i := ⟨_, rfl⟩
    rw [← hb] at h3 HT
    rw [← hH] at c1 h2 h3 f2 n2 n5 HT HG HE
    rw [← hx2] at h2
    clear h hi hp he hvn hl er hR hb hH hpc p1 hq hz n1 hx2 h10 h11 h12
    unfold ptr clo at *
    go_enter Try.func49, Try.ntmps49
    go_wp2_with fail
    refine (HT.out).mono ?_
    rintro e w1 ⟨rfl, h1⟩
    obtain ⟨g1, g2, ⟨g3, g4⟩, g5⟩ := HG.out _ h1
    go_wp2
    exact HE.out _ h1
set_option maxRecDepth 100000 in
set_option maxHeartbeats 2000000 in
theorem lz6_any (h : WN L s dv w) {i : Nat} (hi : i < L.nh) {d : Dd} (hp : (s.hd i).plc = 5) (hne : (s.hd i).p ≠ (s.hd i).c) (hkp : s.m.ky (s.hd i).p ≠ 10) (hkc : s.m.ky (s.hd i).c ≠ 10) {e0 e1 e2 e3 e4 e5 e6 e7 : Nat} (he : ELz L (L.Hb i) e0 e1 e2 e3 e4 e5 e6 e7) (hvn : dv i ≠ .nilFunc) :
    Calls Try.prog 52 #[ptr e1] w (CP DLz L s dv i (lazyS s.m (s.hd i) d)) := by
  have c1 := h.cst he.c1
  obtain ⟨pv, cv, bb, -, -, -, h3, h4, -, hz, n1, hpc, -⟩ := h.hand hi
  obtain ⟨rfl, rfl, p1, p2⟩ := hpc (by omega)
  obtain ⟨-, b1, -⟩ := h.bead p2
  obtain ⟨-, q1, -, -, fp, -⟩ := h.bead p1
  rw [if_neg hkc] at b1
  rw [if_neg hkp] at q1
  have f1 := fp 1
  have er : lazyS s.m (s.hd i) d = ((s.m.drop (s.hd i).p (s.hd i).c).free (s.hd i).p (s.hd i).c, s.hd i, true) := by unfold lazyS; rw [hp]; rfl
  rw [er]
  have HX : ∃ R1 R2 : World → Prop, (∀ W, Kp (w.setCell ⟨L.B (s.hd i).p, 1, none⟩ (ptr (L.B (s.m.nx (s.hd i).c)))) W → R1 W) ∧ (∀ w1, R1 w1 → w1.cell? ⟨e1, 0, none⟩ = some (ptr (L.Hb i))) ∧
      (∀ w1, R1 w1 → Calls Try.prog 44 #[ptr (L.Hb i)] w1 (fun e w' => e = .returned (.tuple #[]) ∧ R2 w')) ∧
      (∀ w1, R2 w1 → CP DLz L s dv i ((s.m.drop (s.hd i).p (s.hd i).c).free (s.hd i).p (s.hd i).c, s.hd i, true) (.returned (.bool true)) w1) := by
    refine ⟨fun w1 => WN L { s with m := s.m.drop (s.hd i).p (s.hd i).c } dv w1, fun w1 => WN L { s with m := (s.m.drop (s.hd i).p (s.hd i).c).free (s.hd i).p (s.hd i).c } dv w1, fun W k => ?_, fun w1 h1 => h1.cst he.c1, fun w1 h1 => free_any h1 hi (by show (s.hd i).plc ≠ 0; omega) hne, fun w1 h1 => ⟨rfl, L, dv, Lx.refl _ _, by simp only [up_self]; exact h1, fun _ _ => rfl, hvn, fun e => absurd e (by simp)⟩⟩
    exact (h.setnx p1 (h.nn _ p2) hkp).kpw k
  obtain ⟨R1, R2, h10, h11, h12, h13⟩ := HX
  have H10 := hide h10
  have H11 := hide h11
  have H12 := hide h12
  have H13 := hide h13
  have n3 : ¬ e1 = L.B (s.hd i).p := BC.ne (h.cs _ _ _ he.c1).1 (h.bd _ p1).1 (by decide)
  have n4 : ¬ L.B (s.hd i).p = L.B (s.hd i).c := fun e => hne (h.bi _ _ p1 p2 e)
  have n5 : ¬ L.B (s.hd i).p = L.Hb i := by obtain ⟨_, _, _, a, _⟩ := h.hn i hi; exact BC.ne (h.bd _ p1).1 a (by decide)
  obtain ⟨R, hR⟩ : ∃ R, R = CP DLz L s dv i ((s.m.drop (s.hd i).p (s.hd i).c).free (s.hd i).p (s.hd i).c, s.hd i, true) := ⟨_, rfl⟩
  rw [← hR] at H13 ⊢
  obtain ⟨b, hb⟩ : ∃ b, b = L.B (s.hd i).c := ⟨_, rfl⟩
  obtain ⟨b9, hb9⟩ : ∃ b, b = L.B (s.hd i).p := ⟨_, rfl⟩
  obtain ⟨b8, hb8⟩ : ∃ b, b = L.B (s.m.nx (s.hd i).c) := ⟨_, rfl⟩
  obtain ⟨b7, hb7⟩ : ∃ b, b = L.B (s.m.nx (s.hd i).p) := ⟨_, rfl⟩
  obtain ⟨H, hH⟩ : ∃ b, b = L.Hb i := ⟨_, rfl⟩
  rw [← hb] at h4 b1 n4
  rw [← hb9] at h3 q1 f1 n3 n4 n5 H10
  rw [← hb8] at b1 H10
  rw [← hb7] at q1
  rw [← hH] at c1 h3 h4 n5 H11 H12
  clear h hi hp hne hkp hkc he hvn er hR hb hb9 hb8 hb7 hH hpc p1 p2 hz n1 fp h10 h11 h12 h13
  unfold ptr at *
  go_enter Try.func52, Try.ntmps52
  go_wp2_with fail
  go_region_law (fail)
  all_goals
    have r4 : R1 _ := H10.out _ (Kp.refl _).drew
    have c17 := H11.out _ r4
    go_wp2_with fail
    refine (H12.out _ r4).mono ?_
    rintro e w7 ⟨rfl, r5⟩
    go_wp2
    exact H13.out _ r5
end Go.Proofs.Ytoihdnekkgpcoaa
namespace Go.Proofs.Ytoihdnekkgpcoaa
open Go.ChangeShapes Go.WideShapes Go.ChangeAt Go.RowKit
set_option linter.unusedVariables false
set_option linter.unusedSimpArgs false

variable {L : Lay} {s : St} {dv : Nat → Value} {w w' : World}
set_option maxRecDepth 100000 in
theorem lz2_on (h : WN L s dv w) {i : Nat} (hi : i < L.nh) {d : Dd} (hd : (L.P i)[s.deed i]? = some d) (hp : (s.hd i).plc = 1) (hk : s.m.ky (s.hd i).c ≠ 10) (hlt : s.m.ky (s.hd i).c < d.key) {e0 e1 e2 e3 e4 e5 e6 e7 : Nat} (he : ELz L (L.Hb i) e0 e1 e2 e3 e4 e5 e6 e7) (hv : dv i = vLz 1 e0 e1 e2 e3 e4 e5 e6 e7) :
    Calls Try.prog 48 #[ptr e1, ptr e4] w (CP DLz L s dv i (lazyS s.m (s.hd i) d)) := by
  have c1 := h.cst he.c1
  obtain ⟨pv, cv, bb, -, -, -, -, h4, -, -, -, hpc, -⟩ := h.hand hi
  obtain ⟨-, rfl, -, p2⟩ := hpc (by omega)
  obtain ⟨b0, -⟩ := h.bead p2
  have er : lazyS s.m (s.hd i) d = (s.m, (s.hd i).on s.m, false) := by unfold lazyS; rw [hp]; simp [hlt]
  rw [er]
  have HK := hide (fun W (k : Kp w W) => key_quiet (h.kpw k) hi hd)
  have HX : ∃ R2 : World → Prop, (∀ n, Calls Try.prog 41 #[ptr (L.Hb i)] (w.drewN n) (fun e w' => e = .returned (.tuple #[]) ∧ R2 w')) ∧
      (∀ w1, R2 w1 → CP DLz L s dv i (s.m, (s.hd i).on s.m, false) (.returned (.bool false)) w1) := by
    refine ⟨fun w1 => WN L { s with hd := up s.hd i ((s.hd i).on s.m) } dv w1, fun n => on_any (h.kpw (w' := w.drewN n) ((Kp.refl w).drewN)) hi (by omega) hk, fun w1 h1 => ⟨rfl, L, dv, Lx.refl _ _, h1, fun _ _ => rfl, by rw [hv]; exact vLz_nil _ _ _ _ _ _ _ _ _, fun _ => ⟨e0, e1, e2, e3, e4, e5, e6, e7, he, by show dv i = vLz (s.hd i).plc _ _ _ _ _ _ _ _; rw [hp]; exact hv⟩⟩⟩
  obtain ⟨R2, h11, h12⟩ := HX
  have H11 := hide h11
  have H12 := hide h12
  obtain ⟨R, hR⟩ : ∃ R, R = CP DLz L s dv i (s.m, (s.hd i).on s.m, false) := ⟨_, rfl⟩
  rw [← hR] at H12 ⊢
  obtain ⟨b, hb⟩ : ∃ b, b = L.B (s.hd i).c := ⟨_, rfl⟩
  obtain ⟨H, hH⟩ : ∃ b, b = L.Hb i := ⟨_, rfl⟩
  obtain ⟨K, hK⟩ : ∃ b, b = s.m.ky (s.hd i).c := ⟨_, rfl⟩
  obtain ⟨D, hD⟩ : ∃ b, b = d.key := ⟨_, rfl⟩
  rw [← hb] at h4 b0
  rw [← hH] at c1 h4 HK H11
  rw [← hK] at b0 hlt
  rw [← hD] at HK hlt
  clear h hi hd hp hk he hv er hR hb hH hK hD hpc p2 h11 h12
  unfold ptr at *
  go_enter Try.func48, Try.ntmps48
  go_wp2_with fail
  go_quiet ((go_at_call 40; exact Calls.quiet_of (HK.out _ (by (focus ((repeat (first | (with_reducible assumption) | (with_reducible exact Kp.refl _) | (with_reducible apply Kp.drew) | (with_reducible apply Kp.drewN) | ((with_reducible apply Kp.setR); (focus (first | (with_reducible assumption) | (simp; done) | (simp; omega)))) | (with_reducible apply Kp.alloc) | ((with_reducible apply Kp.call); (with_reducible assumption)) | ((with_reducible apply Kp.app); (with_reducible assumption)))); done))))))
  go_wp2_with fail
  refine (H11.out _).mono ?_
  rintro e w1 ⟨rfl, h1⟩
  go_wp2
  exact H12.out _ h1
set_option maxRecDepth 100000 in
theorem lz2_first (h : WN L s dv w) {i : Nat} (hi : i < L.nh) {d : Dd} (hd : (L.P i)[s.deed i]? = some d) (hp : (s.hd i).plc = 1) (hlt : ¬ s.m.ky (s.hd i).c < d.key) (hk3 : d.kind ≠ 3) {e0 e1 e2 e3 e4 e5 e6 e7 : Nat} (he : ELz L (L.Hb i) e0 e1 e2 e3 e4 e5 e6 e7) (hv : dv i = vLz 1 e0 e1 e2 e3 e4 e5 e6 e7) :
    Calls Try.prog 48 #[ptr e1, ptr e4] w (CP DLz L s dv i (lazyS s.m (s.hd i) d)) := by
  have c1 := h.cst he.c1
  have c4 := h.cst he.c4
  obtain ⟨pv, cv, bb, -, -, -, -, h4, -, -, -, hpc, -⟩ := h.hand hi
  obtain ⟨-, rfl, -, p2⟩ := hpc (by omega)
  obtain ⟨b0, -⟩ := h.bead p2
  have er : lazyS s.m (s.hd i) d = lazy2 s.m (s.hd i) := by unfold lazyS; rw [hp]; simp [hlt, hk3]
  rw [er]
  have HK := hide (fun W (k : Kp w W) => key_quiet (h.kpw k) hi hd)
  have HKd := hide (fun W (k : Kp w W) => kind_quiet (h.kpw k) hi hd)
  have HF : Hid (∀ W, Kp w W → Calls Try.prog 49 #[ptr e4, ptr e1, ptr e5] W (fun e w' => ∃ x, e = .returned (.bool x) ∧ CP DLz L s dv i (lazy2 s.m (s.hd i)) (.returned (.bool x)) w')) := hide (fun W k => (lz3_any (h.kpw k) hi (Or.inl hp) he (by rw [hv]; exact vLz_nil _ _ _ _ _ _ _ _ _)).mono (fun e w' q => ⟨_, q.1, by rw [← q.1]; exact q⟩))
  obtain ⟨R, hR⟩ : ∃ R, R = CP DLz L s dv i (lazy2 s.m (s.hd i)) := ⟨_, rfl⟩
  rw [← hR] at HF ⊢
  obtain ⟨b, hb⟩ : ∃ b, b = L.B (s.hd i).c := ⟨_, rfl⟩
  obtain ⟨H, hH⟩ : ∃ b, b = L.Hb i := ⟨_, rfl⟩
  obtain ⟨K, hK⟩ : ∃ b, b = s.m.ky (s.hd i).c := ⟨_, rfl⟩
  obtain ⟨D, hD⟩ : ∃ b, b = d.key := ⟨_, rfl⟩
  obtain ⟨Q, hQ⟩ : ∃ b, b = d.kind := ⟨_, rfl⟩
  rw [← hb] at h4 b0
  rw [← hH] at c1 h4 HK HKd
  rw [← hK] at b0 hlt
  rw [← hD] at HK hlt
  rw [← hQ] at HKd hk3
  have q3 : (Q == 3) = false := beq_eq_false_iff_ne.2 hk3
  clear h hi hd hp hk3 he hv er hR hb hH hK hD hQ hpc p2
  unfold ptr clo at *
  go_enter Try.func48, Try.ntmps48
  go_wp2_with fail
  go_quiet ((go_at_call 40; exact Calls.quiet_of (HK.out _ (by (focus ((repeat (first | (with_reducible assumption) | (with_reducible exact Kp.refl _) | (with_reducible apply Kp.drew) | (with_reducible apply Kp.drewN) | ((with_reducible apply Kp.setR); (focus (first | (with_reducible assumption) | (simp; done) | (simp; omega)))) | (with_reducible apply Kp.alloc) | ((with_reducible apply Kp.call); (with_reducible assumption)) | ((with_reducible apply Kp.app); (with_reducible assumption)))); done))))))
  obtain ⟨w1, hw1⟩ : ∃ x, x = w.drewN nq := ⟨_, rfl⟩
  rw [← hw1]
  have k1 : Kp w w1 := by rw [hw1]; exact (Kp.refl w).drewN
  clear hw1
  have c11 := k1.cell c1
  have c41 := k1.cell c4
  go_wp2_with fail
  refine (HKd.out _ k1).mono ?_
  rintro e w2 ⟨rfl, m2, rfl⟩
  obtain ⟨w3, hw3⟩ : ∃ x, x = w1.drewN m2 := ⟨_, rfl⟩
  rw [← hw3]
  have k3 : Kp w w3 := by rw [hw3]; exact k1.drewN
  clear hw3
  have c12 := k3.cell c1
  have c42 := k3.cell c4
  go_wp2_with fail
  refine (HF.out _ k3).mono ?_
  rintro e w4 ⟨x, rfl, hx⟩
  go_wp2
  exact hx
end Go.Proofs.Ytoihdnekkgpcoaa
