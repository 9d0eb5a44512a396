/-
  What the writes of a step leave of the table: what is told, the time, what a hand does next. Conditions: as each theorem says.
  A region that draws its order, told slot by slot as by wp_region_tab, with a ghost: what is told of a slot and of the world may speak of a ghost that each operation may carry on (whose each new block is). No program. Conditions: none.
  A region that draws, reads, makes a block of one element, appends it to a slice that it has read, and stores the slice: what its world is, whatever the order (JA, GA). No program. Conditions: none.
  A step of the table, walked. Conditions: as the theorem says.
  A step of the table: the bench makes the step that the plain one makes. Conditions: the table lies as SN says.
  A step of the table, whether the hand has a deed left or not; what a run keeps. Conditions: the table lies as SN says.
-/
import Derived.Test.YtoihdnekkgpcoaaG4
import Derived.Test.YtoihdnekkgpcoaaG8
import Derived.Deep.DeepCutAuto

namespace Go.Proofs.Ytoihdnekkgpcoaa
open Go.ChangeShapes Go.WideShapes Go.ChangeAt Go.RowKit
set_option linter.unusedVariables false
set_option linter.unusedSimpArgs false

variable {L : Lay} {s : St} {dv : Nat → Value} {w w' : World}
def toldL (i : Nat) (t : List Dn) : List (Nat × Nat × Dn) := t.mapIdx (fun e r => (i, e, r))
theorem toldM_eq (s : St) (i : Nat) : toldM s i = toldL i (s.told i) := rfl
theorem toldL_len (i : Nat) (t : List Dn) : (toldL i t).length = t.length := by simp [toldL]
theorem toldL_snoc (i : Nat) (t : List Dn) (x : Dn) : toldL i (t ++ [x]) = toldL i t ++ [(i, t.length, x)] := by simp [toldL, List.mapIdx_concat]
theorem toldL_get (i : Nat) (t : List Dn) (k : Nat) (h : k < t.length) : (toldL i t)[k]'(by rw [toldL_len]; exact h) = (i, k, t[k]) := by simp [toldL]
theorem toldL_set (i : Nat) (t : List Dn) (k : Nat) (x : Dn) : (toldL i t).set k (i, k, x) = toldL i (t.set k x) := by
  apply List.ext_getElem?
  intro j
  simp only [toldL, List.getElem?_set, List.getElem?_mapIdx, List.length_mapIdx]
  by_cases e : k = j
  · subst e
    by_cases h : k < t.length <;> simp [h]
  · simp [e]
/-- What is told of a hand, written. -/
theorem WN.updt (h : WN L s dv w) {i : Nat} (hi : i < L.nh) {tv : Nat → Value} (hb0 : BC w L.tg 26 ((List.range L.nh).map tv)) (ho0 : ∀ i, i < L.nh → OW w L.w0.heap.size 35 eDone (tv i) (toldM s i))
    (hd0 : ∀ i j k, i < L.nh → j < L.nh → i ≠ j → (tv i).ownBlock = some k → (tv j).ownBlock ≠ some k) {u' : Value} {t' : List Dn}
    (hk : Kf (fun k => k = L.tg ∨ (tv i).ownBlock = some k) w w') (hb : BC w' L.tg 26 ((List.range L.nh).map (up tv i u'))) (ho : OW w' L.w0.heap.size 35 eDone u' (toldL i t'))
    (hat : u'.ownBlock = (tv i).ownBlock ∨ Hi w.heap.size u') : WN L { s with told := up s.told i t' } dv w' := by
  obtain ⟨t1, t2, -⟩ := h.td (by omega)
  have hne : ∀ b t c, BC w b t c → t ≠ 26 → t ≠ 35 → ¬ (b = L.tg ∨ (tv i).ownBlock = some b) := by
    intro b t c hbc h1 h2 e
    rcases e with e | e
    · exact BC.ne hbc hb0 h1 e
    · exact OW.bc_ne (ho0 i hi) hbc (fun x => h2 x.symm) e
  refine ⟨hk.kp h.kp (fun k e => ?_), ?_, h.bi, h.nn, h.n0, ?_, h.hi, ?_, ?_, ?_, ?_, h.pg⟩
  · rcases e with e | e
    · rw [e]; exact t2
    · exact ((ho0 i hi).lt k e).1
  · intro j hj
    obtain ⟨c1, c2⟩ := h.bd j hj
    exact ⟨c1.kf hk (hne _ _ _ c1 (by decide) (by decide)), c2⟩
  · intro j hj
    obtain ⟨pv, cv, b, a1, a2⟩ := h.hn j hj
    exact ⟨pv, cv, b, a1.kf hk (hne _ _ _ a1 (by decide) (by decide)), a2⟩
  · exact ⟨h.tb.1.kf hk (hne _ _ _ h.tb.1 (by decide) (by decide)), h.tb.2⟩
  · intro h0
    obtain ⟨a, b, c, d⟩ := h.hs h0
    exact ⟨a, b, c, d.kf hk (hne _ _ _ d (by decide) (by decide))⟩
  · intro h0
    refine ⟨t1, t2, up tv i u', hb, fun j hj => ?_, fun a b k ha hb' hab e1 e2 => ?_⟩
    · by_cases e : j = i
      · subst e
        rw [up_same]
        show OW w' _ _ _ _ (toldL j (up s.told j t' j))
        rw [up_same]; exact ho
      · rw [up_ne _ _ e]
        show OW w' _ _ _ _ (toldL j (up s.told i t' j))
        rw [up_ne _ _ e]
        refine (ho0 j hj).kf hk (fun k e1 e2 => ?_)
        rcases e2 with e2 | e2
        · exact OW.bc_ne (ho0 j hj) hb0 (by decide) (by rw [e1, e2])
        · exact hd0 j i k hj hi e e1 e2
    · have lo : ∀ j, j < L.nh → (tv j).ownBlock = some k → k < w.heap.size := fun j hj e => ((ho0 j hj).lt k e).2
      by_cases ea : a = i
      · subst ea
        rw [up_same] at e1
        rw [up_ne _ _ (fun e => hab e.symm)] at e2
        rcases hat with e | e
        · rw [e] at e1; exact hd0 a b k ha hb' hab e1 e2
        · have := e k e1; have := lo b hb' e2; omega
      · rw [up_ne _ _ ea] at e1
        by_cases eb : b = i
        · subst eb
          rw [up_same] at e2
          rcases hat with e | e
          · rw [e] at e2; exact hd0 a b k ha hb' hab e1 e2
          · have := e k e2; have := lo a ha e1; omega
        · rw [up_ne _ _ eb] at e2
          exact hd0 a b k ha hb' hab e1 e2
  · intro b t c e
    obtain ⟨a, o⟩ := h.cs b t c e
    exact ⟨a.kf hk (hne _ _ _ a o.2.2.2.1 o.2.2.2.2), o⟩
theorem map_set_up {α : Type} (f : Nat → α) (n i : Nat) (x : α) (hi : i < n) : ((List.range n).map f).set i x = (List.range n).map (up f i x) := by
  apply List.ext_getElem?
  intro j
  simp only [List.getElem?_set, List.getElem?_map, List.length_map, List.length_range]
  by_cases e : i = j
  · subst e; simp [hi, up_same]
  · have e2 : j ≠ i := fun x => e x.symm
    by_cases hj : j < n
    · simp [e, hj, up_ne f x e2]
    · simp [e, hj]
/-- What is told of a hand, as it lies; what it may become. -/
theorem WN.told (h : WN L s dv w) {i : Nat} (hi : i < L.nh) : ∃ u, w.cell? ⟨L.tg, i, none⟩ = some u ∧ (∀ k, w.frozen? ⟨L.tg, k, none⟩ = false) ∧ L.tg < w.heap.size ∧ L.tov = .slice (some ⟨L.tg, 0, none⟩) L.nh L.nh ∧ OW w L.w0.heap.size 35 eDone u (toldL i (s.told i)) ∧ u.ownBlock ≠ some L.tg ∧
    (∀ W γ t', KV u w W → OW W L.w0.heap.size 35 eDone γ (toldL i t') → (γ.ownBlock = u.ownBlock ∨ Hi w.heap.size γ) → WN L { s with told := up s.told i t' } dv (W.setCell ⟨L.tg, i, none⟩ γ)) ∧
    (∀ W t', KV u w W → OW W L.w0.heap.size 35 eDone u (toldL i t') → WN L { s with told := up s.told i t' } dv W) := by
  obtain ⟨t1, t2, tv, hb, ho, hd⟩ := h.td (by omega)
  have hne : (tv i).ownBlock ≠ some L.tg := OW.bc_ne (ho i hi) hb (by decide)
  refine ⟨tv i, ?_, fun k => hb.frozen k, hb.lt, t1, ho i hi, hne, fun W γ t' hk hγ hat => ?_, fun W t' hk hγ => ?_⟩
  · rw [hb.cell]; simp [hi]
  · have hbW : BC W L.tg _ _ := hb.kf hk hne
    have hk2 : Kf (fun k => k = L.tg ∨ (tv i).ownBlock = some k) w (W.setCell ⟨L.tg, i, none⟩ γ) := Kf.set (hk.mono (fun k _ e => .inr e)) (.inl (.inl rfl))
    refine h.updt hi hb ho hd (u' := γ) hk2 ?_ ?_ hat
    · rw [← map_set_up _ _ _ _ hi]; exact hbW.set
    · refine hγ.setCell ?_ _
      show γ.ownBlock ≠ some L.tg
      rcases hat with e | e
      · rw [e]; exact hne
      · intro e2; have := e _ e2; have := hb.lt; omega
  · refine h.updt hi hb ho hd (u' := tv i) (hk.mono (fun k _ e => .inr e)) ?_ hγ (.inl rfl)
    have : up tv i (tv i) = tv := by funext j; unfold up; split <;> simp_all
    rw [this]
    exact hb.kf hk hne
/-- The time. -/
theorem WN.setnow (h : WN L s dv w) (t : Nat) : WN L { s with now := t } dv (w.setCell ⟨L.T, 3, none⟩ (.int .i64 t)) := by
  refine ⟨h.kp.setR (by simpa using h.tb.2), ?_, h.bi, h.nn, h.n0, ?_, h.hi, ?_, ?_, ?_, ?_, h.pg⟩
  · intro j hj
    obtain ⟨c1, c2⟩ := h.bd j hj
    exact ⟨c1.far (BC.ne c1 h.tb.1 (by decide)), c2⟩
  · intro j hj
    obtain ⟨pv, cv, b, a1, a2⟩ := h.hn j hj
    exact ⟨pv, cv, b, a1.far (BC.ne a1 h.tb.1 (by decide)), a2⟩
  · exact ⟨h.tb.1.set (j := 3) (u := .int .i64 t), h.tb.2⟩
  · intro h0
    obtain ⟨a, b, c, d⟩ := h.hs h0
    exact ⟨a, b, c, d.far (BC.ne d h.tb.1 (by decide))⟩
  · intro h0
    obtain ⟨a, b, tv, c, d, e⟩ := h.td h0
    exact ⟨a, b, tv, c.far (BC.ne c h.tb.1 (by decide)), fun j hj => (d j hj).setCell (OW.bc_ne (d j hj) h.tb.1 (by decide)) _, e⟩
  · intro b t c e
    obtain ⟨a, o⟩ := h.cs b t c e
    exact ⟨a.far (BC.ne a h.tb.1 o.2.2.1), o⟩
/-- A hand begins a deed: what it does next, no answer yet. -/
theorem WN.setbeg (h : WN L s dv w) {i : Nat} (hi : i < L.nh) (v : Value) (hp : s.hd i = hd0) : WN L s (up dv i v) ((w.setCell ⟨L.Hb i, 2, none⟩ v).setCell ⟨L.Hb i, 5, none⟩ (.bool false)) := by
  obtain ⟨pv, cv, b, b1, b2, b3, b4⟩ := h.hn i hi
  refine h.updh hi (Kf.set (Kf.set (Kf.refl _ w) (.inl rfl)) (.inl rfl)) s.hd s.deed _ (fun j hj => ⟨rfl, rfl, up_ne _ _ hj⟩) pv cv false ?_ b3 ?_
  · rw [up_same]; exact (b1.set (j := 2) (u := v)).set (j := 5) (u := .bool false)
  · rw [hp]; exact fun _ => rfl
/-- A deed is done. -/
theorem WN.setend (h : WN L s dv w) {i : Nat} (hi : i < L.nh) : WN L { s with hd := up s.hd i hd0, deed := up s.deed i (s.deed i + 1) } (up dv i .nilFunc) ((w.setCell ⟨L.Hb i, 1, none⟩ (.int .i64 ((s.deed i + 1 : Nat) : Int))).setCell ⟨L.Hb i, 2, none⟩ .nilFunc) := by
  obtain ⟨pv, cv, b, b1, b2, b3, b4⟩ := h.hn i hi
  refine h.updh hi (Kf.set (Kf.set (Kf.refl _ w) (.inl rfl)) (.inl rfl)) _ _ _ (fun j hj => ⟨up_ne _ _ hj, up_ne _ _ hj, up_ne _ _ hj⟩) pv cv b ?_ ?_ ?_
  · rw [up_same, up_same]; exact (b1.set (j := 1) (u := .int .i64 ((s.deed i + 1 : Nat) : Int))).set (j := 2) (u := .nilFunc)
  · rw [up_same]; exact fun e => absurd rfl e
  · rw [up_same]; exact fun e => absurd rfl e
theorem eDone_set3 (i k : Nat) (r : Dn) (t : Int) : (eDone.cells (i, k, r)).set 3 (.int .i64 t) = eDone.cells (i, k, { r with fin := t }) := rfl
theorem eDone_set4 (i k : Nat) (r : Dn) (b : Bool) : (eDone.cells (i, k, r)).set 4 (.bool b) = eDone.cells (i, k, { r with is := b }) := rfl
/-- The end of a deed is told. -/
theorem WN.setfin (h : WN L s dv w) {i : Nat} (hi : i < L.nh) {k : Nat} (hk : k < (s.told i).length) (t : Nat) (b : Bool) : ∃ g c, w.cell? ⟨L.tg, i, none⟩ = some (.slice (some ⟨g, 0, none⟩) (s.told i).length c) ∧ (∃ x, w.cell? ⟨g, k * 5 + 3, none⟩ = some x) ∧ (∃ x, w.cell? ⟨g, k * 5 + 4, none⟩ = some x) ∧ (∀ k, w.frozen? ⟨g, k, none⟩ = false) ∧ g < w.heap.size ∧ (∀ b t c, BC w b t c → t ≠ 35 → b ≠ g) ∧
    WN L { s with told := up s.told i (toldE (s.told i) k t b) } dv ((w.setCell ⟨g, k * 5 + 3, none⟩ (.int .i64 t)).setCell ⟨g, k * 5 + 4, none⟩ (.bool b)) := by
  obtain ⟨u, c0, -, -, -, ho, hne, -, hB⟩ := h.told hi
  obtain ⟨g, c, rfl, hog⟩ := ho.blk (by rw [toldL_len]; omega)
  rw [toldL_len] at c0 ho hog
  have hk' : k < (toldL i (s.told i)).length := by rw [toldL_len]; exact hk
  obtain ⟨x3, f3⟩ := ho.cellAt k hk' 3 (by decide)
  obtain ⟨x4, f4⟩ := ho.cellAt k hk' 4 (by decide)
  have hgl := (ho.lt g hog).2
  have e3 : (eDone.cells (toldL i (s.told i))[k])[3]? = some (.int .i64 (s.told i)[k].fin) := by rw [toldL_get i _ k hk]; rfl
  have e4 : (eDone.cells (toldL i (s.told i))[k])[4]? = some (.bool (s.told i)[k].is) := by rw [toldL_get i _ k hk]; rfl
  rw [toldL_len] at hB
  refine ⟨g, c, c0, ⟨_, x3.trans e3⟩, ⟨_, x4.trans e4⟩, fun k => ?_, hgl, fun b t c hbc hn e => OW.bc_ne ho hbc (fun x => hn x.symm) (by rw [hog, e]), ?_⟩
  · have hh : w.heap[g]? ≠ none := by simp [hgl]
    obtain ⟨cur, hbk, _⟩ := BK.of_ow ho
    unfold BK at hbk
    simp [World.frozen?, hbk]
  · have h1 := ho.setAt k hk' 3 (by decide) (.int .i64 t) (i, k, { (s.told i)[k] with fin := t }) (by rw [toldL_get i _ k hk]; rfl)
    rw [toldL_set] at h1
    have hk2 : k < (toldL i ((s.told i).set k { (s.told i)[k] with fin := t })).length := by rw [toldL_len, List.length_set]; exact hk
    have h2 := h1.setAt k hk2 4 (by decide) (.bool b) (i, k, { (s.told i)[k] with fin := t, is := b }) (by rw [toldL_get i _ k (by rw [List.length_set]; exact hk)]; simp; rfl)
    rw [toldL_set, List.set_set] at h2
    have e : (s.told i).set k { (s.told i)[k] with fin := t, is := b } = toldE (s.told i) k t b := by
      unfold toldE
      apply List.ext_getElem?
      intro j
      rw [List.getElem?_set, List.getElem?_modify]
      by_cases ej : k = j
      · subst ej; simp [hk]
      · simp [ej]
    rw [e] at h2
    refine hB _ _ ?_ h2
    exact Kf.set (Kf.set (Kf.refl _ w) (.inl hog)) (.inl hog)
end Go.Proofs.Ytoihdnekkgpcoaa
namespace Go.Proofs.Ytoihdnekkgpcoaa
open Go
set_option linter.unusedVariables false

section
variable {Γ : Type}
def ValsAtG (ops : Array Oper) (Val : Nat → Value → World → Γ → Prop) (J : Array Bool → World → Γ → Prop) (n : Nat) (D : List Deferred) (L : Array Bool) (a : Act) (w : World) : Prop :=
  ∃ γ, a.defers = D ∧ a.tmps.size = n ∧ J L w γ ∧ ∀ d, d < n → ((dstsOf ops).contains d = false ∨ ∃ i o, L.getD i false = true ∧ ops[i]? = some o ∧ o.dst = some d) → Val d (a.tmps.getD d undef) w γ
/-- One operation, with what it may know. -/
def StepAtG (P : Program) (ops : Array Oper) (Q : Exit → Act → World → Prop) (Val : Nat → Value → World → Γ → Prop) (J : Array Bool → World → Γ → Prop) (n : Nat) (i : Nat) (o : Oper) : Prop :=
  ∀ L a w γ, a.tmps.size = n → J L w γ → L.getD i true = false → (∀ e ∈ o.after.toList, Region.binds .any e = true → L.getD e.on false = true) → (∀ d, d < n → knowsAt ops o d = true → Val d (a.tmps.getD d undef) w γ) →
    wpOp P ops Q i (fun a' w' => ∃ v γ', a' = a.put o.dst v ∧ J (L.setIfInBounds i true) w' γ' ∧ (∀ d, o.dst = some d → Val d v w' γ') ∧ ∀ d v, o.dst ≠ some d → Val d v w γ → Val d v w' γ') a w
theorem wp_region_valsG {P : Program} {ops : Array Oper} {Q : Exit → Act → World → Prop} {id : Nat} {a : Act} {w : World} (hm : P.follows .mixedOrders = true) (Val : Nat → Value → World → Γ → Prop) (J : Array Bool → World → Γ → Prop)
    (γ0 : Γ) (hJ : J (Array.replicate ops.size false) { w with drawn := w.drawn + 1 } γ0)
    (h0 : ∀ d, d < a.tmps.size → (dstsOf ops).contains d = false → Val d (a.tmps.getD d undef) { w with drawn := w.drawn + 1 } γ0)
    (hsteps : StepsFrom (StepAtG P ops Q Val J a.tmps.size) 0 ops.toList)
    (hb : backs ops = true)
    (hend : ∀ a' w' γ, a'.defers = a.defers → a'.tmps.size = a.tmps.size → J (Array.replicate ops.size true) w' γ → (∀ d, d < a.tmps.size → Val d (a'.tmps.getD d undef) w' γ) → Q .normal a' w') :
    (Code.region id ops true).wp P Q a w := by
  refine wp_region_inv hm (ValsAtG ops Val J a.tmps.size a.defers) ⟨γ0, rfl, rfl, hJ, fun d hd h => ?_⟩ ?_ ?_
  · rcases h with h | ⟨i, o, h, _⟩
    · exact h0 d hd h
    · simp [Array.getD, Array.getElem_replicate] at h
  · rintro L a' w' hs ⟨γ, e1, e2, hj, hv⟩ i hr
    unfold Region.ready at hr
    rw [List.mem_filter, List.mem_range] at hr
    obtain ⟨hi, hr⟩ := hr
    simp only [Bool.and_eq_true, Bool.not_eq_true'] at hr
    obtain ⟨hl, hr⟩ := hr
    have ho : ops[i]? = some ops[i] := by simp [hi]
    have hi' : i < L.size := by omega
    generalize ops[i] = o at ho
    rw [ho] at hr
    have haft : ∀ e ∈ o.after.toList, Region.binds .any e = true → L.getD e.on false = true := fun e he hb => by
      have hr2 : (o.after.all fun e => !Region.binds .any e || L.getD e.on false) = true := by simpa using hr
      have := Array.all_eq_true'.1 hr2 e (by simpa using he)
      simpa [hb] using this
    have hst := hsteps.at (i := i) (o := o) (by simpa using ho)
    rw [Nat.zero_add] at hst
    refine wpOp_mono ?_ (hst L a' w' γ e2 hj hl haft fun d hd hk => hv d hd ?_)
    · rintro a2 w2 ⟨v, γ', rfl, hj2, hval, hmono⟩
      have hsz : (a'.put o.dst v).tmps.size = a'.tmps.size := by
        cases o.dst <;> simp [Act.put]
      refine ⟨γ', ?_, by rw [hsz, e2], hj2, fun d hd hk => ?_⟩
      · rw [← e1]
        cases o.dst <;> rfl
      · by_cases hdd : o.dst = some d
        · have : (a'.put o.dst v).tmps.getD d undef = v := by
            rw [hdd]
            simp [Act.put, Array.getD, e2, hd]
          rw [this]
          exact hval d hdd
        · have : (a'.put o.dst v).tmps.getD d undef = a'.tmps.getD d undef := by
            cases hq : o.dst with
            | none => rfl
            | some d2 =>
              have : d2 ≠ d := fun h => hdd (by rw [hq, h])
              simp only [Act.put, Array.getD_eq_getD_getElem?, Array.getElem?_setIfInBounds_ne this]
          rw [this]
          refine hmono d _ hdd (hv d hd ?_)
          rcases hk with hk | ⟨j, oj, h1, h2, h3⟩
          · exact .inl hk
          · by_cases hji : j = i
            · subst hji
              rw [ho] at h2
              injection h2 with h2
              subst h2
              exact absurd h3 hdd
            · refine .inr ⟨j, oj, ?_, h2, h3⟩
              have : (L.setIfInBounds i true).getD j false = L.getD j false := by
                simp only [Array.getD_eq_getD_getElem?, Array.getElem?_setIfInBounds_ne (Ne.symm hji)]
              rw [← this]
              exact h1
    · unfold knowsAt at hk
      rw [Bool.or_eq_true] at hk
      rcases hk with hk | hk
      · exact .inl (by simpa using hk)
      · rw [List.any_eq_true] at hk
        obtain ⟨e, he, hk⟩ := hk
        rw [Bool.and_eq_true] at hk
        have hk2 : (ops[e.on]?).bind (·.dst) = some d := by simpa using hk.2
        obtain ⟨oe, h1, h2⟩ := Option.bind_eq_some_iff.1 hk2
        exact .inr ⟨e.on, oe, haft e he hk.1, h1, h2⟩
  · rintro L a' w' hs ⟨γ, e1, e2, hj, hv⟩ hr
    have hall := fun i h => all_listed hb hs hr ops.size i h h
    have hL : L = Array.replicate ops.size true := by
      apply Array.ext (by simp [hs])
      intro i h1 h2
      have := hall i (by omega)
      simpa [Array.getD, h1] using this
    refine hend a' w' γ e1 e2 (hL ▸ hj) fun d hd => hv d hd ?_
    cases hc : (dstsOf ops).contains d with
    | false => exact .inl rfl
    | true =>
      right
      have hm : d ∈ dstsOf ops := by simpa using hc
      unfold dstsOf at hm
      rw [List.mem_filterMap] at hm
      obtain ⟨o, ho, hod⟩ := hm
      obtain ⟨i, hi, rfl⟩ := List.mem_iff_getElem.1 ho
      have hi' : i < ops.size := by simpa using hi
      refine ⟨i, ops[i], ?_, by simp [hi'], by simpa using hod⟩
      have := hall i hi'
      have h3 : i < L.size := by omega
      simpa [Array.getD, h3] using this
/-- One operation of a region whose slots are told by a table T, but for some that are told by G. -/
def StepTG (P : Program) (ops : Array Oper) (Q : Exit → Act → World → Prop) (T : List (Nat × Value)) (G : Nat → Value → World → Γ → Prop) (J : Array Bool → World → Γ → Prop) (a0 : Act) (i : Nat) (o : Oper) : Prop :=
  ops[i]? = some o → ∀ L a w γ, a.tmps.size = a0.tmps.size → J L w γ → L.getD i true = false → (∀ e ∈ o.after.toList, Region.binds .any e = true → L.getD e.on false = true) →
    (∀ d x, (dstsOf ops).contains d = false → a0.tmps.getD d undef = x → a.tmps.getD d undef = x) →
    (∀ d x, waitsFor ops o d = true → T.lookup d = some x → a.tmps.getD d undef = x) →
    (∀ d, waitsFor ops o d = true → G d (a.tmps.getD d undef) w γ) →
    wpOp P ops Q i (fun a' w' => ∃ v γ', a' = a.put o.dst v ∧ J (L.setIfInBounds i true) w' γ' ∧ (∀ d, o.dst = some d → (∀ x, T.lookup d = some x → v = x) ∧ G d v w' γ') ∧ ∀ d v, o.dst ≠ some d → G d v w γ → G d v w' γ') a w
theorem wp_region_tabG {P : Program} {ops : Array Oper} {Q : Exit → Act → World → Prop} {id : Nat} {a : Act} {w : World} (hm : P.follows .mixedOrders = true) (T : List (Nat × Value)) (G : Nat → Value → World → Γ → Prop) (J : Array Bool → World → Γ → Prop)
    (γ0 : Γ) (hJ : J (Array.replicate ops.size false) { w with drawn := w.drawn + 1 } γ0) (hb : backs ops = true) (hds : ((dstsOf ops).all fun d => decide (d < a.tmps.size)) = true)
    (hsteps : StepsFrom (StepTG P ops Q T G J a) 0 ops.toList)
    (hend : ∀ a' w' γ, a'.defers = a.defers → a'.tmps.size = a.tmps.size → J (Array.replicate ops.size true) w' γ →
      (∀ d x, (dstsOf ops).contains d = false → a.tmps.getD d undef = x → a'.tmps.getD d undef = x) →
      (∀ d x, (dstsOf ops).contains d = true → T.lookup d = some x → a'.tmps.getD d undef = x) →
      (∀ d, (dstsOf ops).contains d = true → G d (a'.tmps.getD d undef) w' γ) → Q .normal a' w') :
    (Code.region id ops true).wp P Q a w := by
  have hlt : ∀ d, (dstsOf ops).contains d = true → d < a.tmps.size := fun d hd => by
    rw [List.all_eq_true] at hds
    simpa using hds d (by simpa using hd)
  have hout : ∀ b : Act, b.tmps.size = a.tmps.size → ∀ d, ¬ d < a.tmps.size → b.tmps.getD d undef = a.tmps.getD d undef := fun b hb d hd => by
    simp [Array.getD, hb, hd]
  refine wp_region_valsG hm (fun d v w γ => if (dstsOf ops).contains d then (∀ x, T.lookup d = some x → v = x) ∧ G d v w γ else v = a.tmps.getD d undef) J γ0 hJ (fun d _ h => by rw [if_neg (by simpa using h)]) ?_ hb fun a' w' γ e1 e2 hj hv => ?_
  · have key : ∀ (l : List Oper) (k : Nat), (∀ i o, l[i]? = some o → ops[k + i]? = some o) → StepsFrom (StepTG P ops Q T G J a) k l → StepsFrom (StepAtG P ops Q (fun d v w γ => if (dstsOf ops).contains d then (∀ x, T.lookup d = some x → v = x) ∧ G d v w γ else v = a.tmps.getD d undef) J a.tmps.size) k l := by
      intro l
      induction l with
      | nil => exact fun _ _ _ => trivial
      | cons o l ih =>
        intro k hk h
        refine ⟨?_, ih (k + 1) (fun i o h => by rw [show k + 1 + i = k + (i + 1) from by omega]; exact hk (i + 1) o (by simpa using h)) h.2⟩
        intro L b w γ hs hJ hl haft hknow
        have hko := hk 0 o rfl
        have hin : ∀ d, waitsFor ops o d = true → (dstsOf ops).contains d = true := fun d hd => by
          unfold waitsFor at hd
          rw [List.any_eq_true] at hd
          obtain ⟨e, he, hd⟩ := hd
          rw [Bool.and_eq_true] at hd
          have hk2 : (ops[e.on]?).bind (·.dst) = some d := by simpa using hd.2
          obtain ⟨oe, h1, h2⟩ := Option.bind_eq_some_iff.1 hk2
          have : d ∈ dstsOf ops := by
            unfold dstsOf
            rw [List.mem_filterMap]
            exact ⟨oe, by
              obtain ⟨hlt, rfl⟩ := Array.getElem?_eq_some_iff.1 h1
              simp, h2⟩
          simpa using this
        have hw : ∀ d, waitsFor ops o d = true → knowsAt ops o d = true := fun d hd => by
          unfold knowsAt waitsFor at *
          rw [hd, Bool.or_true]
        refine wpOp_mono ?_ (h.1 (by simpa using hko) L b w γ hs hJ hl haft (fun d x hc hx => ?_) (fun d x hw1 hx => ?_) (fun d hw1 => ?_))
        · rintro a2 w2 ⟨v, γ', rfl, hj2, hval, hmono⟩
          refine ⟨v, γ', rfl, hj2, fun d hd => ?_, fun d v hne h => ?_⟩
          · have : (dstsOf ops).contains d = true := by
              have : d ∈ dstsOf ops := by
                unfold dstsOf
                rw [List.mem_filterMap]
                exact ⟨o, by
                  obtain ⟨hlt, rfl⟩ := Array.getElem?_eq_some_iff.1 hko
                  simp, hd⟩
              simpa using this
            simp only [this, if_true]
            exact hval d hd
          · by_cases hc : (dstsOf ops).contains d = true
            · simp only [hc, if_true] at h ⊢
              exact ⟨h.1, hmono d v hne h.2⟩
            · simp only [hc] at h ⊢
              exact h
        · by_cases hd : d < a.tmps.size
          · have := hknow d hd (by unfold knowsAt; rw [hc]; rfl)
            simp only [hc] at this
            rw [← hx]
            simpa using this
          · rw [← hx]
            exact hout b hs d hd
        · have := hknow d (hlt d (hin d hw1)) (hw d hw1)
          simp only [hin d hw1, if_true] at this
          exact this.1 x hx
        · have := hknow d (hlt d (hin d hw1)) (hw d hw1)
          simp only [hin d hw1, if_true] at this
          exact this.2
    exact key ops.toList 0 (fun i o h => by rw [Nat.zero_add]; simpa using h) hsteps
  · refine hend a' w' γ e1 e2 hj (fun d x hc hx => ?_) (fun d x hc hx => ?_) (fun d hc => ?_)
    · by_cases hd : d < a.tmps.size
      · have := hv d hd
        simp only [hc] at this
        rw [← hx]
        simpa using this
      · rw [← hx]
        exact hout a' e2 d hd
    · have := hv d (hlt d hc)
      simp only [hc, if_true] at this
      exact this.1 x hx
    · have := hv d (hlt d hc)
      simp only [hc, if_true] at this
      exact this.2
end
end Go.Proofs.Ytoihdnekkgpcoaa
namespace Go.Proofs.Ytoihdnekkgpcoaa
open Go.ChangeShapes Go.WideShapes Go.ChangeAt Go.RowKit
set_option linter.unusedVariables false
set_option linter.unusedSimpArgs false

theorem getS_same (L : Array Bool) (k : Nat) : (L.setIfInBounds k true).getD k true = true := by
  by_cases h : k < L.size
  · simp [Array.getD, h]
  · simp [Array.getD, h]
theorem getS_far (L : Array Bool) (k j : Nat) (h : k ≠ j) : (L.setIfInBounds k true).getD j true = L.getD j true := by
  simp only [Array.getD_eq_getD_getElem?, Array.getElem?_setIfInBounds_ne h]
theorem getS_mono (L : Array Bool) (k j : Nat) (h : L.getD j true = true) : (L.setIfInBounds k true).getD j true = true := by
  by_cases e : k = j
  · subst e; exact getS_same _ _
  · rw [getS_far _ _ _ e]; exact h
theorem getR_true (n j : Nat) : (Array.replicate n true).getD j true = true := by
  simp only [Array.getD]
  split
  · simp
  · rfl
/-- u: the slice, read at q by operation kl; ka: the append; ks: the store; R what holds behind it. -/
structure JA {α : Type} (w0 : World) (u : Value) (q : Addr) (kl ka ks : Nat) (B : Nat) (e : TypeId) (E : Enc α) (l : List α) (R : World → Prop) (L : Array Bool) (w : World) (γ : Value) : Prop where
  s1 : L.getD ka true = true → L.getD kl true = true
  s2 : L.getD ks true = true → L.getD ka true = true
  k1 : L.getD ka true = false → Kp w0 w
  k2 : Kf (fun i => i = q.block ∨ u.ownBlock = some i) w0 w
  k3 : L.getD ka true = true → L.getD ks true = false → KV u w0 w ∧ OW w B e E γ l ∧ (γ.ownBlock = u.ownBlock ∨ Hi w0.heap.size γ)
  k4 : L.getD ks true = true → R w
/-- ku: the slot of the new block; kv: of the slice behind the append. -/
def GA {α : Type} (w0 : World) (ku kv : Nat) (e : TypeId) (E : Enc α) (x : α) (d : Nat) (v : Value) (w : World) (γ : Value) : Prop :=
  (d = ku → ∃ b, v = .slice (some ⟨b, 0, none⟩) 1 1 ∧ w0.heap.size ≤ b ∧ BC w b e (E.cells x)) ∧ (d = kv → v = γ)
section
variable {α : Type} {w0 w w' : World} {u v : Value} {q p : Addr} {kl ka ks B i d ku kv : Nat} {e : TypeId} {E : Enc α} {l : List α} {x : α} {R : World → Prop} {L : Array Bool} {γ γ' : Value}
theorem JA.start {n : Nat} (h1 : ka < n) (h2 : ks < n) : JA w0 u q kl ka ks B e E l R (Array.replicate n false) w0.drew γ := by
  have a1 : (Array.replicate n false).getD ka true = false := by simp [Array.getD, h1]
  have a2 : (Array.replicate n false).getD ks true = false := by simp [Array.getD, h2]
  have f : false = true → ∀ {p : Prop}, p := fun h => by cases h
  exact ⟨fun h => f (a1.symm.trans h), fun h => f (a2.symm.trans h), fun _ => (Kp.refl _).drew, Kf.of (Kp.refl _).drew, fun h => f (a1.symm.trans h), fun h => f (a2.symm.trans h)⟩
theorem JA.go (h : JA w0 u q kl ka ks B e E l R L w γ) (HR : ∀ a b, R a → Kp a b → R b) (k : Kp w w') (i : Nat) (ha : i ≠ ka) (hs : i ≠ ks) : JA w0 u q kl ka ks B e E l R (L.setIfInBounds i true) w' γ := by
  refine ⟨?_, ?_, ?_, h.k2.on k, ?_, ?_⟩
  · rw [getS_far _ _ _ ha]; exact fun e => getS_mono _ _ _ (h.s1 e)
  · rw [getS_far _ _ _ ha, getS_far _ _ _ hs]; exact h.s2
  · rw [getS_far _ _ _ ha]; exact fun e => (h.k1 e).trans k
  · rw [getS_far _ _ _ ha, getS_far _ _ _ hs]
    intro e1 e2
    obtain ⟨a, b, c⟩ := h.k3 e1 e2
    exact ⟨KV.call k a, b.kp k, c⟩
  · rw [getS_far _ _ _ hs]; exact fun e => HR _ _ (h.k4 e) k
theorem JA.cell (h : JA w0 u q kl ka ks B e E l R L w γ) {v : Value} (c : w0.cell? p = some v ∧ p.block ≠ q.block ∧ u.ownBlock ≠ some p.block) : w.cell? p = some v :=
  h.k2.cell (fun hh => hh.elim c.2.1 c.2.2) c.1
theorem JA.load (h : JA w0 u q kl ka ks B e E l R L w γ) (hl : L.getD kl true = false) (c : w0.cell? q = some u) : w.cell? q = some u := by
  refine (h.k1 ?_).cell c
  cases e : L.getD ka true with
  | false => rfl
  | true => rw [h.s1 e] at hl; cases hl
theorem JA.app {l0 : List α} (h : JA w0 u q kl ka ks B e E l R L w γ) (hl : L.getD ka true = false) (hk : L.getD kl true = true) (hn : ka ≠ ks) (hkl : ka ≠ kl) (hu : OW w0 B e E u l0) (hg : w.grownBy w' u.ownBlock) (ho : OW w' B e E γ' l) (hat : γ'.ownBlock = u.ownBlock ∨ γ'.ownBlock = some w.heap.size) :
    JA w0 u q kl ka ks B e E l R (L.setIfInBounds ka true) w' γ' := by
  have hks : L.getD ks true = false := by
    cases e : L.getD ks true with
    | false => rfl
    | true => rw [h.s2 e] at hl; cases hl
  have kp := h.k1 hl
  refine ⟨?_, fun _ => getS_same _ _, ?_, ?_, ?_, ?_⟩
  · exact fun _ => getS_mono _ _ _ hk
  · rw [getS_same]; intro e; cases e
  · exact Kf.app (Kf.of kp) hg (fun k hh => .inl (.inr hh))
  · intro _ _
    refine ⟨KV.app hg (Kf.of kp), ho, hat.imp id fun e k hh => ?_⟩
    rw [e] at hh; injection hh with hh; subst hh; exact kp.size
  · rw [getS_far _ _ _ hn, hks]; intro e; cases e
theorem JA.store (h : JA w0 u q kl ka ks B e E l R L w γ) (hl : L.getD ks true = false) (ha : L.getD ka true = true) (hn : ks ≠ ka) (hq : q.block < w0.heap.size) (hv : u.ownBlock ≠ some q.block) (c : w0.cell? q = some u) (f : w0.frozen? q = false)
    (HS : ∀ W γ, KV u w0 W → OW W B e E γ l → (γ.ownBlock = u.ownBlock ∨ Hi w0.heap.size γ) → R (W.setCell q γ)) :
    w.cell? q = some u ∧ w.frozen? q = false ∧ (∃ A n c, γ = .slice A n c) ∧ JA w0 u q kl ka ks B e E l R (L.setIfInBounds ks true) (w.setCell q γ) γ := by
  obtain ⟨a, b, cc⟩ := h.k3 ha hl
  refine ⟨a.cell hv c, (a.frozen hq hv).trans f, b.rd.slice, ?_, ?_, ?_, ?_, ?_, ?_⟩
  · rw [getS_far _ _ _ hn]; exact fun e => getS_mono _ _ _ (h.s1 e)
  · rw [getS_far _ _ _ hn]; exact fun _ => ha
  · rw [getS_far _ _ _ hn, ha]; intro e; cases e
  · exact h.k2.set (.inl (.inl rfl))
  · rw [getS_same]; intro _ e; cases e
  · exact fun _ => HS _ _ a b cc
theorem GA.none (h : d ≠ ku ∧ d ≠ kv) : GA w0 ku kv e E x d v w γ := ⟨fun e => absurd e h.1, fun e => absurd e h.2⟩
theorem GA.kp (h : GA w0 ku kv e E x d v w γ) (k : Kp w w') : GA w0 ku kv e E x d v w' γ :=
  ⟨fun e => by obtain ⟨b, a1, a2, a3⟩ := h.1 e; exact ⟨b, a1, a2, a3.kp k⟩, h.2⟩
theorem GA.app {l0 : List α} (h : GA w0 ku kv e E x d v w γ) (hd : d ≠ kv) (hu : OW w0 B e E u l0) (hg : w.grownBy w' u.ownBlock) : GA w0 ku kv e E x d v w' γ' := by
  refine ⟨fun e => ?_, fun e => absurd e hd⟩
  obtain ⟨b, a1, a2, a3⟩ := h.1 e
  refine ⟨b, a1, a2, ?_⟩
  have := (hu.lt b)
  exact a3.kf (Kf.app (F := fun i => u.ownBlock = some i) (Kf.refl _ w) hg (fun k hh => .inl hh)) (fun hh => by have := (hu.lt b hh).2; omega)
theorem GA.far (h : GA w0 ku kv e E x d v w γ) (hq : q.block < w0.heap.size) {z : Value} : GA w0 ku kv e E x d v (w.setCell q z) γ := by
  refine ⟨fun e => ?_, h.2⟩
  obtain ⟨b, a1, a2, a3⟩ := h.1 e
  exact ⟨b, a1, a2, a3.far (by omega)⟩
theorem rd_blk {b : Nat} (h : BC w b e (E.cells x)) : RD w E (.slice (some ⟨b, 0, none⟩) 1 1) [x] := RD.block (l := [x]) h (by simp) (by simp [maxLen])
end
end Go.Proofs.Ytoihdnekkgpcoaa
namespace Go.Proofs.Ytoihdnekkgpcoaa
open Go.ChangeShapes Go.WideShapes Go.ChangeAt Go.RowKit
set_option linter.unusedVariables false
set_option linter.unusedSimpArgs false

theorem info_done : (Try.prog.info? 35).map (fun i => (i.zero, i.size, i.bytes)) = some (some (.agg #[.int .i64 0, .int .i64 0, .int .i64 0, .int .i64 0, .bool false]), 5, 40) := by kernel_rfl
theorem row_done : Row Try.prog 26 35 eDone 40 := row_of info_done Try.underlying26 rfl rfl (by decide)
theorem run_nilF (W : World) : (binOp .eql 33 .nilFunc .nilFunc).run Try.prog W = .ok (.bool true) W := by
  have hd : ∀ d : Nat, (Op.equalIn (d + 1) 33 .nilFunc .nilFunc).run Try.prog W = .ok true W := fun d => by
    simp [Op.equalIn, run_underlying Try.underlying33]
  simp only [binOp, Op.equal, Op.maxDepth]
  simp [hd 9999]
theorem run_cloF (F : Nat) (vs : Array Value) (W : World) : (binOp .eql 33 (.func (.func F) #[] vs) .nilFunc).run Try.prog W = .ok (.bool false) W := by
  have hd : ∀ d : Nat, (Op.equalIn (d + 1) 33 (.func (.func F) #[] vs) .nilFunc).run Try.prog W = .ok false W := fun d => by
    simp [Op.equalIn, run_underlying Try.underlying33]
  simp only [binOp, Op.equal, Op.maxDepth]
  simp [hd 9999]
theorem run_ins (W : World) (es : Array MapEntry) (n : Nat) (a : Int) (v : Value) (hf : Instr.findNow (.int .i64) (.int .i64 a) es.toList 0 = some none) : (Instr.mapUpdate 75 (.map (some W.heap.size)) (.int .i64 a) v).run Try.prog (W.alloc (.map es n)) = .ok () (W.alloc (.map (es.push ⟨.int .i64 a, v, n⟩) (n + 1))) := by
  have hb : (W.alloc (.map es n)).heap[W.heap.size]? = some (.map es n) := heap_alloc_new W _
  have hs : (W.alloc (.map es n)).heap.setIfInBounds W.heap.size (.map (es.push ⟨.int .i64 a, v, n⟩) (n + 1)) = (W.alloc (.map (es.push ⟨.int .i64 a, v, n⟩) (n + 1))).heap := by
    unfold World.alloc
    apply Array.ext
    · simp
    · intro i h1 h2
      simp at h1
      by_cases e : W.heap.size = i
      · subst e; simp
      · rw [Array.getElem_setIfInBounds_ne (by simpa using h1) e, Array.getElem_push_lt (by omega), Array.getElem_push_lt (by omega)]
  simp [Instr.mapUpdate, run_underlying Try.underlying75, MapKept.run_getObj_map hb, MapKept.run_checkKey Try.underlying3 (show MapKept.IsKey (.int .i64) (.int .i64 a) from rfl), MapKept.run_findKey Try.underlying3 hf, MapKept.run_setObj_map _ hb, Result.andThen]
  exact congrArg (fun h => { W.alloc (.map es n) with heap := h }) hs
theorem run_look (W : World) (b : Nat) (es : Array MapEntry) (n : Nat) (a : Int) (v : Value) (j : Nat) (hb : W.heap[b]? = some (.map es n)) (hf : Instr.findNow (.int .i64) (.int .i64 a) es.toList 0 = some (some (j, v))) : (Instr.lookup 75 (.map (some b)) (.int .i64 a) false).run Try.prog W = .ok v W := by
  simp [Instr.lookup, run_underlying Try.underlying75, MapKept.run_getObj_map hb, MapKept.run_checkKey Try.underlying3 (show MapKept.IsKey (.int .i64) (.int .i64 a) from rfl), MapKept.run_findKey Try.underlying3 hf, Result.andThen]
def bndF (F : Nat) (T : Nat) : Value := .func (.func F) #[.pointer (some ⟨T, 0, none⟩)] #[]
def es1 (T : Nat) : Array MapEntry := #[⟨.int .i64 1, bndF 29 T, 0⟩]
def es2 (T : Nat) : Array MapEntry := #[⟨.int .i64 1, bndF 29 T, 0⟩, ⟨.int .i64 2, bndF 30 T, 1⟩]
def es3 (T : Nat) : Array MapEntry := #[⟨.int .i64 1, bndF 29 T, 0⟩, ⟨.int .i64 2, bndF 30 T, 1⟩, ⟨.int .i64 3, bndF 31 T, 2⟩]
def es4 (T : Nat) : Array MapEntry := #[⟨.int .i64 1, bndF 29 T, 0⟩, ⟨.int .i64 2, bndF 30 T, 1⟩, ⟨.int .i64 3, bndF 31 T, 2⟩, ⟨.int .i64 4, bndF 31 T, 3⟩]
theorem find_way (T alg : Nat) (h1 : 1 ≤ alg) (h4 : alg ≤ 4) : ∃ j, Instr.findNow (.int .i64) (.int .i64 (alg : Int)) (es4 T).toList 0 = some (some (j, bndF (wayF alg) T)) := by
  have c : alg = 1 ∨ alg = 2 ∨ alg = 3 ∨ alg = 4 := by omega
  rcases c with rfl | rfl | rfl | rfl
  · exact ⟨0, rfl⟩
  · exact ⟨1, rfl⟩
  · exact ⟨2, rfl⟩
  · exact ⟨3, rfl⟩
set_option maxRecDepth 100000 in
set_option maxHeartbeats 4000000 in
/-- A step, walked: R1 holds when the deed is begun, R2 behind the call of what is next, R3 when the end is told; Rq behind the way's call, Rs when what is next is laid. -/
theorem step_walk (T H hg hc nh i g4 o4 n4 c4 D nw B : Nat) (alg : Nat) (w : World) (v2 : Value) (bp : Prop) [Decidable bp] (fin is : Bool) (R : Ending → World → Prop) (R1 R2 R3 Rs : World → Prop) (Rq : Nat → Array Value → World → Prop) (l0 : List (Nat × Nat × Dn)) (Q Q2 : Int)
    (h14 : 1 ≤ alg ∧ alg ≤ 4) (t2 : w.cell? ⟨T, 2, none⟩ = some (.slice (some ⟨hg, 0, none⟩) nh hc)) (hi : (i : Int) < (nh : Int)) (t0 : w.cell? ⟨T, 0, none⟩ = some (.int .i64 alg)) (c0 : w.cell? ⟨hg, i, none⟩ = some (ptr H))
    (h0 : w.cell? ⟨H, 0, none⟩ = some (.slice (some ⟨g4, o4, none⟩) n4 c4)) (h1 : w.cell? ⟨H, 1, none⟩ = some (.int .i64 D)) (h2 : w.cell? ⟨H, 2, none⟩ = some v2) (b1 : ((D : Int) == (n4 : Int)) = false)
    (q1 : IntKind.i64.wrap ((nw : Int) + 1) = Q) (q2 : IntKind.i64.wrap ((D : Int) + 1) = Q2)
    (qb : ∀ W, (binOp .eql 33 v2 .nilFunc).run Try.prog W = .ok (.bool (decide bp)) W) (qg : ∀ W, (eqGuard .eql 33 (.tmp 28) (.const .nilFunc) v2 .nilFunc).run Try.prog W = .ok () W) (hv2 : (¬ bp ∧ ∀ W, Kp w W → R1 W) ∨ (bp ∧ ∀ W, Kp w W → Calls Try.prog (wayF alg) #[.pointer (some ⟨T, 0, none⟩), .pointer (some ⟨H, 0, none⟩)] W (fun e w' => ∃ F c, e = .returned (.func (.func F) #[] c) ∧ Kp W w' ∧ Rq F c w')))
    (HG : ∀ F c w', Rq F c w' → (∃ x, w'.cell? ⟨H, 2, none⟩ = some x) ∧ (∃ x, w'.cell? ⟨H, 5, none⟩ = some x) ∧ w'.frozen? ⟨H, 2, none⟩ = false ∧ w'.frozen? ⟨H, 5, none⟩ = false ∧ Rs ((w'.setCell ⟨H, 2, none⟩ (.func (.func F) #[] c)).setCell ⟨H, 5, none⟩ (.bool false)))
    (HT : ∀ w6, Rs w6 → ∃ tg uA un uc, (w6.cell? ⟨T, 4, none⟩ = some (.slice (some ⟨tg, 0, none⟩) nh nh) ∧ ¬ T = tg ∧ (Value.slice uA un uc).ownBlock ≠ some T) ∧ (w6.cell? ⟨T, 3, none⟩ = some (.int .i64 nw) ∧ ¬ T = tg ∧ (Value.slice uA un uc).ownBlock ≠ some T) ∧
      (w6.cell? ⟨H, 1, none⟩ = some (.int .i64 D) ∧ ¬ H = tg ∧ (Value.slice uA un uc).ownBlock ≠ some H) ∧ w6.cell? ⟨tg, i, none⟩ = some (.slice uA un uc) ∧ OW w6 B 35 eDone (.slice uA un uc) l0 ∧ tg < w6.heap.size ∧ (Value.slice uA un uc).ownBlock ≠ some tg ∧ w6.frozen? ⟨tg, i, none⟩ = false ∧ B ≤ w6.heap.size ∧
      ∀ W γ, KV (.slice uA un uc) w6 W → OW W B 35 eDone γ (l0 ++ [(i, D, ⟨nw, -1, false⟩)]) → (γ.ownBlock = (Value.slice uA un uc).ownBlock ∨ Hi w6.heap.size γ) → R1 (W.setCell ⟨tg, i, none⟩ γ))
    (HL : l0.length ≤ 4) (HR1 : ∀ a b, R1 a → Kp a b → R1 b)
    (HC : ∀ wx, R1 wx → ∃ F c, wx.cell? ⟨H, 2, none⟩ = some (.func (.func F) #[] c) ∧ Ent F ∧ Calls Try.prog F c wx (fun e w' => e = .returned (.bool fin) ∧ R2 w'))
    (HN : fin = false → ∀ wx, R2 wx → wx.cell? ⟨T, 3, none⟩ = some (.int .i64 nw) ∧ wx.frozen? ⟨T, 3, none⟩ = false ∧ R (.returned (.bool true)) (wx.setCell ⟨T, 3, none⟩ (.int .i64 Q)))
    (HF : fin = true → ∀ wx, R2 wx → ∃ tg g c len, wx.cell? ⟨T, 4, none⟩ = some (.slice (some ⟨tg, 0, none⟩) nh nh) ∧ wx.cell? ⟨tg, i, none⟩ = some (.slice (some ⟨g, 0, none⟩) len c) ∧ (D : Int) < (len : Int) ∧ wx.cell? ⟨H, 1, none⟩ = some (.int .i64 D) ∧ wx.cell? ⟨T, 3, none⟩ = some (.int .i64 nw) ∧ wx.cell? ⟨H, 5, none⟩ = some (.bool is) ∧
      (∃ x, wx.cell? ⟨g, D * 5 + 3, none⟩ = some x) ∧ (∃ x, wx.cell? ⟨g, D * 5 + 4, none⟩ = some x) ∧ (∀ k, wx.frozen? ⟨g, k, none⟩ = false) ∧ ¬ H = g ∧ ¬ T = g ∧
      ∀ W, Kp ((wx.setCell ⟨g, D * 5 + 3, none⟩ (.int .i64 nw)).setCell ⟨g, D * 5 + 4, none⟩ (.bool is)) W → R3 W)
    (HZ : ∀ wx, R3 wx → wx.cell? ⟨H, 1, none⟩ = some (.int .i64 D) ∧ (∃ x, wx.cell? ⟨H, 2, none⟩ = some x) ∧ (∀ k, wx.frozen? ⟨H, k, none⟩ = false) ∧ wx.cell? ⟨T, 3, none⟩ = some (.int .i64 nw) ∧ (∀ k, wx.frozen? ⟨T, k, none⟩ = false) ∧ ¬ T = H ∧
      R (.returned (.bool true)) (((wx.setCell ⟨H, 1, none⟩ (.int .i64 Q2)).setCell ⟨H, 2, none⟩ .nilFunc).setCell ⟨T, 3, none⟩ (.int .i64 Q))) :
    Calls Try.prog 18 #[ptr T, .int .i64 i] w R := by
  unfold ptr at *
  have HM1 : Hid ((l0.length + [((i, D, ⟨nw, -1, false⟩) : Nat × Nat × Dn)].length) * 40 ≤ 140737488355328) := hide (by simp; omega)
  have HM2 : Hid (l0.length + [((i, D, ⟨nw, -1, false⟩) : Nat × Nat × Dn)].length ≤ maxLen) := hide (by simp [maxLen]; omega)
  have HG := hide HG
  have HT := hide HT
  have HR1 := hide HR1
  have HC := hide HC
  have HN := hide HN
  have HF := hide HF
  have HZ := hide HZ
  have HV := hide hv2
  have HQ : Hid (∀ W b, W.heap[b]? = some (.map (es4 T) 4) → (Instr.lookup 75 (.map (some b)) (.int .i64 alg) false).run Try.prog W = .ok (.func (.func (wayF alg)) #[.pointer (some ⟨T, 0, none⟩)] #[]) W) := hide (fun W b hb => by
    obtain ⟨j, hj⟩ := find_way T alg h14.1 h14.2
    exact run_look W b _ 4 _ _ j hb hj)
  have HE : Hid (Ent (wayF alg)) := hide (by
    have c : alg = 1 ∨ alg = 2 ∨ alg = 3 ∨ alg = 4 := by omega
    rcases c with rfl | rfl | rfl | rfl <;> exact fun _ _ => by kernel_rfl)
  obtain ⟨F, hF⟩ : ∃ F, F = wayF alg := ⟨_, rfl⟩
  rw [← hF] at HV HQ HE
  clear hF h14 hv2 HL
  go_enter Try.func18, Try.ntmps18
  go_wp2_with fail
  go_quiet (fail)
  go_upto_if 29 with fail
  go_cut [6] from 30 to 78 (fun s6 wx => R1 wx)
  case first =>
    rcases HV.out with ⟨d1, hr⟩ | ⟨d1, HW⟩
    · have HR := hide hr
      clear hr HV
      go_wp2_with fail
      go_meet
      exact HR.out _ ((Kp.refl w).drewN)
    · have HW := hide HW
      clear HV
      go_upto_region 5 with fail
      obtain ⟨w1, hw1⟩ : ∃ w1, w1 = w.drewN nq := ⟨_, rfl⟩
      have kk1 : Kp w w1 := by rw [hw1]; exact (Kp.refl w).drewN
      rw [← hw1]
      have t0 := kk1.cell t0
      have h1 := kk1.cell h1
      have h2 := kk1.cell h2
      have HK1 := hide kk1
      have m0 : (Instr.makeMap 75 none).run Try.prog w1 = .ok (.map (some w1.heap.size)) (w1.alloc (.map #[] 0)) := rfl
      have m1 : (Instr.mapUpdate 75 (.map (some w1.heap.size)) (.int .i64 1) (.func (.func 29) #[.pointer (some ⟨T, 0, none⟩)] #[])).run Try.prog (w1.alloc (.map #[] 0)) = .ok () (w1.alloc (.map (es1 T) 1)) := run_ins w1 #[] 0 1 _ rfl
      have m2 : (Instr.mapUpdate 75 (.map (some w1.heap.size)) (.int .i64 2) (.func (.func 30) #[.pointer (some ⟨T, 0, none⟩)] #[])).run Try.prog (w1.alloc (.map (es1 T) 1)) = .ok () (w1.alloc (.map (es2 T) 2)) := run_ins w1 (es1 T) 1 2 _ rfl
      have m3 : (Instr.mapUpdate 75 (.map (some w1.heap.size)) (.int .i64 3) (.func (.func 31) #[.pointer (some ⟨T, 0, none⟩)] #[])).run Try.prog (w1.alloc (.map (es2 T) 2)) = .ok () (w1.alloc (.map (es3 T) 3)) := run_ins w1 (es2 T) 2 3 _ rfl
      have m4 : (Instr.mapUpdate 75 (.map (some w1.heap.size)) (.int .i64 4) (.func (.func 31) #[.pointer (some ⟨T, 0, none⟩)] #[])).run Try.prog (w1.alloc (.map (es3 T) 3)) = .ok () (w1.alloc (.map (es4 T) 4)) := run_ins w1 (es3 T) 3 4 _ rfl
      have m5 := HQ.out (w1.alloc (.map (es4 T) 4)) w1.heap.size (heap_alloc_new w1 _)
      have kk2 : Kp w1 (w1.alloc (.map (es4 T) 4)) := (Kp.refl w1).alloc
      have t0' := kk2.cell t0
      have HK2 := hide kk2
      clear hw1 t2 c0 b1 kk1 kk2
      go_wp2_with fail
      rw [HE.out]
      refine (HW.out _ (HK1.out.trans HK2.out)).mono ?_
      rintro e w2 ⟨F2, cc, rfl, hk2, hq⟩
      obtain ⟨⟨x2, c2⟩, ⟨x5, c5⟩, f2, f5, hs⟩ := HG.out F2 cc w2 hq
      clear m0 m1 m2 m3 m4 m5 t0' hk2 hq
      go_upto_region 7 with fail
      obtain ⟨w3, hw3⟩ : ∃ w3, w3 = (w2.setCell ⟨H, 2, none⟩ (.func (.func F2) #[] cc)).setCell ⟨H, 5, none⟩ (.bool false) := ⟨_, rfl⟩
      rw [← hw3] at hs ⊢
      clear hw3 c2 c5 f2 f5 t0 h1 h2
      obtain ⟨tg, uA, un, uc, hC4, hC3, hC1, hCU, hU, hQL, hUN, hF, hB, hS⟩ := HT.out _ hs
      have HC4 := hide hC4
      have HC3 := hide hC3
      have HC1 := hide hC1
      have HCU := hide hCU
      have HU := hide hU
      have HQL := hide hQL
      have HUN := hide hUN
      have HF' := HF
      have HF := hide hF
      have HB := hide hB
      have HS := hide hS
      clear hC4 hC3 hC1 hCU hU hQL hUN hF hB hS hs
      refine wp_region_tabG (by kernel_rfl) [(54, .pointer (some ⟨T, 0, none⟩)), (55, .pointer (some ⟨T, 0, none⟩)), (56, .pointer (some ⟨T, 4, none⟩)), (57, .slice (some ⟨tg, 0, none⟩) nh nh), (58, .int .i64 i), (59, .pointer (some ⟨T, 0, none⟩)), (60, .pointer (some ⟨T, 0, none⟩)), (61, .pointer (some ⟨T, 4, none⟩)), (62, .slice (some ⟨tg, 0, none⟩) nh nh), (63, .int .i64 i), (64, .pointer (some ⟨tg, i, none⟩)), (65, .slice uA un uc), (66, .int .i64 i), (67, .pointer (some ⟨H, 0, none⟩)), (68, .pointer (some ⟨H, 0, none⟩)), (69, .pointer (some ⟨H, 1, none⟩)), (70, .int .i64 D), (71, .pointer (some ⟨T, 0, none⟩)), (72, .pointer (some ⟨T, 0, none⟩)), (73, .pointer (some ⟨T, 3, none⟩)), (74, .int .i64 nw), (75, .agg #[.int .i64 i, .int .i64 D, .int .i64 nw, .int .i64 (-1), .bool false]), (78, .pointer (some ⟨tg, i, none⟩))] (GA w3 76 77 35 eDone (i, D, ⟨nw, -1, false⟩)) (JA w3 (.slice uA un uc) ⟨tg, i, none⟩ 11 23 25 B 35 eDone (l0 ++ [(i, D, ⟨nw, -1, false⟩)]) R1) .nilFunc (JA.start (by decide) (by decide)) (by kernel_rfl) (by kernel_rfl) ?_ ?_
      · refine ⟨?_, ?_, ?_, ?_, ?_, ?_, ?_, ?_, ?_, ?_, ?_, ?_, ?_, ?_, ?_, ?_, ?_, ?_, ?_, ?_, ?_, ?_, ?_, ?_, ?_, ?_, trivial⟩
        · intro hop L a w5 γ hs hk hl ha keep know spec
          have h0 := keep 0 (.pointer (some ⟨T, 0, none⟩)) (by kernel_rfl) rfl
          exact wpOp_value hop (wanted_none rfl) (v := .pointer (some ⟨T, 0, none⟩)) (by simp only [execOp, Act.eval, h0]; rfl) ⟨_, γ, rfl, hk.go HR1.out (Kp.refl _) 0 (by decide) (by decide), (fun d hd => by injection hd with hd; subst hd; exact ⟨tab rfl, GA.none (by decide)⟩), fun _ _ _ h => h⟩
        · intro hop L a w5 γ hs hk hl ha keep know spec
          have h54 := know 54 (.pointer (some ⟨T, 0, none⟩)) (by kernel_rfl) rfl
          exact wpOp_value hop (wanted_none rfl) (v := .pointer (some ⟨T, 0, none⟩)) (by simp only [execOp, Act.eval, h54]; rfl) ⟨_, γ, rfl, hk.go HR1.out (Kp.refl _) 1 (by decide) (by decide), (fun d hd => by injection hd with hd; subst hd; exact ⟨tab rfl, GA.none (by decide)⟩), fun _ _ _ h => h⟩
        · intro hop L a w5 γ hs hk hl ha keep know spec
          have h55 := know 55 (.pointer (some ⟨T, 0, none⟩)) (by kernel_rfl) rfl
          exact wpOp_value hop (wanted_none rfl) (v := .pointer (some ⟨T, 4, none⟩)) (by simp only [execOp, Act.eval, h55]; rfl) ⟨_, γ, rfl, hk.go HR1.out (Kp.refl _) 2 (by decide) (by decide), (fun d hd => by injection hd with hd; subst hd; exact ⟨tab rfl, GA.none (by decide)⟩), fun _ _ _ h => h⟩
        · intro hop L a w5 γ hs hk hl ha keep know spec
          have h56 := know 56 (.pointer (some ⟨T, 4, none⟩)) (by kernel_rfl) rfl
          have q := hk.cell HC4.out
          exact wpOp_value hop (wanted_none rfl) (v := .slice (some ⟨tg, 0, none⟩) nh nh) (by simp only [execOp, Act.eval, h56]; go_simp) ⟨_, γ, rfl, hk.go HR1.out (Kp.refl _) 3 (by decide) (by decide), (fun d hd => by injection hd with hd; subst hd; exact ⟨tab rfl, GA.none (by decide)⟩), fun _ _ _ h => h⟩
        · intro hop L a w5 γ hs hk hl ha keep know spec
          have h1 := keep 1 (.int .i64 i) (by kernel_rfl) rfl
          exact wpOp_value hop (wanted_none rfl) (v := .int .i64 i) (by simp only [execOp, Act.eval, h1]; rfl) ⟨_, γ, rfl, hk.go HR1.out (Kp.refl _) 4 (by decide) (by decide), (fun d hd => by injection hd with hd; subst hd; exact ⟨tab rfl, GA.none (by decide)⟩), fun _ _ _ h => h⟩
        · intro hop L a w5 γ hs hk hl ha keep know spec
          have h0 := keep 0 (.pointer (some ⟨T, 0, none⟩)) (by kernel_rfl) rfl
          exact wpOp_value hop (wanted_none rfl) (v := .pointer (some ⟨T, 0, none⟩)) (by simp only [execOp, Act.eval, h0]; rfl) ⟨_, γ, rfl, hk.go HR1.out (Kp.refl _) 5 (by decide) (by decide), (fun d hd => by injection hd with hd; subst hd; exact ⟨tab rfl, GA.none (by decide)⟩), fun _ _ _ h => h⟩
        · intro hop L a w5 γ hs hk hl ha keep know spec
          have h59 := know 59 (.pointer (some ⟨T, 0, none⟩)) (by kernel_rfl) rfl
          exact wpOp_value hop (wanted_none rfl) (v := .pointer (some ⟨T, 0, none⟩)) (by simp only [execOp, Act.eval, h59]; rfl) ⟨_, γ, rfl, hk.go HR1.out (Kp.refl _) 6 (by decide) (by decide), (fun d hd => by injection hd with hd; subst hd; exact ⟨tab rfl, GA.none (by decide)⟩), fun _ _ _ h => h⟩
        · intro hop L a w5 γ hs hk hl ha keep know spec
          have h60 := know 60 (.pointer (some ⟨T, 0, none⟩)) (by kernel_rfl) rfl
          exact wpOp_value hop (wanted_none rfl) (v := .pointer (some ⟨T, 4, none⟩)) (by simp only [execOp, Act.eval, h60]; rfl) ⟨_, γ, rfl, hk.go HR1.out (Kp.refl _) 7 (by decide) (by decide), (fun d hd => by injection hd with hd; subst hd; exact ⟨tab rfl, GA.none (by decide)⟩), fun _ _ _ h => h⟩
        · intro hop L a w5 γ hs hk hl ha keep know spec
          have h61 := know 61 (.pointer (some ⟨T, 4, none⟩)) (by kernel_rfl) rfl
          have q := hk.cell HC4.out
          exact wpOp_value hop (wanted_none rfl) (v := .slice (some ⟨tg, 0, none⟩) nh nh) (by simp only [execOp, Act.eval, h61]; go_simp) ⟨_, γ, rfl, hk.go HR1.out (Kp.refl _) 8 (by decide) (by decide), (fun d hd => by injection hd with hd; subst hd; exact ⟨tab rfl, GA.none (by decide)⟩), fun _ _ _ h => h⟩
        · intro hop L a w5 γ hs hk hl ha keep know spec
          have h1 := keep 1 (.int .i64 i) (by kernel_rfl) rfl
          exact wpOp_value hop (wanted_none rfl) (v := .int .i64 i) (by simp only [execOp, Act.eval, h1]; rfl) ⟨_, γ, rfl, hk.go HR1.out (Kp.refl _) 9 (by decide) (by decide), (fun d hd => by injection hd with hd; subst hd; exact ⟨tab rfl, GA.none (by decide)⟩), fun _ _ _ h => h⟩
        · intro hop L a w5 γ hs hk hl ha keep know spec
          have h62 := know 62 (.slice (some ⟨tg, 0, none⟩) nh nh) (by kernel_rfl) rfl
          have h63 := know 63 (.int .i64 i) (by kernel_rfl) rfl
          exact wpOp_value hop (wanted_none rfl) (v := .pointer (some ⟨tg, i, none⟩)) (by simp only [execOp, Act.eval, h62, h63]; go_simp) ⟨_, γ, rfl, hk.go HR1.out (Kp.refl _) 10 (by decide) (by decide), (fun d hd => by injection hd with hd; subst hd; exact ⟨tab rfl, GA.none (by decide)⟩), fun _ _ _ h => h⟩
        · intro hop L a w5 γ hs hk hl ha keep know spec
          have h64 := know 64 (.pointer (some ⟨tg, i, none⟩)) (by kernel_rfl) rfl
          have q := hk.load hl HCU.out
          exact wpOp_value hop (wanted_none rfl) (v := .slice uA un uc) (by simp only [execOp, Act.eval, h64]; go_simp) ⟨_, γ, rfl, hk.go HR1.out (Kp.refl _) 11 (by decide) (by decide), (fun d hd => by injection hd with hd; subst hd; exact ⟨tab rfl, GA.none (by decide)⟩), fun _ _ _ h => h⟩
        · intro hop L a w5 γ hs hk hl ha keep know spec
          have h1 := keep 1 (.int .i64 i) (by kernel_rfl) rfl
          exact wpOp_value hop (wanted_none rfl) (v := .int .i64 i) (by simp only [execOp, Act.eval, h1]; rfl) ⟨_, γ, rfl, hk.go HR1.out (Kp.refl _) 12 (by decide) (by decide), (fun d hd => by injection hd with hd; subst hd; exact ⟨tab rfl, GA.none (by decide)⟩), fun _ _ _ h => h⟩
        · intro hop L a w5 γ hs hk hl ha keep know spec
          have h5 := keep 5 (.pointer (some ⟨H, 0, none⟩)) (by kernel_rfl) rfl
          exact wpOp_value hop (wanted_none rfl) (v := .pointer (some ⟨H, 0, none⟩)) (by simp only [execOp, Act.eval, h5]; rfl) ⟨_, γ, rfl, hk.go HR1.out (Kp.refl _) 13 (by decide) (by decide), (fun d hd => by injection hd with hd; subst hd; exact ⟨tab rfl, GA.none (by decide)⟩), fun _ _ _ h => h⟩
        · intro hop L a w5 γ hs hk hl ha keep know spec
          have h67 := know 67 (.pointer (some ⟨H, 0, none⟩)) (by kernel_rfl) rfl
          exact wpOp_value hop (wanted_none rfl) (v := .pointer (some ⟨H, 0, none⟩)) (by simp only [execOp, Act.eval, h67]; rfl) ⟨_, γ, rfl, hk.go HR1.out (Kp.refl _) 14 (by decide) (by decide), (fun d hd => by injection hd with hd; subst hd; exact ⟨tab rfl, GA.none (by decide)⟩), fun _ _ _ h => h⟩
        · intro hop L a w5 γ hs hk hl ha keep know spec
          have h68 := know 68 (.pointer (some ⟨H, 0, none⟩)) (by kernel_rfl) rfl
          exact wpOp_value hop (wanted_none rfl) (v := .pointer (some ⟨H, 1, none⟩)) (by simp only [execOp, Act.eval, h68]; rfl) ⟨_, γ, rfl, hk.go HR1.out (Kp.refl _) 15 (by decide) (by decide), (fun d hd => by injection hd with hd; subst hd; exact ⟨tab rfl, GA.none (by decide)⟩), fun _ _ _ h => h⟩
        · intro hop L a w5 γ hs hk hl ha keep know spec
          have h69 := know 69 (.pointer (some ⟨H, 1, none⟩)) (by kernel_rfl) rfl
          have q := hk.cell HC1.out
          exact wpOp_value hop (wanted_none rfl) (v := .int .i64 D) (by simp only [execOp, Act.eval, h69]; go_simp) ⟨_, γ, rfl, hk.go HR1.out (Kp.refl _) 16 (by decide) (by decide), (fun d hd => by injection hd with hd; subst hd; exact ⟨tab rfl, GA.none (by decide)⟩), fun _ _ _ h => h⟩
        · intro hop L a w5 γ hs hk hl ha keep know spec
          have h0 := keep 0 (.pointer (some ⟨T, 0, none⟩)) (by kernel_rfl) rfl
          exact wpOp_value hop (wanted_none rfl) (v := .pointer (some ⟨T, 0, none⟩)) (by simp only [execOp, Act.eval, h0]; rfl) ⟨_, γ, rfl, hk.go HR1.out (Kp.refl _) 17 (by decide) (by decide), (fun d hd => by injection hd with hd; subst hd; exact ⟨tab rfl, GA.none (by decide)⟩), fun _ _ _ h => h⟩
        · intro hop L a w5 γ hs hk hl ha keep know spec
          have h71 := know 71 (.pointer (some ⟨T, 0, none⟩)) (by kernel_rfl) rfl
          exact wpOp_value hop (wanted_none rfl) (v := .pointer (some ⟨T, 0, none⟩)) (by simp only [execOp, Act.eval, h71]; rfl) ⟨_, γ, rfl, hk.go HR1.out (Kp.refl _) 18 (by decide) (by decide), (fun d hd => by injection hd with hd; subst hd; exact ⟨tab rfl, GA.none (by decide)⟩), fun _ _ _ h => h⟩
        · intro hop L a w5 γ hs hk hl ha keep know spec
          have h72 := know 72 (.pointer (some ⟨T, 0, none⟩)) (by kernel_rfl) rfl
          exact wpOp_value hop (wanted_none rfl) (v := .pointer (some ⟨T, 3, none⟩)) (by simp only [execOp, Act.eval, h72]; rfl) ⟨_, γ, rfl, hk.go HR1.out (Kp.refl _) 19 (by decide) (by decide), (fun d hd => by injection hd with hd; subst hd; exact ⟨tab rfl, GA.none (by decide)⟩), fun _ _ _ h => h⟩
        · intro hop L a w5 γ hs hk hl ha keep know spec
          have h73 := know 73 (.pointer (some ⟨T, 3, none⟩)) (by kernel_rfl) rfl
          have q := hk.cell HC3.out
          exact wpOp_value hop (wanted_none rfl) (v := .int .i64 nw) (by simp only [execOp, Act.eval, h73]; go_simp) ⟨_, γ, rfl, hk.go HR1.out (Kp.refl _) 20 (by decide) (by decide), (fun d hd => by injection hd with hd; subst hd; exact ⟨tab rfl, GA.none (by decide)⟩), fun _ _ _ h => h⟩
        · intro hop L a w5 γ hs hk hl ha keep know spec
          have h66 := know 66 (.int .i64 i) (by kernel_rfl) rfl
          have h70 := know 70 (.int .i64 D) (by kernel_rfl) rfl
          have h74 := know 74 (.int .i64 nw) (by kernel_rfl) rfl
          exact wpOp_value hop (wanted_none rfl) (v := .agg #[.int .i64 i, .int .i64 D, .int .i64 nw, .int .i64 (-1), .bool false]) (by simp only [execOp, Act.eval, List.map_toArray, List.map_cons, List.map_nil, h66, h70, h74]; go_simp) ⟨_, γ, rfl, hk.go HR1.out (Kp.refl _) 21 (by decide) (by decide), (fun d hd => by injection hd with hd; subst hd; exact ⟨tab rfl, GA.none (by decide)⟩), fun _ _ _ h => h⟩
        · intro hop L a w5 γ hs hk hl ha keep know spec
          have h75 := know 75 (.agg #[.int .i64 i, .int .i64 D, .int .i64 nw, .int .i64 (-1), .bool false]) (by kernel_rfl) rfl
          exact wpOp_value hop (wanted_none rfl) (v := .slice (some ⟨w5.heap.size, 0, none⟩) 1 1) (w' := w5.alloc (.cells #[.int .i64 i, .int .i64 D, .int .i64 nw, .int .i64 (-1), .bool false] 35)) (by simp only [execOp, Act.eval, List.map_toArray, List.map_cons, List.map_nil, h75]; go_simp) ⟨_, γ, rfl, hk.go HR1.out (Kp.refl _).alloc 22 (by decide) (by decide), (fun d hd => by injection hd with hd; subst hd; exact ⟨tab_none rfl, ⟨fun _ => ⟨_, rfl, hk.k2.size, BC.new w5 _ [.int .i64 i, .int .i64 D, .int .i64 nw, .int .i64 (-1), .bool false]⟩, fun e => by omega⟩⟩), fun _ _ _ h => h.kp (Kp.refl _).alloc⟩
        · intro hop L a w5 γ hs hk hl ha keep know spec
          have h65 := know 65 (.slice uA un uc) (by kernel_rfl) rfl
          obtain ⟨b, e76, hb, bc⟩ := (spec 76 (by kernel_rfl)).1 rfl
          have how := HU.out.kp (hk.k1 hl)
          obtain ⟨v', w', hr, hov, hgr, hat⟩ := run_app (P := Try.prog) 26 row_done how (rd_blk (x := ((i, D, ⟨nw, -1, false⟩) : Nat × Nat × Dn)) bc) HM1.out HM2.out (Nat.le_trans HB.out (hk.k1 hl).size)
          exact wpOp_value hop (wanted_none rfl) (v := v') (w' := w') (run_exec_app (.tmp 65) (.tmp 76) rfl h65 e76 hr) ⟨_, v', rfl, hk.app hl (after_done ha (k := 11) (by kernel_rfl)) (by decide) (by decide) HU.out hgr hov hat, (fun d hd => by injection hd with hd; subst hd; exact ⟨tab_none rfl, ⟨fun e => by omega, fun _ => rfl⟩⟩), fun j u hd h => h.app (fun e => hd (by rw [e])) HU.out hgr⟩
        · intro hop L a w5 γ hs hk hl ha keep know spec
          have h57 := know 57 (.slice (some ⟨tg, 0, none⟩) nh nh) (by kernel_rfl) rfl
          have h58 := know 58 (.int .i64 i) (by kernel_rfl) rfl
          exact wpOp_value hop (wanted_none rfl) (v := .pointer (some ⟨tg, i, none⟩)) (by simp only [execOp, Act.eval, h57, h58]; go_simp) ⟨_, γ, rfl, hk.go HR1.out (Kp.refl _) 24 (by decide) (by decide), (fun d hd => by injection hd with hd; subst hd; exact ⟨tab rfl, GA.none (by decide)⟩), fun _ _ _ h => h⟩
        · intro hop L a w5 γ hs hk hl ha keep know spec
          have h78 := know 78 (.pointer (some ⟨tg, i, none⟩)) (by kernel_rfl) rfl
          have hG := (spec 77 (by kernel_rfl)).2 rfl
          obtain ⟨q, f, ⟨xA, xn, xc, e⟩, hj⟩ := hk.store hl (after_done ha (k := 23) (by kernel_rfl)) (by decide) HQL.out HUN.out HCU.out HF.out HS.out
          subst e
          exact wpOp_skip hop (wanted_none rfl) (w' := w5.setCell ⟨tg, i, none⟩ (.slice xA xn xc)) (by simp only [execOp, Act.eval, h78, hG]; go_simp) ⟨_, _, rfl, hj, (fun d hd => by cases hd), fun _ _ _ h => h.far HQL.out⟩
      · intro a' w9 γ' e1 e2 hk keep know spec
        obtain ⟨tm, df⟩ := a'
        obtain ⟨f9, hf⟩ := frame_puts (D := [54, 55, 56, 57, 58, 59, 60, 61, 62, 63, 64, 65, 66, 67, 68, 69, 70, 71, 72, 73, 74, 75, 76, 77, 78]) e2 keep
        have e1' : df = [] := e1
        clear keep know spec e1 e2
        simp only [List.foldl_cons, List.foldl_nil, List.setIfInBounds_toArray, List.set_cons_zero, List.set_cons_succ] at hf
        subst e1'
        rw [hf]
        clear hf
        have hr := hk.k4 (getR_true _ _)
        clear hk
        have HR := hide hr
        clear hr
        go_wp2_with fail
        go_meet
        exact HR.out
  case rest =>
    obtain ⟨F3, cc, c2, hE3, hC⟩ := HC.out _ hcut
    have HE3 := hide hE3
    have HC3 := hide hC
    clear hcut hE3 hC t0 t2 c0 h0 h1 h2 qb qg b1 HV HQ HE HG HT
    go_wp2_with fail
    rw [HE3.out]
    refine HC3.out.mono ?_
    rintro e w1 ⟨rfl, hr2⟩
    cases fin with
    | false =>
      obtain ⟨x3, f3, hR⟩ := HN.out rfl _ hr2
      have HR := hide hR
      clear hr2 hR c2 HN HF HZ q2
      go_wp2
      exact HR.out
    | true =>
      obtain ⟨tg, g, cq, len, x4, y1, hlen, x1, x3, x5, ⟨z3, y3⟩, ⟨z4, y4⟩, hfz, n1, n2, hK⟩ := HF.out rfl _ hr2
      have HK := hide hK
      have f3 := hfz (D * 5 + 3)
      have f4 := hfz (D * 5 + 4)
      clear hr2 hK c2 HN HF hfz
      go_wp2_with fail
      go_quiet (fail)
      go_upto_region 10 with fail
      obtain ⟨w2, hw2⟩ : ∃ w2, w2 = w1.drewN nq := ⟨_, rfl⟩
      rw [← hw2]
      have k2 : Kp w1 w2 := by rw [hw2]; exact (Kp.refl w1).drewN
      have HK2 : Hid (∀ W, Kp ((w2.setCell ⟨g, D * 5 + 3, none⟩ (.int .i64 nw)).setCell ⟨g, D * 5 + 4, none⟩ (.bool is)) W → R3 W) := hide (fun W k => HK.out W (Kp.trans (Kp.drewN (n := nq) (Kp.refl _)) (by rw [hw2] at k; exact k)))
      have x3 := k2.cell x3
      have x5 := k2.cell x5
      have y3 := k2.cell y3
      have y4 := k2.cell y4
      have f3 : w2.frozen? ⟨g, D * 5 + 3, none⟩ = false := by rw [hw2]; exact f3
      have f4 : w2.frozen? ⟨g, D * 5 + 4, none⟩ = false := by rw [hw2]; exact f4
      clear hw2 k2 HK x4 y1 x1 hlen
      go_region_law (fail)
      all_goals
        have r3 := HK2.out _ ((Kp.refl _).drew)
        generalize ((w2.setCell ⟨g, D * 5 + 3, none⟩ (.int .i64 nw)).setCell ⟨g, D * 5 + 4, none⟩ (.bool is)).drew = w3 at r3 ⊢
        obtain ⟨x11, ⟨x2, x12⟩, hf1, x13, hf2, n9, hR⟩ := HZ.out _ r3
        have g1 := hf1 1
        have g2 := hf1 2
        have g3 := hf2 3
        have HR := hide hR
        clear r3 hf1 hf2 hR HK2 x3 x5 y3 y4 f3 f4
        go_wp2
        exact HR.out
end Go.Proofs.Ytoihdnekkgpcoaa
namespace Go.Proofs.Ytoihdnekkgpcoaa
open Go.ChangeShapes Go.WideShapes Go.ChangeAt Go.RowKit
set_option linter.unusedVariables false
set_option linter.unusedSimpArgs false

/-- A hand between deeds, or within one. -/
def GH (L : Lay) (s : St) (dv : Nat → Value) (i : Nat) : Prop :=
  (dv i = .nilFunc ∧ s.hd i = hd0 ∧ (s.told i).length = s.deed i) ∨ (dv i ≠ .nilFunc ∧ DD L i (s.hd i).plc (dv i) ∧ (s.told i).length = s.deed i + 1)
structure SN (P : List (List Dd)) (l : List Int) (L : Lay) (s : St) (dv : Nat → Value) (w : World) : Prop where
  wn : WN L s dv w
  ok : OkIn l P
  inv : WInv L.alg P l s
  alg : 1 ≤ L.alg ∧ L.alg ≤ 4
  nh : L.nh = P.length
  pp : ∀ i, i < L.nh → P[i]? = some (L.P i)
  dl : ∀ i, s.deed i ≤ ndl P i
  gh : ∀ i, i < L.nh → GH L s dv i
variable {P : List (List Dd)} {l : List Int} {L : Lay} {s : St} {dv : Nat → Value} {w w' : World}
theorem SN.kpw (h : SN P l L s dv w) (k : Kp w w') : SN P l L s dv w' := ⟨h.wn.kpw k, h.ok, h.inv, h.alg, h.nh, h.pp, h.dl, h.gh⟩
theorem SN.ndl (h : SN P l L s dv w) {i : Nat} (hi : i < L.nh) : ndl P i = (L.P i).length := by
  unfold Go.Proofs.Ytoihdnekkgpcoaa.ndl; rw [h.pp i hi]; rfl
theorem SN.deed (h : SN P l L s dv w) {i : Nat} (hi : i < L.nh) (hc : can P s i = true) : (L.P i)[s.deed i]? = some (dd P i (s.deed i)) := by
  have h1 := can_iff.1 hc
  rw [h.ndl hi] at h1
  unfold dd
  rw [h.pp i hi]
  simp [h1]
theorem GH.ex {L' : Lay} {n : Nat} {s' : St} {dv' : Nat → Value} {j : Nat} (h : GH L s dv j) (x : ExL L L' n) (e1 : dv' j = dv j) (e2 : s'.hd j = s.hd j) (e3 : s'.deed j = s.deed j) (e4 : s'.told j = s.told j) : GH L' s' dv' j := by
  unfold GH
  rw [e1, e2, e3, e4]
  rcases h with ⟨a, b, c⟩ | ⟨a, b, c⟩
  · exact .inl ⟨a, b, c⟩
  · exact .inr ⟨a, b.ex x, c⟩
theorem toldE_len (t : List Dn) (k n : Nat) (b : Bool) : (toldE t k n b).length = t.length := by simp [toldE]
theorem up2 {α : Type} (f : Nat → α) (i : Nat) (x y : α) : up (up f i x) i y = up f i y := by funext j; unfold up; split <;> rfl
theorem wrap_suc (n : Nat) (h : n < 1000000) : IntKind.i64.wrap ((n : Int) + 1) = ((n + 1 : Nat) : Int) := by
  have e : ((n + 1 : Nat) : Int) = (n : Int) + 1 := by omega
  rw [e]
  exact IntWalk.i64_in _ (by omega)
set_option maxHeartbeats 1000000 in
theorem step_yes (h : SN P l L s dv w) {i : Nat} (hi : i < L.nh) (hc : can P s i = true) (hn : s.now < 100000) :
    Calls Try.prog 18 #[ptr L.T, .int .i64 i] w (fun e w' => e = .returned (.bool true) ∧ ∃ L' dv', ExL L L' s.m.n ∧ SN P l L' (stp L.alg (dd P i (s.deed i)) s i) dv' w') := by
  have hd := h.deed hi hc
  have hlt : s.deed i < ndl P i := can_iff.1 hc
  have h4 := h.ok.ndl i
  obtain ⟨g4, o4, n4, c4, e4, hq4, -, -⟩ := h.wn.prog hi hd
  obtain ⟨pv, cv, bb, a0, a1, a2, a3, a3', a5, afz, alt, ap, ais⟩ := h.wn.hand hi
  obtain ⟨s1', s2', s3', s4'⟩ := h.wn.hs (by omega)
  have hdl : (s.told i).length = s.deed i ∨ (s.told i).length = s.deed i + 1 := by
    rcases h.gh i hi with ⟨_, _, c⟩ | ⟨_, _, c⟩
    · exact .inl c
    · exact .inr c
  have hTB := toldB_len (s := s) (i := i) (by omega)
  obtain ⟨d, hdd⟩ : ∃ d, d = dd P i (s.deed i) := ⟨_, rfl⟩
  obtain ⟨r, hr⟩ : ∃ r, r = algS L.alg s.m (s.hd i) d := ⟨_, rfl⟩
  -- behind the call: what the end of a step must know
  have fin : ∀ (L1 : Lay) (dv1 : Nat → Value) (t : List Dn) (hd1 : Hd) (k1 : Nat) (wx : World), ExL L L1 s.m.n → WN L1 { m := r.1, hd := up s.hd i hd1, deed := up s.deed i k1, told := up s.told i t, now := s.now + 1 } dv1 wx →
      stp L.alg d s i = { m := r.1, hd := up s.hd i hd1, deed := up s.deed i k1, told := up s.told i t, now := s.now + 1 } → (∀ j, j ≠ i → dv1 j = dv j) →
      ((dv1 i = .nilFunc ∧ hd1 = hd0 ∧ t.length = k1 ∧ k1 ≤ s.deed i + 1) ∨ (dv1 i ≠ .nilFunc ∧ DD L1 i hd1.plc (dv1 i) ∧ t.length = k1 + 1 ∧ k1 ≤ s.deed i)) →
      ∃ L' dv', ExL L L' s.m.n ∧ SN P l L' (stp L.alg d s i) dv' wx := by
    intro L1 dv1 t hd1 k1 wx x hw es ho hcase
    refine ⟨L1, dv1, x, ?_⟩
    have hinv := WInv.step h.ok h.inv i hc
    rw [← hdd] at hinv
    rw [es] at hinv ⊢
    refine ⟨hw, h.ok, by rw [x.alg]; exact hinv, by rw [x.alg]; exact h.alg, x.nh.trans h.nh, fun j hj => by rw [x.P]; exact h.pp j (by rw [← x.nh]; exact hj), fun j => ?_, fun j hj => ?_⟩
    · show up s.deed i k1 j ≤ _
      by_cases e : j = i
      · subst e; rw [up_same]; rcases hcase with ⟨_, _, _, c⟩ | ⟨_, _, _, c⟩ <;> omega
      · rw [up_ne _ _ e]; exact h.dl j
    · by_cases e : j = i
      · subst e
        unfold GH
        show (dv1 j = .nilFunc ∧ up s.hd j hd1 j = hd0 ∧ (up s.told j t j).length = up s.deed j k1 j) ∨ (dv1 j ≠ .nilFunc ∧ DD L1 j (up s.hd j hd1 j).plc (dv1 j) ∧ (up s.told j t j).length = up s.deed j k1 j + 1)
        rw [up_same, up_same, up_same]
        rcases hcase with ⟨a, b, c, _⟩ | ⟨a, b, c, _⟩
        · exact .inl ⟨a, b, c⟩
        · exact .inr ⟨a, b, c⟩
      · exact (h.gh j (by rw [← x.nh]; exact hj)).ex x (ho j e) (up_ne _ _ e) (up_ne _ _ e) (up_ne _ _ e)
  rw [← hdd]
  -- the three states
  obtain ⟨R1, hR1⟩ : ∃ R1 : World → Prop, R1 = fun wx => ∃ L1 dv1, ExL L L1 s.m.n ∧ WN L1 { s with told := up s.told i (toldB s i) } dv1 wx ∧ dv1 i ≠ .nilFunc ∧ DD L1 i (s.hd i).plc (dv1 i) ∧ ∀ j, j ≠ i → dv1 j = dv j := ⟨_, rfl⟩
  obtain ⟨R2, hR2⟩ : ∃ R2 : World → Prop, R2 = fun wx => ∃ L1 dv1, ExL L L1 s.m.n ∧ WN L1 { m := r.1, hd := up s.hd i r.2.1, deed := s.deed, told := up s.told i (toldB s i), now := s.now } dv1 wx ∧ dv1 i ≠ .nilFunc ∧ (r.2.2 = false → DD L1 i r.2.1.plc (dv1 i)) ∧ ∀ j, j ≠ i → dv1 j = dv j := ⟨_, rfl⟩
  obtain ⟨R3, hR3⟩ : ∃ R3 : World → Prop, R3 = fun wx => ∃ L1 dv1, ExL L L1 s.m.n ∧ WN L1 { m := r.1, hd := up s.hd i r.2.1, deed := s.deed, told := up s.told i (toldE (toldB s i) (s.deed i) s.now r.2.1.is), now := s.now } dv1 wx ∧ dv1 i ≠ .nilFunc ∧ ∀ j, j ≠ i → dv1 j = dv j := ⟨_, rfl⟩
  have HR1 : ∀ a b, R1 a → Kp a b → R1 b := by
    rw [hR1]
    rintro a b ⟨L1, dv1, x, hw, y⟩ k
    exact ⟨L1, dv1, x, hw.kpw k, y⟩
  have HC : ∀ wx, R1 wx → ∃ F c, wx.cell? ⟨L.Hb i, 2, none⟩ = some (.func (.func F) #[] c) ∧ Ent F ∧ Calls Try.prog F c wx (fun e w' => e = .returned (.bool r.2.2) ∧ R2 w') := by
    rw [hR1, hR2]
    rintro wx ⟨L1, dv1, x, hw, hne, hD, ho⟩
    obtain ⟨F, c, e1, e2, e3⟩ := do_any (P := P) (l := l) hw h.ok (by rw [x.alg]; exact h.inv) (by rw [x.nh]; exact hi) (by rw [x.P]; exact hd) hD
    obtain ⟨_, _, _, _, _, b2, _⟩ := hw.hand (i := i) (by rw [x.nh]; exact hi)
    rw [x.Hb, e1] at b2
    refine ⟨F, c, b2, e2, (e3 wx (Kp.refl _)).mono ?_⟩
    rintro e w' ⟨q1, L2, dv2, x2, hw2, o2, n2, d2⟩
    rw [x.alg, ← hdd, ← hr] at q1 hw2 d2
    exact ⟨q1, L2, dv2, x.trans x2.ex (Nat.le_refl _), hw2, n2, d2, fun j hj => (o2 j hj).trans (ho j hj)⟩
  have HN : r.2.2 = false → ∀ wx, R2 wx → wx.cell? ⟨L.T, 3, none⟩ = some (.int .i64 s.now) ∧ wx.frozen? ⟨L.T, 3, none⟩ = false ∧ (Ending.returned (.bool true) = .returned (.bool true) ∧ ∃ L' dv', ExL L L' s.m.n ∧ SN P l L' (stp L.alg d s i) dv' (wx.setCell ⟨L.T, 3, none⟩ (.int .i64 ((s.now + 1 : Nat) : Int)))) := by
    rw [hR2]
    rintro hf wx ⟨L1, dv1, x, hw, hne, hD, ho⟩
    have t3 : wx.cell? ⟨L1.T, 3, none⟩ = some (.int .i64 s.now) := hw.tb.1.cell 3
    have f3 := hw.tb.1.frozen 3
    have hw2 := hw.setnow (s.now + 1)
    rw [x.T] at t3 f3 hw2
    refine ⟨t3, f3, rfl, fin L1 dv1 (toldB s i) r.2.1 (s.deed i) _ x ?_ ?_ ho (.inr ⟨hne, hD hf, hTB, Nat.le_refl _⟩)⟩
    · rw [show up s.deed i (s.deed i) = s.deed from up_self _ _]; exact hw2
    · unfold stp; rw [← hr]; simp [hf, up_self]
  have HF : r.2.2 = true → ∀ wx, R2 wx → ∃ tg g c len, wx.cell? ⟨L.T, 4, none⟩ = some (.slice (some ⟨tg, 0, none⟩) L.nh L.nh) ∧ wx.cell? ⟨tg, i, none⟩ = some (.slice (some ⟨g, 0, none⟩) len c) ∧ (s.deed i : Int) < (len : Int) ∧ wx.cell? ⟨L.Hb i, 1, none⟩ = some (.int .i64 (s.deed i)) ∧ wx.cell? ⟨L.T, 3, none⟩ = some (.int .i64 s.now) ∧ wx.cell? ⟨L.Hb i, 5, none⟩ = some (.bool r.2.1.is) ∧
      (∃ x, wx.cell? ⟨g, s.deed i * 5 + 3, none⟩ = some x) ∧ (∃ x, wx.cell? ⟨g, s.deed i * 5 + 4, none⟩ = some x) ∧ (∀ k, wx.frozen? ⟨g, k, none⟩ = false) ∧ ¬ L.Hb i = g ∧ ¬ L.T = g ∧
      ∀ W, Kp ((wx.setCell ⟨g, s.deed i * 5 + 3, none⟩ (.int .i64 s.now)).setCell ⟨g, s.deed i * 5 + 4, none⟩ (.bool r.2.1.is)) W → R3 W := by
    rw [hR2, hR3]
    rintro hf wx ⟨L1, dv1, x, hw, hne, hD, ho⟩
    have hi1 : i < L1.nh := by rw [x.nh]; exact hi
    have hlen : s.deed i < (up s.told i (toldB s i) i).length := by rw [up_same, hTB]; omega
    obtain ⟨g, c, z0, z3, z4, zf, zl, zn, zw⟩ := hw.setfin hi1 (k := s.deed i) hlen s.now r.2.1.is
    obtain ⟨_, _, bb1, _, y1, _, _, _, y5, _, _, _, yis⟩ := hw.hand hi1
    have t3 : wx.cell? ⟨L1.T, 3, none⟩ = some (.int .i64 s.now) := hw.tb.1.cell 3
    have t4 : wx.cell? ⟨L1.T, 4, none⟩ = some L1.tov := hw.tb.1.cell 4
    obtain ⟨u1, -⟩ := hw.td (by omega)
    obtain ⟨_, _, _, hbc, _⟩ := hw.hn i hi1
    have n1 := zn _ _ _ hbc (by decide)
    have n2 := zn _ _ _ hw.tb.1 (by decide)
    rw [u1, x.nh] at t4
    rw [x.T] at t3 t4 n2
    rw [x.Hb] at y1 y5 n1
    rw [yis hne] at y5
    have e5 : (up s.hd i r.2.1 i).is = r.2.1.is := by rw [up_same]
    refine ⟨L1.tg, g, c, _, t4, z0, by show (s.deed i : Int) < _; exact Int.ofNat_lt.2 hlen, y1, t3, by rw [y5]; exact congrArg (fun b => some (Value.bool b)) e5, z3, z4, zf, n1, n2, fun W k => ?_⟩
    refine ⟨L1, dv1, x, ?_, hne, ho⟩
    have z2 := zw.kpw k
    have z2 : WN L1 { m := r.1, hd := up s.hd i r.2.1, deed := s.deed, told := up (up s.told i (toldB s i)) i (toldE (up s.told i (toldB s i) i) (s.deed i) s.now r.2.1.is), now := s.now } dv1 W := z2
    rw [up_same, up2] at z2
    exact z2
  have HZ : r.2.2 = true → ∀ wx, R3 wx → wx.cell? ⟨L.Hb i, 1, none⟩ = some (.int .i64 (s.deed i)) ∧ (∃ x, wx.cell? ⟨L.Hb i, 2, none⟩ = some x) ∧ (∀ k, wx.frozen? ⟨L.Hb i, k, none⟩ = false) ∧ wx.cell? ⟨L.T, 3, none⟩ = some (.int .i64 s.now) ∧ (∀ k, wx.frozen? ⟨L.T, k, none⟩ = false) ∧ ¬ L.T = L.Hb i ∧
      (Ending.returned (.bool true) = .returned (.bool true) ∧ ∃ L' dv', ExL L L' s.m.n ∧ SN P l L' (stp L.alg d s i) dv' (((wx.setCell ⟨L.Hb i, 1, none⟩ (.int .i64 ((s.deed i + 1 : Nat) : Int))).setCell ⟨L.Hb i, 2, none⟩ .nilFunc).setCell ⟨L.T, 3, none⟩ (.int .i64 ((s.now + 1 : Nat) : Int)))) := by
    rw [hR3]
    rintro hf wx ⟨L1, dv1, x, hw, hne, ho⟩
    have hi1 : i < L1.nh := by rw [x.nh]; exact hi
    obtain ⟨_, _, _, _, y1, y2, _, _, _, yf, _, _, _⟩ := hw.hand hi1
    have t3 : wx.cell? ⟨L1.T, 3, none⟩ = some (.int .i64 s.now) := hw.tb.1.cell 3
    have ft := fun k => hw.tb.1.frozen k
    obtain ⟨_, _, _, hbc, _⟩ := hw.hn i hi1
    have n1 : ¬ L1.T = L1.Hb i := BC.ne hw.tb.1 hbc (by decide)
    have hw2 := (hw.setend hi1).setnow (s.now + 1)
    have hw2 : WN L1 { m := r.1, hd := up (up s.hd i r.2.1) i hd0, deed := up s.deed i (s.deed i + 1), told := up s.told i (toldE (toldB s i) (s.deed i) s.now r.2.1.is), now := s.now + 1 } (up dv1 i .nilFunc) _ := hw2
    rw [up2] at hw2
    rw [x.T] at t3 ft n1 hw2
    rw [x.Hb] at y1 y2 yf n1 hw2
    refine ⟨y1, ⟨_, y2⟩, yf, t3, ft, n1, rfl, fin L1 _ _ hd0 (s.deed i + 1) _ x hw2 ?_ (fun j hj => (up_ne _ _ hj).trans (ho j hj)) (.inl ⟨up_same _ _ _, rfl, by rw [toldE_len]; exact hTB, Nat.le_refl _⟩)⟩
    unfold stp; rw [← hr]; simp [hf]
  have t0 : w.cell? ⟨L.T, 0, none⟩ = some (.int .i64 L.alg) := h.wn.tb.1.cell 0
  have t2 : w.cell? ⟨L.T, 2, none⟩ = some L.hsv := h.wn.tb.1.cell 2
  rw [s1'] at t2
  rw [e4] at a0
  have c0 : w.cell? ⟨L.hg, i, none⟩ = some (ptr (L.Hb i)) := by
    rw [s4'.cell, List.getElem?_append_left (by simpa using hi)]
    simp [hi]
  have b1 : ((s.deed i : Int) == (n4 : Int)) = false := beq_eq_false_iff_ne.2 (by omega)
  have q1 : IntKind.i64.wrap ((s.now : Int) + 1) = ((s.now + 1 : Nat) : Int) := wrap_suc _ (by omega)
  have q2 : IntKind.i64.wrap ((s.deed i : Int) + 1) = ((s.deed i + 1 : Nat) : Int) := wrap_suc _ (by omega)
  rcases h.gh i hi with ⟨dn, hh, hl⟩ | ⟨dn, hD, hl⟩
  · rw [dn] at a2
    refine step_walk L.T (L.Hb i) L.hg L.hc L.nh i g4 o4 n4 c4 (s.deed i) s.now L.w0.heap.size L.alg w .nilFunc True r.2.2 r.2.1.is _ R1 R2 (fun wx => r.2.2 = true ∧ R3 wx) (fun w6 => ∃ L1 v, ExL L L1 s.m.n ∧ WN L1 s (up dv i v) w6 ∧ v ≠ .nilFunc ∧ DD L1 i 0 v) (fun F c w' => ∃ L1, ExL L L1 s.m.n ∧ WN L1 s dv w' ∧ DD L1 i 0 (clo F c)) (toldL i (s.told i)) _ _ h.alg t2 (by omega) t0 c0 a0 a1 a2 b1 q1 q2 run_nilF (fun W => by kernel_rfl) (.inr ⟨trivial, fun W k => ?_⟩) ?_ ?_ (by rw [toldL_len]; omega) HR1 HC HN (fun hf wx hx => ?_) (fun wx hx => HZ hx.1 wx hx.2)
    · refine (way_any L i L.alg rfl h.alg.1 h.alg.2 W).mono ?_
      rintro e w' ⟨v, rfl, k2, ⟨F, c, rfl⟩, hv⟩
      obtain ⟨L1, x, hw, hD⟩ := hv s dv w' (h.wn.kpw (k.trans k2)) (Kp.refl _)
      exact ⟨F, c, rfl, k2, L1, x, hw, hD⟩
    · rintro F c w' ⟨L1, x, hw, hD⟩
      have hi1 : i < L1.nh := by rw [x.nh]; exact hi
      obtain ⟨_, _, _, _, _, y2, _, _, y5, yf, _⟩ := hw.hand hi1
      have hw2 := hw.setbeg hi1 (clo F c) hh
      rw [x.Hb] at y2 y5 yf hw2
      exact ⟨⟨_, y2⟩, ⟨_, y5⟩, yf 2, yf 5, L1, clo F c, x, hw2, clo_nil _ _, hD⟩
    · rintro w6 ⟨L1, v, x, hw, hv, hD⟩
      have hi1 : i < L1.nh := by rw [x.nh]; exact hi
      obtain ⟨u, v0, vf, vl, vt, vo, vn, vw, -⟩ := hw.told hi1
      obtain ⟨uA, un, uc, rfl⟩ := vo.rd.slice
      have t3 : w6.cell? ⟨L1.T, 3, none⟩ = some (.int .i64 s.now) := hw.tb.1.cell 3
      have t4 : w6.cell? ⟨L1.T, 4, none⟩ = some L1.tov := hw.tb.1.cell 4
      obtain ⟨_, _, _, _, y1, _⟩ := hw.hand hi1
      obtain ⟨_, _, _, hbc, _⟩ := hw.hn i hi1
      obtain ⟨_, _, tv, htg, _⟩ := hw.td (by omega)
      have n1 : ¬ L1.T = L1.tg := BC.ne hw.tb.1 htg (by decide)
      have n2 : ¬ L1.Hb i = L1.tg := BC.ne hbc htg (by decide)
      have n3 := OW.bc_ne vo hw.tb.1 (by decide)
      have n4 := OW.bc_ne vo hbc (by decide)
      rw [vt, x.nh] at t4
      rw [x.T] at t3 t4 n1 n3
      rw [x.Hb] at y1 n2 n4
      rw [x.w0] at vo vw
      refine ⟨L1.tg, uA, un, uc, ⟨t4, n1, n3⟩, ⟨t3, n1, n3⟩, ⟨y1, n2, n4⟩, v0, vo, vl, vn, vf i, by rw [← x.w0]; exact hw.kp.size, fun W γ hk hγ hat => ?_⟩
      rw [hR1]
      refine ⟨L1, up dv i v, x, ?_, by rw [up_same]; exact hv, by rw [up_same, hh]; exact hD, fun j hj => up_ne _ _ hj⟩
      have e : toldB s i = s.told i ++ [⟨s.now, -1, false⟩] := by unfold toldB; rw [if_pos (by omega)]
      rw [e]
      refine vw W γ _ hk ?_ hat
      rw [toldL_snoc, hl]; exact hγ
    · obtain ⟨tg, g, c, len, p1, p2, p3, p4, p5, p6, p7, p8, p9, p10, p11, p12⟩ := HF hf wx hx
      exact ⟨tg, g, c, len, p1, p2, p3, p4, p5, p6, p7, p8, p9, p10, p11, fun W k => ⟨hf, p12 W k⟩⟩
  · have e9 : up s.told i (toldB s i) = s.told := by
      have : toldB s i = s.told i := by unfold toldB; rw [if_neg (by omega)]
      rw [this]; exact up_self _ _
    have hr1 : ∀ W, Kp w W → R1 W := fun W k => by
      rw [hR1]
      exact ⟨L, dv, ExL.refl _ _, by rw [e9]; exact h.wn.kpw k, dn, hD, fun _ _ => rfl⟩
    obtain ⟨F, c, b2, -, -⟩ := HC w (hr1 w (Kp.refl _))
    rw [b2] at a2
    injection a2 with a2
    refine step_walk L.T (L.Hb i) L.hg L.hc L.nh i g4 o4 n4 c4 (s.deed i) s.now L.w0.heap.size L.alg w (.func (.func F) #[] c) False r.2.2 r.2.1.is _ R1 R2 (fun wx => r.2.2 = true ∧ R3 wx) (fun _ => False) (fun _ _ _ => False) [] _ _ h.alg t2 (by omega) t0 c0 a0 a1 b2 b1 q1 q2 (run_cloF F c) (fun W => by kernel_rfl) (.inl ⟨id, hr1⟩) (fun _ _ _ hh => hh.elim) (fun _ hh => hh.elim) (Nat.zero_le _) HR1 HC HN (fun hf wx hx => ?_) (fun wx hx => HZ hx.1 wx hx.2)
    obtain ⟨tg, g, c, len, p1, p2, p3, p4, p5, p6, p7, p8, p9, p10, p11, p12⟩ := HF hf wx hx
    exact ⟨tg, g, c, len, p1, p2, p3, p4, p5, p6, p7, p8, p9, p10, p11, fun W k => ⟨hf, p12 W k⟩⟩
end Go.Proofs.Ytoihdnekkgpcoaa
namespace Go.Proofs.Ytoihdnekkgpcoaa
open Go.ChangeShapes Go.WideShapes Go.ChangeAt Go.RowKit
set_option linter.unusedVariables false
set_option linter.unusedSimpArgs false

variable {P : List (List Dd)} {l : List Int} {L : Lay} {s : St} {dv : Nat → Value} {w w' : World}
set_option maxRecDepth 100000 in
theorem step_no_walk (T H hg hc nh i D c4 : Nat) (A4 : Option Addr) (w : World) (t2 : w.cell? ⟨T, 2, none⟩ = some (.slice (some ⟨hg, 0, none⟩) nh hc)) (hi : (i : Int) < (nh : Int)) (c0 : w.cell? ⟨hg, i, none⟩ = some (ptr H))
    (h0 : w.cell? ⟨H, 0, none⟩ = some (.slice A4 D c4)) (h1 : w.cell? ⟨H, 1, none⟩ = some (.int .i64 D)) : Calls Try.prog 18 #[ptr T, .int .i64 i] w (fun e w' => e = .returned (.bool false) ∧ Kp w w') := by
  unfold ptr at *
  go_enter Try.func18, Try.ntmps18
  go_wp2_with fail
  go_quiet (fail)
  go_wp2
  go_ret
  exact ⟨rfl, (Kp.refl w).drewN⟩
theorem step_no (h : SN P l L s dv w) {i : Nat} (hi : i < L.nh) (hc : can P s i = false) : Calls Try.prog 18 #[ptr L.T, .int .i64 i] w (fun e w' => e = .returned (.bool false) ∧ Kp w w') := by
  have h1 : ¬ s.deed i < ndl P i := by rw [← can_iff, hc]; simp
  have h2 := h.dl i
  have h3 := h.ndl hi
  obtain ⟨pv, cv, bb, a0, a1, -⟩ := h.wn.hand hi
  obtain ⟨A, c, e, -⟩ := h.wn.pg i hi
  rw [e, show (L.P i).length = s.deed i by omega] at a0
  obtain ⟨s1', s2', s3', s4'⟩ := h.wn.hs (by omega)
  have t2 : w.cell? ⟨L.T, 2, none⟩ = some L.hsv := h.wn.tb.1.cell 2
  rw [s1'] at t2
  have c0 : w.cell? ⟨L.hg, i, none⟩ = some (ptr (L.Hb i)) := by
    rw [s4'.cell, List.getElem?_append_left (by simpa using hi)]
    simp [hi]
  exact step_no_walk L.T (L.Hb i) L.hg L.hc L.nh i (s.deed i) c A w t2 (by omega) c0 a0 a1
/-- The table with its result's variable, wherever the beads lie. -/
def RN (w0 : World) (T alg R0 : Nat) (P : List (List Dd)) (l : List Int) (s : St) (w : World) : Prop :=
  ∃ L dv, L.w0 = w0 ∧ L.T = T ∧ L.nh = P.length ∧ L.alg = alg ∧ L.cst R0 = some (29, [.slice none 0 0, .slice none 0 0]) ∧ SN P l L s dv w
theorem RN.kpw {w0 : World} {T alg R0 : Nat} (h : RN w0 T alg R0 P l s w) (k : Kp w w') : RN w0 T alg R0 P l s w' := by
  obtain ⟨L, dv, a, b, c, d, e, f⟩ := h
  exact ⟨L, dv, a, b, c, d, e, f.kpw k⟩
/-- One step, if there is a deed left. -/
theorem step_rn {w0 : World} {T alg R0 : Nat} (h : RN w0 T alg R0 P l s w) {i : Nat} (hi : i < P.length) (hn : s.now < 100000) :
    Calls Try.prog 18 #[ptr T, .int .i64 i] w (fun e w' => e = .returned (.bool (can P s i)) ∧ RN w0 T alg R0 P l (stpO alg P s i) w') := by
  obtain ⟨L, dv, a, b, c, d, e, f⟩ := h
  rw [← b]
  cases hc : can P s i with
  | false =>
    refine (step_no f (by omega) hc).mono ?_
    rintro r w' ⟨rfl, k⟩
    rw [stpO_cannot _ _ _ _ hc]
    exact ⟨rfl, L, dv, a, rfl, c, d, e, f.kpw k⟩
  | true =>
    refine (step_yes f (by omega) hc hn).mono ?_
    rintro r w' ⟨rfl, L', dv', x, f'⟩
    rw [stpO_can hc, ← d]
    exact ⟨rfl, L', dv', x.w0.trans a, x.T, x.nh.trans c, x.alg, x.cst _ _ e, f'⟩
theorem RN.now {w0 : World} {T alg R0 : Nat} (h : RN w0 T alg R0 P l s w) : w.cell? ⟨T, 3, none⟩ = some (.int .i64 s.now) := by
  obtain ⟨L, dv, a, b, c, d, e, f⟩ := h
  rw [← b]; exact f.wn.tb.1.cell 3
theorem stpO_le {alg : Nat} {i : Nat} : (stpO alg P s i).now ≤ s.now + 1 ∧ s.now ≤ (stpO alg P s i).now := by
  rcases stpO_now (alg := alg) (P := P) (s := s) (i := i) with h | ⟨_, h⟩ <;> omega
theorem ordS_take (alg : Nat) (P : List (List Dd)) (o : List Int) (s : St) (k : Nat) (h : k < o.length) : ordS alg P (o.take (k + 1)) s = if 0 ≤ o[k] ∧ o[k] < (P.length : Int) then stpO alg P (ordS alg P (o.take k) s) (o[k]).toNat else ordS alg P (o.take k) s := by
  unfold ordS
  rw [List.take_succ_eq_append_getElem h, List.foldl_append]
  rfl
theorem rnd_take (alg : Nat) (P : List (List Dd)) (s : St) (k : Nat) : (List.range (k + 1)).foldl (stpL alg P) s = stpL alg P ((List.range k).foldl (stpL alg P) s) k := by
  rw [List.range_succ, List.foldl_append]; rfl
end Go.Proofs.Ytoihdnekkgpcoaa
