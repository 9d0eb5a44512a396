/-
  A slice that the call owns (OW), appended to in a plain region and in one that draws its order; from OW to RD. Conditions: those of the guide's run_append_own_at.
-/
import Derived.Test.YtcpponjknmkfaaaBase
import Derived.Laws.AppendOwnNone
namespace Go.Proofs.Ytcpponjknmkfaaa
open Go.ChangeShapes Go.WideShapes Go.ChangeAt Go.RowKit
set_option linter.unusedVariables false
set_option linter.unusedSimpArgs false

def OW {α : Type} (w : World) (B : Nat) (e : TypeId) (E : Enc α) (v : Value) (l : List α) : Prop := w.ownsRow B e E.size v l.length (l.flatMap E.cells)

theorem flat_len {α : Type} (E : Enc α) (l : List α) : (l.flatMap E.cells).length = l.length * E.size := by
  induction l with
  | nil => simp
  | cons a t ih => simp [List.flatMap_cons, ih, E.len, Nat.add_mul, Nat.add_comm]
theorem flat_at {α : Type} (E : Enc α) : ∀ (l : List α) (k : Nat) (h : k < l.length) (j : Nat), j < E.size → (l.flatMap E.cells)[k * E.size + j]? = (E.cells l[k])[j]?
  | a :: t, 0, h, j, hj => by simp [List.flatMap_cons, List.getElem?_append, E.len, hj]
  | a :: t, k + 1, h, j, hj => by
    rw [List.flatMap_cons, List.getElem?_append_right (by rw [E.len, Nat.add_mul]; omega), E.len]
    rw [show (k + 1) * E.size + j - E.size = k * E.size + j from by rw [Nat.add_mul]; omega]
    exact flat_at E t k (by simpa using h) j hj
theorem flat_inv {α : Type} (E : Enc α) (hs : 0 < E.size) (l : List α) (j : Nat) (h : j < l.length * E.size) : ∃ k i, k < l.length ∧ i < E.size ∧ j = k * E.size + i :=
  ⟨j / E.size, j % E.size, by rw [Nat.div_lt_iff_lt_mul hs]; exact h, Nat.mod_lt _ hs, by rw [Nat.mul_comm]; exact (Nat.div_add_mod j E.size).symm⟩
theorem flat_one {α : Type} (E : Enc α) (l : List α) : ∀ u ∈ l.flatMap E.cells, u.oneCell' = true := fun u hu => by
  obtain ⟨a, _, h⟩ := List.mem_flatMap.1 hu
  exact E.one a u h

section
variable {α : Type} {w w' : World} {B : Nat} {e : TypeId} {E : Enc α} {v : Value} {l : List α}
theorem OW.nil : OW w B e E (.slice none 0 0) [] := World.ownsRow_nil w B e E.size
theorem OW.empty {w : World} {B : Nat} {e : TypeId} {E : Enc α} (hB : B ≤ w.heap.size) : OW (w.alloc (.cells #[] e)) B e E (.slice (some ⟨w.heap.size, 0, none⟩) 0 0) ([] : List α) :=
  ⟨by simp, .inr ⟨w.heap.size, 0, #[], rfl, hB, heap_alloc_new w _, Nat.le_refl _, by simp [maxLen], by simp, by simp⟩⟩
theorem OW.emptyE {w : World} {B g : Nat} {e : TypeId} {E : Enc α} (hg : w.heap.size = g) (hB : B ≤ g) : OW (w.alloc (.cells #[] e)) B e E (.slice (some ⟨g, 0, none⟩) 0 0) ([] : List α) := by
  subst hg
  exact OW.empty hB
theorem OW.rd (h : OW w B e E v l) : RD w E v l := by
  rcases h.2 with ⟨rfl, h0⟩ | ⟨g, cap, cur, rfl, hb, hg, h1, h2, h3, h4⟩
  · have : l = [] := List.eq_nil_of_length_eq_zero h0
    subst this
    exact RD.nil
  · refine ⟨_, cap, rfl, h1, h2, (fun h => by cases h), fun h0 => ⟨g, 0, rfl, (Array.getElem?_eq_some_iff.1 hg).1, fun k hk j hj => ?_⟩⟩
    rw [cell_of_row w g _ cur e (0, 0) hg, ← flat_at E l k hk j hj, ← h4, List.getElem?_take, if_pos]
    · simp
    · have : (k + 1) * E.size ≤ l.length * E.size := Nat.mul_le_mul_right _ hk
      rw [Nat.add_mul] at this
      omega
theorem OW.lt (h : OW w B e E v l) : ∀ k, v.ownBlock = some k → B ≤ k ∧ k < w.heap.size := World.ownsRow.lt h
theorem OW.more {B' : Nat} (h : OW w B e E v l) (hB : B' ≤ B) : OW w B' e E v l := by
  obtain ⟨h1, h2⟩ := h
  refine ⟨h1, ?_⟩
  rcases h2 with h2 | ⟨g, cap, cur, hv, hg, r⟩
  · exact .inl h2
  · exact .inr ⟨g, cap, cur, hv, by omega, r⟩
theorem OW.below (h : OW w B e E v l) (hb : Below w.heap.size w w') : OW w' B e E v l := by
  obtain ⟨h1, h2⟩ := h
  refine ⟨h1, ?_⟩
  rcases h2 with h2 | ⟨g, cap, cur, hv, hg, hh, r⟩
  · exact .inl h2
  · exact .inr ⟨g, cap, cur, hv, hg, by rw [hb.block g (Array.getElem?_eq_some_iff.1 hh).1]; exact hh, r⟩
theorem OW.belowR (hb : Below w.heap.size w w') (h : OW w B e E v l) : OW w' B e E v l := h.below hb
theorem OW.keptR {row : Option Nat} (hg : w.grownBy w' row) (hne : v.ownBlock = none ∨ v.ownBlock ≠ row) (h : OW w B e E v l) : OW w' B e E v l := World.ownsRow.kept h hg hne
theorem RD.belowR (hb : Below w.heap.size w w') (h : RD w E v l) : RD w' E v l := h.below hb
theorem OW.kept {row : Option Nat} (h : OW w B e E v l) (hg : w.grownBy w' row) (hne : v.ownBlock = none ∨ v.ownBlock ≠ row) : OW w' B e E v l := World.ownsRow.kept h hg hne
theorem OW.alloc (h : OW w B e E v l) (o : Obj) : OW (w.alloc o) B e E v l := World.ownsRow.alloc h o
theorem OW.drew (h : OW w B e E v l) : OW w.drew B e E v l := h
theorem OW.drewN (h : OW w B e E v l) (n : Nat) : OW (w.drewN n) B e E v l := h
theorem OW.setCell (h : OW w B e E v l) {p : Addr} (hp : v.ownBlock ≠ some p.block) (u : Value) : OW (w.setCell p u) B e E v l := by
  obtain ⟨h1, h2⟩ := h
  refine ⟨h1, ?_⟩
  rcases h2 with h2 | ⟨g, cap, cur, rfl, hg, hh, r⟩
  · exact .inl h2
  · refine .inr ⟨g, cap, cur, rfl, hg, ?_, r⟩
    rw [Below.heap_setCell _ _ _ _ (by rintro rfl; exact hp rfl)]
    exact hh
theorem OW.setCellR {p : Addr} {u : Value} (hp : v.ownBlock ≠ some p.block) (h : OW w B e E v l) : OW (w.setCell p u) B e E v l := h.setCell hp u
theorem RD.drew (h : RD w E v l) : RD w.drew E v l := h
theorem RD.drewN (h : RD w E v l) (n : Nat) : RD (w.drewN n) E v l := h
theorem RD.alloc (h : RD w E v l) (o : Obj) : RD (w.alloc o) E v l := h.below ((Below.refl _ _).alloc (Nat.le_refl _) o)
/-- A slice that was read before 'w.heap.size' stood; the row that has grown is another one. -/
theorem RD.grown {w0 : World} {row : Option Nat} (h : RD w0 E v l) (h0 : Below w0.heap.size w0 w) (hg : w.grownBy w' row) (hr : ∀ k, row = some k → w0.heap.size ≤ k) : RD w' E v l :=
  h.below (h0.grown hg h0.size hr)
theorem RD.grownR {row : Option Nat} (hg : w.grownBy w' row) (hne : v.ownBlock ≠ row) (h : RD w E v l) : RD w' E v l := by
  obtain ⟨A, c, rfl, h1, h2, hn, h3⟩ := h
  refine ⟨A, c, rfl, h1, h2, hn, fun h0 => ?_⟩
  obtain ⟨b, o, rfl, hb, hc⟩ := h3 h0
  refine ⟨b, o, rfl, Nat.lt_of_lt_of_le hb hg.size, fun k hk' j hj => ?_⟩
  rw [← hc k hk' j hj]
  exact World.cell?_of_block (hg.block b hb hne)
theorem Below.grew {a : World} {row : Option Nat} (h : Below B a w) (hg : w.grownBy w' row) (hB : B ≤ w.heap.size) (hr : ∀ k, row = some k → B ≤ k) : Below B a w' := h.grown hg hB hr

/-- What the type table says of a slice type t over e. -/
def Row {α : Type} (P : Program) (t e : TypeId) (E : Enc α) (bytes : Nat) : Prop :=
  ∃ i z, P.underlying t = some (.slice e) ∧ P.info? e = some i ∧ i.zero = some z ∧ i.size = E.size ∧ i.bytes = bytes ∧ z.cells.size = E.size ∧ 0 < E.size

theorem run_app {P : Program} {t : TypeId} (ty : TypeId) {bytes : Nat} (hrow : Row P t e E bytes) (h : OW w B e E v l) {u : Value} {m : List α} (hu : RD w E u m)
    (hlim : (l.length + m.length) * bytes ≤ 140737488355328) (h63 : l.length + m.length ≤ maxLen) (hB : B ≤ w.heap.size) :
    ∃ v' w', (Builtin.append_ #[t, t] ty #[v, u]).run P w = .ok v' w' ∧ OW w' B e E v' (l ++ m) ∧ w.grownBy w' v.ownBlock ∧ (v'.ownBlock = v.ownBlock ∨ v'.ownBlock = some w.heap.size) := by
  obtain ⟨i, z, ht, hi, hz, hsize, hby, hzs, hsz⟩ := hrow
  obtain ⟨A, c, rfl, h1, h2, hn, h3⟩ := hu
  cases A with
  | none =>
    have hc : c = 0 := hn rfl
    subst hc
    have hm : m = [] := List.eq_nil_of_length_eq_zero (by omega)
    subst hm
    refine ⟨v, w, ?_, by simpa using h, ⟨rfl, rfl, rfl, Nat.le_refl _, fun _ _ _ => rfl⟩, .inl rfl⟩
    exact run_append_owned_none (P := P) (w := w) B t ty e i E.size ht hi v l.length _ h
  | some ad =>
    have hnews : ∀ j u, (m.flatMap E.cells)[j]? = some u → w.cell? (ad.add j) = some u := by
      intro j u hj
      have hjl : j < m.length * E.size := by
        rw [← flat_len E m]
        rcases Nat.lt_or_ge j (m.flatMap E.cells).length with hh | hh
        · exact hh
        · rw [List.getElem?_eq_none hh] at hj; cases hj
      obtain ⟨k, x, hk, hx, rfl⟩ := flat_inv E hsz m j hjl
      obtain ⟨b, o, e1, hb, hc⟩ := h3 (by omega)
      injection e1 with e1
      subst e1
      rw [flat_at E m k hk x hx, ← hc k hk x hx] at hj
      rw [← hj]
      congr 1
      unfold Addr.add
      split
      · next h0 => rw [Nat.add_assoc, h0, Nat.add_zero]
      · simp [Nat.add_assoc]
    obtain ⟨v', w', hr, ho, hg, _, hb⟩ := run_append_own_at (P := P) w B t ty e i z E.size bytes ht hi hz hsize hby hzs hsz v l.length _ h ad m.length c (m.flatMap E.cells) (flat_len E m) hnews (flat_one E m) h63 hlim hB
    refine ⟨v', w', hr, ?_, hg, hb⟩
    unfold OW
    rw [List.length_append, List.flatMap_append]
    exact ho

theorem wp_app {P : Program} {o : Oper} {a : Act} {K : Act → World → Prop} {Q : Exit → Act → World → Prop} (s x : Operand) {t : TypeId}
    (ho : o.op = .call { callee := .builtin .append, args := #[s, x], argTypes := #[t, t] }) {bytes : Nat} (hrow : Row P t e E bytes) (hs : a.eval s = v) (h : OW w B e E v l) {m : List α} (hu : RD w E (a.eval x) m)
    (hlim : (l.length + m.length) * bytes ≤ 140737488355328) (h63 : l.length + m.length ≤ maxLen) (hB : B ≤ w.heap.size)
    (hh : ∀ v' w', OW w' B e E v' (l ++ m) → w.grownBy w' v.ownBlock → (v'.ownBlock = v.ownBlock ∨ v'.ownBlock = some w.heap.size) → K (a.put o.dst v') w') : o.wp P a w K Q := by
  obtain ⟨v', w', hr, h1, h2, h3⟩ := run_app (P := P) o.type hrow h hu hlim h63 hB
  unfold Oper.wp execOp
  simp only [ho, resolve, invoke, builtin, Sem.run_bind, Sem.run_pure, Result.andThen_ok, List.map_toArray, List.map_cons, List.map_nil, hs, hr]
  exact hh v' w' h1 h2 h3
/-- At a plain region. -/
theorem list_app {P : Program} {ops : Array Oper} {rest : List Oper} {o : Oper} {a : Act} {Q : Exit → Act → World → Prop} {t : TypeId} {bytes : Nat} (hrow : Row P t e E bytes) (v : Value) (hgd : o.guard = none) (s x : Operand)
    (ho : o.op = .call { callee := .builtin .append, args := #[s, x], argTypes := #[t, t] }) (hs : a.eval s = v) (h : OW w B e E v l) {m : List α} (hu : RD w E (a.eval x) m)
    (hlim : (l.length + m.length) * bytes ≤ 140737488355328) (h63 : l.length + m.length ≤ maxLen) (hB : B ≤ w.heap.size)
    (hh : ∀ v' w', OW w' B e E v' (l ++ m) → w.grownBy w' v.ownBlock → (v'.ownBlock = v.ownBlock ∨ v'.ownBlock = some w.heap.size) → wpList P ops Q rest (a.put o.dst v') w') : wpList P ops Q (o :: rest) a w :=
  wpList_plain hgd fun K hK => wp_app s x ho hrow hs h hu hlim h63 hB fun v' w' h1 h2 h3 => hK _ _ (hh v' w' h1 h2 h3)
/-- At a step of a region that draws. -/
theorem step_app {P : Program} {ops : Array Oper} {o : Oper} {a : Act} {K : Act → World → Prop} {Q : Exit → Act → World → Prop} {F : Prop} {t : TypeId} {bytes : Nat} (hrow : Row P t e E bytes) (v : Value) (hgd : o.guard = none) (s x : Operand)
    (ho : o.op = .call { callee := .builtin .append, args := #[s, x], argTypes := #[t, t] }) (hs : a.eval s = v) (h : OW w B e E v l) {m : List α} (hu : RD w E (a.eval x) m)
    (hlim : (l.length + m.length) * bytes ≤ 140737488355328) (h63 : l.length + m.length ≤ maxLen) (hB : B ≤ w.heap.size)
    (hh : ∀ v' w', OW w' B e E v' (l ++ m) → w.grownBy w' v.ownBlock → (v'.ownBlock = v.ownBlock ∨ v'.ownBlock = some w.heap.size) → K (a.put o.dst v') w') :
    if Region.wanted o (yielded ops a.tmps) = true then Oper.wp P o a w K Q else F := by
  have hw : Region.wanted o (yielded ops a.tmps) = true := by simp [Region.wanted, hgd]
  rw [if_pos hw]
  exact wp_app s x ho hrow hs h hu hlim h63 hB hh
end

/-- A block that was just made, of elements written out, as a slice over all of it. -/
theorem RD.block {α : Type} {w : World} {E : Enc α} {g : Nat} {cs : Array Value} {t : TypeId} {fr : Nat × Nat} (l : List α) (hg : w.heap[g]? = some (.cells cs t fr)) (hl : cs.toList = l.flatMap E.cells) (hm : l.length ≤ maxLen) :
    RD w E (.slice (some ⟨g, 0, none⟩) l.length l.length) l := by
  refine ⟨_, _, rfl, Nat.le_refl _, hm, fun h => (by cases h), fun h0 => ⟨g, 0, rfl, (Array.getElem?_eq_some_iff.1 hg).1, fun k hk j hj => ?_⟩⟩
  rw [cell_of_row w g _ cs t fr hg, ← flat_at E l k hk j hj, ← hl]
  simp
theorem RD.new1 {α : Type} {w : World} {E : Enc α} {cs : Array Value} {t : TypeId} (a : α) (hl : cs.toList = E.cells a) : RD (w.alloc (.cells cs t)) E (.slice (some ⟨w.heap.size, 0, none⟩) 1 1) [a] :=
  RD.block (l := [a]) (heap_alloc_new w _) (by simpa using hl) (by simp [maxLen])

theorem RD.new1e {α : Type} {w : World} {E : Enc α} {cs : Array Value} {t : TypeId} {g : Nat} (a : α) (hg : w.heap.size = g) (hl : cs.toList = E.cells a) : RD (w.alloc (.cells cs t)) E (.slice (some ⟨g, 0, none⟩) 1 1) [a] := by
  subst hg
  exact RD.new1 a hl

def RetOW {α : Type} (e : TypeId) (E : Enc α) (l : List α) (w : World) (en : Ending) (w' : World) : Prop := ∃ v, en = .returned v ∧ OW w' w.heap.size e E v l ∧ Below w.heap.size w w'

/-- What stood at w stands at w'. Behind a name, so that the walk does not look into it. -/
def Kp (w w' : World) : Prop := Below w.heap.size w w'
theorem Kp.refl (w : World) : Kp w w := Below.refl _ _
theorem Kp.bel {w w' : World} (h : Kp w w') : Below w.heap.size w w' := h
theorem Kp.of {w w' : World} (h : Below w.heap.size w w') : Kp w w' := h
theorem Kp.size {w w' : World} (h : Kp w w') : w.heap.size ≤ w'.heap.size := Below.size h
theorem Kp.drew {w w' : World} (h : Kp w w') : Kp w w'.drew := Below.drew h
theorem Kp.drewN {w w' : World} {n : Nat} (h : Kp w w') : Kp w (w'.drewN n) := below_drewN h n
theorem Kp.alloc {w w' : World} {o : Obj} (h : Kp w w') : Kp w (w'.alloc o) := Below.alloc h (Below.size h) o
theorem Kp.call {w W W' : World} (hb : Below W.heap.size W W') (h : Kp w W) : Kp w W' := Below.trans h (hb.mono h.size)
theorem Kp.set {w W : World} {p : Addr} (h : Kp w W) (hp : w.heap.size ≤ p.block) (u : Value) : Kp w (W.setCell p u) := Below.setCell h hp u
theorem Kp.setR {w W : World} {p : Addr} {u : Value} (hp : w.heap.size ≤ p.block) (h : Kp w W) : Kp w (W.setCell p u) := Below.setCell h hp u
theorem Kp.cell {w w' : World} {p : Addr} {u : Value} (h : Kp w w') (hc : w.cell? p = some u) : w'.cell? p = some u := (Below.cell h (World.block_lt_of_cell? _ _ hc)).trans hc
theorem Kp.frozen {w w' : World} {p : Addr} (h : Kp w w') (hp : p.block < w.heap.size) : w'.frozen? p = w.frozen? p := Below.frozen h hp
theorem Kp.trans {a b c : World} (h : Kp a b) (k : Kp b c) : Kp a c := Below.trans h (Below.mono k h.size)
theorem RD.kp {α : Type} {w w' : World} {E : Enc α} {v : Value} {l : List α} (h : RD w E v l) (hb : Kp w w') : RD w' E v l := h.below hb
theorem OW.kp {α : Type} {w w' : World} {B : Nat} {e : TypeId} {E : Enc α} {v : Value} {l : List α} (h : OW w B e E v l) (hb : Kp w w') : OW w' B e E v l := h.below hb
/-- All that v owns lies below b | from b on. -/
def Lo (b : Nat) (v : Value) : Prop := ∀ k, v.ownBlock = some k → k < b
def Hi (b : Nat) (v : Value) : Prop := ∀ k, v.ownBlock = some k → b ≤ k
theorem Kp.app {w W W' : World} {v : Value} (hg : W.grownBy W' v.ownBlock) (h : Kp w W) (hr : Hi w.heap.size v) : Kp w W' := Below.grown h hg h.size hr
theorem OW.lo {α : Type} {w : World} {B : Nat} {e : TypeId} {E : Enc α} {v : Value} {l : List α} (h : OW w B e E v l) : Lo w.heap.size v := fun k hk => (h.lt k hk).2
theorem OW.hi {α : Type} {w : World} {B : Nat} {e : TypeId} {E : Enc α} {v : Value} {l : List α} (h : OW w B e E v l) : Hi B v := fun k hk => (h.lt k hk).1
theorem Lo.apart {b : Nat} {u v : Value} (hu : Lo b u) (hv : Hi b v) : v.ownBlock = none ∨ v.ownBlock ≠ u.ownBlock := by
  cases hc : v.ownBlock with
  | none => exact .inl rfl
  | some k =>
    refine .inr fun e => ?_
    have h1 := hu k e.symm
    have h2 := hv k hc
    omega
theorem Hi.mono {b c : Nat} {v : Value} (h : Hi c v) (hb : b ≤ c) : Hi b v := fun k hk => Nat.le_trans hb (h k hk)
theorem Lo.mono {b c : Nat} {v : Value} (h : Lo b v) (hb : b ≤ c) : Lo c v := fun k hk => Nat.lt_of_lt_of_le (h k hk) hb

theorem RD.len_eq {α : Type} {E : Enc α} {w w' : World} {v : Value} {l m : List α} (h : RD w E v l) (h' : RD w' E v m) : l.length = m.length := by
  obtain ⟨A, c, rfl, _⟩ := h
  obtain ⟨A', c', e, _⟩ := h'
  injection e
theorem RD.lo {α : Type} {E : Enc α} {w : World} {v : Value} {l : List α} (h : RD w E v l) (h0 : 0 < l.length) : Lo w.heap.size v := by
  obtain ⟨A, c, rfl, h1, h2, hn, h3⟩ := h
  obtain ⟨b, o, rfl, hb, _⟩ := h3 h0
  intro k hk
  simp [Value.ownBlock] at hk
  omega
theorem own_hi {v v3 : Value} {b H : Nat} (h : v3.ownBlock = v.ownBlock ∨ v3.ownBlock = some H) (hv : Hi b v) (hH : b ≤ H) : Hi b v3 := fun k hk => by
  rcases h with h | h
  · exact hv k (h.symm.trans hk)
  · rw [h] at hk; injection hk with hk; omega

/-! The rows of the type table. -/
theorem info_spot : (Try.prog.info? 41).map (fun i => (i.zero, i.size, i.bytes)) = some (some (.agg #[.int .i64 0, .int .i64 0]), 2, 16) := by kernel_rfl
theorem info_int : (Try.prog.info? 3).map (fun i => (i.zero, i.size, i.bytes)) = some (some (.int .i64 0), 1, 8) := by kernel_rfl
theorem row_of {α : Type} {P : Program} {t e : TypeId} {E : Enc α} {z : Value} {n bytes : Nat} (h : (P.info? e).map (fun i => (i.zero, i.size, i.bytes)) = some (some z, n, bytes)) (ht : P.underlying t = some (.slice e)) (hn : n = E.size) (hz : z.cells.size = E.size) (h0 : 0 < E.size) : Row P t e E bytes := by
  obtain ⟨i, hi, h1, h2, h3⟩ := info_parts h
  exact ⟨i, z, ht, hi, h1, h2.trans hn, h3, hz, h0⟩
theorem row_spot : Row Try.prog 22 41 ePair 16 := row_of info_spot Try.underlying22 rfl rfl (by decide)
theorem row_int : Row Try.prog 23 3 eInt 8 := row_of info_int Try.underlying23 rfl rfl (by decide)
end Go.Proofs.Ytcpponjknmkfaaa
