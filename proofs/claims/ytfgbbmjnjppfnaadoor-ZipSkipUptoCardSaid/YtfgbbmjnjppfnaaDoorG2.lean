/-
  Trees that are written (MT): nodes in blocks of their own, with a list of these blocks; a way down to a link that holds a subtree (ZP); what a call leaves that writes some blocks only (Kf); a variable that holds a slice (OB). Conditions: none.
  A variable that holds a slice which grows (OB): read, appended to. Conditions: none.
  The spots of a tree that is written (grow.spots, vine.spots, ..), told: what they answer. Conditions: the tree as MR says; of spots: the variable holds a slice of the call's own (OB).
  Trees of places: plain words, no program. Conditions: none.
  plain.within, hedgref.Between, hedgref.MapRight, plain.Check: what they answer. Conditions: the list reads as l (RD).
  shape.top, shape.parents, shape.read, shape.Parents: what they answer. Conditions: the list reads as l (RD).
  shape.walk: what it appends. Conditions: the list reads as l (RD), the variable holds a slice of the call's own (OB).
-/
import Derived.Test.YtfgbbmjnjppfnaaDoorG1

namespace Go.Proofs.YtfgbbmjnjppfnaaDoor
open Go.ChangeShapes Go.WideShapes Go.ChangeAt Go.RowKit
set_option linter.unusedVariables false
set_option linter.unusedSimpArgs false

/-! All but these blocks stands. -/
def Kf (F : Nat → Prop) (w w' : World) : Prop := w'.os = w.os ∧ w'.tape = w.tape ∧ w'.output = w.output ∧ w.heap.size ≤ w'.heap.size ∧ ∀ i, i < w.heap.size → ¬ F i → w'.heap[i]? = w.heap[i]?
section
variable {F G : Nat → Prop} {a b c w w' : World}
theorem Kf.refl (F : Nat → Prop) (w : World) : Kf F w w := ⟨rfl, rfl, rfl, Nat.le_refl _, fun _ _ _ => rfl⟩
theorem Kf.size (h : Kf F w w') : w.heap.size ≤ w'.heap.size := h.2.2.2.1
theorem Kf.block (h : Kf F w w') {i : Nat} (hi : i < w.heap.size) (hn : ¬ F i) : w'.heap[i]? = w.heap[i]? := h.2.2.2.2 i hi hn
theorem Kf.mono (h : Kf F w w') (hF : ∀ i, i < w.heap.size → F i → G i) : Kf G w w' := ⟨h.1, h.2.1, h.2.2.1, h.2.2.2.1, fun i hi hn => h.block hi fun hf => hn (hF i hi hf)⟩
theorem Kf.trans (h : Kf F a b) (k : Kf G b c) (hG : ∀ i, i < a.heap.size → G i → F i) : Kf F a c :=
  ⟨k.1.trans h.1, k.2.1.trans h.2.1, k.2.2.1.trans h.2.2.1, Nat.le_trans h.size k.size, fun i hi hn => (k.block (Nat.lt_of_lt_of_le hi h.size) fun hg => hn (hG i hi hg)).trans (h.block hi hn)⟩
theorem Kf.of (h : Kp w w') : Kf F w w' := by
  obtain ⟨h1, h2, h3, h4, h5⟩ := h
  exact ⟨h1, h2, h3, h4, fun i hi _ => h5 i hi⟩
theorem Kf.on (h : Kf F a b) (k : Kp b c) : Kf F a c := h.trans (Kf.of (F := fun _ => False) k) (fun _ _ h => h.elim)
theorem Kf.kp (h : Kf F w w') (k : Kp a w) (hF : ∀ i, F i → a.heap.size ≤ i) : Kp a w' := by
  obtain ⟨h1, h2, h3, h4, h5⟩ := h
  have hz := k.size
  exact Below.trans (b := w) k ⟨h1, h2, h3, h4, fun i hi => h5 i (by omega) (fun hf => by have := hF i hf; omega)⟩
theorem Kf.set {p : Addr} {u : Value} (h : Kf F a b) (hp : F p.block ∨ a.heap.size ≤ p.block) : Kf F a (b.setCell p u) :=
  ⟨h.1, h.2.1, h.2.2.1, Nat.le_trans h.size (by simp [World.setCell]), fun i hi hn => (Below.heap_setCell _ _ _ _ (by rintro rfl; rcases hp with hp | hp; exact hn hp; omega)).trans (h.block hi hn)⟩
theorem Kf.app {v : Value} (h : Kf F a b) (hg : b.grownBy c v.ownBlock) (hv : ∀ k, v.ownBlock = some k → F k ∨ a.heap.size ≤ k) : Kf F a c := by
  obtain ⟨h1, h2, h3, h4, h5⟩ := hg
  refine ⟨h1.trans h.1, h2.trans h.2.1, h3.trans h.2.2.1, Nat.le_trans h.size h4, fun i hi hn => (h5 i (Nat.lt_of_lt_of_le hi h.size) fun e => ?_).trans (h.block hi hn)⟩
  rcases hv i e.symm with h | h
  · exact hn h
  · omega
theorem Kf.cell (h : Kf F w w') {p : Addr} (hn : ¬ F p.block) {u : Value} (hc : w.cell? p = some u) : w'.cell? p = some u :=
  (World.cell?_of_block (h.block (World.block_lt_of_cell? _ _ hc) hn)).trans hc
theorem Kf.frozen (h : Kf F w w') {p : Addr} (hp : p.block < w.heap.size) (hn : ¬ F p.block) : w'.frozen? p = w.frozen? p := World.frozen?_of_block (h.block hp hn)
theorem RD.kf {α : Type} {E : Enc α} {v : Value} {l : List α} (h : RD w E v l) (hk : Kf F w w') (hv : 0 < l.length → ∀ k, v.ownBlock = some k → ¬ F k) : RD w' E v l := by
  obtain ⟨A, c, rfl, h1, h2, hn, h3⟩ := h
  refine ⟨A, c, rfl, h1, h2, hn, fun h0 => ?_⟩
  obtain ⟨b, o, rfl, hb, hc⟩ := h3 h0
  refine ⟨b, o, rfl, Nat.lt_of_lt_of_le hb hk.size, fun k hk' j hj => ?_⟩
  rw [← hc k hk' j hj]
  exact World.cell?_of_block (hk.block hb (hv h0 b rfl))
theorem OW.kf {α : Type} {B : Nat} {e : TypeId} {E : Enc α} {v : Value} {l : List α} (h : OW w B e E v l) (hk : Kf F w w') (hv : ∀ k, v.ownBlock = some k → ¬ F k) : OW w' B e E v l := by
  obtain ⟨h1, h2⟩ := h
  refine ⟨h1, ?_⟩
  rcases h2 with h2 | ⟨g, cap, cur, rfl, hg, hh, r⟩
  · exact .inl h2
  · refine .inr ⟨g, cap, cur, rfl, hg, ?_, r⟩
    rw [hk.block (Array.getElem?_eq_some_iff.1 hh).1 (hv g rfl)]
    exact hh
/-- A block's whole content. -/
def BC (w : World) (b : Nat) (t : TypeId) (cs : List Value) : Prop := w.heap[b]? = some (.cells cs.toArray t (0, 0))
theorem BC.lt {i : Nat} {t : TypeId} {cs : List Value} (h : BC w i t cs) : i < w.heap.size := (Array.getElem?_eq_some_iff.1 h).1
theorem BC.kf {i : Nat} {t : TypeId} {cs : List Value} (h : BC w i t cs) (hk : Kf F w w') (hn : ¬ F i) : BC w' i t cs := (hk.block h.lt hn).trans h
theorem BC.kp {i : Nat} {t : TypeId} {cs : List Value} (h : BC w i t cs) (hk : Kp w w') : BC w' i t cs := (hk.bel.block i h.lt).trans h
theorem BC.new (w : World) (t : TypeId) (cs : List Value) : BC (w.alloc (.cells cs.toArray t)) w.heap.size t cs := heap_alloc_new w _
theorem BC.cell {i : Nat} {t : TypeId} {cs : List Value} (h : BC w i t cs) (j : Nat) : w.cell? ⟨i, j, none⟩ = cs[j]? := by
  rw [cell_of_row w i j _ t (0, 0) h]; simp
theorem BC.frozen {i : Nat} {t : TypeId} {cs : List Value} (h : BC w i t cs) (j : Nat) : w.frozen? ⟨i, j, none⟩ = false := by
  unfold BC at h
  simp [World.frozen?, h]
theorem BC.ne {i j : Nat} {t u : TypeId} {cs ds : List Value} (h : BC w i t cs) (h' : BC w j u ds) (hn : t ≠ u) : i ≠ j := by
  rintro rfl
  unfold BC at h h'
  rw [h] at h'
  injection h' with h'
  injection h' with _ e
  exact hn e
theorem BC.set {i j : Nat} {t : TypeId} {cs : List Value} {u : Value} (h : BC w i t cs) : BC (w.setCell ⟨i, j, none⟩ u) i t (cs.set j u) := by
  unfold BC at h ⊢
  simp [World.setCell, Array.getElem?_modify, h]
theorem BC.far {i : Nat} {t : TypeId} {cs : List Value} {p : Addr} {u : Value} (h : BC w i t cs) (hp : i ≠ p.block) : BC (w.setCell p u) i t cs := (Below.heap_setCell w p u i hp).trans h
theorem OW.bc_ne {α : Type} {B i : Nat} {e t : TypeId} {E : Enc α} {v : Value} {l : List α} {cs : List Value} (h : OW w B e E v l) (h' : BC w i t cs) (hn : e ≠ t) : v.ownBlock ≠ some i := by
  rcases h.2 with ⟨rfl, _⟩ | ⟨g, cap, cur, rfl, hg, hh, r⟩
  · simp [Value.ownBlock]
  · intro e1
    injection e1 with e1
    subst e1
    unfold BC at h'
    rw [hh] at h'
    injection h' with h'
    injection h' with _ e
    exact hn e
end

/-! Trees. -/
inductive MT (α : Type) where
  | nil
  | node (a : α) (l r : MT α)
def MT.size {α : Type} : MT α → Nat
  | .nil => 0
  | .node _ l r => l.size + 1 + r.size
def nodeC {α : Type} (E : Enc α) (a : α) (pl pr : Option Addr) : List Value := E.cells a ++ [.pointer pl, .pointer pr]
section
variable {α : Type} {E : Enc α} {nt : TypeId} {w w' : World}
def MR (w : World) (nt : TypeId) (E : Enc α) : MT α → Option Addr → List Nat → Prop
  | .nil, p, F => p = none ∧ F = []
  | .node a l r, p, F => ∃ b pl pr Fl Fr, p = some ⟨b, 0, none⟩ ∧ F = b :: (Fl ++ Fr) ∧ BC w b nt (nodeC E a pl pr) ∧ b ∉ Fl ∧ b ∉ Fr ∧ (∀ x ∈ Fl, x ∉ Fr) ∧ MR w nt E l pl Fl ∧ MR w nt E r pr Fr
theorem MR.keep {F : List Nat} (hk : ∀ i ∈ F, w'.heap[i]? = w.heap[i]?) : ∀ {t : MT α} {p : Option Addr}, MR w nt E t p F → MR w' nt E t p F := by
  intro t
  induction t generalizing F with
  | nil => intro p h; exact h
  | node a l r ihl ihr =>
    rintro p ⟨b, pl, pr, Fl, Fr, rfl, rfl, hb, h1, h2, h3, hl, hr⟩
    exact ⟨b, pl, pr, Fl, Fr, rfl, rfl, (hk b (by simp)).trans hb, h1, h2, h3, ihl (fun i hi => hk i (by simp [hi])) hl, ihr (fun i hi => hk i (by simp [hi])) hr⟩
theorem MR.bc {t : MT α} {p : Option Addr} {F : List Nat} (h : MR w nt E t p F) : ∀ i ∈ F, ∃ cs, BC w i nt cs := by
  induction t generalizing F p with
  | nil => obtain ⟨rfl, rfl⟩ := h; simp
  | node a l r ihl ihr =>
    obtain ⟨b, pl, pr, Fl, Fr, rfl, rfl, hb, h1, h2, h3, hl, hr⟩ := h
    intro i hi
    rcases List.mem_cons.1 hi with rfl | hi
    · exact ⟨_, hb⟩
    · rcases List.mem_append.1 hi with hi | hi
      · exact ihl hl i hi
      · exact ihr hr i hi
theorem MR.lt {t : MT α} {p : Option Addr} {F : List Nat} (h : MR w nt E t p F) : ∀ i ∈ F, i < w.heap.size := fun i hi => by
  obtain ⟨cs, h⟩ := h.bc i hi
  exact h.lt
theorem MR.kf {G : Nat → Prop} {t : MT α} {p : Option Addr} {F : List Nat} (h : MR w nt E t p F) (hk : Kf G w w') (hn : ∀ i ∈ F, ¬ G i) : MR w' nt E t p F :=
  MR.keep (fun i hi => hk.block (h.lt i hi) (hn i hi)) h
theorem MR.kp {t : MT α} {p : Option Addr} {F : List Nat} (h : MR w nt E t p F) (hk : Kp w w') : MR w' nt E t p F := h.kf (Kf.of (F := fun _ => False) hk) (fun _ _ h => h)
theorem MR.set {t : MT α} {p : Option Addr} {F : List Nat} (h : MR w nt E t p F) {q : Addr} {u : Value} (hn : q.block ∉ F) : MR (w.setCell q u) nt E t p F :=
  MR.keep (fun i hi => Below.heap_setCell _ _ _ _ (by rintro rfl; exact hn hi)) h
theorem MR.nil : MR w nt E (.nil : MT α) none [] := ⟨rfl, rfl⟩
theorem MR.of_none {t : MT α} {F : List Nat} (h : MR w nt E t none F) : t = .nil ∧ F = [] := by
  cases t with
  | nil => exact ⟨rfl, h.2⟩
  | node a l r => obtain ⟨b, pl, pr, Fl, Fr, h1, _⟩ := h; cases h1
theorem MR.of_some {t : MT α} {F : List Nat} {p : Addr} (h : MR w nt E t (some p) F) : ∃ a l r b pl pr Fl Fr, t = .node a l r ∧ p = ⟨b, 0, none⟩ ∧ F = b :: (Fl ++ Fr) ∧ BC w b nt (nodeC E a pl pr) ∧ b ∉ Fl ∧ b ∉ Fr ∧ (∀ x ∈ Fl, x ∉ Fr) ∧ MR w nt E l pl Fl ∧ MR w nt E r pr Fr := by
  cases t with
  | nil => obtain ⟨h1, _⟩ := h; cases h1
  | node a l r =>
    obtain ⟨b, pl, pr, Fl, Fr, h1, h2, h3, h4, h5, h6, h7, h8⟩ := h
    injection h1 with h1
    exact ⟨a, l, r, b, pl, pr, Fl, Fr, rfl, h1, h2, h3, h4, h5, h6, h7, h8⟩
theorem MR.mk {a : α} {l r : MT α} {b : Nat} {pl pr : Option Addr} {Fl Fr : List Nat} (hb : BC w b nt (nodeC E a pl pr)) (h1 : b ∉ Fl) (h2 : b ∉ Fr) (h3 : ∀ x ∈ Fl, x ∉ Fr) (hl : MR w nt E l pl Fl) (hr : MR w nt E r pr Fr) :
    MR w nt E (.node a l r) (some ⟨b, 0, none⟩) (b :: (Fl ++ Fr)) := ⟨b, pl, pr, Fl, Fr, rfl, rfl, hb, h1, h2, h3, hl, hr⟩
/-- A new leaf. -/
theorem MR.leaf (w : World) (a : α) : MR (w.alloc (.cells (nodeC E a none none).toArray nt)) nt E (.node a .nil .nil) (some ⟨w.heap.size, 0, none⟩) [w.heap.size] :=
  MR.mk (Fl := []) (Fr := []) (BC.new w nt _) (by simp) (by simp) (by simp) MR.nil MR.nil

/-! A way down: a link that holds a subtree, and all that stands round it. -/
structure Fm (α : Type) where
  a : α
  left : Bool
  o : MT α
def Fm.on (f : Fm α) (t : MT α) : MT α := if f.left then .node f.a t f.o else .node f.a f.o t
def plug : List (Fm α) → MT α → MT α
  | [], t => t
  | f :: C, t => plug C (f.on t)
def lk (E : Enc α) (left : Bool) : Nat := if left then E.size else E.size + 1
def fmC (E : Enc α) (f : Fm α) (ph po : Option Addr) : List Value := if f.left then nodeC E f.a ph po else nodeC E f.a po ph
def ZP (w : World) (nt : TypeId) (E : Enc α) (r0 : Addr) : List (Fm α) → Addr → List Nat → Prop
  | [], q, F => q = r0 ∧ F = []
  | f :: C, q, F => ∃ b ph po Fo q' F', q = ⟨b, lk E f.left, none⟩ ∧ BC w b nt (fmC E f ph po) ∧ MR w nt E f.o po Fo ∧ ZP w nt E r0 C q' F' ∧ w.cell? q' = some (.pointer (some ⟨b, 0, none⟩)) ∧ F = b :: (Fo ++ F') ∧ b ∉ Fo ∧ b ∉ F' ∧ ∀ x ∈ Fo, x ∉ F'
variable {r0 q : Addr}
theorem ZP.nil : ZP w nt E r0 ([] : List (Fm α)) r0 [] := ⟨rfl, rfl⟩
theorem ZP.bc {C : List (Fm α)} {F : List Nat} (h : ZP w nt E r0 C q F) : ∀ i ∈ F, ∃ cs, BC w i nt cs := by
  induction C generalizing q F with
  | nil => obtain ⟨rfl, rfl⟩ := h; simp
  | cons f C ih =>
    obtain ⟨b, ph, po, Fo, q', F', rfl, hb, ho, hz, hc, rfl, h1, h2, h3⟩ := h
    intro i hi
    rcases List.mem_cons.1 hi with rfl | hi
    · exact ⟨_, hb⟩
    · rcases List.mem_append.1 hi with hi | hi
      · exact ho.bc i hi
      · exact ih hz i hi
theorem ZP.at_ {C : List (Fm α)} {F : List Nat} (h : ZP w nt E r0 C q F) : q = r0 ∨ q.block ∈ F := by
  cases C with
  | nil => exact .inl h.1
  | cons f C =>
    obtain ⟨b, ph, po, Fo, q', F', rfl, hb, ho, hz, hc, rfl, h1, h2, h3⟩ := h
    exact .inr (by simp)
theorem ZP.keep {C : List (Fm α)} {F : List Nat} (hr : w'.cell? r0 = w.cell? r0) (hk : ∀ i ∈ F, w'.heap[i]? = w.heap[i]?) (h : ZP w nt E r0 C q F) : ZP w' nt E r0 C q F := by
  induction C generalizing q F with
  | nil => exact h
  | cons f C ih =>
    obtain ⟨b, ph, po, Fo, q', F', rfl, hb, ho, hz, hc, rfl, h1, h2, h3⟩ := h
    refine ⟨b, ph, po, Fo, q', F', rfl, (hk b (by simp)).trans hb, MR.keep (fun i hi => hk i (by simp [hi])) ho, ih (fun i hi => hk i (by simp [hi])) hz, ?_, rfl, h1, h2, h3⟩
    rcases hz.at_ with rfl | hq
    · exact hr.trans hc
    · exact (World.cell?_of_block (hk _ (by simp [hq]))).trans hc
theorem ZP.kf {G : Nat → Prop} {C : List (Fm α)} {F : List Nat} (h : ZP w nt E r0 C q F) (hk : Kf G w w') (hr : ¬ G r0.block) (hrl : r0.block < w.heap.size) (hn : ∀ i ∈ F, ¬ G i) : ZP w' nt E r0 C q F :=
  h.keep (World.cell?_of_block (hk.block hrl hr)) fun i hi => by
    obtain ⟨cs, hb⟩ := h.bc i hi
    exact hk.block hb.lt (hn i hi)
theorem ZP.kp {C : List (Fm α)} {F : List Nat} (h : ZP w nt E r0 C q F) (hk : Kp w w') (hrl : r0.block < w.heap.size) : ZP w' nt E r0 C q F := h.kf (Kf.of (F := fun _ => False) hk) (fun h => h) hrl fun _ _ h => h
/-- A store into the link. -/
theorem ZP.store {C : List (Fm α)} {F : List Nat} (h : ZP w nt E r0 C q F) (hr : r0.block ∉ F) (p : Option Addr) : ZP (w.setCell q (.pointer p)) nt E r0 C q F := by
  cases C with
  | nil => exact h
  | cons f C =>
    obtain ⟨b, ph, po, Fo, q', F', rfl, hb, ho, hz, hc, rfl, h1, h2, h3⟩ := h
    simp only [List.mem_cons, List.mem_append, not_or] at hr
    have hne : q' ≠ ⟨b, lk E f.left, none⟩ := by
      rintro rfl
      rcases hz.at_ with h | h
      · exact hr.1 (by rw [← h])
      · exact h2 h
    refine ⟨b, p, po, Fo, q', F', rfl, ?_, ho.set h1, hz.keep (World.cell?_setCell_other _ _ _ _ (fun e => hr.1 (by rw [← e]))) (fun i hi => Below.heap_setCell _ _ _ _ (by rintro rfl; exact h2 hi)), ?_, rfl, h1, h2, h3⟩
    · have h4 := hb.set (j := lk E f.left) (u := .pointer p)
      have hl := E.len f.a
      have e : (fmC E f ph po).set (lk E f.left) (.pointer p) = fmC E f p po := by
        unfold fmC lk nodeC
        cases f.left
        · simp only [Bool.false_eq_true, if_false]
          rw [List.set_append_right _ _ (by omega), hl]; simp
        · simp only [if_true]
          rw [List.set_append_right _ _ (by omega), hl]; simp
      rw [e] at h4
      exact h4
    · rw [World.cell?_setCell_other _ _ _ _ (fun e => hne (by rw [e]))]; exact hc
theorem fmC_link (E : Enc α) (f : Fm α) (ph po : Option Addr) : (fmC E f ph po)[lk E f.left]? = some (.pointer ph) := by
  have hl := E.len f.a
  unfold fmC lk nodeC
  cases f.left
  · simp only [Bool.false_eq_true, if_false]
    rw [List.getElem?_append_right (by omega), hl]; simp
  · simp only [if_true]
    rw [List.getElem?_append_right (by omega), hl]; simp
/-- All of it is one tree. -/
theorem ZP.close {C : List (Fm α)} {F Ft : List Nat} {t : MT α} {p : Option Addr} (h : ZP w nt E r0 C q F) (hc : w.cell? q = some (.pointer p)) (ht : MR w nt E t p Ft) (hd : ∀ x ∈ Ft, x ∉ F) :
    ∃ p0 F0, w.cell? r0 = some (.pointer p0) ∧ MR w nt E (plug C t) p0 F0 ∧ ∀ x, x ∈ F0 ↔ x ∈ Ft ∨ x ∈ F := by
  induction C generalizing q F Ft t p with
  | nil =>
    obtain ⟨rfl, rfl⟩ := h
    exact ⟨p, Ft, hc, ht, fun x => by simp⟩
  | cons f C ih =>
    obtain ⟨b, ph, po, Fo, q', F', rfl, hb, ho, hz, hc', rfl, h1, h2, h3⟩ := h
    have e := hb.cell (lk E f.left)
    rw [hc, fmC_link] at e
    injection e with e
    injection e with e
    subst e
    have hbt : b ∉ Ft := fun h => hd b h (by simp)
    have hto : ∀ x ∈ Ft, x ∉ Fo := fun x hx hx' => hd x hx (by simp [hx'])
    cases hf : f.left with
    | true =>
      have hb' : BC w b nt (nodeC E f.a p po) := by simpa [fmC, hf] using hb
      obtain ⟨p0, F0, g1, g2, g3⟩ := ih hz hc' (MR.mk hb' hbt h1 hto ht ho) (fun x hx hx' => by
        rcases List.mem_cons.1 hx with rfl | hx
        · exact h2 hx'
        · rcases List.mem_append.1 hx with hx | hx
          · exact hd x hx (by simp [hx'])
          · exact h3 x hx hx')
      exact ⟨p0, F0, g1, by simpa [plug, Fm.on, hf] using g2, fun x => by rw [g3 x]; simp only [List.mem_cons, List.mem_append, or_assoc, or_left_comm, or_comm]⟩
    | false =>
      have hb' : BC w b nt (nodeC E f.a po p) := by simpa [fmC, hf] using hb
      obtain ⟨p0, F0, g1, g2, g3⟩ := ih hz hc' (MR.mk hb' h1 hbt (fun x hx hx' => hto x hx' hx) ho ht) (fun x hx hx' => by
        rcases List.mem_cons.1 hx with rfl | hx
        · exact h2 hx'
        · rcases List.mem_append.1 hx with hx | hx
          · exact h3 x hx hx'
          · exact hd x hx (by simp [hx']))
      exact ⟨p0, F0, g1, by simpa [plug, Fm.on, hf] using g2, fun x => by rw [g3 x]; simp only [List.mem_cons, List.mem_append, or_assoc, or_left_comm, or_comm]⟩
/-- One step down. -/
theorem ZP.push {C : List (Fm α)} {F Fl Fr : List Nat} {a : α} {l r : MT α} {b : Nat} {pl pr : Option Addr} (h : ZP w nt E r0 C q F) (hc : w.cell? q = some (.pointer (some ⟨b, 0, none⟩))) (hb : BC w b nt (nodeC E a pl pr)) (hl : MR w nt E l pl Fl) (hr : MR w nt E r pr Fr)
    (h1 : b ∉ Fl) (h2 : b ∉ Fr) (h3 : b ∉ F) (h4 : ∀ x ∈ Fl, x ∉ F) (h5 : ∀ x ∈ Fr, x ∉ F) (left : Bool) :
    ZP w nt E r0 (⟨a, left, if left then r else l⟩ :: C) ⟨b, lk E left, none⟩ (b :: ((if left then Fr else Fl) ++ F)) := by
  cases left with
  | true => exact ⟨b, pl, pr, Fr, q, F, rfl, by simpa [fmC] using hb, hr, h, hc, rfl, h2, h3, h5⟩
  | false => exact ⟨b, pr, pl, Fl, q, F, rfl, by simpa [fmC] using hb, hl, h, hc, rfl, h1, h3, h4⟩
theorem BC.link {b : Nat} {a : α} {pl pr : Option Addr} (hb : BC w b nt (nodeC E a pl pr)) (left : Bool) : w.cell? ⟨b, lk E left, none⟩ = some (.pointer (if left then pl else pr)) := by
  rw [hb.cell]
  have hl := E.len a
  unfold lk nodeC
  cases left
  · simp only [Bool.false_eq_true, if_false]
    rw [List.getElem?_append_right (by omega), hl]; simp
  · simp only [if_true]
    rw [List.getElem?_append_right (by omega), hl]; simp
end

/-! A variable that holds a slice that the call owns. -/
def OB {α : Type} (w : World) (B : Nat) (g : Nat) (st e : TypeId) (E : Enc α) (l : List α) : Prop := ∃ v, BC w g st [v] ∧ OW w B e E v l ∧ v.ownBlock ≠ some g
/-- What a call leaves that appends to the variable g. -/
def KO (g B : Nat) (w w' : World) : Prop := ∃ v v', w.cell? ⟨g, 0, none⟩ = some v ∧ w'.cell? ⟨g, 0, none⟩ = some v' ∧ Kf (fun i => i = g ∨ v.ownBlock = some i) w w' ∧ (v'.ownBlock = v.ownBlock ∨ Hi w.heap.size v')
theorem KO.trans {g B : Nat} {a b c : World} (h : KO g B a b) (k : KO g B b c) : KO g B a c := by
  obtain ⟨v, v', h1, h2, h3, h4⟩ := h
  obtain ⟨u, u', k1, k2, k3, k4⟩ := k
  rw [h2] at k1
  injection k1 with k1
  subst k1
  have hz := h3.size
  refine ⟨v, u', h1, k2, h3.trans k3 (fun i hi hg => ?_), ?_⟩
  · rcases hg with hg | hg
    · exact .inl hg
    · rcases h4 with h4 | h4
      · exact .inr (by rw [← h4]; exact hg)
      · have := h4 i hg; omega
  · rcases k4 with k4 | k4
    · rcases h4 with h4 | h4
      · exact .inl (k4.trans h4)
      · exact .inr (fun i hi => h4 i (by rw [← k4]; exact hi))
    · exact .inr (k4.mono hz)
theorem KO.refl {g B : Nat} {w : World} {v : Value} (h : w.cell? ⟨g, 0, none⟩ = some v) : KO g B w w := ⟨v, v, h, h, Kf.refl _ _, .inl rfl⟩
theorem OB.lt {α : Type} {w : World} {B g : Nat} {st e : TypeId} {E : Enc α} {l : List α} (h : OB w B g st e E l) : g < w.heap.size := by
  obtain ⟨v, h, _⟩ := h
  exact h.lt
theorem MR.ko {α β : Type} {w w' : World} {B g : Nat} {nt st e : TypeId} {E : Enc α} {E' : Enc β} {l : List β} {t : MT α} {p : Option Addr} {F : List Nat} (h : MR w nt E t p F) (ho : OB w B g st e E' l) (hk : KO g B w w') (h1 : st ≠ nt) (h2 : e ≠ nt) : MR w' nt E t p F := by
  obtain ⟨v, hb, hv, hn⟩ := ho
  obtain ⟨v1, v2, k1, k2, k3, k4⟩ := hk
  have e1 : some v1 = some v := k1.symm.trans (hb.cell 0)
  injection e1 with e1
  subst e1
  refine h.kf k3 fun i hi hg => ?_
  obtain ⟨cs, hc⟩ := h.bc i hi
  rcases hg with rfl | hg
  · exact hb.ne hc h1 rfl
  · exact hv.bc_ne hc h2 hg
theorem KO.kp {g B : Nat} {a w w' : World} (h : KO g B w w') (k : Kp a w) (hg : a.heap.size ≤ g) (hv : ∀ v, w.cell? ⟨g, 0, none⟩ = some v → Hi a.heap.size v) : Kp a w' := by
  obtain ⟨v, v', h1, h2, h3, h4⟩ := h
  exact h3.kp k fun i hi => by
    rcases hi with rfl | hi
    · exact hg
    · exact hv v h1 i hi
end Go.Proofs.YtfgbbmjnjppfnaaDoor
namespace Go.Proofs.YtfgbbmjnjppfnaaDoor
open Go.ChangeShapes Go.WideShapes Go.ChangeAt Go.RowKit
set_option linter.unusedVariables false
set_option linter.unusedSimpArgs false

/-- Only the row of v may have been written. Behind a name. -/
def KV (v : Value) (w w' : World) : Prop := Kf (fun i => v.ownBlock = some i) w w'
section
variable {v : Value} {w W W' : World}
theorem KV.refl (v : Value) (w : World) : KV v w w := Kf.refl _ _
theorem KV.size (h : KV v w W) : w.heap.size ≤ W.heap.size := Kf.size h
theorem KV.drew (h : KV v w W) : KV v w W.drew := Kf.on h (Kp.refl W).drew
theorem KV.drewN {n : Nat} (h : KV v w W) : KV v w (W.drewN n) := Kf.on h (Kp.refl W).drewN
theorem KV.alloc {o : Obj} (h : KV v w W) : KV v w (W.alloc o) := Kf.on h (Kp.refl W).alloc
theorem KV.app (hg : W.grownBy W' v.ownBlock) (h : KV v w W) : KV v w W' := Kf.app h hg fun _ hk => .inl hk
theorem KV.call (hb : Kp W W') (h : KV v w W) : KV v w W' := Kf.on h hb
theorem KV.cell {p : Addr} {u : Value} (h : KV v w W) (hn : v.ownBlock ≠ some p.block) (hc : w.cell? p = some u) : W.cell? p = some u := Kf.cell h hn hc
theorem KV.frozen {p : Addr} (h : KV v w W) (hp : p.block < w.heap.size) (hn : v.ownBlock ≠ some p.block) : W.frozen? p = w.frozen? p := Kf.frozen h hp hn
end
section
variable {α : Type} {w w3 : World} {B g : Nat} {st e : TypeId} {E : Enc α} {l l' : List α} {v v3 : Value}
theorem ob_app (hb : BC w g st [v]) (ho : OW w B e E v l) (hn : v.ownBlock ≠ some g) (k : KV v w w3) (ho3 : OW w3 B e E v3 l') (hat : v3.ownBlock = v.ownBlock ∨ Hi w.heap.size v3) :
    OB (w3.setCell ⟨g, 0, none⟩ v3) B g st e E l' ∧ KO g B w (w3.setCell ⟨g, 0, none⟩ v3) := by
  have hz := KV.size k
  have hlt := hb.lt
  have hn3 : v3.ownBlock ≠ some g := by
    rcases hat with h | h
    · rw [h]; exact hn
    · intro e; have := h g e; omega
  have hb3 : BC w3 g st [v] := hb.kf k hn
  refine ⟨⟨v3, hb3.set (j := 0) (u := v3), ho3.setCell hn3 v3, hn3⟩, v, v3, hb.cell 0, (hb3.set (j := 0) (u := v3)).cell 0, Kf.set (Kf.mono k fun i _ hi => .inr hi) (.inl (.inl rfl)), hat⟩
theorem RD.slice {β : Type} {E' : Enc β} {u : Value} {m : List β} (h : RD w E' u m) : ∃ A n c, u = .slice A n c := by
  obtain ⟨A, c, rfl, _⟩ := h
  exact ⟨A, _, c, rfl⟩
theorem KO.size {a b : World} (h : KO g B a b) : a.heap.size ≤ b.heap.size := by
  obtain ⟨v, v', h1, h2, h3, h4⟩ := h
  exact Kf.size h3
theorem RD.ko {β : Type} {E' : Enc β} {w' : World} {u : Value} {m : List β} (h : RD w E' u m) (ho : OB w B g st e E l) (hk : KO g B w w') (hu : 0 < m.length → Lo B u) (hg : B ≤ g) : RD w' E' u m := by
  obtain ⟨v, hb, hv, hn⟩ := ho
  obtain ⟨v1, v2, k1, k2, k3, k4⟩ := hk
  have e1 : some v1 = some v := k1.symm.trans (hb.cell 0)
  injection e1 with e1
  subst e1
  refine h.kf k3 fun h0 k hk hF => ?_
  have := hu h0 k hk
  rcases hF with rfl | hF
  · omega
  · have := (hv.lt k hF).1; omega
theorem OB.kp {w' : World} (h : OB w B g st e E l) (hk : Kp w w') : OB w' B g st e E l := by
  obtain ⟨v, hb, hv, hn⟩ := h
  exact ⟨v, hb.kp hk, hv.kp hk, hn⟩
theorem OB.new (w : World) (hB : B ≤ w.heap.size) : OB (w.alloc (.cells #[.slice none 0 0] st)) B w.heap.size st e E ([] : List α) :=
  ⟨.slice none 0 0, BC.new w st [.slice none 0 0], OW.nil, by simp [Value.ownBlock]⟩
theorem KO.on {a b c : World} (h : KO g B a b) (hk : Kp b c) : KO g B a c := by
  obtain ⟨v, v', h1, h2, h3, h4⟩ := h
  exact ⟨v, v', h1, hk.cell h2, h3.on hk, h4⟩
theorem KO.onL {a b c : World} (h : KO g B b c) (hk : Kp a b) (hg : g < a.heap.size) (ho : OB a B g st e E l) : KO g B a c := by
  obtain ⟨v0, hb, hv, hn⟩ := ho
  obtain ⟨v, v', h1, h2, h3, h4⟩ := h
  have e1 : some v = some v0 := h1.symm.trans (hk.cell (hb.cell 0))
  injection e1 with e1
  subst e1
  have hz := hk.size
  refine ⟨v, v', hb.cell 0, h2, (Kf.of (F := fun i => i = g ∨ v.ownBlock = some i) hk).trans h3 (fun i _ h => h), h4.imp id fun h => h.mono hz⟩
theorem OB.kp0 {a w' : World} (h : OB w B g st e E l) (hk : KO g B w w') (h0 : Kp a w) (hB : a.heap.size ≤ B) (hg : B ≤ g) : Kp a w' :=
  hk.kp h0 (by omega) fun v hv => by
    obtain ⟨u, hb, ho, _⟩ := h
    have e1 : some v = some u := hv.symm.trans (hb.cell 0)
    injection e1 with e1
    subst e1
    exact fun k hk => Nat.le_trans hB (ho.lt k hk).1
end
theorem BC.ko {α : Type} {w w' : World} {B g i : Nat} {st e t : TypeId} {E : Enc α} {l : List α} {cs : List Value} (h : BC w i t cs) (ho : OB w B g st e E l) (hk : KO g B w w') (h1 : st ≠ t) (h2 : e ≠ t) : BC w' i t cs := by
  obtain ⟨v, hb, hv, hn⟩ := ho
  obtain ⟨v1, v2, k1, k2, k3, k4⟩ := hk
  have e1 : some v1 = some v := k1.symm.trans (hb.cell 0)
  injection e1 with e1
  subst e1
  refine h.kf k3 fun hg => ?_
  rcases hg with rfl | hg
  · exact hb.ne h h1 rfl
  · exact hv.bc_ne h h2 hg
/-- What a call leaves that appends so much to the variable. -/
def WPost {α : Type} (B g : Nat) (st e : TypeId) (E : Enc α) (r : Value) (l : List α) (w : World) (en : Ending) (w' : World) : Prop := en = .returned r ∧ OB w' B g st e E l ∧ KO g B w w'
end Go.Proofs.YtfgbbmjnjppfnaaDoor
namespace Go.Proofs.YtfgbbmjnjppfnaaDoor
open Go.ChangeShapes Go.WideShapes Go.ChangeAt Go.RowKit
set_option linter.unusedVariables false
set_option linter.unusedSimpArgs false

def MT.spotsBy {α : Type} (key : α → Int) : MT α → Int → List IP
  | .nil, _ => []
  | .node a l r, d => l.spotsBy key (d + 1) ++ [(key a, d)] ++ r.spotsBy key (d + 1)
theorem MT.spotsBy_len {α : Type} (key : α → Int) : ∀ (t : MT α) (d : Int), (t.spotsBy key d).length = t.size
  | .nil, _ => rfl
  | .node a l r, d => by simp [spotsBy, size, spotsBy_len key l, spotsBy_len key r]; omega
set_option maxRecDepth 100000 in
set_option maxHeartbeats 4000000 in
theorem zip_spots_any (g B : Nat) (hg : B ≤ g) : ∀ (t : MT IP) (p : Option Addr) (F : List Nat) (d : Int) (acc : List IP) (w : World), MR w 113 ePair t p F → 0 ≤ d → d + t.size ≤ 1000000 → acc.length + t.size ≤ 1000000 →
    OB w B g 22 51 ePair acc → B ≤ w.heap.size →
    Calls Tryd.prog 58 #[.pointer p, .int .i64 d, .pointer (some ⟨g, 0, none⟩)] w (WPost B g 22 51 ePair (.tuple #[]) (acc ++ t.spotsBy Prod.fst d) w)
  | .nil, p, F, d, acc, w, hm, h1, h2, h3, ho, hB => by
    obtain ⟨rfl, rfl⟩ := hm
    have HO := hide ho
    clear ho
    go_enter Tryd.func58, Tryd.ntmps58
    go_wp2
    obtain ⟨u, hb, hu, hn⟩ := HO.out
    exact bodyPost_ret (v := .tuple #[]) (by simp [results, Tryd.results58, go_sem]) rfl ⟨rfl, by simpa [MT.spotsBy] using HO.out, KO.refl (hb.cell 0)⟩
  | .node a l r, p, F, d, acc, w, hm, h1, h2, h3, ho, hB => by
    obtain ⟨b, pl, pr, Fl, Fr, rfl, rfl, hbc, _, _, _, hml, hmr⟩ := hm
    simp only [MT.size] at h2 h3
    have hll := MT.spotsBy_len Prod.fst l (d + 1)
    have HI := hide (fun F acc w hm h3 ho hB => zip_spots_any g B hg l pl F (d + 1) acc w hm (by omega) (by omega) h3 ho hB)
    have HJ := hide (fun F acc w hm h3 ho hB => zip_spots_any g B hg r pr F (d + 1) acc w hm (by omega) (by omega) h3 ho hB)
    have HBC := hide hbc
    have HML := hide hml
    have HMR := hide hmr
    have HO := hide ho
    have HBh := hide hB
    have cL : w.cell? ⟨b, 2, none⟩ = some (.pointer pl) := hbc.cell 2
    have hw : IntKind.i64.wrap (d + 1) = d + 1 := IntWalk.i64_in _ (by omega)
    clear hml hmr ho hbc
    go_enter Tryd.func58, Tryd.ntmps58
    go_wp2_with fail
    with_reducible refine (HI.out _ acc _ HML.out (by omega) HO.out HBh.out).mono ?_
    rintro e w5 ⟨rfl, ho5, hk5⟩
    have HO5 := hide ho5
    have HBC5 := hide (HBC.out.ko HO.out hk5 (by decide) (by decide))
    have HMR5 := hide (HMR.out.ko HO.out hk5 (by decide) (by decide))
    have HB5 : Hid (B ≤ w5.heap.size) := hide (Nat.le_trans HBh.out hk5.size)
    have HK5 := hide hk5
    clear ho5 hk5 cL
    obtain ⟨u5, hb5, hu5, hn5⟩ := HO5.out
    have d0 : w5.cell? ⟨b, 0, none⟩ = some (.int .i64 (Prod.fst a)) := HBC5.out.cell 0
    have hblk : u5.ownBlock ≠ some b := hu5.bc_ne HBC5.out (by decide)
    obtain ⟨acc5, hacc⟩ : ∃ x, x = acc ++ l.spotsBy Prod.fst (d + 1) := ⟨_, rfl⟩
    have hal : acc5.length = acc.length + l.size := by rw [hacc, List.length_append, hll]
    have HACC := hide hacc
    rw [← hacc] at hu5
    have HAL := hide hal
    have HM1 : Hid ((acc5.length + [((Prod.fst a, d) : IP)].length) * 16 ≤ 140737488355328) := hide (by simp; omega)
    have HM2 : Hid (acc5.length + [((Prod.fst a, d) : IP)].length ≤ maxLen) := hide (by simp [maxLen]; omega)
    clear hacc hal hll
    have KS : Hid (∀ W', KV u5 w5 W' → (W'.cell? ⟨b, 0, none⟩ = some (.int .i64 (Prod.fst a)) ∧ W'.cell? ⟨g, 0, none⟩ = some u5 ∧ W'.frozen? ⟨g, 0, none⟩ = false ∧ KV u5 w5 W')) := hide fun W' h => ⟨h.cell hblk d0, h.cell hn5 (hb5.cell 0), (h.frozen hb5.lt hn5).trans (hb5.frozen 0), h⟩
    have g0 := hb5.cell 0
    have f0 := hb5.frozen 0
    have L1 : ∀ n o, ((w5.drewN n).alloc o).cell? ⟨g, 0, none⟩ = some u5 := fun n o => ((Kp.refl w5).drewN.alloc).cell g0
    have L2 : ∀ n o', ((w5.drewN n).alloc o').cell? ⟨b, 0, none⟩ = some (.int .i64 (Prod.fst a)) := fun n o' => ((Kp.refl w5).drewN.alloc).cell d0
    have L3 : ∀ o, (w5.drew.alloc o).cell? ⟨g, 0, none⟩ = some u5 := fun o => ((Kp.refl w5).drew.alloc).cell g0
    have L4 : ∀ o', (w5.drew.alloc o').cell? ⟨b, 0, none⟩ = some (.int .i64 (Prod.fst a)) := fun o' => ((Kp.refl w5).drew.alloc).cell d0
    have L5 : ∀ o, ((w5.alloc o).drew).cell? ⟨g, 0, none⟩ = some u5 := fun o => ((Kp.refl w5).alloc.drew).cell g0
    have L6 : ∀ o', ((w5.alloc o').drew).cell? ⟨b, 0, none⟩ = some (.int .i64 (Prod.fst a)) := fun o' => ((Kp.refl w5).alloc.drew).cell d0
    have L7 : ∀ o, (w5.alloc o).cell? ⟨g, 0, none⟩ = some u5 := fun o => ((Kp.refl w5).alloc).cell g0
    have L8 : ∀ o', (w5.alloc o').cell? ⟨b, 0, none⟩ = some (.int .i64 (Prod.fst a)) := fun o' => ((Kp.refl w5).alloc).cell d0
    go_wp2_with fail
    go_region_law (((with_reducible refine step_app (l := acc5) (m := [((Prod.fst a, d) : IP)]) row_spot u5 ?_ (.tmp 19) (.tmp 26) ?_ ?_ ?_ ?_ HM1.out HM2.out (Nat.le_trans HB5.out (KV.size (w := w5) (v := u5) ?_)) ?_); (with_reducible rfl); (with_reducible rfl); rfl; (focus ((repeat (first | (with_reducible assumption) | (with_reducible apply OW.alloc) | (with_reducible apply OW.drew) | (with_reducible apply OW.drewN) | ((with_reducible apply OW.setCellR); (with_reducible assumption)) | ((with_reducible apply OW.belowR); (with_reducible assumption)) | ((with_reducible apply OW.keptR); (with_reducible assumption); (with_reducible assumption)))); done)); (show RD _ _ (.slice (some ⟨_, 0, none⟩) 1 1) _; (focus ((repeat (first | (with_reducible assumption) | exact RD.new1 _ rfl | (refine RD.new1e _ ?_ rfl; simp; done) | (with_reducible apply RD.alloc) | (with_reducible apply RD.drew) | (with_reducible apply RD.drewN) | ((with_reducible apply RD.belowR); (with_reducible assumption)))); done))); (go_split_ands; (focus ((repeat (first | (with_reducible assumption) | (with_reducible exact KV.refl _ _) | (with_reducible apply KV.drew) | (with_reducible apply KV.drewN) | (with_reducible apply KV.alloc) | ((with_reducible apply KV.call); (with_reducible assumption)) | ((with_reducible apply KV.app); (with_reducible assumption)))); done))); intro v3 w3 ho3 hg3 hat3; obtain ⟨_, sc3, sf3, _⟩ := KS.out w3 (by go_split_ands; (focus ((repeat (first | (with_reducible assumption) | (with_reducible exact KV.refl _ _) | (with_reducible apply KV.drew) | (with_reducible apply KV.drewN) | (with_reducible apply KV.alloc) | ((with_reducible apply KV.call); (with_reducible assumption)) | ((with_reducible apply KV.app); (with_reducible assumption)))); done))); obtain ⟨A3, N3, c3, rfl⟩ := ho3.rd.slice))
    all_goals
      have hat9 := hat3.imp id (fun e => show Hi w5.heap.size (Value.slice A3 N3 c3) from fun k hk => by rw [e] at hk; injection hk with hk; subst hk; simp <;> omega)
      obtain ⟨ho4, hk4⟩ := ob_app hb5 hu5 hn5 (show KV u5 w5 w3 by (focus ((repeat (first | (with_reducible assumption) | (with_reducible exact KV.refl _ _) | (with_reducible apply KV.drew) | (with_reducible apply KV.drewN) | (with_reducible apply KV.alloc) | ((with_reducible apply KV.call); (with_reducible assumption)) | ((with_reducible apply KV.app); (with_reducible assumption)))); done))) ho3 hat9
      clear hat9 hat3 hg3 ho3 sc3 sf3 L1 L2 L3 L4 L5 L6 L7 L8 g0 f0
      have HBC6 := hide (HBC5.out.ko HO5.out hk4 (by decide) (by decide))
      have HMR6 := hide (HMR5.out.ko HO5.out hk4 (by decide) (by decide))
      have HZ6 := hide hk4.size
      have HO6 := hide ho4
      have HK6 := hide (HK5.out.trans hk4)
      have cR := HBC6.out.cell 3
      simp only [nodeC, ePair, List.cons_append, List.nil_append, List.getElem?_cons_succ, List.getElem?_cons_zero] at cR
      clear ho4 hk4
      go_wp2_with fail
      with_reducible refine (HJ.out _ (acc5 ++ [((Prod.fst a, d) : IP)]) _ HMR6.out (by simp only [List.length_append, List.length_cons, List.length_nil]; have := HAL.out; omega) HO6.out (Nat.le_trans HB5.out HZ6.out)).mono ?_
      rintro e w7 ⟨rfl, ho7, hk7⟩
      have HO7 := hide ho7
      have HK7 := hide (HK6.out.trans hk7)
      clear ho7 hk7
      go_wp2
      exact bodyPost_ret (v := .tuple #[]) (by simp [results, Tryd.results58, go_sem]) rfl ⟨rfl, by have h := HO7.out; rw [HACC.out] at h; simpa [MT.spotsBy, List.append_assoc] using h, HK7.out⟩
end Go.Proofs.YtfgbbmjnjppfnaaDoor
namespace Go.Proofs.YtfgbbmjnjppfnaaDoor
open Go.ChangeShapes Go.WideShapes Go.ChangeAt Go.RowKit
set_option linter.unusedVariables false
set_option linter.unusedSimpArgs false

/-- The tree of places. -/
inductive PT where
  | nil
  | node (p : Nat) (l r : PT)
def PT.size : PT → Nat
  | .nil => 0
  | .node _ l r => l.size + 1 + r.size
/-- In order the places are off, off + 1, .. -/
def PT.At : PT → Nat → Prop
  | .nil, _ => True
  | .node p l r, off => p = off + l.size ∧ l.At off ∧ r.At (p + 1)
def PT.pars : PT → Int → List Int
  | .nil, _ => []
  | .node p l r, up => l.pars p ++ [up] ++ r.pars p
def PT.deps : PT → Int → List Int
  | .nil, _ => []
  | .node p l r, d => l.deps (d + 1) ++ [d] ++ r.deps (d + 1)
theorem PT.pars_len : ∀ (t : PT) (up : Int), (t.pars up).length = t.size
  | .nil, _ => rfl
  | .node p l r, up => by simp [pars, size, pars_len l, pars_len r]; omega
theorem PT.deps_len : ∀ (t : PT) (d : Int), (t.deps d).length = t.size
  | .nil, _ => rfl
  | .node p l r, d => by simp [deps, size, deps_len l, deps_len r]; omega
end Go.Proofs.YtfgbbmjnjppfnaaDoor
namespace Go.Proofs.YtfgbbmjnjppfnaaDoor
open Go.ChangeShapes Go.WideShapes Go.ChangeAt Go.RowKit
set_option linter.unusedVariables false
set_option linter.unusedSimpArgs false

def btw (n lo hi : Int) : Bool := decide (lo ≤ n ∧ n ≤ hi)
theorem btw_iff (n lo hi : Int) : btw n lo hi = true ↔ lo ≤ n ∧ n ≤ hi := by simp [btw]
theorem btw_f_iff (n lo hi : Int) : btw n lo hi = false ↔ ¬ (lo ≤ n ∧ n ≤ hi) := by simp [btw]
theorem btw_cases (n lo hi : Int) : (btw n lo hi = true ∧ lo ≤ n ∧ n ≤ hi) ∨ (btw n lo hi = false ∧ (n < lo ∨ hi < n)) := by
  by_cases h : lo ≤ n ∧ n ≤ hi
  · exact .inl ⟨(btw_iff _ _ _).2 h, h⟩
  · exact .inr ⟨(btw_f_iff _ _ _).2 h, by omega⟩

theorem between_any (n lo hi : Int) (w : World) :
    Calls Tryd.prog 12 #[.int .i64 n, .int .i64 lo, .int .i64 hi] w fun e w' => e = .returned (.bool (btw n lo hi)) ∧ w = w' := by
  by_cases h1 : lo ≤ n
  · by_cases h2 : n ≤ hi
    · go_enter Tryd.func12, Tryd.ntmps12
      go_wp2
      go_ret
      exact ⟨by simp [btw]; omega, rfl⟩
    · go_enter Tryd.func12, Tryd.ntmps12
      go_wp2
      go_ret
      exact ⟨by simp [btw]; omega, rfl⟩
  · go_enter Tryd.func12, Tryd.ntmps12
    go_wp2
    go_ret
    exact ⟨by simp [btw]; omega, rfl⟩
theorem between_to (n lo hi : Int) (b : Bool) (w : World) (h : btw n lo hi = b) :
    Calls Tryd.prog 12 #[.int .i64 n, .int .i64 lo, .int .i64 hi] w fun e w' => e = .returned (.bool b) ∧ w = w' := by
  have := between_any n lo hi w
  rwa [h] at this
theorem within_any (n lo hi : Int) (w : World) :
    Calls Tryd.prog 76 #[.int .i64 n, .int .i64 lo, .int .i64 hi] w fun e w' => e = .returned (.bool (btw n lo hi)) ∧ w = w' := by
  by_cases h1 : lo ≤ n
  · by_cases h2 : n ≤ hi
    · go_enter Tryd.func76, Tryd.ntmps76
      go_wp2
      go_ret
      exact ⟨by simp [btw]; omega, rfl⟩
    · go_enter Tryd.func76, Tryd.ntmps76
      go_wp2
      go_ret
      exact ⟨by simp [btw]; omega, rfl⟩
  · go_enter Tryd.func76, Tryd.ntmps76
    go_wp2
    go_ret
    exact ⟨by simp [btw]; omega, rfl⟩
theorem within_to (n lo hi : Int) (b : Bool) (w : World) (h : btw n lo hi = b) :
    Calls Tryd.prog 76 #[.int .i64 n, .int .i64 lo, .int .i64 hi] w fun e w' => e = .returned (.bool b) ∧ w = w' := by
  have := within_any n lo hi w
  rwa [h] at this
def mrFrom (last : Int) : List IP → Int
  | [] => 0
  | p :: t => if btw p.1 (last + 1) 1000000 then mrFrom p.1 t else 3
def mapRight (l : List IP) : Int := if l.length > 200 then 2 else mrFrom (-1) l
theorem mrFrom_drop (l : List IP) (k : Nat) (h : k < l.length) (last : Int) : mrFrom last (l.drop k) = if btw l[k].1 (last + 1) 1000000 then mrFrom l[k].1 (l.drop (k+1)) else 3 := by
  rw [List.drop_eq_getElem_cons h, mrFrom]
theorem mrFrom_end (l : List IP) (k : Nat) (h : ¬ k < l.length) (last : Int) : mrFrom last (l.drop k) = 0 := by
  rw [List.drop_of_length_le (by omega)]; rfl

def MRel (l : List IP) (w : World) (v i : Value) (wr : World) : Prop :=
  ∃ (k : Nat) (last : Int), k ≤ l.length ∧ i = .int .i64 k ∧ v = .int .i64 last ∧ -1 ≤ last ∧ last ≤ 1000000 ∧ mrFrom last (l.drop k) = mrFrom (-1) l ∧ Below w.heap.size w wr

theorem mapRight_len (l : List IP) (h : mapRight l = 0) : l.length ≤ 200 := by
  unfold mapRight at h
  split at h
  · omega
  · omega

def CRel (l : List IP) (w : World) (i : Value) (wr : World) : Prop :=
  ∃ (k : Nat) (last : Int), k ≤ l.length ∧ i = .int .i64 k ∧ -1 ≤ last ∧ last ≤ 1000000 ∧ (k = 0 → last = -1) ∧ (∀ h : k - 1 < l.length, 0 < k → last = l[k-1].1 ∧ 0 ≤ last) ∧ mrFrom last (l.drop k) = mrFrom (-1) l ∧ Below w.heap.size w wr

set_option maxHeartbeats 400000 in
theorem check_any (l : List IP) (v : Value) (w : World) (hr : RD w ePair v l) :
    Calls Tryd.prog 70 #[v] w (Ret (.int .i64 (mapRight l)) w) := by
  obtain ⟨A, c, rfl, hc, hm⟩ := hr.shape
  by_cases hlen : l.length > 200
  · go_enter Tryd.func70, Tryd.ntmps70
    go_wp2
    go_ret
    exact ⟨by simp [mapRight, hlen], Below.refl _ _⟩
  · have hres : Hid (mapRight l = mrFrom (-1) l) := hide (by simp [mapRight, hlen])
    have HR := hide hr
    clear hr
    go_enter Tryd.func70, Tryd.ntmps70
    go_wp2
    go_loopw [10] (CRel l w) (fun i wr => l.length - (intOf i).toNat)
    case atStart => exact ⟨0, -1, by omega, rfl, by omega, by omega, fun _ => rfl, fun _ h => by omega, rfl, Below.refl _ _⟩
    case round =>
      obtain ⟨k, last, hk, rfl, h1, h2, h3, h4, hmr, hbel⟩ := hrel
      have hmr' := hide hmr
      clear hmr
      have hz := hbel.size
      by_cases hlt : k < l.length
      · obtain ⟨b, o, rfl, hb, c0, c1⟩ := (HR.out.below hbel).pair hlt
        have hd := mrFrom_drop l k hlt last
        rcases btw_cases l[k].1 0 1000000 with ⟨hB, hb3, hb4⟩ | ⟨hB, hb3⟩
        · have hB' := hide hB
          clear hB
          by_cases hk0 : k = 0
          · have hl : last = -1 := h3 hk0
            have hd1 : btw l[k].1 (last + 1) 1000000 = true := (btw_iff _ _ _).2 ⟨by omega, hb4⟩
            rw [hd1, if_pos rfl] at hd
            have hd' := hide hd
            have hg : decide (0 < k) = false := by simp; omega
            have hl' := hide hl
            have hk0' := hide hk0
            clear hd hd1 h3 h4 hl hk0
            go_wp2_with fail
            go_quiet ((go_at_call 76; exact Calls.quiet_of_same ((within_to _ _ _ true _ hB'.out).mono fun _ _ h => ⟨h.1, h.2.symm⟩)))
            go_wp2
            go_roundw
            case rel => exact ⟨k+1, l[k].1, by omega, by go_num, by omega, by omega, fun h => by omega, fun _ _ => ⟨rfl, hb3⟩, by rw [← hd'.out, hmr'.out], (by repeat' (first | exact Below.refl _ _ | (with_reducible assumption) | apply Below.drew | apply below_drewN | apply Below.alloc | apply Below.setCell)
                                                                                                                                                                all_goals (first | omega | (simp; omega) | (simp; done)))⟩
            case measure => simp [intOf]; omega
          · obtain ⟨hl, hl0⟩ := h4 (by omega) (by omega)
            obtain ⟨b2, o2, e2, _, c2, _⟩ := (HR.out.below hbel).pair (k := k - 1) (by omega)
            injection e2 with e2
            injection e2 with e3 e4
            subst e3 e4
            have hg : decide (0 < k) = true := by simp; omega
            have hw1 : IntKind.i64.wrap ((k : Int) - 1) = (k : Int) - 1 := IntWalk.i64_in _ (by omega)
            have hw2 : (0 : Int) ≤ (k : Int) - 1 := by omega
            have hw3 : (k : Int) - 1 < (l.length : Int) := by omega
            have hw4 : ((k : Int) - 1).toNat = k - 1 := by omega
            by_cases hge : l[k].1 ≤ l[k-1].1
            · have hd1 : btw l[k].1 (last + 1) 1000000 = false := (btw_f_iff _ _ _).2 (by omega)
              rw [hd1, if_neg (by simp)] at hd
              have hd' := hide hd
              have hl' := hide hl
              clear hd hd1 h3 h4 hl hk0
              go_wp2_with fail
              go_quiet ((go_at_call 76; exact Calls.quiet_of_same ((within_to _ _ _ true _ hB'.out).mono fun _ _ h => ⟨h.1, h.2.symm⟩)))
              go_wp2
              go_ret
              exact ⟨by rw [hres.out, ← hmr'.out, hd'.out]; rfl, (by repeat' (first | exact Below.refl _ _ | (with_reducible assumption) | apply Below.drew | apply below_drewN | apply Below.alloc | apply Below.setCell)
                                                                     all_goals (first | omega | (simp; omega) | (simp; done)))⟩
            · have hd1 : btw l[k].1 (last + 1) 1000000 = true := (btw_iff _ _ _).2 ⟨by omega, hb4⟩
              rw [hd1, if_pos rfl] at hd
              have hd' := hide hd
              have hl' := hide hl
              clear hd hd1 h3 h4 hl hk0
              go_wp2_with fail
              go_quiet ((go_at_call 76; exact Calls.quiet_of_same ((within_to _ _ _ true _ hB'.out).mono fun _ _ h => ⟨h.1, h.2.symm⟩)))
              go_wp2
              go_roundw
              case rel => exact ⟨k+1, l[k].1, by omega, by go_num, by omega, by omega, fun h => by omega, fun _ _ => ⟨rfl, hb3⟩, by rw [← hd'.out, hmr'.out], (by repeat' (first | exact Below.refl _ _ | (with_reducible assumption) | apply Below.drew | apply below_drewN | apply Below.alloc | apply Below.setCell)
                                                                                                                                                                  all_goals (first | omega | (simp; omega) | (simp; done)))⟩
              case measure => simp [intOf]; omega
        · have hd1 : btw l[k].1 (last + 1) 1000000 = false := (btw_f_iff _ _ _).2 (by omega)
          rw [hd1, if_neg (by simp)] at hd
          have hd' := hide hd
          have hB' := hide hB
          clear hd hd1 h3 h4 hB hb3
          go_wp2_with fail
          go_quiet ((go_at_call 76; exact Calls.quiet_of_same ((within_to _ _ _ false _ hB'.out).mono fun _ _ h => ⟨h.1, h.2.symm⟩)))
          go_wp2
          go_ret
          exact ⟨by rw [hres.out, ← hmr'.out, hd'.out]; rfl, (by repeat' (first | exact Below.refl _ _ | (with_reducible assumption) | apply Below.drew | apply below_drewN | apply Below.alloc | apply Below.setCell)
                                                                 all_goals (first | omega | (simp; omega) | (simp; done)))⟩
      · go_wp2
        go_ret
        exact ⟨by rw [hres.out, ← hmr'.out, mrFrom_end _ _ hlt]; rfl, hbel⟩
end Go.Proofs.YtfgbbmjnjppfnaaDoor
namespace Go.Proofs.YtfgbbmjnjppfnaaDoor
open Go.ChangeShapes Go.WideShapes Go.ChangeAt Go.RowKit
set_option linter.unusedVariables false
set_option linter.unusedSimpArgs false

/-- The place of the first least depth of so many spots, and whether it is alone. -/
def topF (l : List IP) : Nat → Nat → Nat → Bool → Nat × Bool
  | 0, _, a, al => (a, al)
  | n + 1, k, a, al => if gv l k < gv l a then topF l n (k + 1) k true else if gv l k = gv l a then topF l n (k + 1) a false else topF l n (k + 1) a al
def topS (l : List IP) (lo hi : Nat) : Nat × Bool := topF l (hi - (lo + 1)) (lo + 1) lo true
theorem topF_in (l : List IP) (lo hi : Nat) : ∀ n k a al, lo ≤ a → a < hi → k + n ≤ hi → lo ≤ k → lo ≤ (topF l n k a al).1 ∧ (topF l n k a al).1 < hi
  | 0, k, a, al, h1, h2, _, _ => ⟨h1, h2⟩
  | n + 1, k, a, al, h1, h2, h3, h4 => by
    unfold topF
    split
    · exact topF_in l lo hi n (k + 1) k true h4 (by omega) (by omega) (by omega)
    · split
      · exact topF_in l lo hi n (k + 1) a false h1 h2 (by omega) (by omega)
      · exact topF_in l lo hi n (k + 1) a al h1 h2 (by omega) (by omega)
theorem topS_in (l : List IP) (lo hi : Nat) (h : lo < hi) : lo ≤ (topS l lo hi).1 ∧ (topS l lo hi).1 < hi := topF_in l lo hi _ _ _ _ (Nat.le_refl _) h (by omega) (by omega)

def TopRel (l : List IP) (lo hi : Nat) (w : World) (av alv iv : Value) (wr : World) : Prop :=
  ∃ (k a : Nat) (al : Bool), k ≤ hi ∧ a < hi ∧ iv = .int .i64 k ∧ av = .int .i64 a ∧ alv = .bool al ∧ topF l (hi - k) k a al = topS l lo hi ∧ ∃ n, wr = w.drewN n

set_option maxHeartbeats 1000000 in
theorem top_any (l : List IP) (v : Value) (lo hi : Nat) (w : World) (hr : RD w ePair v l) (h1 : lo < hi) (h2 : hi ≤ l.length) :
    Calls Tryd.prog 81 #[v, .int .i64 (lo : Int), .int .i64 (hi : Int)] w (Drew (.tuple #[.int .i64 ((topS l lo hi).1 : Nat), .bool (topS l lo hi).2]) w) := by
  obtain ⟨A, c, rfl, hc, hm⟩ := hr.shape
  have HR := hide hr
  clear hr
  have b1 : (lo : Int) + 1 ≤ (hi : Int) := by omega
  have b2 : (hi : Int) ≤ 9223372036854775807 := by omega
  go_enter Tryd.func81, Tryd.ntmps81
  go_wp2
  go_loopw [8, 9, 10] (TopRel l lo hi w) (fun _ _ i _ => hi - (intOf i).toNat)
  case atStart => exact ⟨lo + 1, lo, true, by omega, by omega, by go_num, rfl, rfl, rfl, 0, rfl⟩
  case round =>
    obtain ⟨k, a, al, hk, ha, rfl, rfl, rfl, htop, n, rfl⟩ := hrel
    have HT := hide htop
    clear htop
    by_cases hlt : k < hi
    · obtain ⟨b, o, rfl, hb, c0, c1⟩ := (HR.out).pair (k := k) (by omega)
      obtain ⟨b', o', e1, _, d0, d1⟩ := (HR.out).pair (k := a) (by omega)
      injection e1 with e1
      injection e1 with e2 e3
      subst e2 e3
      have hst : Hid (topF l (hi - k) k a al = if gv l k < gv l a then topF l (hi - (k + 1)) (k + 1) k true else if gv l k = gv l a then topF l (hi - (k + 1)) (k + 1) a false else topF l (hi - (k + 1)) (k + 1) a al) :=
        hide (by rw [show hi - k = (hi - (k + 1)) + 1 from by omega, topF])
      have hg1 := gv_eq l k (by omega)
      have hg2 := gv_eq l a (by omega)
      have b3 : (k : Int) < (l.length : Int) := by omega
      have b4 : (a : Int) < (l.length : Int) := by omega
      have b5 : (0 : Int) ≤ (k : Int) := by omega
      have b6 : (0 : Int) ≤ (a : Int) := by omega
      rcases Int.lt_trichotomy l[k].2 l[a].2 with hd | hd | hd
      · have hn : Hid (topF l (hi - (k + 1)) (k + 1) k true = topS l lo hi) := hide (by rw [← HT.out, hst.out, if_pos (by rw [hg1, hg2]; exact hd)])
        clear hg1 hg2
        go_wp2_with fail
        go_quiet (fail)
        go_wp2
        go_roundw
        case rel => exact ⟨k + 1, k, true, by omega, by omega, by go_num, rfl, rfl, hn.out, _, rfl⟩
        case measure => simp [intOf]; omega
      · have hn : Hid (topF l (hi - (k + 1)) (k + 1) a false = topS l lo hi) := hide (by rw [← HT.out, hst.out, if_neg (by rw [hg1, hg2]; omega), if_pos (by rw [hg1, hg2]; exact hd)])
        have hq1 : decide (l[k].2 < l[a].2) = false := by simp; omega
        have hq2 : (l[k].2 == l[a].2) = true := by simp; omega
        clear hg1 hg2 hd
        go_wp2_with fail
        go_quiet (fail)
        go_wp2_with fail
        go_quiet (fail)
        go_wp2
        go_roundw
        case rel => exact ⟨k + 1, a, false, by omega, by omega, by go_num, rfl, rfl, hn.out, _, rfl⟩
        case measure => simp [intOf]; omega
      · have hn : Hid (topF l (hi - (k + 1)) (k + 1) a al = topS l lo hi) := hide (by rw [← HT.out, hst.out, if_neg (by rw [hg1, hg2]; omega), if_neg (by rw [hg1, hg2]; omega)])
        have hq1 : decide (l[k].2 < l[a].2) = false := by simp; omega
        have hq2 : (l[k].2 == l[a].2) = false := by simp; omega
        clear hg1 hg2 hd
        go_wp2_with fail
        go_quiet (fail)
        go_wp2_with fail
        go_quiet (fail)
        go_wp2
        go_roundw
        case rel => exact ⟨k + 1, a, al, by omega, by omega, by go_num, rfl, rfl, hn.out, _, rfl⟩
        case measure => simp [intOf]; omega
    · have hn : Hid (((a : Nat), al) = topS l lo hi) := hide (by rw [← HT.out, show hi - k = 0 from by omega]; rfl)
      go_wp2
      go_ret2
      exact ⟨by rw [← hn.out]; rfl, _, rfl⟩

/-- The tree of places of so many spots, from a depth on. -/
def ptR (l : List IP) (lo hi : Nat) (d : Int) : Option PT :=
  if h : lo < hi then
    have := topS_in l lo hi h
    if (topS l lo hi).2 = true ∧ gv l (topS l lo hi).1 = d then
      match ptR l lo (topS l lo hi).1 (d + 1), ptR l ((topS l lo hi).1 + 1) hi (d + 1) with
      | some a, some b => some (.node (topS l lo hi).1 a b)
      | _, _ => none
    else none
  else some .nil
termination_by hi - lo
theorem ptR_nil (l : List IP) (lo hi : Nat) (d : Int) (h : ¬ lo < hi) : ptR l lo hi d = some .nil := by rw [ptR, dif_neg h]
theorem ptR_node (l : List IP) (lo hi : Nat) (d : Int) (h : lo < hi) (at_ : Nat) (ht : topS l lo hi = (at_, true)) (hd : gv l at_ = d) :
    ptR l lo hi d = match ptR l lo at_ (d + 1), ptR l (at_ + 1) hi (d + 1) with
      | some a, some b => some (.node at_ a b)
      | _, _ => none := by
  rw [ptR, dif_pos h]
  simp only [ht, hd, and_self, if_true]
theorem ptR_none (l : List IP) (lo hi : Nat) (d : Int) (h : lo < hi) (hn : ¬ ((topS l lo hi).2 = true ∧ gv l (topS l lo hi).1 = d)) : ptR l lo hi d = none := by
  rw [ptR, dif_pos h]
  simp only [if_neg hn]
theorem ptR_size (l : List IP) (lo hi : Nat) (d : Int) (t : PT) (hlh : lo ≤ hi) (h : ptR l lo hi d = some t) : t.size = hi - lo := by
  by_cases h0 : lo < hi
  · have ht := topS_in l lo hi h0
    by_cases h1 : (topS l lo hi).2 = true ∧ gv l (topS l lo hi).1 = d
    · rw [ptR_node l lo hi d h0 (topS l lo hi).1 (by rw [← h1.1]) h1.2] at h
      cases ha : ptR l lo (topS l lo hi).1 (d + 1) with
      | none => rw [ha] at h; simp at h
      | some a =>
        cases hb : ptR l ((topS l lo hi).1 + 1) hi (d + 1) with
        | none => rw [ha, hb] at h; simp at h
        | some b =>
          rw [ha, hb] at h
          simp only [Option.some.injEq] at h
          subst h
          have h2 := ptR_size l lo (topS l lo hi).1 (d + 1) a ht.1 ha
          have h3 := ptR_size l ((topS l lo hi).1 + 1) hi (d + 1) b (by omega) hb
          simp only [PT.size]
          omega
    · rw [ptR_none l lo hi d h0 h1] at h
      cases h
  · rw [ptR_nil l lo hi d h0] at h
    injection h with h
    subst h
    simp [PT.size]; omega
termination_by hi - lo

def PPost (l : List IP) (g lo hi : Nat) (above d : Int) (out : List Int) (r : Bool) (w : World) (e : Ending) (w' : World) : Prop :=
  ∃ out' : List Int, e = .returned (.bool r) ∧ AR w' g 3 eInt out' ∧ out'.length = out.length ∧ Kg g w w' ∧ (∀ j, (j < lo ∨ hi ≤ j) → out'[j]? = out[j]?) ∧
    ∀ t, ptR l lo hi d = some t → ∀ j, j < hi - lo → out'[lo + j]? = (t.pars above)[j]?

set_option maxRecDepth 100000 in
set_option maxHeartbeats 1000000 in
theorem parents_any (l : List IP) (v : Value) (g : Nat) (hl : l.length ≤ 1000) (hvg : 0 < l.length → v.ownBlock ≠ some g) (n : Nat) : ∀ (lo hi : Nat) (above d : Int) (out : List Int) (r : Bool) (w : World), hi - lo ≤ n → lo ≤ hi → hi ≤ l.length → 0 ≤ d → d + n ≤ 1000000 →
    RD w ePair v l → AR w g 3 eInt out → out.length = l.length → (ptR l lo hi d).isSome = r →
    Calls Tryd.prog 69 #[v, .int .i64 (lo : Int), .int .i64 (hi : Int), .int .i64 above, .int .i64 d, .slice (some ⟨g, 0, none⟩) out.length out.length] w (PPost l g lo hi above d out r w) := by
  induction n with
  | zero =>
    intro lo hi above d out r w h1 h2 h3 h4 h5 hr ha hol hres
    obtain rfl : lo = hi := by omega
    have hpt := ptR_nil l lo lo d (by omega)
    rw [hpt] at hres
    obtain rfl : true = r := hres
    have HPT := hide hpt
    have HA := hide ha
    clear hpt hr ha hol hvg
    go_enter Tryd.func69, Tryd.ntmps69
    go_wp2
    go_ret
    exact ⟨out, rfl, HA.out, rfl, Kg.refl _ _, fun _ _ => rfl, fun t ht j hj => by omega⟩
  | succ n ih =>
    intro lo hi above d out r w h1 h2 h3 h4 h5 hr ha hol hres
    by_cases hlt : lo < hi
    · have hne : ((lo : Int) == (hi : Int)) = false := by simp; omega
      have htin := topS_in l lo hi hlt
      obtain ⟨⟨at_, al⟩, htop⟩ : ∃ p, p = topS l lo hi := ⟨_, rfl⟩
      rw [← htop] at htin
      have HTC := hide (fun w h => top_any l v lo hi w h hlt h3)
      rw [← htop] at HTC
      simp only at htin HTC
      obtain ⟨hi1, hi2⟩ := htin
      have HR := hide hr
      have HA := hide ha
      have HIH := hide ih
      have HVG := hide hvg
      clear hr ha ih hvg
      cases al with
      | false =>
        have hpt := ptR_none l lo hi d hlt (by rw [← htop]; simp)
        rw [hpt] at hres
        obtain rfl : false = r := hres
        have HPT := hide hpt
        clear hpt hol htop
        go_enter Tryd.func69, Tryd.ntmps69
        go_wp2_with (go_at_call 81; refine (HTC.out _ HR.out).mono ?_; rintro e w1 ⟨rfl, m, rfl⟩)
        go_ret
        exact ⟨out, rfl, HA.out, rfl, Kg.of (Kp.refl _).drewN, fun _ _ => rfl, fun t ht => by rw [HPT.out] at ht; cases ht⟩
      | true =>
        obtain ⟨A, c, rfl, hc, hm⟩ := HR.out.shape
        have hatl : at_ < l.length := by omega
        obtain ⟨b, o, rfl, hb, c0, c1⟩ := HR.out.pair (k := at_) hatl
        have hgv := gv_eq l at_ hatl
        have b1 : (at_ : Int) < (l.length : Int) := by omega
        by_cases hd : l[at_].2 = d
        · have hpt := ptR_node l lo hi d hlt at_ htop.symm (by rw [hgv, hd])
          have HD := hide hd
          have hnd : (l[at_].2 != d) = false := by simp [hd]
          clear hd hgv htop
          have HPT := hide hpt
          clear hpt
          have hw : IntKind.i64.wrap (d + 1) = d + 1 := IntWalk.i64_in _ (by omega)
          obtain ⟨x0, y0⟩ : ∃ x, w.cell? ⟨g, at_, none⟩ = some x := ⟨_, HA.out.int (by omega)⟩
          have f0 : w.frozen? ⟨g, at_, none⟩ = false := HA.out.frozen _
          have hgw := HA.out.lt
          have b2 : (at_ : Int) < (out.length : Int) := by omega
          have b3 : (out.length : Int) ≤ 1000 := by omega
          have HOL := hide hol
          clear hol
          have hsl : (out.set at_ above).length = out.length := by simp
          have HC1 := hide (fun r W (h : Kg g w W) (h2 : AR W g 3 eInt (out.set at_ above)) hr => HIH.out lo at_ at_ (d + 1) (out.set at_ above) r W (by omega) (by omega) (by omega) (by omega) (by omega) (HR.out.kg HVG.out h) h2 (by rw [hsl, HOL.out]) hr)
          have HC2 := hide (fun r W (out1 : List Int) (h0 : out1.length = out.length) (h : Kg g w W) (h2 : AR W g 3 eInt out1) hr => HIH.out (at_ + 1) hi at_ (d + 1) out1 r W (by omega) (by omega) (by omega) (by omega) (by omega) (HR.out.kg HVG.out h) h2 (by rw [h0, HOL.out]) hr)
          rw [hsl] at HC1
          have HSL := hide hsl
          clear hsl
          have tn : ((at_ : Int) + 1).toNat = at_ + 1 := by omega
          cases hpa : ptR l lo at_ (d + 1) with
          | none =>
            have hpn : ptR l lo hi d = none := by rw [HPT.out, hpa]
            rw [hpn] at hres
            obtain rfl : false = r := hres
            have HPN := hide hpn
            have HPA := hide hpa
            clear hpn hpa
            go_enter Tryd.func69, Tryd.ntmps69
            go_wp2_with (go_at_call 81; refine (HTC.out _ HR.out).mono ?_; rintro e w1 ⟨rfl, m, rfl⟩)
            refine (HC1.out false _ (Kg.of (Kp.refl w).drewN).set (HA.out.drewN.set above) (by rw [HPA.out]; rfl)).mono ?_
            rintro e w2 ⟨out1, rfl, ha1, hl1, hk1, hs1, ht1⟩
            have HA1 := hide ha1
            have HS1 := hide hs1
            have HL1 := hide hl1
            clear ha1 hl1 hs1 ht1
            go_wp2
            go_ret
            refine ⟨out1, rfl, HA1.out, by rw [HL1.out, HSL.out], (Kg.of (Kp.refl w).drewN).set.trans hk1, fun j hj => ?_, fun t ht => by rw [HPN.out] at ht; cases ht⟩
            rw [HS1.out j (by omega), List.getElem?_set_ne (by omega)]
          | some ta =>
            have hsa := ptR_size l lo at_ (d + 1) ta hi1 hpa
            cases hpb : ptR l (at_ + 1) hi (d + 1) with
            | none =>
              have hpn : ptR l lo hi d = none := by rw [HPT.out, hpa, hpb]
              rw [hpn] at hres
              obtain rfl : false = r := hres
              have HPN := hide hpn
              have HPA := hide hpa
              have HPB := hide hpb
              clear hpn hpa hpb hsa
              go_enter Tryd.func69, Tryd.ntmps69
              go_wp2_with (go_at_call 81; refine (HTC.out _ HR.out).mono ?_; rintro e w1 ⟨rfl, m, rfl⟩)
              refine (HC1.out true _ (Kg.of (Kp.refl w).drewN).set (HA.out.drewN.set above) (by rw [HPA.out]; rfl)).mono ?_
              rintro e w2 ⟨out1, rfl, ha1, hl1, hk1, hs1, ht1⟩
              have HA1 := hide ha1
              have HS1 := hide hs1
              have hk1' : Kg g w w2 := (Kg.of (Kp.refl w).drewN).set.trans hk1
              have hl1' : out1.length = out.length := by rw [hl1, HSL.out]
              have HC := HC2.out false w2 out1 hl1' hk1' HA1.out (by rw [HPB.out]; rfl)
              rw [hl1'] at HC
              have HCH := hide HC
              have HL1 := hide hl1'
              clear ha1 hl1 hs1 ht1 HC hl1'
              go_wp2_with fail
              refine HCH.out.mono ?_
              rintro e w3 ⟨out2, rfl, ha2, hl2, hk2, hs2, ht2⟩
              have HA2 := hide ha2
              have HS2 := hide hs2
              have HL2 := hide hl2
              clear ha2 hl2 hs2 ht2
              go_wp2
              go_ret
              refine ⟨out2, rfl, HA2.out, by rw [HL2.out, HL1.out], hk1'.trans hk2, fun j hj => ?_, fun t ht => by rw [HPN.out] at ht; cases ht⟩
              rw [HS2.out j (by omega), HS1.out j (by omega), List.getElem?_set_ne (by omega)]
            | some tb =>
              have hpn : ptR l lo hi d = some (.node at_ ta tb) := by rw [HPT.out, hpa, hpb]
              rw [hpn] at hres
              obtain rfl : true = r := hres
              have HPN := hide hpn
              have HPA := hide hpa
              have HPB := hide hpb
              have HSA := hide hsa
              clear hpn hpa hpb hsa
              go_enter Tryd.func69, Tryd.ntmps69
              go_wp2_with (go_at_call 81; refine (HTC.out _ HR.out).mono ?_; rintro e w1 ⟨rfl, m, rfl⟩)
              refine (HC1.out true _ (Kg.of (Kp.refl w).drewN).set (HA.out.drewN.set above) (by rw [HPA.out]; rfl)).mono ?_
              rintro e w2 ⟨out1, rfl, ha1, hl1, hk1, hs1, ht1⟩
              have HA1 := hide ha1
              have HS1 := hide hs1
              have HT1 := hide ht1
              have hk1' : Kg g w w2 := (Kg.of (Kp.refl w).drewN).set.trans hk1
              have hl1' : out1.length = out.length := by rw [hl1, HSL.out]
              have HC := HC2.out true w2 out1 hl1' hk1' HA1.out (by rw [HPB.out]; rfl)
              rw [hl1'] at HC
              have HCH := hide HC
              have HL1 := hide hl1'
              clear ha1 hl1 hs1 ht1 HC hl1'
              go_wp2_with fail
              refine HCH.out.mono ?_
              rintro e w3 ⟨out2, rfl, ha2, hl2, hk2, hs2, ht2⟩
              have HA2 := hide ha2
              have HS2 := hide hs2
              have HL2 := hide hl2
              have HT2 := hide ht2
              clear ha2 hl2 hs2 ht2
              go_wp2
              go_ret
              refine ⟨out2, rfl, HA2.out, by rw [HL2.out, HL1.out], hk1'.trans hk2, fun j hj => ?_, fun t ht j hj => ?_⟩
              · rw [HS2.out j (by omega), HS1.out j (by omega), List.getElem?_set_ne (by omega)]
              · rw [HPN.out] at ht
                injection ht with ht
                subst ht
                have hsa := HSA.out
                have hpl := PT.pars_len ta (at_ : Int)
                have h9 := HOL.out
                simp only [PT.pars, List.append_assoc]
                rcases Nat.lt_trichotomy j (at_ - lo) with hj1 | hj1 | hj1
                · rw [HS2.out _ (by omega), HT1.out ta HPA.out j hj1, List.getElem?_append_left (by omega)]
                · rw [HS2.out _ (by omega), HS1.out _ (by omega), List.getElem?_append_right (by omega), hpl, show j - ta.size = 0 from by omega]
                  rw [show lo + j = at_ from by omega, List.getElem?_set_self (by omega)]
                  rfl
                · have h8 := HT2.out tb HPB.out (j - (at_ + 1 - lo)) (by omega)
                  rw [show at_ + 1 + (j - (at_ + 1 - lo)) = lo + j from by omega] at h8
                  rw [h8, List.getElem?_append_right (by omega), hpl, show j - ta.size = (j - (at_ + 1 - lo)) + 1 from by omega]
                  rfl
        · have hpt := ptR_none l lo hi d hlt (by rw [← htop]; simp only [hgv]; exact fun h => hd h.2)
          rw [hpt] at hres
          obtain rfl : false = r := hres
          have HPT := hide hpt
          have hnd : (l[at_].2 != d) = true := by simp [hd]
          clear hpt hol htop hd hgv
          go_enter Tryd.func69, Tryd.ntmps69
          go_wp2_with (go_at_call 81; refine (HTC.out _ HR.out).mono ?_; rintro e w1 ⟨rfl, m, rfl⟩)
          go_ret
          exact ⟨out, rfl, HA.out, rfl, Kg.of (Kp.refl _).drewN, fun _ _ => rfl, fun t ht => by rw [HPT.out] at ht; cases ht⟩
    · obtain rfl : lo = hi := by omega
      have hpt := ptR_nil l lo lo d (by omega)
      rw [hpt] at hres
      obtain rfl : true = r := hres
      have HPT := hide hpt
      have HA := hide ha
      clear hpt hr ha hol hvg ih
      go_enter Tryd.func69, Tryd.ntmps69
      go_wp2
      go_ret
      exact ⟨out, rfl, HA.out, rfl, Kg.refl _ _, fun _ _ => rfl, fun t ht j hj => by omega⟩
end Go.Proofs.YtfgbbmjnjppfnaaDoor
namespace Go.Proofs.YtfgbbmjnjppfnaaDoor
open Go.ChangeShapes Go.WideShapes Go.ChangeAt Go.RowKit
set_option linter.unusedVariables false
set_option linter.unusedSimpArgs false

def gk (l : List IP) (k : Nat) : Int := (l.getD k (0, 0)).1
theorem gk_eq (l : List IP) (k : Nat) (h : k < l.length) : gk l k = l[k].1 := by simp [gk, List.getD_eq_getElem?_getD, List.getElem?_eq_getElem h]
def walkF (l : List IP) (last : Bool) (lo hi : Nat) : List Int :=
  if h : lo < hi then
    have := topS_in l lo hi h
    if last then walkF l last lo (topS l lo hi).1 ++ walkF l last ((topS l lo hi).1 + 1) hi ++ [gk l (topS l lo hi).1]
    else [gk l (topS l lo hi).1] ++ walkF l last lo (topS l lo hi).1 ++ walkF l last ((topS l lo hi).1 + 1) hi
  else []
termination_by hi - lo
theorem walkF_nil (l : List IP) (last : Bool) (lo hi : Nat) (h : ¬ lo < hi) : walkF l last lo hi = [] := by rw [walkF, dif_neg h]
theorem walkF_last (l : List IP) (lo hi : Nat) (h : lo < hi) : walkF l true lo hi = walkF l true lo (topS l lo hi).1 ++ walkF l true ((topS l lo hi).1 + 1) hi ++ [gk l (topS l lo hi).1] := by rw [walkF, dif_pos h, if_pos rfl]
theorem walkF_first (l : List IP) (lo hi : Nat) (h : lo < hi) : walkF l false lo hi = [gk l (topS l lo hi).1] ++ walkF l false lo (topS l lo hi).1 ++ walkF l false ((topS l lo hi).1 + 1) hi := by rw [walkF, dif_pos h, if_neg (by simp)]
theorem walkF_len (l : List IP) (last : Bool) (lo hi : Nat) : (walkF l last lo hi).length = hi - lo := by
  by_cases h : lo < hi
  · have ht := topS_in l lo hi h
    have h1 := walkF_len l last lo (topS l lo hi).1
    have h2 := walkF_len l last ((topS l lo hi).1 + 1) hi
    cases last
    · rw [walkF_first l lo hi h]; simp [h1, h2]; omega
    · rw [walkF_last l lo hi h]; simp [h1, h2]; omega
  · rw [walkF_nil l last lo hi h]; simp; omega
termination_by hi - lo

theorem seg_split (l : List IP) (lo at_ hi : Nat) (h1 : lo ≤ at_) (h2 : at_ < hi) (h3 : hi ≤ l.length) : (l.take hi).drop lo = (l.take at_).drop lo ++ [l[at_]'(by omega)] ++ (l.take hi).drop (at_ + 1) := by
  apply List.ext_getElem?
  intro j
  by_cases hj : j < hi - lo
  · rw [List.getElem?_drop, List.getElem?_take, if_pos (by omega)]
    rcases Nat.lt_trichotomy (lo + j) at_ with h | h | h
    · rw [List.append_assoc, List.getElem?_append_left (by simp; omega), List.getElem?_drop, List.getElem?_take, if_pos h]
    · rw [List.append_assoc, List.getElem?_append_right (by simp; omega)]
      rw [show j - (List.drop lo (List.take at_ l)).length = 0 from by simp; omega]
      rw [h]; simp
    · rw [List.getElem?_append_right (by simp; omega)]
      simp only [List.length_append, List.length_drop, List.length_take, List.length_singleton]
      rw [List.getElem?_drop, List.getElem?_take, if_pos (by omega)]
      congr 1; omega
  · rw [List.getElem?_eq_none (by simp; omega), List.getElem?_eq_none (by simp; omega)]
end Go.Proofs.YtfgbbmjnjppfnaaDoor
