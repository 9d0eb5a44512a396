/-
  Trees that are written (MT): nodes in blocks of their own, with a list of these blocks; a way down to a link that holds a subtree (ZP); what a call leaves that writes some blocks only (Kf); a variable that holds a slice (OB). Conditions: none.
  A variable that holds a slice which grows (OB): read, appended to. Conditions: none.
  Slices of slices that are read (RDS). Conditions: none.
  A slice of slices that the call owns (OWS): appended to, read (RDS). Conditions: none.
  The table of hands in memory: beads, hands, what is told; what each write leaves. Conditions: as each theorem says.
  An argument that is a slice of slices of deeds, or a deed, opened. Conditions: none.
  A region that draws its order, told slot by slot: wp_region_tab: a table T of what its slots hold, with some told by G; whatever the order. No program. Conditions: none.
  A region told slot by slot, more: a step that stores, what an operation waits for, the frame behind a region. No program. Conditions: none.
  The small methods of a hand and of the table: key, kind, take. Conditions: the table lies as WN says.
  The method add of a hand: a new bead behind the first one. Conditions: the table lies as WN says.
-/
import Derived.Test.YtoihdnekkgpcoaaG3
import Derived.Test.YtoihdnekkgpcoaaG1
import Derived.Orders

namespace Go.Proofs.Ytoihdnekkgpcoaa
open Go.ChangeShapes Go.WideShapes Go.ChangeAt Go.RowKit
set_option linter.unusedVariables false
set_option linter.unusedSimpArgs false

/-! All but these blocks stands. -/
def Kf (F : Nat → Prop) (w w' : World) : Prop := w'.os = w.os ∧ w'.tape = w.tape ∧ w'.output = w.output ∧ w.heap.size ≤ w'.heap.size ∧ ∀ i, i < w.heap.size → ¬ F i → w'.heap[i]? = w.heap[i]?
section
variable {F G : Nat → Prop} {a b c w w' : World}
theorem Kf.refl (F : Nat → Prop) (w : World) : Kf F w w := ⟨rfl, rfl, rfl, Nat.le_refl _, fun _ _ _ => rfl⟩
theorem Kf.size (h : Kf F w w') : w.heap.size ≤ w'.heap.size := h.2.2.2.1
theorem Kf.block (h : Kf F w w') {i : Nat} (hi : i < w.heap.size) (hn : ¬ F i) : w'.heap[i]? = w.heap[i]? := h.2.2.2.2 i hi hn
theorem Kf.mono (h : Kf F w w') (hF : ∀ i, i < w.heap.size → F i → G i) : Kf G w w' := ⟨h.1, h.2.1, h.2.2.1, h.2.2.2.1, fun i hi hn => h.block hi fun hf => hn (hF i hi hf)⟩
theorem Kf.trans (h : Kf F a b) (k : Kf G b c) (hG : ∀ i, i < a.heap.size → G i → F i) : Kf F a c :=
  ⟨k.1.trans h.1, k.2.1.trans h.2.1, k.2.2.1.trans h.2.2.1, Nat.le_trans h.size k.size, fun i hi hn => (k.block (Nat.lt_of_lt_of_le hi h.size) fun hg => hn (hG i hi hg)).trans (h.block hi hn)⟩
theorem Kf.of (h : Kp w w') : Kf F w w' := by
  obtain ⟨h1, h2, h3, h4, h5⟩ := h
  exact ⟨h1, h2, h3, h4, fun i hi _ => h5 i hi⟩
theorem Kf.on (h : Kf F a b) (k : Kp b c) : Kf F a c := h.trans (Kf.of (F := fun _ => False) k) (fun _ _ h => h.elim)
theorem Kf.kp (h : Kf F w w') (k : Kp a w) (hF : ∀ i, F i → a.heap.size ≤ i) : Kp a w' := by
  obtain ⟨h1, h2, h3, h4, h5⟩ := h
  have hz := k.size
  exact Below.trans (b := w) k ⟨h1, h2, h3, h4, fun i hi => h5 i (by omega) (fun hf => by have := hF i hf; omega)⟩
theorem Kf.set {p : Addr} {u : Value} (h : Kf F a b) (hp : F p.block ∨ a.heap.size ≤ p.block) : Kf F a (b.setCell p u) :=
  ⟨h.1, h.2.1, h.2.2.1, Nat.le_trans h.size (by simp [World.setCell]), fun i hi hn => (Below.heap_setCell _ _ _ _ (by rintro rfl; rcases hp with hp | hp; exact hn hp; omega)).trans (h.block hi hn)⟩
theorem Kf.app {v : Value} (h : Kf F a b) (hg : b.grownBy c v.ownBlock) (hv : ∀ k, v.ownBlock = some k → F k ∨ a.heap.size ≤ k) : Kf F a c := by
  obtain ⟨h1, h2, h3, h4, h5⟩ := hg
  refine ⟨h1.trans h.1, h2.trans h.2.1, h3.trans h.2.2.1, Nat.le_trans h.size h4, fun i hi hn => (h5 i (Nat.lt_of_lt_of_le hi h.size) fun e => ?_).trans (h.block hi hn)⟩
  rcases hv i e.symm with h | h
  · exact hn h
  · omega
theorem Kf.cell (h : Kf F w w') {p : Addr} (hn : ¬ F p.block) {u : Value} (hc : w.cell? p = some u) : w'.cell? p = some u :=
  (World.cell?_of_block (h.block (World.block_lt_of_cell? _ _ hc) hn)).trans hc
theorem Kf.frozen (h : Kf F w w') {p : Addr} (hp : p.block < w.heap.size) (hn : ¬ F p.block) : w'.frozen? p = w.frozen? p := World.frozen?_of_block (h.block hp hn)
theorem RD.kf {α : Type} {E : Enc α} {v : Value} {l : List α} (h : RD w E v l) (hk : Kf F w w') (hv : 0 < l.length → ∀ k, v.ownBlock = some k → ¬ F k) : RD w' E v l := by
  obtain ⟨A, c, rfl, h1, h2, hn, h3⟩ := h
  refine ⟨A, c, rfl, h1, h2, hn, fun h0 => ?_⟩
  obtain ⟨b, o, rfl, hb, hc⟩ := h3 h0
  refine ⟨b, o, rfl, Nat.lt_of_lt_of_le hb hk.size, fun k hk' j hj => ?_⟩
  rw [← hc k hk' j hj]
  exact World.cell?_of_block (hk.block hb (hv h0 b rfl))
theorem OW.kf {α : Type} {B : Nat} {e : TypeId} {E : Enc α} {v : Value} {l : List α} (h : OW w B e E v l) (hk : Kf F w w') (hv : ∀ k, v.ownBlock = some k → ¬ F k) : OW w' B e E v l := by
  obtain ⟨h1, h2⟩ := h
  refine ⟨h1, ?_⟩
  rcases h2 with h2 | ⟨g, cap, cur, rfl, hg, hh, r⟩
  · exact .inl h2
  · refine .inr ⟨g, cap, cur, rfl, hg, ?_, r⟩
    rw [hk.block (Array.getElem?_eq_some_iff.1 hh).1 (hv g rfl)]
    exact hh
/-- A block's whole content. -/
def BC (w : World) (b : Nat) (t : TypeId) (cs : List Value) : Prop := w.heap[b]? = some (.cells cs.toArray t (0, 0))
theorem BC.lt {i : Nat} {t : TypeId} {cs : List Value} (h : BC w i t cs) : i < w.heap.size := (Array.getElem?_eq_some_iff.1 h).1
theorem BC.kf {i : Nat} {t : TypeId} {cs : List Value} (h : BC w i t cs) (hk : Kf F w w') (hn : ¬ F i) : BC w' i t cs := (hk.block h.lt hn).trans h
theorem BC.kp {i : Nat} {t : TypeId} {cs : List Value} (h : BC w i t cs) (hk : Kp w w') : BC w' i t cs := (hk.bel.block i h.lt).trans h
theorem BC.new (w : World) (t : TypeId) (cs : List Value) : BC (w.alloc (.cells cs.toArray t)) w.heap.size t cs := heap_alloc_new w _
theorem BC.cell {i : Nat} {t : TypeId} {cs : List Value} (h : BC w i t cs) (j : Nat) : w.cell? ⟨i, j, none⟩ = cs[j]? := by
  rw [cell_of_row w i j _ t (0, 0) h]; simp
theorem BC.frozen {i : Nat} {t : TypeId} {cs : List Value} (h : BC w i t cs) (j : Nat) : w.frozen? ⟨i, j, none⟩ = false := by
  unfold BC at h
  simp [World.frozen?, h]
theorem BC.ne {i j : Nat} {t u : TypeId} {cs ds : List Value} (h : BC w i t cs) (h' : BC w j u ds) (hn : t ≠ u) : i ≠ j := by
  rintro rfl
  unfold BC at h h'
  rw [h] at h'
  injection h' with h'
  injection h' with _ e
  exact hn e
theorem BC.set {i j : Nat} {t : TypeId} {cs : List Value} {u : Value} (h : BC w i t cs) : BC (w.setCell ⟨i, j, none⟩ u) i t (cs.set j u) := by
  unfold BC at h ⊢
  simp [World.setCell, Array.getElem?_modify, h]
theorem BC.far {i : Nat} {t : TypeId} {cs : List Value} {p : Addr} {u : Value} (h : BC w i t cs) (hp : i ≠ p.block) : BC (w.setCell p u) i t cs := (Below.heap_setCell w p u i hp).trans h
theorem OW.bc_ne {α : Type} {B i : Nat} {e t : TypeId} {E : Enc α} {v : Value} {l : List α} {cs : List Value} (h : OW w B e E v l) (h' : BC w i t cs) (hn : e ≠ t) : v.ownBlock ≠ some i := by
  rcases h.2 with ⟨rfl, _⟩ | ⟨g, cap, cur, rfl, hg, hh, r⟩
  · simp [Value.ownBlock]
  · intro e1
    injection e1 with e1
    subst e1
    unfold BC at h'
    rw [hh] at h'
    injection h' with h'
    injection h' with _ e
    exact hn e
end

/-! Trees. -/
inductive MT (α : Type) where
  | nil
  | node (a : α) (l r : MT α)
def MT.size {α : Type} : MT α → Nat
  | .nil => 0
  | .node _ l r => l.size + 1 + r.size
def nodeC {α : Type} (E : Enc α) (a : α) (pl pr : Option Addr) : List Value := E.cells a ++ [.pointer pl, .pointer pr]
section
variable {α : Type} {E : Enc α} {nt : TypeId} {w w' : World}
def MR (w : World) (nt : TypeId) (E : Enc α) : MT α → Option Addr → List Nat → Prop
  | .nil, p, F => p = none ∧ F = []
  | .node a l r, p, F => ∃ b pl pr Fl Fr, p = some ⟨b, 0, none⟩ ∧ F = b :: (Fl ++ Fr) ∧ BC w b nt (nodeC E a pl pr) ∧ b ∉ Fl ∧ b ∉ Fr ∧ (∀ x ∈ Fl, x ∉ Fr) ∧ MR w nt E l pl Fl ∧ MR w nt E r pr Fr
theorem MR.keep {F : List Nat} (hk : ∀ i ∈ F, w'.heap[i]? = w.heap[i]?) : ∀ {t : MT α} {p : Option Addr}, MR w nt E t p F → MR w' nt E t p F := by
  intro t
  induction t generalizing F with
  | nil => intro p h; exact h
  | node a l r ihl ihr =>
    rintro p ⟨b, pl, pr, Fl, Fr, rfl, rfl, hb, h1, h2, h3, hl, hr⟩
    exact ⟨b, pl, pr, Fl, Fr, rfl, rfl, (hk b (by simp)).trans hb, h1, h2, h3, ihl (fun i hi => hk i (by simp [hi])) hl, ihr (fun i hi => hk i (by simp [hi])) hr⟩
theorem MR.bc {t : MT α} {p : Option Addr} {F : List Nat} (h : MR w nt E t p F) : ∀ i ∈ F, ∃ cs, BC w i nt cs := by
  induction t generalizing F p with
  | nil => obtain ⟨rfl, rfl⟩ := h; simp
  | node a l r ihl ihr =>
    obtain ⟨b, pl, pr, Fl, Fr, rfl, rfl, hb, h1, h2, h3, hl, hr⟩ := h
    intro i hi
    rcases List.mem_cons.1 hi with rfl | hi
    · exact ⟨_, hb⟩
    · rcases List.mem_append.1 hi with hi | hi
      · exact ihl hl i hi
      · exact ihr hr i hi
theorem MR.lt {t : MT α} {p : Option Addr} {F : List Nat} (h : MR w nt E t p F) : ∀ i ∈ F, i < w.heap.size := fun i hi => by
  obtain ⟨cs, h⟩ := h.bc i hi
  exact h.lt
theorem MR.kf {G : Nat → Prop} {t : MT α} {p : Option Addr} {F : List Nat} (h : MR w nt E t p F) (hk : Kf G w w') (hn : ∀ i ∈ F, ¬ G i) : MR w' nt E t p F :=
  MR.keep (fun i hi => hk.block (h.lt i hi) (hn i hi)) h
theorem MR.kp {t : MT α} {p : Option Addr} {F : List Nat} (h : MR w nt E t p F) (hk : Kp w w') : MR w' nt E t p F := h.kf (Kf.of (F := fun _ => False) hk) (fun _ _ h => h)
theorem MR.set {t : MT α} {p : Option Addr} {F : List Nat} (h : MR w nt E t p F) {q : Addr} {u : Value} (hn : q.block ∉ F) : MR (w.setCell q u) nt E t p F :=
  MR.keep (fun i hi => Below.heap_setCell _ _ _ _ (by rintro rfl; exact hn hi)) h
theorem MR.nil : MR w nt E (.nil : MT α) none [] := ⟨rfl, rfl⟩
theorem MR.of_none {t : MT α} {F : List Nat} (h : MR w nt E t none F) : t = .nil ∧ F = [] := by
  cases t with
  | nil => exact ⟨rfl, h.2⟩
  | node a l r => obtain ⟨b, pl, pr, Fl, Fr, h1, _⟩ := h; cases h1
theorem MR.of_some {t : MT α} {F : List Nat} {p : Addr} (h : MR w nt E t (some p) F) : ∃ a l r b pl pr Fl Fr, t = .node a l r ∧ p = ⟨b, 0, none⟩ ∧ F = b :: (Fl ++ Fr) ∧ BC w b nt (nodeC E a pl pr) ∧ b ∉ Fl ∧ b ∉ Fr ∧ (∀ x ∈ Fl, x ∉ Fr) ∧ MR w nt E l pl Fl ∧ MR w nt E r pr Fr := by
  cases t with
  | nil => obtain ⟨h1, _⟩ := h; cases h1
  | node a l r =>
    obtain ⟨b, pl, pr, Fl, Fr, h1, h2, h3, h4, h5, h6, h7, h8⟩ := h
    injection h1 with h1
    exact ⟨a, l, r, b, pl, pr, Fl, Fr, rfl, h1, h2, h3, h4, h5, h6, h7, h8⟩
theorem MR.mk {a : α} {l r : MT α} {b : Nat} {pl pr : Option Addr} {Fl Fr : List Nat} (hb : BC w b nt (nodeC E a pl pr)) (h1 : b ∉ Fl) (h2 : b ∉ Fr) (h3 : ∀ x ∈ Fl, x ∉ Fr) (hl : MR w nt E l pl Fl) (hr : MR w nt E r pr Fr) :
    MR w nt E (.node a l r) (some ⟨b, 0, none⟩) (b :: (Fl ++ Fr)) := ⟨b, pl, pr, Fl, Fr, rfl, rfl, hb, h1, h2, h3, hl, hr⟩
/-- A new leaf. -/
theorem MR.leaf (w : World) (a : α) : MR (w.alloc (.cells (nodeC E a none none).toArray nt)) nt E (.node a .nil .nil) (some ⟨w.heap.size, 0, none⟩) [w.heap.size] :=
  MR.mk (Fl := []) (Fr := []) (BC.new w nt _) (by simp) (by simp) (by simp) MR.nil MR.nil

/-! A way down: a link that holds a subtree, and all that stands round it. -/
structure Fm (α : Type) where
  a : α
  left : Bool
  o : MT α
def Fm.on (f : Fm α) (t : MT α) : MT α := if f.left then .node f.a t f.o else .node f.a f.o t
def plug : List (Fm α) → MT α → MT α
  | [], t => t
  | f :: C, t => plug C (f.on t)
def lk (E : Enc α) (left : Bool) : Nat := if left then E.size else E.size + 1
def fmC (E : Enc α) (f : Fm α) (ph po : Option Addr) : List Value := if f.left then nodeC E f.a ph po else nodeC E f.a po ph
def ZP (w : World) (nt : TypeId) (E : Enc α) (r0 : Addr) : List (Fm α) → Addr → List Nat → Prop
  | [], q, F => q = r0 ∧ F = []
  | f :: C, q, F => ∃ b ph po Fo q' F', q = ⟨b, lk E f.left, none⟩ ∧ BC w b nt (fmC E f ph po) ∧ MR w nt E f.o po Fo ∧ ZP w nt E r0 C q' F' ∧ w.cell? q' = some (.pointer (some ⟨b, 0, none⟩)) ∧ F = b :: (Fo ++ F') ∧ b ∉ Fo ∧ b ∉ F' ∧ ∀ x ∈ Fo, x ∉ F'
variable {r0 q : Addr}
theorem ZP.nil : ZP w nt E r0 ([] : List (Fm α)) r0 [] := ⟨rfl, rfl⟩
theorem ZP.bc {C : List (Fm α)} {F : List Nat} (h : ZP w nt E r0 C q F) : ∀ i ∈ F, ∃ cs, BC w i nt cs := by
  induction C generalizing q F with
  | nil => obtain ⟨rfl, rfl⟩ := h; simp
  | cons f C ih =>
    obtain ⟨b, ph, po, Fo, q', F', rfl, hb, ho, hz, hc, rfl, h1, h2, h3⟩ := h
    intro i hi
    rcases List.mem_cons.1 hi with rfl | hi
    · exact ⟨_, hb⟩
    · rcases List.mem_append.1 hi with hi | hi
      · exact ho.bc i hi
      · exact ih hz i hi
theorem ZP.at_ {C : List (Fm α)} {F : List Nat} (h : ZP w nt E r0 C q F) : q = r0 ∨ q.block ∈ F := by
  cases C with
  | nil => exact .inl h.1
  | cons f C =>
    obtain ⟨b, ph, po, Fo, q', F', rfl, hb, ho, hz, hc, rfl, h1, h2, h3⟩ := h
    exact .inr (by simp)
theorem ZP.keep {C : List (Fm α)} {F : List Nat} (hr : w'.cell? r0 = w.cell? r0) (hk : ∀ i ∈ F, w'.heap[i]? = w.heap[i]?) (h : ZP w nt E r0 C q F) : ZP w' nt E r0 C q F := by
  induction C generalizing q F with
  | nil => exact h
  | cons f C ih =>
    obtain ⟨b, ph, po, Fo, q', F', rfl, hb, ho, hz, hc, rfl, h1, h2, h3⟩ := h
    refine ⟨b, ph, po, Fo, q', F', rfl, (hk b (by simp)).trans hb, MR.keep (fun i hi => hk i (by simp [hi])) ho, ih (fun i hi => hk i (by simp [hi])) hz, ?_, rfl, h1, h2, h3⟩
    rcases hz.at_ with rfl | hq
    · exact hr.trans hc
    · exact (World.cell?_of_block (hk _ (by simp [hq]))).trans hc
theorem ZP.kf {G : Nat → Prop} {C : List (Fm α)} {F : List Nat} (h : ZP w nt E r0 C q F) (hk : Kf G w w') (hr : ¬ G r0.block) (hrl : r0.block < w.heap.size) (hn : ∀ i ∈ F, ¬ G i) : ZP w' nt E r0 C q F :=
  h.keep (World.cell?_of_block (hk.block hrl hr)) fun i hi => by
    obtain ⟨cs, hb⟩ := h.bc i hi
    exact hk.block hb.lt (hn i hi)
theorem ZP.kp {C : List (Fm α)} {F : List Nat} (h : ZP w nt E r0 C q F) (hk : Kp w w') (hrl : r0.block < w.heap.size) : ZP w' nt E r0 C q F := h.kf (Kf.of (F := fun _ => False) hk) (fun h => h) hrl fun _ _ h => h
/-- A store into the link. -/
theorem ZP.store {C : List (Fm α)} {F : List Nat} (h : ZP w nt E r0 C q F) (hr : r0.block ∉ F) (p : Option Addr) : ZP (w.setCell q (.pointer p)) nt E r0 C q F := by
  cases C with
  | nil => exact h
  | cons f C =>
    obtain ⟨b, ph, po, Fo, q', F', rfl, hb, ho, hz, hc, rfl, h1, h2, h3⟩ := h
    simp only [List.mem_cons, List.mem_append, not_or] at hr
    have hne : q' ≠ ⟨b, lk E f.left, none⟩ := by
      rintro rfl
      rcases hz.at_ with h | h
      · exact hr.1 (by rw [← h])
      · exact h2 h
    refine ⟨b, p, po, Fo, q', F', rfl, ?_, ho.set h1, hz.keep (World.cell?_setCell_other _ _ _ _ (fun e => hr.1 (by rw [← e]))) (fun i hi => Below.heap_setCell _ _ _ _ (by rintro rfl; exact h2 hi)), ?_, rfl, h1, h2, h3⟩
    · have h4 := hb.set (j := lk E f.left) (u := .pointer p)
      have hl := E.len f.a
      have e : (fmC E f ph po).set (lk E f.left) (.pointer p) = fmC E f p po := by
        unfold fmC lk nodeC
        cases f.left
        · simp only [Bool.false_eq_true, if_false]
          rw [List.set_append_right _ _ (by omega), hl]; simp
        · simp only [if_true]
          rw [List.set_append_right _ _ (by omega), hl]; simp
      rw [e] at h4
      exact h4
    · rw [World.cell?_setCell_other _ _ _ _ (fun e => hne (by rw [e]))]; exact hc
theorem fmC_link (E : Enc α) (f : Fm α) (ph po : Option Addr) : (fmC E f ph po)[lk E f.left]? = some (.pointer ph) := by
  have hl := E.len f.a
  unfold fmC lk nodeC
  cases f.left
  · simp only [Bool.false_eq_true, if_false]
    rw [List.getElem?_append_right (by omega), hl]; simp
  · simp only [if_true]
    rw [List.getElem?_append_right (by omega), hl]; simp
/-- All of it is one tree. -/
theorem ZP.close {C : List (Fm α)} {F Ft : List Nat} {t : MT α} {p : Option Addr} (h : ZP w nt E r0 C q F) (hc : w.cell? q = some (.pointer p)) (ht : MR w nt E t p Ft) (hd : ∀ x ∈ Ft, x ∉ F) :
    ∃ p0 F0, w.cell? r0 = some (.pointer p0) ∧ MR w nt E (plug C t) p0 F0 ∧ ∀ x, x ∈ F0 ↔ x ∈ Ft ∨ x ∈ F := by
  induction C generalizing q F Ft t p with
  | nil =>
    obtain ⟨rfl, rfl⟩ := h
    exact ⟨p, Ft, hc, ht, fun x => by simp⟩
  | cons f C ih =>
    obtain ⟨b, ph, po, Fo, q', F', rfl, hb, ho, hz, hc', rfl, h1, h2, h3⟩ := h
    have e := hb.cell (lk E f.left)
    rw [hc, fmC_link] at e
    injection e with e
    injection e with e
    subst e
    have hbt : b ∉ Ft := fun h => hd b h (by simp)
    have hto : ∀ x ∈ Ft, x ∉ Fo := fun x hx hx' => hd x hx (by simp [hx'])
    cases hf : f.left with
    | true =>
      have hb' : BC w b nt (nodeC E f.a p po) := by simpa [fmC, hf] using hb
      obtain ⟨p0, F0, g1, g2, g3⟩ := ih hz hc' (MR.mk hb' hbt h1 hto ht ho) (fun x hx hx' => by
        rcases List.mem_cons.1 hx with rfl | hx
        · exact h2 hx'
        · rcases List.mem_append.1 hx with hx | hx
          · exact hd x hx (by simp [hx'])
          · exact h3 x hx hx')
      exact ⟨p0, F0, g1, by simpa [plug, Fm.on, hf] using g2, fun x => by rw [g3 x]; simp only [List.mem_cons, List.mem_append, or_assoc, or_left_comm, or_comm]⟩
    | false =>
      have hb' : BC w b nt (nodeC E f.a po p) := by simpa [fmC, hf] using hb
      obtain ⟨p0, F0, g1, g2, g3⟩ := ih hz hc' (MR.mk hb' h1 hbt (fun x hx hx' => hto x hx' hx) ho ht) (fun x hx hx' => by
        rcases List.mem_cons.1 hx with rfl | hx
        · exact h2 hx'
        · rcases List.mem_append.1 hx with hx | hx
          · exact h3 x hx hx'
          · exact hd x hx (by simp [hx']))
      exact ⟨p0, F0, g1, by simpa [plug, Fm.on, hf] using g2, fun x => by rw [g3 x]; simp only [List.mem_cons, List.mem_append, or_assoc, or_left_comm, or_comm]⟩
/-- One step down. -/
theorem ZP.push {C : List (Fm α)} {F Fl Fr : List Nat} {a : α} {l r : MT α} {b : Nat} {pl pr : Option Addr} (h : ZP w nt E r0 C q F) (hc : w.cell? q = some (.pointer (some ⟨b, 0, none⟩))) (hb : BC w b nt (nodeC E a pl pr)) (hl : MR w nt E l pl Fl) (hr : MR w nt E r pr Fr)
    (h1 : b ∉ Fl) (h2 : b ∉ Fr) (h3 : b ∉ F) (h4 : ∀ x ∈ Fl, x ∉ F) (h5 : ∀ x ∈ Fr, x ∉ F) (left : Bool) :
    ZP w nt E r0 (⟨a, left, if left then r else l⟩ :: C) ⟨b, lk E left, none⟩ (b :: ((if left then Fr else Fl) ++ F)) := by
  cases left with
  | true => exact ⟨b, pl, pr, Fr, q, F, rfl, by simpa [fmC] using hb, hr, h, hc, rfl, h2, h3, h5⟩
  | false => exact ⟨b, pr, pl, Fl, q, F, rfl, by simpa [fmC] using hb, hl, h, hc, rfl, h1, h3, h4⟩
theorem BC.link {b : Nat} {a : α} {pl pr : Option Addr} (hb : BC w b nt (nodeC E a pl pr)) (left : Bool) : w.cell? ⟨b, lk E left, none⟩ = some (.pointer (if left then pl else pr)) := by
  rw [hb.cell]
  have hl := E.len a
  unfold lk nodeC
  cases left
  · simp only [Bool.false_eq_true, if_false]
    rw [List.getElem?_append_right (by omega), hl]; simp
  · simp only [if_true]
    rw [List.getElem?_append_right (by omega), hl]; simp
end

/-! A variable that holds a slice that the call owns. -/
def OB {α : Type} (w : World) (B : Nat) (g : Nat) (st e : TypeId) (E : Enc α) (l : List α) : Prop := ∃ v, BC w g st [v] ∧ OW w B e E v l ∧ v.ownBlock ≠ some g
/-- What a call leaves that appends to the variable g. -/
def KO (g B : Nat) (w w' : World) : Prop := ∃ v v', w.cell? ⟨g, 0, none⟩ = some v ∧ w'.cell? ⟨g, 0, none⟩ = some v' ∧ Kf (fun i => i = g ∨ v.ownBlock = some i) w w' ∧ (v'.ownBlock = v.ownBlock ∨ Hi w.heap.size v')
theorem KO.trans {g B : Nat} {a b c : World} (h : KO g B a b) (k : KO g B b c) : KO g B a c := by
  obtain ⟨v, v', h1, h2, h3, h4⟩ := h
  obtain ⟨u, u', k1, k2, k3, k4⟩ := k
  rw [h2] at k1
  injection k1 with k1
  subst k1
  have hz := h3.size
  refine ⟨v, u', h1, k2, h3.trans k3 (fun i hi hg => ?_), ?_⟩
  · rcases hg with hg | hg
    · exact .inl hg
    · rcases h4 with h4 | h4
      · exact .inr (by rw [← h4]; exact hg)
      · have := h4 i hg; omega
  · rcases k4 with k4 | k4
    · rcases h4 with h4 | h4
      · exact .inl (k4.trans h4)
      · exact .inr (fun i hi => h4 i (by rw [← k4]; exact hi))
    · exact .inr (k4.mono hz)
theorem KO.refl {g B : Nat} {w : World} {v : Value} (h : w.cell? ⟨g, 0, none⟩ = some v) : KO g B w w := ⟨v, v, h, h, Kf.refl _ _, .inl rfl⟩
theorem OB.lt {α : Type} {w : World} {B g : Nat} {st e : TypeId} {E : Enc α} {l : List α} (h : OB w B g st e E l) : g < w.heap.size := by
  obtain ⟨v, h, _⟩ := h
  exact h.lt
theorem MR.ko {α β : Type} {w w' : World} {B g : Nat} {nt st e : TypeId} {E : Enc α} {E' : Enc β} {l : List β} {t : MT α} {p : Option Addr} {F : List Nat} (h : MR w nt E t p F) (ho : OB w B g st e E' l) (hk : KO g B w w') (h1 : st ≠ nt) (h2 : e ≠ nt) : MR w' nt E t p F := by
  obtain ⟨v, hb, hv, hn⟩ := ho
  obtain ⟨v1, v2, k1, k2, k3, k4⟩ := hk
  have e1 : some v1 = some v := k1.symm.trans (hb.cell 0)
  injection e1 with e1
  subst e1
  refine h.kf k3 fun i hi hg => ?_
  obtain ⟨cs, hc⟩ := h.bc i hi
  rcases hg with rfl | hg
  · exact hb.ne hc h1 rfl
  · exact hv.bc_ne hc h2 hg
theorem KO.kp {g B : Nat} {a w w' : World} (h : KO g B w w') (k : Kp a w) (hg : a.heap.size ≤ g) (hv : ∀ v, w.cell? ⟨g, 0, none⟩ = some v → Hi a.heap.size v) : Kp a w' := by
  obtain ⟨v, v', h1, h2, h3, h4⟩ := h
  exact h3.kp k fun i hi => by
    rcases hi with rfl | hi
    · exact hg
    · exact hv v h1 i hi
end Go.Proofs.Ytoihdnekkgpcoaa
namespace Go.Proofs.Ytoihdnekkgpcoaa
open Go.ChangeShapes Go.WideShapes Go.ChangeAt Go.RowKit
set_option linter.unusedVariables false
set_option linter.unusedSimpArgs false

/-- Only the row of v may have been written. Behind a name. -/
def KV (v : Value) (w w' : World) : Prop := Kf (fun i => v.ownBlock = some i) w w'
section
variable {v : Value} {w W W' : World}
theorem KV.refl (v : Value) (w : World) : KV v w w := Kf.refl _ _
theorem KV.size (h : KV v w W) : w.heap.size ≤ W.heap.size := Kf.size h
theorem KV.drew (h : KV v w W) : KV v w W.drew := Kf.on h (Kp.refl W).drew
theorem KV.drewN {n : Nat} (h : KV v w W) : KV v w (W.drewN n) := Kf.on h (Kp.refl W).drewN
theorem KV.alloc {o : Obj} (h : KV v w W) : KV v w (W.alloc o) := Kf.on h (Kp.refl W).alloc
theorem KV.app (hg : W.grownBy W' v.ownBlock) (h : KV v w W) : KV v w W' := Kf.app h hg fun _ hk => .inl hk
theorem KV.call (hb : Kp W W') (h : KV v w W) : KV v w W' := Kf.on h hb
theorem KV.cell {p : Addr} {u : Value} (h : KV v w W) (hn : v.ownBlock ≠ some p.block) (hc : w.cell? p = some u) : W.cell? p = some u := Kf.cell h hn hc
theorem KV.frozen {p : Addr} (h : KV v w W) (hp : p.block < w.heap.size) (hn : v.ownBlock ≠ some p.block) : W.frozen? p = w.frozen? p := Kf.frozen h hp hn
end
section
variable {α : Type} {w w3 : World} {B g : Nat} {st e : TypeId} {E : Enc α} {l l' : List α} {v v3 : Value}
theorem ob_app (hb : BC w g st [v]) (ho : OW w B e E v l) (hn : v.ownBlock ≠ some g) (k : KV v w w3) (ho3 : OW w3 B e E v3 l') (hat : v3.ownBlock = v.ownBlock ∨ Hi w.heap.size v3) :
    OB (w3.setCell ⟨g, 0, none⟩ v3) B g st e E l' ∧ KO g B w (w3.setCell ⟨g, 0, none⟩ v3) := by
  have hz := KV.size k
  have hlt := hb.lt
  have hn3 : v3.ownBlock ≠ some g := by
    rcases hat with h | h
    · rw [h]; exact hn
    · intro e; have := h g e; omega
  have hb3 : BC w3 g st [v] := hb.kf k hn
  refine ⟨⟨v3, hb3.set (j := 0) (u := v3), ho3.setCell hn3 v3, hn3⟩, v, v3, hb.cell 0, (hb3.set (j := 0) (u := v3)).cell 0, Kf.set (Kf.mono k fun i _ hi => .inr hi) (.inl (.inl rfl)), hat⟩
theorem RD.slice {β : Type} {E' : Enc β} {u : Value} {m : List β} (h : RD w E' u m) : ∃ A n c, u = .slice A n c := by
  obtain ⟨A, c, rfl, _⟩ := h
  exact ⟨A, _, c, rfl⟩
theorem KO.size {a b : World} (h : KO g B a b) : a.heap.size ≤ b.heap.size := by
  obtain ⟨v, v', h1, h2, h3, h4⟩ := h
  exact Kf.size h3
theorem RD.ko {β : Type} {E' : Enc β} {w' : World} {u : Value} {m : List β} (h : RD w E' u m) (ho : OB w B g st e E l) (hk : KO g B w w') (hu : 0 < m.length → Lo B u) (hg : B ≤ g) : RD w' E' u m := by
  obtain ⟨v, hb, hv, hn⟩ := ho
  obtain ⟨v1, v2, k1, k2, k3, k4⟩ := hk
  have e1 : some v1 = some v := k1.symm.trans (hb.cell 0)
  injection e1 with e1
  subst e1
  refine h.kf k3 fun h0 k hk hF => ?_
  have := hu h0 k hk
  rcases hF with rfl | hF
  · omega
  · have := (hv.lt k hF).1; omega
theorem OB.kp {w' : World} (h : OB w B g st e E l) (hk : Kp w w') : OB w' B g st e E l := by
  obtain ⟨v, hb, hv, hn⟩ := h
  exact ⟨v, hb.kp hk, hv.kp hk, hn⟩
theorem OB.new (w : World) (hB : B ≤ w.heap.size) : OB (w.alloc (.cells #[.slice none 0 0] st)) B w.heap.size st e E ([] : List α) :=
  ⟨.slice none 0 0, BC.new w st [.slice none 0 0], OW.nil, by simp [Value.ownBlock]⟩
theorem KO.on {a b c : World} (h : KO g B a b) (hk : Kp b c) : KO g B a c := by
  obtain ⟨v, v', h1, h2, h3, h4⟩ := h
  exact ⟨v, v', h1, hk.cell h2, h3.on hk, h4⟩
theorem KO.onL {a b c : World} (h : KO g B b c) (hk : Kp a b) (hg : g < a.heap.size) (ho : OB a B g st e E l) : KO g B a c := by
  obtain ⟨v0, hb, hv, hn⟩ := ho
  obtain ⟨v, v', h1, h2, h3, h4⟩ := h
  have e1 : some v = some v0 := h1.symm.trans (hk.cell (hb.cell 0))
  injection e1 with e1
  subst e1
  have hz := hk.size
  refine ⟨v, v', hb.cell 0, h2, (Kf.of (F := fun i => i = g ∨ v.ownBlock = some i) hk).trans h3 (fun i _ h => h), h4.imp id fun h => h.mono hz⟩
theorem OB.kp0 {a w' : World} (h : OB w B g st e E l) (hk : KO g B w w') (h0 : Kp a w) (hB : a.heap.size ≤ B) (hg : B ≤ g) : Kp a w' :=
  hk.kp h0 (by omega) fun v hv => by
    obtain ⟨u, hb, ho, _⟩ := h
    have e1 : some v = some u := hv.symm.trans (hb.cell 0)
    injection e1 with e1
    subst e1
    exact fun k hk => Nat.le_trans hB (ho.lt k hk).1
end
theorem BC.ko {α : Type} {w w' : World} {B g i : Nat} {st e t : TypeId} {E : Enc α} {l : List α} {cs : List Value} (h : BC w i t cs) (ho : OB w B g st e E l) (hk : KO g B w w') (h1 : st ≠ t) (h2 : e ≠ t) : BC w' i t cs := by
  obtain ⟨v, hb, hv, hn⟩ := ho
  obtain ⟨v1, v2, k1, k2, k3, k4⟩ := hk
  have e1 : some v1 = some v := k1.symm.trans (hb.cell 0)
  injection e1 with e1
  subst e1
  refine h.kf k3 fun hg => ?_
  rcases hg with rfl | hg
  · exact hb.ne h h1 rfl
  · exact hv.bc_ne h h2 hg
/-- What a call leaves that appends so much to the variable. -/
def WPost {α : Type} (B g : Nat) (st e : TypeId) (E : Enc α) (r : Value) (l : List α) (w : World) (en : Ending) (w' : World) : Prop := en = .returned r ∧ OB w' B g st e E l ∧ KO g B w w'
end Go.Proofs.Ytoihdnekkgpcoaa
namespace Go.Proofs.Ytoihdnekkgpcoaa
open Go.ChangeShapes Go.WideShapes Go.ChangeAt Go.RowKit
set_option linter.unusedVariables false
set_option linter.unusedSimpArgs false

/-- A slice of slices. -/
def RDS {α : Type} (w : World) (E : Enc α) (v : Value) (ls : List (List α)) : Prop :=
  ∃ A c, v = .slice A ls.length c ∧ ls.length ≤ c ∧ c ≤ maxLen ∧ (0 < ls.length → ∃ b o, A = some ⟨b, o, none⟩ ∧ b < w.heap.size ∧
    ∀ k (h : k < ls.length), ∃ u, w.cell? ⟨b, o + k, none⟩ = some u ∧ RD w E u ls[k])
section
variable {α : Type} {w w' : World} {E : Enc α} {v : Value} {ls : List (List α)}
theorem RDS.shape (h : RDS w E v ls) : ∃ A c, v = .slice A ls.length c ∧ ls.length ≤ c ∧ c ≤ 9223372036854775807 := by
  obtain ⟨A, c, rfl, h1, h2, h3⟩ := h
  exact ⟨A, c, rfl, h1, by unfold maxLen at h2; omega⟩
theorem RDS.at_ {A : Option Addr} {n c : Nat} (h : RDS w E (.slice A n c) ls) {k : Nat} (hk : k < ls.length) :
    ∃ b o u, A = some ⟨b, o, none⟩ ∧ b < w.heap.size ∧ w.cell? ⟨b, o + k, none⟩ = some u ∧ RD w E u ls[k] := by
  obtain ⟨A', c', e, h1, h2, h3⟩ := h
  injection e with e1 e2 e3
  subst e1
  obtain ⟨b, o, rfl, hb, hc⟩ := h3 (by omega)
  obtain ⟨u, h4, h5⟩ := hc k hk
  exact ⟨b, o, u, rfl, hb, h4, h5⟩
theorem RDS.kp (h : RDS w E v ls) (hb : Kp w w') : RDS w' E v ls := by
  obtain ⟨A, c, rfl, h1, h2, h3⟩ := h
  refine ⟨A, c, rfl, h1, h2, fun h0 => ?_⟩
  obtain ⟨b, o, rfl, hb', hc⟩ := h3 h0
  refine ⟨b, o, rfl, Nat.lt_of_lt_of_le hb' hb.size, fun k hk => ?_⟩
  obtain ⟨u, h4, h5⟩ := hc k hk
  exact ⟨u, hb.cell h4, h5.kp hb⟩
end
theorem RDS.new2 {α : Type} {w : World} {E : Enc α} {a b : List α} {va vb : Value} {t : TypeId} {g : Nat} (hg : w.heap.size = g) (ha : RD w E va a) (hb : RD w E vb b) : RDS (w.alloc (.cells #[va, vb] t)) E (.slice (some ⟨g, 0, none⟩) 2 2) [a, b] := by
  subst hg
  have hk : Kp w (w.alloc (.cells #[va, vb] t)) := (Kp.refl w).alloc
  refine ⟨_, _, rfl, Nat.le_refl _, by simp [maxLen], fun _ => ⟨w.heap.size, 0, rfl, by simp, fun k h => ?_⟩⟩
  have hc := fun i => cell_of_row _ _ i _ t (0, 0) (heap_alloc_new w (.cells #[va, vb] t))
  match k, h with
  | 0, _ => exact ⟨va, hc 0, ha.kp hk⟩
  | 1, _ => exact ⟨vb, hc 1, hb.kp hk⟩
theorem RDS.new1 {α : Type} {w : World} {E : Enc α} {a : List α} {va : Value} {t : TypeId} {g : Nat} (hg : w.heap.size = g) (ha : RD w E va a) : RDS (w.alloc (.cells #[va] t)) E (.slice (some ⟨g, 0, none⟩) 1 1) [a] := by
  subst hg
  have hk : Kp w (w.alloc (.cells #[va] t)) := (Kp.refl w).alloc
  refine ⟨_, _, rfl, Nat.le_refl _, by simp [maxLen], fun _ => ⟨w.heap.size, 0, rfl, by simp, fun k h => ?_⟩⟩
  have hc := fun i => cell_of_row _ _ i _ t (0, 0) (heap_alloc_new w (.cells #[va] t))
  match k, h with
  | 0, _ => exact ⟨va, hc 0, ha.kp hk⟩
end Go.Proofs.Ytoihdnekkgpcoaa
namespace Go.Proofs.Ytoihdnekkgpcoaa
open Go.ChangeShapes Go.WideShapes Go.ChangeAt Go.RowKit
set_option linter.unusedVariables false
set_option linter.unusedSimpArgs false

abbrev V1 := {v : Value // v.oneCell' = true}
theorem OW.apart {α β : Type} {w : World} {B B' : Nat} {e e' : TypeId} {E : Enc α} {E' : Enc β} {v v' : Value} {l : List α} {l' : List β} (h : OW w B e E v l) (h' : OW w B' e' E' v' l') (hn : e ≠ e') : v.ownBlock = none ∨ v.ownBlock ≠ v'.ownBlock := by
  rcases h.2 with ⟨rfl, _⟩ | ⟨g, cap, cur, rfl, hg, hh, r⟩
  · exact .inl rfl
  · rcases h'.2 with ⟨rfl, _⟩ | ⟨g', cap', cur', rfl, hg', hh', r'⟩
    · right; simp [Value.ownBlock]
    · right
      intro e1
      injection e1 with e1
      subst e1
      rw [hh] at hh'
      injection hh' with hh'
      injection hh' with _ e2
      exact hn e2
theorem slice_one (A : Option Addr) (n c : Nat) : (Value.slice A n c).oneCell' = true := rfl
def OWS {α : Type} (w : World) (B : Nat) (st e : TypeId) (E : Enc α) (v : Value) (ls : List (List α)) : Prop :=
  ∃ vs : List V1, OW w B st eVal v vs ∧ vs.length = ls.length ∧ ∀ k (h : k < vs.length) (h2 : k < ls.length), OW w B e E vs[k].1 ls[k]
section
variable {α : Type} {w w' : World} {B : Nat} {st e : TypeId} {E : Enc α} {v : Value} {ls : List (List α)}
theorem OWS.nil : OWS w B st e E (.slice none 0 0) ([] : List (List α)) := ⟨[], OW.nil, rfl, fun k h => by simp at h⟩
theorem OWS.kp (h : OWS w B st e E v ls) (hk : Kp w w') : OWS w' B st e E v ls := by
  obtain ⟨vs, h1, h2, h3⟩ := h
  exact ⟨vs, h1.kp hk, h2, fun k a b => (h3 k a b).kp hk⟩
theorem OWS.more {B' : Nat} (h : OWS w B st e E v ls) (hB : B' ≤ B) : OWS w B' st e E v ls := by
  obtain ⟨vs, h1, h2, h3⟩ := h
  exact ⟨vs, h1.more hB, h2, fun k a b => (h3 k a b).more hB⟩
theorem OWS.rds (h : OWS w B st e E v ls) (hn : ls.length ≤ maxLen) : RDS w E v ls := by
  obtain ⟨vs, h1, h2, h3⟩ := h
  obtain ⟨A, c, e, a1, a2, a3, a4⟩ := h1.rd
  subst e
  refine ⟨A, c, by rw [h2], by omega, a2, fun h0 => ?_⟩
  obtain ⟨b, o, rfl, hb, hc⟩ := a4 (by omega)
  refine ⟨b, o, rfl, hb, fun k hk => ?_⟩
  have hk2 : k < vs.length := by omega
  refine ⟨vs[k].1, ?_, (h3 k hk2 hk).rd⟩
  have := hc k hk2 0 (by decide)
  simpa [eVal] using this
theorem OWS.len (h : OWS w B st e E v ls) : ∃ vs : List V1, OW w B st eVal v vs ∧ vs.length = ls.length := by
  obtain ⟨vs, h1, h2, _⟩ := h
  exact ⟨vs, h1, h2⟩
/-- One slice more. -/
theorem OWS.app {v' : Value} {u : V1} {l : List α} {vs : List V1} (h1 : OW w B st eVal v vs) (h2 : vs.length = ls.length) (h3 : ∀ k (h : k < vs.length) (h2 : k < ls.length), OW w B e E vs[k].1 ls[k]) (hn : e ≠ st) (hl : OW w B e E u.1 l)
    (ho : OW w' B st eVal v' (vs ++ [u])) (hg : w.grownBy w' v.ownBlock) : OWS w' B st e E v' (ls ++ [l]) := by
  refine ⟨vs ++ [u], ho, by simp [h2], fun k a b => ?_⟩
  by_cases e1 : k < vs.length
  · rw [List.getElem_append_left e1, List.getElem_append_left (by omega)]
    exact (h3 k e1 (by omega)).kept hg ((h3 k e1 (by omega)).apart h1 hn)
  · have hk : k = vs.length := by simp at a; omega
    subst hk
    have e2 : (ls ++ [l])[vs.length] = l := by rw [List.getElem_append_right (by omega)]; simp [h2]
    have e3 : (vs ++ [u])[vs.length] = u := by simp
    rw [e2, e3]
    exact hl.kept hg (hl.apart h1 hn)
end
end Go.Proofs.Ytoihdnekkgpcoaa
namespace Go.Proofs.Ytoihdnekkgpcoaa
open Go.ChangeShapes Go.WideShapes Go.ChangeAt Go.RowKit
set_option linter.unusedVariables false
set_option linter.unusedSimpArgs false

def ptr (b : Nat) : Value := .pointer (some ⟨b, 0, none⟩)
def eDeed : Enc Dd := ⟨2, fun d => [.int .i64 d.kind, .int .i64 d.key], fun _ => rfl, fun _ u h => by simp at h; rcases h with rfl | rfl <;> rfl⟩
def eDone : Enc (Nat × Nat × Dn) := ⟨5, fun x => [.int .i64 x.1, .int .i64 x.2.1, .int .i64 x.2.2.bgn, .int .i64 x.2.2.fin, .bool x.2.2.is], fun _ => rfl, fun _ u h => by simp at h; rcases h with rfl | rfl | rfl | rfl | rfl <;> rfl⟩
/-- Where all lies. -/
structure Lay where
  w0 : World
  B : Nat → Nat
  Hb : Nat → Nat
  T : Nat
  nh : Nat
  alg : Nat
  hsv : Value
  tov : Value
  hg : Nat
  hc : Nat
  hz : List Value
  tg : Nat
  P : Nat → List Dd
  pr : Nat → Value
  cst : Nat → Option (TypeId × List Value)
def rowB (L : Lay) (m : Mm) (i : Nat) : List Value := [.int .i64 (m.ky i), if m.ky i = 10 then .pointer none else ptr (L.B (m.nx i)), .bool (m.mr i), .bool (m.lk i)]
def okT (t : TypeId) : Prop := t ≠ 48 ∧ t ≠ 56 ∧ t ≠ 53 ∧ t ≠ 26 ∧ t ≠ 35
/-- What is told of hand i, as it lies. -/
def toldM (s : St) (i : Nat) : List (Nat × Nat × Dn) := (s.told i).mapIdx (fun e r => (i, e, r))
structure WN (L : Lay) (s : St) (dv : Nat → Value) (w : World) : Prop where
  kp : Kp L.w0 w
  bd : ∀ i, i < s.m.n → BC w (L.B i) 48 (rowB L s.m i) ∧ L.w0.heap.size ≤ L.B i
  bi : ∀ i j, i < s.m.n → j < s.m.n → L.B i = L.B j → i = j
  nn : ∀ i, i < s.m.n → s.m.nx i < s.m.n
  n0 : 0 < s.m.n
  hn : ∀ i, i < L.nh → ∃ pv cv b, BC w (L.Hb i) 56 [L.pr i, .int .i64 (s.deed i), dv i, pv, cv, .bool b] ∧ L.w0.heap.size ≤ L.Hb i ∧
    ((s.hd i).plc ≠ 0 → pv = ptr (L.B (s.hd i).p) ∧ cv = ptr (L.B (s.hd i).c) ∧ (s.hd i).p < s.m.n ∧ (s.hd i).c < s.m.n) ∧ (dv i ≠ .nilFunc → b = (s.hd i).is)
  hi : ∀ i j, i < L.nh → j < L.nh → L.Hb i = L.Hb j → i = j
  tb : BC w L.T 53 [.int .i64 L.alg, ptr (L.B 0), L.hsv, .int .i64 s.now, L.tov] ∧ L.w0.heap.size ≤ L.T
  hs : 0 < L.nh → L.hsv = .slice (some ⟨L.hg, 0, none⟩) L.nh L.hc ∧ L.nh ≤ L.hc ∧ L.hc ≤ maxLen ∧ BC w L.hg 54 ((List.range L.nh).map (fun i => ptr (L.Hb i)) ++ L.hz)
  td : 0 < L.nh → L.tov = .slice (some ⟨L.tg, 0, none⟩) L.nh L.nh ∧ L.w0.heap.size ≤ L.tg ∧ ∃ tv : Nat → Value, BC w L.tg 26 ((List.range L.nh).map tv) ∧
    (∀ i, i < L.nh → OW w L.w0.heap.size 35 eDone (tv i) (toldM s i)) ∧ (∀ i j k, i < L.nh → j < L.nh → i ≠ j → (tv i).ownBlock = some k → (tv j).ownBlock ≠ some k)
  cs : ∀ b t c, L.cst b = some (t, c) → BC w b t c ∧ okT t
  pg : ∀ i, i < L.nh → RD L.w0 eDeed (L.pr i) (L.P i)
variable {L : Lay} {s : St} {dv : Nat → Value} {w w' : World}
theorem WN.kpw (h : WN L s dv w) (hk : Kp w w') : WN L s dv w' := by
  refine ⟨h.kp.trans hk, fun i hi => ⟨(h.bd i hi).1.kp hk, (h.bd i hi).2⟩, h.bi, h.nn, h.n0, ?_, h.hi, ⟨h.tb.1.kp hk, h.tb.2⟩, ?_, ?_, fun b t c e => ⟨(h.cs b t c e).1.kp hk, (h.cs b t c e).2⟩, h.pg⟩
  · intro i hi
    obtain ⟨pv, cv, b, a1, a2⟩ := h.hn i hi
    exact ⟨pv, cv, b, a1.kp hk, a2⟩
  · intro h0
    obtain ⟨a, b, c, d⟩ := h.hs h0
    exact ⟨a, b, c, d.kp hk⟩
  · intro h0
    obtain ⟨a, b, tv, c, d, e⟩ := h.td h0
    exact ⟨a, b, tv, c.kp hk, fun i hi => (d i hi).kp hk, e⟩
theorem WN.drew (h : WN L s dv w) : WN L s dv w.drew := h.kpw (Kp.refl w).drew
/-- A block more that stays as it is. -/
theorem WN.addc (h : WN L s dv w) {b : Nat} {t : TypeId} {c : List Value} (hb : BC w b t c) (ht : okT t) : WN { L with cst := up L.cst b (some (t, c)) } s dv w := by
  refine ⟨h.kp, h.bd, h.bi, h.nn, h.n0, h.hn, h.hi, h.tb, h.hs, h.td, ?_, h.pg⟩
  intro b' t' c' e
  have e : up L.cst b (some (t, c)) b' = some (t', c') := e
  by_cases hh : b' = b
  · subst hh
    rw [up_same] at e
    injection e with e
    injection e with e1 e2
    subst e1; subst e2
    exact ⟨hb, ht⟩
  · rw [up_ne _ _ hh] at e
    exact h.cs b' t' c' e
/-- A write to a bead. -/
theorem WN.setb (h : WN L s dv w) {i : Nat} (hi : i < s.m.n) (k : Nat) (v : Value) (m' : Mm) (en : m'.n = s.m.n) (er : (rowB L s.m i).set k v = rowB L m' i) (eo : ∀ j, j < s.m.n → j ≠ i → rowB L m' j = rowB L s.m j) (enx : ∀ j, j < s.m.n → m'.nx j < s.m.n) :
    WN L { s with m := m' } dv (w.setCell ⟨L.B i, k, none⟩ v) := by
  obtain ⟨b1, b2⟩ := h.bd i hi
  refine ⟨h.kp.setR (by simpa using b2), ?_, ?_, ?_, ?_, ?_, h.hi, ?_, ?_, ?_, ?_, h.pg⟩
  · intro j hj
    have hj : j < s.m.n := by rw [← en]; exact hj
    obtain ⟨c1, c2⟩ := h.bd j hj
    by_cases e : j = i
    · subst e
      refine ⟨?_, c2⟩
      show BC _ _ _ (rowB L m' j)
      rw [← er]; exact c1.set
    · refine ⟨?_, c2⟩
      show BC _ _ _ (rowB L m' j)
      rw [eo j hj e]
      exact c1.far (fun hh => e (h.bi j i hj hi hh))
  · intro a b ha hb
    exact h.bi a b (by rw [← en]; exact ha) (by rw [← en]; exact hb)
  · intro j hj
    show m'.nx j < m'.n
    rw [en]; exact enx j (by rw [← en]; exact hj)
  · show 0 < m'.n
    rw [en]; exact h.n0
  · intro j hj
    obtain ⟨pv, cv, b, a1, a2, a3, a4⟩ := h.hn j hj
    refine ⟨pv, cv, b, a1.far (BC.ne a1 b1 (by decide)), a2, ?_, a4⟩
    show _ → _ ∧ _ ∧ _ < m'.n ∧ _ < m'.n
    rw [en]; exact a3
  · exact ⟨h.tb.1.far (BC.ne h.tb.1 b1 (by decide)), h.tb.2⟩
  · intro h0
    obtain ⟨a, b, c, d⟩ := h.hs h0
    exact ⟨a, b, c, d.far (BC.ne d b1 (by decide))⟩
  · intro h0
    obtain ⟨a, b, tv, c, d, e⟩ := h.td h0
    exact ⟨a, b, tv, c.far (BC.ne c b1 (by decide)), fun j hj => (d j hj).setCell (OW.bc_ne (d j hj) b1 (by decide)) _, e⟩
  · intro b t c e
    obtain ⟨a, o⟩ := h.cs b t c e
    exact ⟨a.far (BC.ne a b1 o.1), o⟩
/-- A write to a hand. -/
theorem WN.seth (h : WN L s dv w) {i : Nat} (hi : i < L.nh) (k : Nat) (v : Value) (hd' : Nat → Hd) (deed' : Nat → Nat) (dv' : Nat → Value)
    (eo : ∀ j, j ≠ i → hd' j = s.hd j ∧ deed' j = s.deed j ∧ dv' j = dv j)
    (er : ∀ pv cv b, ((s.hd i).plc ≠ 0 → pv = ptr (L.B (s.hd i).p) ∧ cv = ptr (L.B (s.hd i).c) ∧ (s.hd i).p < s.m.n ∧ (s.hd i).c < s.m.n) → (dv i ≠ .nilFunc → b = (s.hd i).is) →
      ∃ pv' cv' b', [L.pr i, .int .i64 (s.deed i), dv i, pv, cv, .bool b].set k v = [L.pr i, .int .i64 (deed' i), dv' i, pv', cv', .bool b'] ∧
        ((hd' i).plc ≠ 0 → pv' = ptr (L.B (hd' i).p) ∧ cv' = ptr (L.B (hd' i).c) ∧ (hd' i).p < s.m.n ∧ (hd' i).c < s.m.n) ∧ (dv' i ≠ .nilFunc → b' = (hd' i).is)) :
    WN L { s with hd := hd', deed := deed' } dv' (w.setCell ⟨L.Hb i, k, none⟩ v) := by
  obtain ⟨pv, cv, b, b1, b2, b3, b4⟩ := h.hn i hi
  refine ⟨h.kp.setR (by simpa using b2), ?_, h.bi, h.nn, h.n0, ?_, h.hi, ?_, ?_, ?_, ?_, h.pg⟩
  · intro j hj
    obtain ⟨c1, c2⟩ := h.bd j hj
    exact ⟨c1.far (BC.ne c1 b1 (by decide)), c2⟩
  · intro j hj
    by_cases e : j = i
    · subst e
      obtain ⟨pv', cv', b', r1, r2, r3⟩ := er pv cv b b3 b4
      refine ⟨pv', cv', b', ?_, b2, r2, r3⟩
      show BC _ _ _ [L.pr j, .int .i64 (deed' j), dv' j, pv', cv', .bool b']
      rw [← r1]; exact b1.set
    · obtain ⟨pv', cv', b', a1, a2, a3, a4⟩ := h.hn j hj
      obtain ⟨o1, o2, o3⟩ := eo j e
      refine ⟨pv', cv', b', ?_, a2, ?_, ?_⟩
      · show BC _ _ _ [L.pr j, .int .i64 (deed' j), dv' j, pv', cv', .bool b']
        rw [o2, o3]
        exact a1.far (fun hh => e (h.hi j i hj hi hh))
      · show (hd' j).plc ≠ 0 → pv' = ptr (L.B (hd' j).p) ∧ cv' = ptr (L.B (hd' j).c) ∧ (hd' j).p < s.m.n ∧ (hd' j).c < s.m.n
        rw [o1]; exact a3
      · show dv' j ≠ _ → b' = (hd' j).is
        rw [o1, o3]; exact a4
  · exact ⟨h.tb.1.far (BC.ne h.tb.1 b1 (by decide)), h.tb.2⟩
  · intro h0
    obtain ⟨a, b, c, d⟩ := h.hs h0
    exact ⟨a, b, c, d.far (BC.ne d b1 (by decide))⟩
  · intro h0
    obtain ⟨a, b, tv, c, d, e⟩ := h.td h0
    exact ⟨a, b, tv, c.far (BC.ne c b1 (by decide)), fun j hj => (d j hj).setCell (OW.bc_ne (d j hj) b1 (by decide)) _, e⟩
  · intro b t c e
    obtain ⟨a, o⟩ := h.cs b t c e
    exact ⟨a.far (BC.ne a b1 o.2.1), o⟩
/-- A new bead, not yet on the way. -/
theorem WN.newb (h : WN L s dv w) (k : Int) (c : Nat) (hc : c < s.m.n) (hk : k ≠ 10) (hz : L.w0.heap.size ≤ w.heap.size) :
    WN { L with B := up L.B s.m.n w.heap.size } { s with m := { n := s.m.n + 1, ky := up s.m.ky s.m.n k, nx := up s.m.nx s.m.n c, mr := up s.m.mr s.m.n false, lk := up s.m.lk s.m.n false } } dv
      (w.alloc (.cells #[.int .i64 k, ptr (L.B c), .bool false, .bool false] 48)) := by
  have kk := (Kp.refl w).alloc (o := .cells #[.int .i64 k, ptr (L.B c), .bool false, .bool false] 48)
  have h2 := h.kpw kk
  have hB : ∀ j, j < s.m.n → up L.B s.m.n w.heap.size j = L.B j := fun j hj => up_ne _ _ (by omega)
  have up1 : ∀ (α : Type) (f : Nat → α) x y, y < s.m.n → up f s.m.n x y = f y := fun α f x y hy => up_ne _ _ (by omega)
  have hlt : ∀ j, j < s.m.n → L.B j < w.heap.size := fun j hj => (h.bd j hj).1.lt
  refine ⟨h2.kp, ?_, ?_, ?_, Nat.succ_pos _, ?_, h2.hi, ?_, h2.hs, h2.td, h2.cs, h2.pg⟩
  · intro j hj
    have hj : j < s.m.n + 1 := hj
    by_cases e : j = s.m.n
    · subst e
      have er : rowB { L with B := up L.B s.m.n w.heap.size } { n := s.m.n + 1, ky := up s.m.ky s.m.n k, nx := up s.m.nx s.m.n c, mr := up s.m.mr s.m.n false, lk := up s.m.lk s.m.n false } s.m.n = [.int .i64 k, ptr (L.B c), .bool false, .bool false] := by
        simp only [rowB, up_same]
        rw [if_neg hk, hB c hc]
      refine ⟨?_, ?_⟩
      · show BC _ (up L.B s.m.n w.heap.size s.m.n) _ _
        rw [up_same]
        refine Eq.trans (heap_alloc_new w _) ?_
        rw [er]
      · show _ ≤ up L.B s.m.n w.heap.size s.m.n
        rw [up_same]; exact hz
    · have hj2 : j < s.m.n := by omega
      have er : rowB { L with B := up L.B s.m.n w.heap.size } { n := s.m.n + 1, ky := up s.m.ky s.m.n k, nx := up s.m.nx s.m.n c, mr := up s.m.mr s.m.n false, lk := up s.m.lk s.m.n false } j = rowB L s.m j := by
        simp only [rowB]
        rw [up1 _ _ _ _ hj2, up1 _ _ _ _ hj2, up1 _ _ _ _ hj2, up1 _ _ _ _ hj2, hB _ (h.nn j hj2)]
      refine ⟨?_, ?_⟩
      · show BC _ (up L.B s.m.n w.heap.size j) _ (rowB _ _ j)
        rw [hB j hj2, er]; exact (h2.bd j hj2).1
      · show _ ≤ up L.B s.m.n w.heap.size j
        rw [hB j hj2]; exact (h.bd j hj2).2
  · intro a b ha hb e
    have ha : a < s.m.n + 1 := ha
    have hb : b < s.m.n + 1 := hb
    have e : up L.B s.m.n w.heap.size a = up L.B s.m.n w.heap.size b := e
    by_cases ea : a = s.m.n
    · by_cases eb : b = s.m.n
      · omega
      · rw [ea, up_same, hB b (by omega)] at e
        have := hlt b (by omega); omega
    · by_cases eb : b = s.m.n
      · rw [eb, up_same, hB a (by omega)] at e
        have := hlt a (by omega); omega
      · rw [hB a (by omega), hB b (by omega)] at e
        exact h.bi a b (by omega) (by omega) e
  · intro j hj
    have hj : j < s.m.n + 1 := hj
    show up s.m.nx s.m.n c j < s.m.n + 1
    by_cases e : j = s.m.n
    · rw [e, up_same]; omega
    · rw [up_ne _ _ e]; have := h.nn j (by omega); omega
  · intro j hj
    obtain ⟨pv, cv, b, a1, a2, a3, a4⟩ := h2.hn j hj
    refine ⟨pv, cv, b, a1, a2, fun hp => ?_, a4⟩
    obtain ⟨x1, x2, x3, x4⟩ := a3 hp
    refine ⟨?_, ?_, Nat.lt_succ_of_lt x3, Nat.lt_succ_of_lt x4⟩
    · rw [x1]; show _ = ptr (up L.B s.m.n w.heap.size _); rw [hB _ x3]
    · rw [x2]; show _ = ptr (up L.B s.m.n w.heap.size _); rw [hB _ x4]
  · refine ⟨?_, h2.tb.2⟩
    show BC _ L.T _ [_, ptr (up L.B s.m.n w.heap.size 0), _, _, _]
    rw [hB 0 h.n0]; exact h2.tb.1
/-- A hand's block is written. -/
theorem WN.updh (h : WN L s dv w) {i : Nat} (hi : i < L.nh) (hk : Kf (fun k => k = L.Hb i) w w') (hd' : Nat → Hd) (deed' : Nat → Nat) (dv' : Nat → Value)
    (eo : ∀ j, j ≠ i → hd' j = s.hd j ∧ deed' j = s.deed j ∧ dv' j = dv j) (pv' cv' : Value) (b' : Bool)
    (nb : BC w' (L.Hb i) 56 [L.pr i, .int .i64 (deed' i), dv' i, pv', cv', .bool b'])
    (c1 : (hd' i).plc ≠ 0 → pv' = ptr (L.B (hd' i).p) ∧ cv' = ptr (L.B (hd' i).c) ∧ (hd' i).p < s.m.n ∧ (hd' i).c < s.m.n) (c2 : dv' i ≠ .nilFunc → b' = (hd' i).is) :
    WN L { s with hd := hd', deed := deed' } dv' w' := by
  obtain ⟨pv, cv, b, b1, b2, b3, b4⟩ := h.hn i hi
  refine ⟨hk.kp h.kp (fun k e => by rw [e]; exact b2), ?_, h.bi, h.nn, h.n0, ?_, h.hi, ?_, ?_, ?_, ?_, h.pg⟩
  · intro j hj
    obtain ⟨c1, c2⟩ := h.bd j hj
    exact ⟨c1.kf hk (BC.ne c1 b1 (by decide)), c2⟩
  · intro j hj
    by_cases e : j = i
    · subst e
      exact ⟨pv', cv', b', nb, b2, c1, c2⟩
    · obtain ⟨pv', cv', b', a1, a2, a3, a4⟩ := h.hn j hj
      obtain ⟨o1, o2, o3⟩ := eo j e
      refine ⟨pv', cv', b', ?_, a2, ?_, ?_⟩
      · show BC _ _ _ [L.pr j, .int .i64 (deed' j), dv' j, pv', cv', .bool b']
        rw [o2, o3]
        exact a1.kf hk (fun hh => e (h.hi j i hj hi hh))
      · show (hd' j).plc ≠ 0 → pv' = ptr (L.B (hd' j).p) ∧ cv' = ptr (L.B (hd' j).c) ∧ (hd' j).p < s.m.n ∧ (hd' j).c < s.m.n
        rw [o1]; exact a3
      · show dv' j ≠ _ → b' = (hd' j).is
        rw [o1, o3]; exact a4
  · exact ⟨h.tb.1.kf hk (BC.ne h.tb.1 b1 (by decide)), h.tb.2⟩
  · intro h0
    obtain ⟨a, b, c, d⟩ := h.hs h0
    exact ⟨a, b, c, d.kf hk (BC.ne d b1 (by decide))⟩
  · intro h0
    obtain ⟨a, b, tv, c, d, e⟩ := h.td h0
    exact ⟨a, b, tv, c.kf hk (BC.ne c b1 (by decide)), fun j hj => (d j hj).kf hk (fun k e1 e2 => OW.bc_ne (d j hj) b1 (by decide) (by rw [e1, e2])), e⟩
  · intro b t c e
    obtain ⟨a, o⟩ := h.cs b t c e
    exact ⟨a.kf hk (BC.ne a b1 o.2.1), o⟩
/-- Both beads of a hand. -/
theorem WN.setpc (h : WN L s dv w) {i : Nat} (hi : i < L.nh) (q a c : Nat) (ha : a < s.m.n) (hc : c < s.m.n) :
    WN L { s with hd := up s.hd i { s.hd i with plc := q, p := a, c := c } } dv ((w.setCell ⟨L.Hb i, 3, none⟩ (ptr (L.B a))).setCell ⟨L.Hb i, 4, none⟩ (ptr (L.B c))) := by
  obtain ⟨pv, cv, b, b1, b2, b3, b4⟩ := h.hn i hi
  refine h.updh hi (Kf.set (Kf.set (Kf.refl _ w) (.inl rfl)) (.inl rfl)) _ s.deed dv (fun j hj => ⟨up_ne _ _ hj, rfl, rfl⟩) (ptr (L.B a)) (ptr (L.B c)) b ?_ ?_ ?_
  · exact (b1.set (j := 3) (u := ptr (L.B a))).set (j := 4) (u := ptr (L.B c))
  · rw [up_same]; exact fun _ => ⟨rfl, rfl, ha, hc⟩
  · rw [up_same]; exact b4
/-- What a hand does next; where it is. -/
theorem WN.setdo (h : WN L s dv w) {i : Nat} (hi : i < L.nh) (v : Value) (q : Nat) (hq : q ≠ 0 → (s.hd i).plc ≠ 0) (hv : dv i ≠ .nilFunc) :
    WN L { s with hd := up s.hd i { s.hd i with plc := q } } (up dv i v) (w.setCell ⟨L.Hb i, 2, none⟩ v) := by
  obtain ⟨pv, cv, b, b1, b2, b3, b4⟩ := h.hn i hi
  refine h.updh hi (Kf.set (Kf.refl _ w) (.inl rfl)) _ s.deed _ (fun j hj => ⟨up_ne _ _ hj, rfl, up_ne _ _ hj⟩) pv cv b ?_ ?_ ?_
  · rw [up_same]; exact b1.set (j := 2) (u := v)
  · rw [up_same]; exact fun hp => b3 (hq hp)
  · rw [up_same, up_same]; exact fun _ => b4 hv
/-- The place alone. -/
theorem WN.setq (h : WN L s dv w) {i : Nat} (hi : i < L.nh) (q : Nat) (hq : q ≠ 0 → (s.hd i).plc ≠ 0) : WN L { s with hd := up s.hd i { s.hd i with plc := q } } dv w := by
  obtain ⟨pv, cv, b, b1, b2, b3, b4⟩ := h.hn i hi
  refine h.updh hi (Kf.refl _ w) _ s.deed dv (fun j hj => ⟨up_ne _ _ hj, rfl, rfl⟩) pv cv b b1 ?_ ?_
  · rw [up_same]; exact fun hp => b3 (hq hp)
  · rw [up_same]; exact b4
/-- The answer. -/
theorem WN.setis (h : WN L s dv w) {i : Nat} (hi : i < L.nh) (x : Bool) : WN L { s with hd := up s.hd i { s.hd i with is := x } } dv (w.setCell ⟨L.Hb i, 5, none⟩ (.bool x)) := by
  obtain ⟨pv, cv, b, b1, b2, b3, b4⟩ := h.hn i hi
  refine h.updh hi (Kf.set (Kf.refl _ w) (.inl rfl)) _ s.deed dv (fun j hj => ⟨up_ne _ _ hj, rfl, rfl⟩) pv cv x ?_ ?_ ?_
  · exact b1.set (j := 5) (u := .bool x)
  · rw [up_same]; exact b3
  · rw [up_same]; exact fun _ => rfl
/-- A lock. -/
theorem WN.setlk (h : WN L s dv w) {i : Nat} (hi : i < s.m.n) (x : Bool) : WN L { s with m := { s.m with lk := up s.m.lk i x } } dv (w.setCell ⟨L.B i, 3, none⟩ (.bool x)) := by
  refine h.setb hi 3 _ _ rfl ?_ ?_ h.nn
  · simp [rowB, up]
  · intro j hj e; simp [rowB, up, e]
/-- A mark. -/
theorem WN.setmr (h : WN L s dv w) {i : Nat} (hi : i < s.m.n) : WN L { s with m := s.m.mark i } dv (w.setCell ⟨L.B i, 2, none⟩ (.bool true)) := by
  refine h.setb hi 2 _ _ rfl ?_ ?_ h.nn
  · simp [rowB, up, Mm.mark]; rfl
  · intro j hj e; simp [rowB, up, e, Mm.mark]; rfl
/-- A way. -/
theorem WN.setnx (h : WN L s dv w) {i c : Nat} (hi : i < s.m.n) (hc : c < s.m.n) (hk : s.m.ky i ≠ 10) : WN L { s with m := { s.m with nx := up s.m.nx i c } } dv (w.setCell ⟨L.B i, 1, none⟩ (ptr (L.B c))) := by
  refine h.setb hi 1 _ _ rfl ?_ ?_ ?_
  · simp [rowB, up, hk]
  · intro j hj e; simp [rowB, up, e]
  · intro j hj
    show up s.m.nx i c j < s.m.n
    unfold up; split
    · exact hc
    · exact h.nn j hj
end Go.Proofs.Ytoihdnekkgpcoaa
namespace Go.Proofs.Ytoihdnekkgpcoaa
open Go.ChangeShapes Go.WideShapes Go.ChangeAt Go.RowKit Go.Deep
set_option linter.unusedVariables false
set_option linter.unusedSimpArgs false

theorem RD.dd {w : World} {v : Value} {l : List IP} (h : RD w ePair v l) : RD w eDeed v (l.map fun p => (⟨p.1, p.2⟩ : Dd)) := by
  obtain ⟨A, c, rfl, h1, h2, h3, h4⟩ := h
  refine ⟨A, c, by simp, by simpa using h1, h2, h3, fun h0 => ?_⟩
  simp only [List.length_map] at h0
  obtain ⟨b, o, rfl, hb, hc⟩ := h4 h0
  refine ⟨b, o, rfl, hb, fun k hk j hj => ?_⟩
  simp only [List.length_map] at hk
  have := hc k hk j hj
  simp only [List.getElem_map]
  exact this
section
variable {H : Type} {enc : TypeId × Value → H} {P : Program} {w : World} {base : Nat} {spare : Nat → Bool} {held : Bool}
theorem rd_deeds {t e d : TypeId} {f0 f1 : Field} {fuel : Nat} {cs : List Value} {x : DataW H × List MemPlace} (ht : P.underlying t = some (.slice e)) (hC1 : P.cellsOf e = 1) (he : P.underlying e = some (.slice d)) (hd : P.underlying d = some (.struct #[f0, f1]))
    (hone : oneCellFields P #[f0, f1] = true) (hC : P.cellsOf d = 2) (h0 : P.underlying f0.type = some (.int .i64)) (h1 : P.underlying f1.type = some (.int .i64)) (h : DataW.trod enc P w base spare held fuel t cs = some x) :
    ∃ v, cs = [v] ∧ ∃ ls : List (List Dd), RDS w eDeed v ls := by
  rcases open_slice1 ht hC1 h with ⟨rfl, _⟩ | ⟨a, len, cap, m, n, V, D, Pl, rfl, hb, hl, hm, hmm, _, hf⟩
  · exact ⟨_, rfl, [], none, 0, rfl, Nat.le_refl _, by decide, fun h => absurd h (Nat.lt_irrefl _)⟩
  · refine ⟨_, rfl, ?_⟩
    have hlm : len ≤ m := by rw [hmm]; split <;> omega
    have hq : ∀ i, ∃ l : List Dd, i < len → w.cell? (a.add i) = some (V i) ∧ RD w eDeed (V i) l := by
      intro i
      by_cases hi : i < len
      · obtain ⟨hc, ht2⟩ := hf i (by omega)
        obtain ⟨v, hv, l, hr⟩ := rd_pairs he hd hone hC h0 h1 ht2
        injection hv with hv _
        subst hv
        exact ⟨_, fun _ => ⟨hc, hr.dd⟩⟩
      · exact ⟨[], fun h => absurd h hi⟩
    obtain ⟨f, hf2⟩ := Classical.axiomOfChoice hq
    refine ⟨(List.range len).map f, some a, cap, by simp, by simpa using hl, hm, fun hpos => ?_⟩
    simp only [List.length_map, List.length_range] at hpos
    obtain ⟨c0, _⟩ := hf2 0 hpos
    have ha0 : a.add 0 = a := by simp [Addr.add]
    rw [ha0] at c0
    obtain ⟨b, o, sp⟩ := a
    have hsp : sp = none := World.cell?_spot c0
    subst hsp
    refine ⟨b, o, rfl, World.block_lt_of_cell? w _ c0, fun k hk => ?_⟩
    simp only [List.length_map, List.length_range] at hk
    obtain ⟨d0, d1⟩ := hf2 k hk
    have hadd : ∀ i, (⟨b, o, none⟩ : Addr).add i = ⟨b, o + i, none⟩ := fun i => by unfold Addr.add; split <;> simp_all
    rw [hadd] at d0
    refine ⟨_, d0, ?_⟩
    simp only [List.getElem_map, List.getElem_range]
    exact d1
theorem rd_two {r : Reach} {b0 : Nat} {t : TypeId} {f0 f1 : Field} {v : Value} {d : DataW H} {p : List MemPlace} (hs : P.underlying t = some (.struct #[f0, f1])) (hone : oneCellFields P #[f0, f1] = true) (hC : P.cellsOf t = 2)
    (h0 : P.underlying f0.type = some (.int .i64)) (h1 : P.underlying f1.type = some (.int .i64)) (hv : Value.okWide P w r b0 t v) (h : DataW.Trod enc P w base spare held t v d p) :
    ∃ a b : Int, v = .agg #[.int .i64 a, .int .i64 b] := by
  obtain ⟨v0, v1, y0, y1, n, rfl, _, _, t0, t1⟩ := Go.Joins.open_agg2 hs hone hC hv h
  obtain ⟨n0, e0, _⟩ := DataW.trod_int h0 t0
  obtain ⟨n1, e1, _⟩ := DataW.trod_int h1 t1
  injection e0 with e0
  injection e1 with e1
  subst e0 e1
  exact ⟨_, _, rfl⟩
end
section
variable {H : Type} {enc : TypeId × Value → H} {w : World} {base : Nat} {spare : Nat → Bool} {held : Bool} {a0 : Option Addr} {n c : Nat} {d : DataW H} {p : List MemPlace}
set_option maxRecDepth 100000 in
theorem arg_deeds (h : DataW.Trod enc Try.prog w base spare held 25 (.slice a0 n c) d p) : ∃ ls, RDS w eDeed (.slice a0 n c) ls := by
  obtain ⟨fuel, hf⟩ := h
  obtain ⟨v, hv, l, hl⟩ := rd_deeds Try.underlying25 (by kernel_rfl) Try.underlying24 Try.underlying23 (by kernel_rfl) (by kernel_rfl) Try.underlying3 Try.underlying3 hf
  simp [Value.cells] at hv
  subst hv
  exact ⟨l, hl⟩
set_option maxRecDepth 100000 in
theorem arg_deed {r : Reach} {b0 : Nat} {v : Value} (hv : Value.okWide Try.prog w r b0 23 v) (h : DataW.Trod enc Try.prog w base spare held 23 v d p) : ∃ x y : Int, v = .agg #[.int .i64 x, .int .i64 y] :=
  rd_two Try.underlying23 (by kernel_rfl) (by kernel_rfl) Try.underlying3 Try.underlying3 hv h
end
end Go.Proofs.Ytoihdnekkgpcoaa
namespace Go.Proofs.Ytoihdnekkgpcoaa
open Go
set_option linter.unusedVariables false

/-- How many are not listed yet. -/
def openN (L : Array Bool) : Nat := L.toList.countP fun b => !b
theorem countP_set : ∀ (l : List Bool) (i : Nat), l[i]? = some false → (l.set i true).countP (fun b => !b) + 1 = l.countP fun b => !b
  | [], i, h => by simp at h
  | a :: l, 0, h => by
    simp at h
    subst h
    simp
  | a :: l, i + 1, h => by
    have := countP_set l i (by simpa using h)
    simp only [List.set_cons_succ, List.countP_cons]
    omega
theorem openN_set {L : Array Bool} {i : Nat} (hi : i < L.size) (h : L.getD i true = false) : openN (L.setIfInBounds i true) + 1 = openN L := by
  unfold openN
  have h1 : L[i] = false := by simpa [Array.getD, hi] using h
  have h2 : (L.setIfInBounds i true).toList = L.toList.set i true := by simp
  rw [h2]
  exact countP_set _ _ (by simp [hi, h1])
theorem wpAny_inv {P : Program} {ops : Array Oper} {md : Region.Mode} {Q : Exit → Act → World → Prop} (Inv : Array Bool → Act → World → Prop)
    (hstep : ∀ L a w, L.size = ops.size → Inv L a w → ∀ i ∈ Region.ready md ops L, wpOp P ops Q i (Inv (L.setIfInBounds i true)) a w)
    (hend : ∀ L a w, L.size = ops.size → Inv L a w → Region.ready md ops L = [] → Q .normal a w) :
    ∀ fuel L a w, L.size = ops.size → openN L ≤ fuel → Inv L a w → wpAny P md ops Q fuel L a w
  | 0, L, a, w, hs, hf, hi => by
    have hr : Region.ready md ops L = [] := by
      unfold Region.ready
      rw [List.filter_eq_nil_iff]
      intro i hi' hc
      rw [List.mem_range] at hi'
      simp only [Bool.and_eq_true, Bool.not_eq_true'] at hc
      have := openN_set (L := L) (i := i) (by omega) hc.1
      omega
    exact ⟨hr, hend L a w hs hi hr⟩
  | fuel + 1, L, a, w, hs, hf, hi => by
    refine ⟨hend L a w hs hi, fun i hr => ?_⟩
    have hr' := hr
    unfold Region.ready at hr'
    rw [List.mem_filter, List.mem_range] at hr'
    simp only [Bool.and_eq_true, Bool.not_eq_true'] at hr'
    have hc := openN_set (L := L) (i := i) (by omega) hr'.2.1
    refine wpOp_mono (fun a w h => ?_) (hstep L a w hs hi i hr)
    exact wpAny_inv Inv hstep hend fuel _ a w (by simp [hs]) (by omega) h
theorem wp_region_inv {P : Program} {ops : Array Oper} {Q : Exit → Act → World → Prop} {id : Nat} {a : Act} {w : World} (hm : P.follows .mixedOrders = true) (Inv : Array Bool → Act → World → Prop)
    (h0 : Inv (Array.replicate ops.size false) a { w with drawn := w.drawn + 1 })
    (hstep : ∀ L a w, L.size = ops.size → Inv L a w → ∀ i ∈ Region.ready .any ops L, wpOp P ops Q i (Inv (L.setIfInBounds i true)) a w)
    (hend : ∀ L a w, L.size = ops.size → Inv L a w → Region.ready .any ops L = [] → Q .normal a w) : (Code.region id ops true).wp P Q a w :=
  wp_region_any hm (wpAny_inv Inv hstep hend ops.size _ a _ (by simp) (by
    unfold openN
    rw [Array.toList_replicate, List.countP_replicate]; simp) h0)

/-- What a region's slots hold, slot by slot: no order matters. -/
def dstsOf (ops : Array Oper) : List Nat := ops.toList.filterMap (·.dst)
/-- A slot that holds its value when 'o' runs: none of the region's, or one that 'o' waits for. -/
def knowsAt (ops : Array Oper) (o : Oper) (d : Nat) : Bool :=
  !(dstsOf ops).contains d || o.after.toList.any fun e => Region.binds .any e && ((ops[e.on]?).bind (·.dst) == some d)
def ValsAt (ops : Array Oper) (Val : Nat → Value → World → Prop) (J : Array Bool → World → Prop) (n : Nat) (D : List Deferred) (L : Array Bool) (a : Act) (w : World) : Prop :=
  a.defers = D ∧ a.tmps.size = n ∧ J L w ∧ ∀ d, d < n → ((dstsOf ops).contains d = false ∨ ∃ i o, L.getD i false = true ∧ ops[i]? = some o ∧ o.dst = some d) → Val d (a.tmps.getD d undef) w
/-- One operation, with what it may know. -/
def StepAt (P : Program) (ops : Array Oper) (Q : Exit → Act → World → Prop) (Val : Nat → Value → World → Prop) (J : Array Bool → World → Prop) (n : Nat) (i : Nat) (o : Oper) : Prop :=
  ∀ L a w, a.tmps.size = n → J L w → L.getD i true = false → (∀ e ∈ o.after.toList, Region.binds .any e = true → L.getD e.on false = true) → (∀ d, d < n → knowsAt ops o d = true → Val d (a.tmps.getD d undef) w) →
    wpOp P ops Q i (fun a' w' => ∃ v, a' = a.put o.dst v ∧ J (L.setIfInBounds i true) w' ∧ (∀ d, o.dst = some d → Val d v w') ∧ ∀ d v, Val d v w → Val d v w') a w
def StepsFrom (f : Nat → Oper → Prop) : Nat → List Oper → Prop
  | _, [] => True
  | k, o :: os => f k o ∧ StepsFrom f (k + 1) os
theorem StepsFrom.at {f : Nat → Oper → Prop} : ∀ {l : List Oper} {k i : Nat} {o : Oper}, StepsFrom f k l → l[i]? = some o → f (k + i) o
  | [], _, _, _, _, h => by simp at h
  | a :: l, k, 0, o, hs, h => by
    simp at h
    subst h
    exact hs.1
  | a :: l, k, i + 1, o, hs, h => by
    have := StepsFrom.at (i := i) hs.2 (by simpa using h)
    rw [show k + 1 + i = k + (i + 1) from by omega] at this
    exact this
/-- Each waits for earlier ones alone. -/
def backs (ops : Array Oper) : Bool := (List.range ops.size).all fun i => ((ops[i]?).map fun o => o.after.all fun e => !Region.binds .any e || decide (e.on < i)).getD true
theorem all_listed {ops : Array Oper} (hb0 : backs ops = true) {L : Array Bool} (hs : L.size = ops.size) (hr0 : Region.ready .any ops L = []) : ∀ n i, i < n → i < ops.size → L.getD i true = true
  | 0, _, h, _ => by omega
  | n + 1, i, h, hi => by
    cases hL : L.getD i true with
    | true => rfl
    | false =>
      exfalso
      have hb := hb0
      have hr := hr0
      unfold Region.ready at hr
      rw [List.filter_eq_nil_iff] at hr
      refine hr i (by simpa using hi) ?_
      have ho : ops[i]? = some ops[i] := by simp [hi]
      unfold backs at hb
      rw [List.all_eq_true] at hb
      have hb1 := hb i (by simpa using hi)
      rw [ho] at hb1 ⊢
      simp only [Option.map_some, Option.getD_some, hL, Bool.not_false, Bool.true_and] at hb1 ⊢
      rw [Array.all_eq_true'] at hb1 ⊢
      intro e he
      have := hb1 e he
      cases hq : Region.binds .any e with
      | false => rfl
      | true =>
        simp only [hq, Bool.not_true, Bool.false_or, decide_eq_true_eq] at this ⊢
        have h2 := all_listed hb0 hs hr0 n e.on (by omega) (by omega)
        have h3 : e.on < L.size := by omega
        simp only [Array.getD, h3, dif_pos] at h2 ⊢
        exact h2
theorem wp_region_vals {P : Program} {ops : Array Oper} {Q : Exit → Act → World → Prop} {id : Nat} {a : Act} {w : World} (hm : P.follows .mixedOrders = true) (Val : Nat → Value → World → Prop) (J : Array Bool → World → Prop)
    (hJ : J (Array.replicate ops.size false) { w with drawn := w.drawn + 1 })
    (h0 : ∀ d, d < a.tmps.size → (dstsOf ops).contains d = false → Val d (a.tmps.getD d undef) { w with drawn := w.drawn + 1 })
    (hsteps : StepsFrom (StepAt P ops Q Val J a.tmps.size) 0 ops.toList)
    (hb : backs ops = true)
    (hend : ∀ a' w', a'.defers = a.defers → a'.tmps.size = a.tmps.size → J (Array.replicate ops.size true) w' → (∀ d, d < a.tmps.size → Val d (a'.tmps.getD d undef) w') → Q .normal a' w') :
    (Code.region id ops true).wp P Q a w := by
  refine wp_region_inv hm (ValsAt ops Val J a.tmps.size a.defers) ⟨rfl, rfl, hJ, fun d hd h => ?_⟩ ?_ ?_
  · rcases h with h | ⟨i, o, h, _⟩
    · exact h0 d hd h
    · simp [Array.getD, Array.getElem_replicate] at h
  · rintro L a' w' hs ⟨e1, e2, hj, hv⟩ i hr
    unfold Region.ready at hr
    rw [List.mem_filter, List.mem_range] at hr
    obtain ⟨hi, hr⟩ := hr
    simp only [Bool.and_eq_true, Bool.not_eq_true'] at hr
    obtain ⟨hl, hr⟩ := hr
    have ho : ops[i]? = some ops[i] := by simp [hi]
    have hi' : i < L.size := by omega
    generalize ops[i] = o at ho
    rw [ho] at hr
    have haft : ∀ e ∈ o.after.toList, Region.binds .any e = true → L.getD e.on false = true := fun e he hb => by
      have hr2 : (o.after.all fun e => !Region.binds .any e || L.getD e.on false) = true := by simpa using hr
      have := Array.all_eq_true'.1 hr2 e (by simpa using he)
      simpa [hb] using this
    have hst := hsteps.at (i := i) (o := o) (by simpa using ho)
    rw [Nat.zero_add] at hst
    refine wpOp_mono ?_ (hst L a' w' e2 hj hl haft fun d hd hk => hv d hd ?_)
    · rintro a2 w2 ⟨v, rfl, hj2, hval, hmono⟩
      have hsz : (a'.put o.dst v).tmps.size = a'.tmps.size := by
        cases o.dst <;> simp [Act.put]
      refine ⟨?_, by rw [hsz, e2], hj2, fun d hd hk => ?_⟩
      · rw [← e1]
        cases o.dst <;> rfl
      · by_cases hdd : o.dst = some d
        · have : (a'.put o.dst v).tmps.getD d undef = v := by
            rw [hdd]
            simp [Act.put, Array.getD, e2, hd]
          rw [this]
          exact hval d hdd
        · have : (a'.put o.dst v).tmps.getD d undef = a'.tmps.getD d undef := by
            cases hq : o.dst with
            | none => rfl
            | some d2 =>
              have : d2 ≠ d := fun h => hdd (by rw [hq, h])
              simp only [Act.put, Array.getD_eq_getD_getElem?, Array.getElem?_setIfInBounds_ne this]
          rw [this]
          refine hmono d _ (hv d hd ?_)
          rcases hk with hk | ⟨j, oj, h1, h2, h3⟩
          · exact .inl hk
          · by_cases hji : j = i
            · subst hji
              rw [ho] at h2
              injection h2 with h2
              subst h2
              exact absurd h3 hdd
            · refine .inr ⟨j, oj, ?_, h2, h3⟩
              have : (L.setIfInBounds i true).getD j false = L.getD j false := by
                simp only [Array.getD_eq_getD_getElem?, Array.getElem?_setIfInBounds_ne (Ne.symm hji)]
              rw [← this]
              exact h1
    · unfold knowsAt at hk
      rw [Bool.or_eq_true] at hk
      rcases hk with hk | hk
      · exact .inl (by simpa using hk)
      · rw [List.any_eq_true] at hk
        obtain ⟨e, he, hk⟩ := hk
        rw [Bool.and_eq_true] at hk
        have hk2 : (ops[e.on]?).bind (·.dst) = some d := by simpa using hk.2
        obtain ⟨oe, h1, h2⟩ := Option.bind_eq_some_iff.1 hk2
        exact .inr ⟨e.on, oe, haft e he hk.1, h1, h2⟩
  · rintro L a' w' hs ⟨e1, e2, hj, hv⟩ hr
    have hall := fun i h => all_listed hb hs hr ops.size i h h
    have hL : L = Array.replicate ops.size true := by
      apply Array.ext (by simp [hs])
      intro i h1 h2
      have := hall i (by omega)
      simpa [Array.getD, h1] using this
    refine hend a' w' e1 e2 (hL ▸ hj) fun d hd => hv d hd ?_
    cases hc : (dstsOf ops).contains d with
    | false => exact .inl rfl
    | true =>
      right
      have hm : d ∈ dstsOf ops := by simpa using hc
      unfold dstsOf at hm
      rw [List.mem_filterMap] at hm
      obtain ⟨o, ho, hod⟩ := hm
      obtain ⟨i, hi, rfl⟩ := List.mem_iff_getElem.1 ho
      have hi' : i < ops.size := by simpa using hi
      refine ⟨i, ops[i], ?_, by simp [hi'], by simpa using hod⟩
      have := hall i hi'
      have h3 : i < L.size := by omega
      simpa [Array.getD, h3] using this
section
variable {P : Program} {ops : Array Oper} {Q : Exit → Act → World → Prop} {Val : Nat → Value → World → Prop} {K : Act → World → Prop} {i : Nat} {o : Oper} {a : Act} {w : World}
/-- An operation that yields a value. -/
theorem wpOp_value (ho : ops[i]? = some o) (hw : Region.wanted o (yielded ops a.tmps) = true) {v : Value} {w' : World} (hr : (execOp a.eval o).run P w = .ok (.value v) w') (h : K (a.put o.dst v) w') : wpOp P ops Q i K a w := by
  unfold wpOp
  simp only [ho, hw, if_true, Oper.wp, hr, Oper.upon]
  exact .inl h
/-- An operation that is not wanted. -/
theorem wpOp_not (ho : ops[i]? = some o) (hw : Region.wanted o (yielded ops a.tmps) = false) (h : K (a.put o.dst undef) w) : wpOp P ops Q i K a w := by
  unfold wpOp
  simp only [ho, hw, Bool.false_eq_true, if_false]
  exact h
/-- A call. -/
theorem wpOp_call (ho : ops[i]? = some o) (hw : Region.wanted o (yielded ops a.tmps) = true) {f : FuncId} {args : Array Value} {w' : World} (hr : (execOp a.eval o).run P w = .ok (.enter f args) w') {R : Ending → World → Prop}
    (hc : Calls P f args w' R) (h : ∀ r w2, R r w2 → ∃ v, r = .returned v ∧ K (a.put o.dst v) w2) : wpOp P ops Q i K a w := by
  unfold wpOp
  simp only [ho, hw, if_true, Oper.wp, hr, Oper.upon]
  refine .inl (hc.mono fun r w2 hR => ?_)
  obtain ⟨v, rfl, hk⟩ := h r w2 hR
  exact hk
end

/-- A slot of the region that 'o' waits for. -/
def waitsFor (ops : Array Oper) (o : Oper) (d : Nat) : Bool := o.after.toList.any fun e => Region.binds .any e && ((ops[e.on]?).bind (·.dst) == some d)
/-- One operation of a region whose slots are told by a table T, but for some that are told by G. -/
def StepT (P : Program) (ops : Array Oper) (Q : Exit → Act → World → Prop) (T : List (Nat × Value)) (G : Nat → Value → World → Prop) (J : Array Bool → World → Prop) (a0 : Act) (i : Nat) (o : Oper) : Prop :=
  ops[i]? = some o → ∀ L a w, a.tmps.size = a0.tmps.size → J L w → L.getD i true = false → (∀ e ∈ o.after.toList, Region.binds .any e = true → L.getD e.on false = true) →
    (∀ d x, (dstsOf ops).contains d = false → a0.tmps.getD d undef = x → a.tmps.getD d undef = x) →
    (∀ d x, waitsFor ops o d = true → T.lookup d = some x → a.tmps.getD d undef = x) →
    (∀ d, waitsFor ops o d = true → G d (a.tmps.getD d undef) w) →
    wpOp P ops Q i (fun a' w' => ∃ v, a' = a.put o.dst v ∧ J (L.setIfInBounds i true) w' ∧ (∀ d, o.dst = some d → (∀ x, T.lookup d = some x → v = x) ∧ G d v w') ∧ ∀ d v, G d v w → G d v w') a w
theorem wp_region_tab {P : Program} {ops : Array Oper} {Q : Exit → Act → World → Prop} {id : Nat} {a : Act} {w : World} (hm : P.follows .mixedOrders = true) (T : List (Nat × Value)) (G : Nat → Value → World → Prop) (J : Array Bool → World → Prop)
    (hJ : J (Array.replicate ops.size false) { w with drawn := w.drawn + 1 }) (hb : backs ops = true) (hds : ((dstsOf ops).all fun d => decide (d < a.tmps.size)) = true)
    (hsteps : StepsFrom (StepT P ops Q T G J a) 0 ops.toList)
    (hend : ∀ a' w', a'.defers = a.defers → a'.tmps.size = a.tmps.size → J (Array.replicate ops.size true) w' →
      (∀ d x, (dstsOf ops).contains d = false → a.tmps.getD d undef = x → a'.tmps.getD d undef = x) →
      (∀ d x, (dstsOf ops).contains d = true → T.lookup d = some x → a'.tmps.getD d undef = x) →
      (∀ d, (dstsOf ops).contains d = true → G d (a'.tmps.getD d undef) w') → Q .normal a' w') :
    (Code.region id ops true).wp P Q a w := by
  have hlt : ∀ d, (dstsOf ops).contains d = true → d < a.tmps.size := fun d hd => by
    rw [List.all_eq_true] at hds
    simpa using hds d (by simpa using hd)
  have hout : ∀ b : Act, b.tmps.size = a.tmps.size → ∀ d, ¬ d < a.tmps.size → b.tmps.getD d undef = a.tmps.getD d undef := fun b hb d hd => by
    simp [Array.getD, hb, hd]
  refine wp_region_vals hm (fun d v w => if (dstsOf ops).contains d then (∀ x, T.lookup d = some x → v = x) ∧ G d v w else v = a.tmps.getD d undef) J hJ (fun d _ h => by rw [if_neg (by simpa using h)]) ?_ hb fun a' w' e1 e2 hj hv => ?_
  · have key : ∀ (l : List Oper) (k : Nat), (∀ i o, l[i]? = some o → ops[k + i]? = some o) → StepsFrom (StepT P ops Q T G J a) k l → StepsFrom (StepAt P ops Q (fun d v w => if (dstsOf ops).contains d then (∀ x, T.lookup d = some x → v = x) ∧ G d v w else v = a.tmps.getD d undef) J a.tmps.size) k l := by
      intro l
      induction l with
      | nil => exact fun _ _ _ => trivial
      | cons o l ih =>
        intro k hk h
        refine ⟨?_, ih (k + 1) (fun i o h => by rw [show k + 1 + i = k + (i + 1) from by omega]; exact hk (i + 1) o (by simpa using h)) h.2⟩
        intro L b w hs hJ hl haft hknow
        have hko := hk 0 o rfl
        have hin : ∀ d, waitsFor ops o d = true → (dstsOf ops).contains d = true := fun d hd => by
          unfold waitsFor at hd
          rw [List.any_eq_true] at hd
          obtain ⟨e, he, hd⟩ := hd
          rw [Bool.and_eq_true] at hd
          have hk2 : (ops[e.on]?).bind (·.dst) = some d := by simpa using hd.2
          obtain ⟨oe, h1, h2⟩ := Option.bind_eq_some_iff.1 hk2
          have : d ∈ dstsOf ops := by
            unfold dstsOf
            rw [List.mem_filterMap]
            exact ⟨oe, by
              obtain ⟨hlt, rfl⟩ := Array.getElem?_eq_some_iff.1 h1
              simp, h2⟩
          simpa using this
        have hw : ∀ d, waitsFor ops o d = true → knowsAt ops o d = true := fun d hd => by
          unfold knowsAt waitsFor at *
          rw [hd, Bool.or_true]
        refine wpOp_mono ?_ (h.1 (by simpa using hko) L b w hs hJ hl haft (fun d x hc hx => ?_) (fun d x hw1 hx => ?_) (fun d hw1 => ?_))
        · rintro a2 w2 ⟨v, rfl, hj2, hval, hmono⟩
          refine ⟨v, rfl, hj2, fun d hd => ?_, fun d v h => ?_⟩
          · have : (dstsOf ops).contains d = true := by
              have : d ∈ dstsOf ops := by
                unfold dstsOf
                rw [List.mem_filterMap]
                exact ⟨o, by
                  obtain ⟨hlt, rfl⟩ := Array.getElem?_eq_some_iff.1 hko
                  simp, hd⟩
              simpa using this
            simp only [this, if_true]
            exact hval d hd
          · by_cases hc : (dstsOf ops).contains d = true
            · simp only [hc, if_true] at h ⊢
              exact ⟨h.1, hmono d v h.2⟩
            · simp only [hc] at h ⊢
              exact h
        · by_cases hd : d < a.tmps.size
          · have := hknow d hd (by unfold knowsAt; rw [hc]; rfl)
            simp only [hc] at this
            rw [← hx]
            simpa using this
          · rw [← hx]
            exact hout b hs d hd
        · have := hknow d (hlt d (hin d hw1)) (hw d hw1)
          simp only [hin d hw1, if_true] at this
          exact this.1 x hx
        · have := hknow d (hlt d (hin d hw1)) (hw d hw1)
          simp only [hin d hw1, if_true] at this
          exact this.2
    exact key ops.toList 0 (fun i o h => by rw [Nat.zero_add]; simpa using h) hsteps
  · refine hend a' w' e1 e2 hj (fun d x hc hx => ?_) (fun d x hc hx => ?_) (fun d hc => ?_)
    · by_cases hd : d < a.tmps.size
      · have := hv d hd
        simp only [hc] at this
        rw [← hx]
        simpa using this
      · rw [← hx]
        exact hout a' e2 d hd
    · have := hv d (hlt d hc)
      simp only [hc, if_true] at this
      exact this.1 x hx
    · have := hv d (hlt d hc)
      simp only [hc, if_true] at this
      exact this.2
theorem arr_eq {A : Array Value} {n : Nat} (h : A.size = n) : A = ((List.range n).map fun d => A.getD d undef).toArray := by
  subst h
  apply Array.ext (by simp)
  intro i h1 h2
  simp [Array.getD, h1]
theorem tab {T : List (Nat × Value)} {d : Nat} {v : Value} (h : T.lookup d = some v) : ∀ x, T.lookup d = some x → v = x := fun x hx => Option.some.inj (h.symm.trans hx)
theorem tab_none {T : List (Nat × Value)} {d : Nat} {v : Value} (h : T.lookup d = none) : ∀ x, T.lookup d = some x → v = x := fun x hx => by rw [h] at hx; cases hx
theorem wanted_none {o : Oper} {y : Nat → Option Bool} (h : o.guard = none) : Region.wanted o y = true := by
  unfold Region.wanted
  rw [h]
theorem wanted_bool {ops : Array Oper} {o : Oper} {a : Act} {j d : Nat} {want b : Bool} (h : o.guard = some (j, want)) (hd : (ops[j]?).bind (·.dst) = some d) (hv : a.tmps.getD d undef = .bool b) : Region.wanted o (yielded ops a.tmps) = (b == want) := by
  have hs : d < a.tmps.size := by
    refine Decidable.byContradiction fun h => ?_
    simp [Array.getD, h] at hv
    cases hv
  unfold Region.wanted yielded
  rw [h]
  have : a.tmps[d]? = some (.bool b) := by
    rw [← hv]
    simp [Array.getD, hs]
  simp [hd, this]
theorem wanted_undef {ops : Array Oper} {o : Oper} {a : Act} {j d : Nat} {want : Bool} (h : o.guard = some (j, want)) (hd : (ops[j]?).bind (·.dst) = some d) (hv : a.tmps.getD d undef = undef) : Region.wanted o (yielded ops a.tmps) = false := by
  unfold Region.wanted yielded
  rw [h]
  cases hs : a.tmps[d]? with
  | none => simp [hd, hs]
  | some v =>
    have : v = undef := by
      rw [← hv]
      simp [Array.getD_eq_getD_getElem?, hs]
    subst this
    simp [hd, hs, undef]
theorem run_v {P : Program} {s : Sem Value} {w w' : World} {v : Value} (h : s.run P w = .ok v w') : (do pure (Next.value (← s)) : Sem Next).run P w = .ok (.value v) w' := by
  simp [h]
end Go.Proofs.Ytoihdnekkgpcoaa
namespace Go.Proofs.Ytoihdnekkgpcoaa
open Go
set_option linter.unusedVariables false
set_option linter.unusedSimpArgs false

theorem wpOp_skip {w w' : World} {P : Program} {ops : Array Oper} {Q : Exit → Act → World → Prop} {K : Act → World → Prop} {k : Nat} {o : Oper} {a : Act} (ho : ops[k]? = some o) (hw : Region.wanted o (yielded ops a.tmps) = true) (hr : (execOp a.eval o).run P w = .ok .skip w') (h : K (a.put o.dst undef) w') : wpOp P ops Q k K a w := by
  unfold wpOp
  simp only [ho, hw, if_true, Oper.wp, hr, Oper.upon]
  exact .inl h
theorem run_u {w w' : World} {P : Program} {s : Sem Unit} (h : s.run P w = .ok () w') : (do s; pure Next.skip : Sem Next).run P w = .ok .skip w' := by
  simp [h]
theorem after_done {o : Oper} {L : Array Bool} (ha : ∀ e ∈ o.after.toList, Region.binds .any e = true → L.getD e.on false = true) {k : Nat} (h : (o.after.toList.any fun e => Region.binds .any e && (e.on == k)) = true) : L.getD k true = true := by
  rw [List.any_eq_true] at h
  obtain ⟨e, he, h⟩ := h
  rw [Bool.and_eq_true] at h
  have h2 : e.on = k := by simpa using h.2
  have := ha e he h.1
  rw [h2] at this
  simp only [Array.getD_eq_getD_getElem?] at this ⊢
  cases hq : L[k]? with
  | none => rw [hq] at this; simp at this
  | some x => rw [hq] at this; simpa using this
/-- A frame behind a region: what it was, with the region's slots put. -/
theorem frame_puts {D : List Nat} {A A' : Array Value} (hs : A'.size = A.size) (h : ∀ d x, D.contains d = false → A.getD d undef = x → A'.getD d undef = x) : ∃ f : Nat → Value, A' = D.foldl (fun B d => B.setIfInBounds d (f d)) A := by
  refine ⟨fun d => A'.getD d undef, ?_⟩
  have key : ∀ (D : List Nat) (A : Array Value), A'.size = A.size → (∀ d, D.contains d = false → A'.getD d undef = A.getD d undef) → A' = D.foldl (fun B d => B.setIfInBounds d (A'.getD d undef)) A := by
    intro D
    induction D with
    | nil =>
      intro A hs h
      apply Array.ext hs
      intro k h1 h2
      have := h k rfl
      simpa [Array.getD, h1, h2] using this
    | cons d D ih =>
      intro A hs h
      rw [List.foldl_cons]
      refine ih _ (by simp [hs]) fun k hk => ?_
      by_cases e : k = d
      · subst e
        by_cases hlt : k < A.size
        · simp [Array.getD_eq_getD_getElem?, Array.getElem?_setIfInBounds_self_of_lt hlt]
        · simp [Array.getD, hs, hlt]
      · rw [h k (by simp at hk ⊢; exact ⟨e, hk⟩)]
        simp only [Array.getD_eq_getD_getElem?, Array.getElem?_setIfInBounds_ne (Ne.symm e)]
  exact key D A hs fun d hd => h d _ hd rfl
theorem frame_putsE {D : List Nat} {A A' : Array Value} (hs : A'.size = A.size) (h : ∀ d x, D.contains d = false → A.getD d undef = x → A'.getD d undef = x) : ∃ f : Nat → Value, (∀ d, A'.getD d undef = f d) ∧ A' = D.foldl (fun B d => B.setIfInBounds d (f d)) A := by
  refine ⟨fun d => A'.getD d undef, fun _ => rfl, ?_⟩
  have key : ∀ (D : List Nat) (A : Array Value), A'.size = A.size → (∀ d, D.contains d = false → A'.getD d undef = A.getD d undef) → A' = D.foldl (fun B d => B.setIfInBounds d (A'.getD d undef)) A := by
    intro D
    induction D with
    | nil =>
      intro A hs h
      apply Array.ext hs
      intro k h1 h2
      have := h k rfl
      simpa [Array.getD, h1, h2] using this
    | cons d D ih =>
      intro A hs h
      rw [List.foldl_cons]
      refine ih _ (by simp [hs]) fun k hk => ?_
      by_cases e : k = d
      · subst e
        by_cases hlt : k < A.size
        · simp [Array.getD_eq_getD_getElem?, Array.getElem?_setIfInBounds_self_of_lt hlt]
        · simp [Array.getD, hs, hlt]
      · rw [h k (by simp at hk ⊢; exact ⟨e, hk⟩)]
        simp only [Array.getD_eq_getD_getElem?, Array.getElem?_setIfInBounds_ne (Ne.symm e)]
  exact key D A hs fun d hd => h d _ hd rfl
section
variable {w w' : World}
theorem run_exec_app {P : Program} {o : Oper} {a : Act} {t : TypeId} {u v v' : Value} (s x : Operand) (ho : o.op = .call { callee := .builtin .append, args := #[s, x], argTypes := #[t, t] }) (hs : a.eval s = v) (hx : a.eval x = u) (hr : (Builtin.append_ #[t, t] o.type #[v, u]).run P w = .ok v' w') :
    (execOp a.eval o).run P w = .ok (.value v') w' := by
  unfold execOp
  simp only [ho, resolve, invoke, builtin, Sem.run_bind, Sem.run_pure, Result.andThen_ok, List.map_toArray, List.map_cons, List.map_nil, hs, hx, hr]
end
end Go.Proofs.Ytoihdnekkgpcoaa
namespace Go.Proofs.Ytoihdnekkgpcoaa
open Go.ChangeShapes Go.WideShapes Go.ChangeAt Go.RowKit
set_option linter.unusedVariables false
set_option linter.unusedSimpArgs false

variable {L : Lay} {s : St} {dv : Nat → Value} {w w' : World}
/-- The cells of a hand. -/
theorem WN.hand (h : WN L s dv w) {i : Nat} (hi : i < L.nh) : ∃ pv cv b, w.cell? ⟨L.Hb i, 0, none⟩ = some (L.pr i) ∧ w.cell? ⟨L.Hb i, 1, none⟩ = some (.int .i64 (s.deed i)) ∧ w.cell? ⟨L.Hb i, 2, none⟩ = some (dv i) ∧
    w.cell? ⟨L.Hb i, 3, none⟩ = some pv ∧ w.cell? ⟨L.Hb i, 4, none⟩ = some cv ∧ w.cell? ⟨L.Hb i, 5, none⟩ = some (.bool b) ∧ (∀ k, w.frozen? ⟨L.Hb i, k, none⟩ = false) ∧ L.Hb i < w.heap.size ∧
    ((s.hd i).plc ≠ 0 → pv = ptr (L.B (s.hd i).p) ∧ cv = ptr (L.B (s.hd i).c) ∧ (s.hd i).p < s.m.n ∧ (s.hd i).c < s.m.n) ∧ (dv i ≠ .nilFunc → b = (s.hd i).is) := by
  obtain ⟨pv, cv, b, a1, a2, a3, a4⟩ := h.hn i hi
  exact ⟨pv, cv, b, a1.cell 0, a1.cell 1, a1.cell 2, a1.cell 3, a1.cell 4, a1.cell 5, fun k => a1.frozen k, a1.lt, a3, a4⟩
/-- The cells of a bead. -/
theorem WN.bead (h : WN L s dv w) {i : Nat} (hi : i < s.m.n) : w.cell? ⟨L.B i, 0, none⟩ = some (.int .i64 (s.m.ky i)) ∧ w.cell? ⟨L.B i, 1, none⟩ = some (if s.m.ky i = 10 then .pointer none else ptr (L.B (s.m.nx i))) ∧
    w.cell? ⟨L.B i, 2, none⟩ = some (.bool (s.m.mr i)) ∧ w.cell? ⟨L.B i, 3, none⟩ = some (.bool (s.m.lk i)) ∧ (∀ k, w.frozen? ⟨L.B i, k, none⟩ = false) ∧ L.B i < w.heap.size := by
  obtain ⟨a1, a2⟩ := h.bd i hi
  exact ⟨a1.cell 0, a1.cell 1, a1.cell 2, a1.cell 3, fun k => a1.frozen k, a1.lt⟩
/-- The deed of a hand, where it lies. -/
theorem WN.prog (h : WN L s dv w) {i : Nat} (hi : i < L.nh) {d : Dd} (hd : (L.P i)[s.deed i]? = some d) : ∃ b o n c, L.pr i = .slice (some ⟨b, o, none⟩) n c ∧ (s.deed i : Int) < (n : Int) ∧
    w.cell? ⟨b, o + s.deed i * 2, none⟩ = some (.int .i64 d.kind) ∧ w.cell? ⟨b, o + s.deed i * 2 + 1, none⟩ = some (.int .i64 d.key) := by
  obtain ⟨he, rfl⟩ := List.getElem?_eq_some_iff.1 hd
  have hr := (h.pg i hi)
  obtain ⟨A, c, e, h1, h2, h3, h4⟩ := hr
  obtain ⟨b, o, rfl, hb, hc⟩ := h4 (by omega)
  refine ⟨b, o, _, c, e, by omega, ?_, ?_⟩
  · exact h.kp.cell (by simpa [eDeed] using hc _ he 0 (by decide))
  · exact h.kp.cell (by simpa [eDeed] using hc _ he 1 (by decide))
set_option maxRecDepth 100000 in
theorem key_quiet (h : WN L s dv w) {i : Nat} (hi : i < L.nh) {d : Dd} (hd : (L.P i)[s.deed i]? = some d) : Calls Try.prog 40 #[ptr (L.Hb i)] w (fun e w' => e = .returned (.int .i64 d.key) ∧ ∃ m, w' = w.drewN m) := by
  obtain ⟨pv, cv, bb, c0, c1, -⟩ := h.hand hi
  obtain ⟨b, o, n, c, e, hq, _, k1⟩ := h.prog hi hd
  rw [e] at c0
  obtain ⟨H, hH⟩ : ∃ H, H = L.Hb i := ⟨_, rfl⟩
  obtain ⟨q, hqe⟩ : ∃ q, q = s.deed i := ⟨_, rfl⟩
  obtain ⟨K, hK⟩ : ∃ K, K = d.key := ⟨_, rfl⟩
  rw [← hH, ← hK]
  rw [← hH] at c0 c1
  rw [← hqe] at c1 hq k1
  rw [← hK] at k1
  clear h hi e hK hH hqe hd
  unfold ptr
  go_enter Try.func40, Try.ntmps40
  go_wp2_with fail
  go_quiet (fail)
  go_wp2
  go_ret
  exact ⟨rfl, _, rfl⟩
set_option maxRecDepth 100000 in
theorem kind_quiet (h : WN L s dv w) {i : Nat} (hi : i < L.nh) {d : Dd} (hd : (L.P i)[s.deed i]? = some d) : Calls Try.prog 42 #[ptr (L.Hb i)] w (fun e w' => e = .returned (.int .i64 d.kind) ∧ ∃ m, w' = w.drewN m) := by
  obtain ⟨pv, cv, bb, c0, c1, -⟩ := h.hand hi
  obtain ⟨b, o, n, c, e, hq, k1, _⟩ := h.prog hi hd
  rw [e] at c0
  obtain ⟨H, hH⟩ : ∃ H, H = L.Hb i := ⟨_, rfl⟩
  obtain ⟨q, hqe⟩ : ∃ q, q = s.deed i := ⟨_, rfl⟩
  obtain ⟨K, hK⟩ : ∃ K, K = d.kind := ⟨_, rfl⟩
  rw [← hH, ← hK]
  rw [← hH] at c0 c1
  rw [← hqe] at c1 hq k1
  rw [← hK] at k1
  clear h hi e hK hH hqe hd
  unfold ptr
  go_enter Try.func42, Try.ntmps42
  go_wp2_with fail
  go_quiet (fail)
  go_wp2
  go_ret
  exact ⟨rfl, _, rfl⟩
theorem key_any (h : WN L s dv w) {i : Nat} (hi : i < L.nh) {d : Dd} (hd : (L.P i)[s.deed i]? = some d) : Calls Try.prog 40 #[ptr (L.Hb i)] w (Ret (.int .i64 d.key) w) :=
  (key_quiet h hi hd).mono (by rintro e w' ⟨rfl, m, rfl⟩; exact ⟨rfl, ((Kp.refl w).drewN).bel⟩)
set_option maxRecDepth 100000 in
theorem take_no (h : WN L s dv w) {i : Nat} (hi : i < s.m.n) (hl : s.m.lk i = true) : Calls Try.prog 38 #[ptr (L.B i)] w (Ret (.bool false) w) := by
  obtain ⟨-, -, -, c3, fz, -⟩ := h.bead hi
  rw [hl] at c3
  obtain ⟨H, hH⟩ : ∃ H, H = L.B i := ⟨_, rfl⟩
  rw [← hH]
  rw [← hH] at c3
  clear h hi hl hH fz
  unfold ptr
  go_enter Try.func38, Try.ntmps38
  go_wp2
  go_ret
  exact ⟨rfl, (Kp.refl w).bel⟩
set_option maxRecDepth 100000 in
theorem take_yes (h : WN L s dv w) {i : Nat} (hi : i < s.m.n) (hl : s.m.lk i = false) : Calls Try.prog 38 #[ptr (L.B i)] w (fun e w' => e = .returned (.bool true) ∧ WN L { s with m := s.m.lock i } dv w') := by
  have HW := hide (h.setlk hi true)
  obtain ⟨-, -, -, c3, fz, -⟩ := h.bead hi
  have f3 := fz 3
  rw [hl] at c3
  obtain ⟨H, hH⟩ : ∃ H, H = L.B i := ⟨_, rfl⟩
  rw [← hH] at c3 f3 ⊢
  rw [← hH] at HW
  clear h hi hl hH fz
  unfold ptr
  go_enter Try.func38, Try.ntmps38
  go_wp2
  go_ret
  exact ⟨rfl, HW.out⟩
set_option maxRecDepth 100000 in
theorem begin_any (h : WN L s dv w) {i : Nat} (hi : i < L.nh) (hk : s.m.ky 0 ≠ 10) : Calls Try.prog 46 #[ptr L.T, ptr (L.Hb i)] w (fun e w' => e = .returned (.tuple #[]) ∧ WN L { s with hd := up s.hd i ((s.hd i).again s.m) } dv w') := by
  have HW := hide (fun W k => (h.setpc hi 1 0 (s.m.nx 0) h.n0 (h.nn 0 h.n0)).kpw (w' := W) k)
  obtain ⟨pv, cv, bb, -, -, -, c3, c4, -, fz, -⟩ := h.hand hi
  obtain ⟨-, b1, -⟩ := h.bead h.n0
  have t1 := h.tb.1.cell 1
  rw [if_neg hk] at b1
  have f3 := fz 3
  have f4 := fz 4
  have n1 : ¬ L.T = L.Hb i := by obtain ⟨_, _, _, x, _⟩ := h.hn i hi; exact BC.ne h.tb.1 x (by decide)
  have n2 : ¬ L.B 0 = L.Hb i := by obtain ⟨_, _, _, x, _⟩ := h.hn i hi; exact BC.ne (h.bd 0 h.n0).1 x (by decide)
  have t1 : w.cell? ⟨L.T, 1, none⟩ = some (ptr (L.B 0)) := t1
  obtain ⟨H, hH⟩ : ∃ H, H = L.Hb i := ⟨_, rfl⟩
  obtain ⟨b0, hb0⟩ : ∃ b, b = L.B 0 := ⟨_, rfl⟩
  obtain ⟨x, hx⟩ : ∃ x, x = L.B (s.m.nx 0) := ⟨_, rfl⟩
  obtain ⟨T, hT⟩ : ∃ T, T = L.T := ⟨_, rfl⟩
  rw [← hH] at c3 c4 f3 f4 n1 n2 HW ⊢
  rw [← hb0] at t1 b1 n2 HW
  rw [← hx] at b1 HW
  rw [← hT] at t1 n1 ⊢
  clear h hi hk fz hH hb0 hx hT
  unfold ptr at *
  go_enter Try.func46, Try.ntmps46
  go_wp2_with fail
  go_region_law (fail)
  go_wp2
  all_goals exact bodyPost_end (v := .tuple #[]) (by simp [results, Try.results46, go_sem]) rfl ⟨rfl, HW.out _ (Kp.refl _).drew⟩
set_option maxRecDepth 100000 in
theorem on_any (h : WN L s dv w) {i : Nat} (hi : i < L.nh) (hp : (s.hd i).plc ≠ 0) (hk : s.m.ky (s.hd i).c ≠ 10) : Calls Try.prog 41 #[ptr (L.Hb i)] w (fun e w' => e = .returned (.tuple #[]) ∧ WN L { s with hd := up s.hd i ((s.hd i).on s.m) } dv w') := by
  obtain ⟨pv, cv, bb, -, -, -, c3, c4, -, fz, -, hpc, -⟩ := h.hand hi
  obtain ⟨rfl, rfl, p1, p2⟩ := hpc hp
  have HW := hide (fun W k => (h.setpc hi (s.hd i).plc (s.hd i).c (s.m.nx (s.hd i).c) p2 (h.nn _ p2)).kpw (w' := W) k)
  obtain ⟨-, b1, -⟩ := h.bead p2
  rw [if_neg hk] at b1
  have f3 := fz 3
  have f4 := fz 4
  have n2 : ¬ L.B (s.hd i).c = L.Hb i := by obtain ⟨_, _, _, x, _⟩ := h.hn i hi; exact BC.ne (h.bd _ p2).1 x (by decide)
  obtain ⟨H, hH⟩ : ∃ H, H = L.Hb i := ⟨_, rfl⟩
  obtain ⟨b0, hb0⟩ : ∃ b, b = L.B (s.hd i).c := ⟨_, rfl⟩
  obtain ⟨b9, hb9⟩ : ∃ b, b = L.B (s.hd i).p := ⟨_, rfl⟩
  obtain ⟨x, hx⟩ : ∃ x, x = L.B (s.m.nx (s.hd i).c) := ⟨_, rfl⟩
  rw [← hH] at c3 c4 f3 f4 n2 HW ⊢
  rw [← hb0] at c4 b1 n2 HW
  rw [← hb9] at c3
  rw [← hx] at b1 HW
  clear h hi hk hp fz hH hb0 hb9 hx hpc p1 p2
  unfold ptr at *
  go_enter Try.func41, Try.ntmps41
  go_wp2_with fail
  go_region_law (fail)
  go_wp2
  all_goals exact bodyPost_end (v := .tuple #[]) (by simp [results, Try.results41, go_sem]) rfl ⟨rfl, HW.out _ (Kp.refl _).drew⟩
set_option maxRecDepth 100000 in
theorem free_any (h : WN L s dv w) {i : Nat} (hi : i < L.nh) (hp : (s.hd i).plc ≠ 0) (hne : (s.hd i).p ≠ (s.hd i).c) : Calls Try.prog 44 #[ptr (L.Hb i)] w (fun e w' => e = .returned (.tuple #[]) ∧ WN L { s with m := s.m.free (s.hd i).p (s.hd i).c } dv w') := by
  obtain ⟨pv, cv, bb, -, -, -, c3, c4, -, -, -, hpc, -⟩ := h.hand hi
  obtain ⟨rfl, rfl, p1, p2⟩ := hpc hp
  have HW := hide (fun W k => ((h.setlk p1 false).setlk (i := (s.hd i).c) p2 false).kpw (w' := W) k)
  obtain ⟨-, -, -, b3, fz, -⟩ := h.bead p1
  obtain ⟨-, -, -, d3, gz, -⟩ := h.bead p2
  have f3 := fz 3
  have g3 := gz 3
  have n1 : ¬ L.B (s.hd i).p = L.B (s.hd i).c := fun e => hne (h.bi _ _ p1 p2 e)
  have n3 : ¬ L.B (s.hd i).p = L.Hb i := by obtain ⟨_, _, _, x, _⟩ := h.hn i hi; exact BC.ne (h.bd _ p1).1 x (by decide)
  have n2 : ¬ L.B (s.hd i).c = L.Hb i := by obtain ⟨_, _, _, x, _⟩ := h.hn i hi; exact BC.ne (h.bd _ p2).1 x (by decide)
  obtain ⟨H, hH⟩ : ∃ H, H = L.Hb i := ⟨_, rfl⟩
  obtain ⟨b0, hb0⟩ : ∃ b, b = L.B (s.hd i).c := ⟨_, rfl⟩
  obtain ⟨b9, hb9⟩ : ∃ b, b = L.B (s.hd i).p := ⟨_, rfl⟩
  rw [← hH] at c3 c4 n2 n3 ⊢
  rw [← hb0] at c4 d3 g3 n1 n2 HW
  rw [← hb9] at c3 b3 f3 n1 n3 HW
  clear h hi hp hne fz gz hH hb0 hb9 hpc p1 p2
  unfold ptr at *
  go_enter Try.func44, Try.ntmps44
  go_wp2_with fail
  go_region_law (fail)
  go_wp2
  all_goals exact bodyPost_end (v := .tuple #[]) (by simp [results, Try.results44, go_sem]) rfl ⟨rfl, HW.out _ (Kp.refl _).drew⟩
end Go.Proofs.Ytoihdnekkgpcoaa
namespace Go.Proofs.Ytoihdnekkgpcoaa
open Go.ChangeShapes Go.WideShapes Go.ChangeAt Go.RowKit
set_option linter.unusedVariables false
set_option linter.unusedSimpArgs false

/-- A call of a Go function, as one step of a region that draws. -/
theorem step_gocall {P : Program} {ops : Array Oper} {o : Oper} {a : Act} {w : World} {K : Act → World → Prop} {Q : Exit → Act → World → Prop} {E : Prop} (hgd : o.guard = none) {f : FuncId} {args : Array Value}
    (hr : (execOp a.eval o).run P w = .ok (.enter f args) w) {R : Ending → World → Prop} (hc : Calls P f args w R) (h : ∀ r w2, R r w2 → ∃ v, r = .returned v ∧ K (a.put o.dst v) w2) : if Region.wanted o (yielded ops a.tmps) = true then Oper.wp P o a w K Q else E := by
  rw [if_pos (wanted_none hgd)]
  unfold Oper.wp
  simp only [hr, Oper.upon]
  refine hc.mono fun r w2 hR => ?_
  obtain ⟨v, rfl, hk⟩ := h r w2 hR
  exact hk
theorem alloc_set (w : World) (p : Addr) (u : Value) (o : Obj) (hp : p.block < w.heap.size) : (w.setCell p u).alloc o = (w.alloc o).setCell p u := by
  unfold World.alloc World.setCell
  congr 1
  apply Array.ext
  · simp
  · intro i h1 h2
    simp [Array.getElem_push, Array.getElem_modify]
    split <;> split <;> simp_all
    all_goals omega
variable {L : Lay} {s : St} {dv : Nat → Value} {w w' : World}
/-- All else lies as it did. -/
def Lx (L L' : Lay) (n : Nat) : Prop := L'.w0 = L.w0 ∧ L'.Hb = L.Hb ∧ L'.T = L.T ∧ L'.nh = L.nh ∧ L'.alg = L.alg ∧ L'.P = L.P ∧ L'.cst = L.cst ∧ ∀ i, i < n → L'.B i = L.B i
set_option maxRecDepth 100000 in
theorem add_any (h : WN L s dv w) {i : Nat} (hi : i < L.nh) {d : Dd} (hd : (L.P i)[s.deed i]? = some d) (hp : (s.hd i).plc ≠ 0) (hk : s.m.ky (s.hd i).p ≠ 10) (hd10 : d.key ≠ 10) : Calls Try.prog 43 #[ptr (L.Hb i)] w (fun e w' => e = .returned (.tuple #[]) ∧ ∃ L', Lx L L' s.m.n ∧ WN L' { s with m := s.m.ins (s.hd i).p (s.hd i).c d.key } dv w') := by
  have HK := hide (fun W (k : Kp w W) => key_any (h.kpw k) hi hd)
  have HWz := h.kp.size
  obtain ⟨pv, cv, bb, -, -, -, c3, c4, -, -, n1, hpc, -⟩ := h.hand hi
  obtain ⟨rfl, rfl, p1, p2⟩ := hpc hp
  obtain ⟨-, b1, -, -, fz, n2⟩ := h.bead p1
  rw [if_neg hk] at b1
  have f3 := fz 1
  have HW : Hid (∀ w1, Kp w w1 → ∃ L', Lx L L' s.m.n ∧ WN L' { s with m := s.m.ins (s.hd i).p (s.hd i).c d.key } dv ((w1.setCell ⟨L.B (s.hd i).p, 1, none⟩ (ptr w1.heap.size)).alloc (.cells #[.int .i64 d.key, ptr (L.B (s.hd i).c), .bool false, .bool false] 48))) := hide (by
    intro w1 k1
    refine ⟨{ L with B := up L.B s.m.n w1.heap.size }, ⟨rfl, rfl, rfl, rfl, rfl, rfl, rfl, fun j hj => up_ne _ _ (by omega)⟩, ?_⟩
    have h1 := (h.kpw k1).newb d.key (s.hd i).c p2 hd10 (Nat.le_trans HWz k1.size)
    have h2 := h1.setnx (i := (s.hd i).p) (c := s.m.n) (Nat.lt_succ_of_lt p1) (Nat.lt_succ_self _) (by show up s.m.ky s.m.n d.key (s.hd i).p ≠ 10; rw [up_ne _ _ (by omega)]; exact hk)
    have e1 : up L.B s.m.n w1.heap.size (s.hd i).p = L.B (s.hd i).p := up_ne _ _ (by omega)
    have e2 : up L.B s.m.n w1.heap.size s.m.n = w1.heap.size := up_same _ _ _
    rw [alloc_set _ _ _ _ (Nat.lt_of_lt_of_le n2 k1.size)]
    have h3 : WN { L with B := up L.B s.m.n w1.heap.size } { s with m := s.m.ins (s.hd i).p (s.hd i).c d.key } dv ((w1.alloc (.cells #[.int .i64 d.key, ptr (L.B (s.hd i).c), .bool false, .bool false] 48)).setCell ⟨up L.B s.m.n w1.heap.size (s.hd i).p, 1, none⟩ (ptr (up L.B s.m.n w1.heap.size s.m.n))) := h2
    rw [e1, e2] at h3
    exact h3)
  obtain ⟨H, hH⟩ : ∃ H, H = L.Hb i := ⟨_, rfl⟩
  obtain ⟨b0, hb0⟩ : ∃ b, b = L.B (s.hd i).c := ⟨_, rfl⟩
  obtain ⟨b9, hb9⟩ : ∃ b, b = L.B (s.hd i).p := ⟨_, rfl⟩
  obtain ⟨x9, hx9⟩ : ∃ b, b = L.B (s.m.nx (s.hd i).p) := ⟨_, rfl⟩
  obtain ⟨K, hK⟩ : ∃ K, K = d.key := ⟨_, rfl⟩
  obtain ⟨R, hR⟩ : ∃ R : World → Prop, R = fun w' => ∃ L', Lx L L' s.m.n ∧ WN L' { s with m := s.m.ins (s.hd i).p (s.hd i).c d.key } dv w' := ⟨_, rfl⟩
  have hR2 : ∀ w', (∃ L', Lx L L' s.m.n ∧ WN L' { s with m := s.m.ins (s.hd i).p (s.hd i).c d.key } dv w') = R w' := by intro w'; rw [hR]
  simp only [hR2] at HW ⊢
  rw [← hH] at c3 c4 n1 HK ⊢
  rw [← hb0] at c4 HW
  rw [← hb9] at c3 b1 f3 n2 HW
  rw [← hx9] at b1
  rw [← hK] at HW HK
  clear h hi hd hp hk hd10 HWz fz hH hb0 hb9 hx9 hK hpc p1 p2 hR hR2
  unfold ptr at *
  go_enter Try.func43, Try.ntmps43
  go_wp2_with fail
  go_region_law ((refine step_gocall (f := 40) (args := #[.pointer (some ⟨H, 0, none⟩)]) rfl (by simp [execOp, resolve, Act.eval, go_sem]) (HK.out _ (by (focus ((repeat (first | (with_reducible assumption) | (with_reducible exact Kp.refl _) | (with_reducible apply Kp.drew) | (with_reducible apply Kp.drewN) | ((with_reducible apply Kp.setR); (focus (first | (with_reducible assumption) | (simp; done) | (simp; omega)))) | (with_reducible apply Kp.alloc) | ((with_reducible apply Kp.call); (with_reducible assumption)) | ((with_reducible apply Kp.app); (with_reducible assumption)))); done)))) ?_); (rintro _ w1 ⟨rfl, hb1⟩); (refine ⟨_, rfl, ?_⟩); (have k1 : Kp w w1 := Kp.call hb1 (by (focus ((repeat (first | (with_reducible assumption) | (with_reducible exact Kp.refl _) | (with_reducible apply Kp.drew) | (with_reducible apply Kp.drewN) | ((with_reducible apply Kp.setR); (focus (first | (with_reducible assumption) | (simp; done) | (simp; omega)))) | (with_reducible apply Kp.alloc) | ((with_reducible apply Kp.call); (with_reducible assumption)) | ((with_reducible apply Kp.app); (with_reducible assumption)))); done)))); (have c31 := k1.cell c3); (have c41 := k1.cell c4); (have b11 := k1.cell b1); (have z1 : H < w1.heap.size := Nat.lt_of_lt_of_le n1 k1.size); (have z2 : b9 < w1.heap.size := Nat.lt_of_lt_of_le n2 k1.size); (have f31 := (k1.frozen (p := ⟨b9, 1, none⟩) n2).trans f3))
  go_wp2
  all_goals exact bodyPost_end (v := .tuple #[]) (by simp [results, Try.results43, go_sem]) rfl ⟨rfl, HW.out _ k1⟩
end Go.Proofs.Ytoihdnekkgpcoaa
