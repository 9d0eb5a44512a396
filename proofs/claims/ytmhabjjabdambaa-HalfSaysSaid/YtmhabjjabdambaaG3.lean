/-
  Trees that are written (MT): nodes in blocks of their own, with a list of these blocks; a way down to a link that holds a subtree (ZP); what a call leaves that writes some blocks only (Kf); a variable that holds a slice (OB). Conditions: none.
  Sets of numbers as rising lists: put, taken away, next, prev; halves of a number. No program. Conditions: none.
  A map of pointers by numbers that the call has made (PM): looked up, given a new key. Conditions: none.
-/
import Derived.Test.YtmhabjjabdambaaG2
import Derived.Test.YtmhabjjabdambaaG1
import Derived.ChangeMaps4
import Derived.Carry

namespace Go.Proofs.Ytmhabjjabdambaa
open Go.ChangeShapes Go.WideShapes Go.ChangeAt Go.RowKit
set_option linter.unusedVariables false
set_option linter.unusedSimpArgs false

/-! All but these blocks stands. -/
def Kf (F : Nat → Prop) (w w' : World) : Prop := w'.os = w.os ∧ w'.tape = w.tape ∧ w'.output = w.output ∧ w.heap.size ≤ w'.heap.size ∧ ∀ i, i < w.heap.size → ¬ F i → w'.heap[i]? = w.heap[i]?
section
variable {F G : Nat → Prop} {a b c w w' : World}
theorem Kf.refl (F : Nat → Prop) (w : World) : Kf F w w := ⟨rfl, rfl, rfl, Nat.le_refl _, fun _ _ _ => rfl⟩
theorem Kf.size (h : Kf F w w') : w.heap.size ≤ w'.heap.size := h.2.2.2.1
theorem Kf.block (h : Kf F w w') {i : Nat} (hi : i < w.heap.size) (hn : ¬ F i) : w'.heap[i]? = w.heap[i]? := h.2.2.2.2 i hi hn
theorem Kf.mono (h : Kf F w w') (hF : ∀ i, i < w.heap.size → F i → G i) : Kf G w w' := ⟨h.1, h.2.1, h.2.2.1, h.2.2.2.1, fun i hi hn => h.block hi fun hf => hn (hF i hi hf)⟩
theorem Kf.trans (h : Kf F a b) (k : Kf G b c) (hG : ∀ i, i < a.heap.size → G i → F i) : Kf F a c :=
  ⟨k.1.trans h.1, k.2.1.trans h.2.1, k.2.2.1.trans h.2.2.1, Nat.le_trans h.size k.size, fun i hi hn => (k.block (Nat.lt_of_lt_of_le hi h.size) fun hg => hn (hG i hi hg)).trans (h.block hi hn)⟩
theorem Kf.of (h : Kp w w') : Kf F w w' := by
  obtain ⟨h1, h2, h3, h4, h5⟩ := h
  exact ⟨h1, h2, h3, h4, fun i hi _ => h5 i hi⟩
theorem Kf.on (h : Kf F a b) (k : Kp b c) : Kf F a c := h.trans (Kf.of (F := fun _ => False) k) (fun _ _ h => h.elim)
theorem Kf.kp (h : Kf F w w') (k : Kp a w) (hF : ∀ i, F i → a.heap.size ≤ i) : Kp a w' := by
  obtain ⟨h1, h2, h3, h4, h5⟩ := h
  have hz := k.size
  exact Below.trans (b := w) k ⟨h1, h2, h3, h4, fun i hi => h5 i (by omega) (fun hf => by have := hF i hf; omega)⟩
theorem Kf.set {p : Addr} {u : Value} (h : Kf F a b) (hp : F p.block ∨ a.heap.size ≤ p.block) : Kf F a (b.setCell p u) :=
  ⟨h.1, h.2.1, h.2.2.1, Nat.le_trans h.size (by simp [World.setCell]), fun i hi hn => (Below.heap_setCell _ _ _ _ (by rintro rfl; rcases hp with hp | hp; exact hn hp; omega)).trans (h.block hi hn)⟩
theorem Kf.app {v : Value} (h : Kf F a b) (hg : b.grownBy c v.ownBlock) (hv : ∀ k, v.ownBlock = some k → F k ∨ a.heap.size ≤ k) : Kf F a c := by
  obtain ⟨h1, h2, h3, h4, h5⟩ := hg
  refine ⟨h1.trans h.1, h2.trans h.2.1, h3.trans h.2.2.1, Nat.le_trans h.size h4, fun i hi hn => (h5 i (Nat.lt_of_lt_of_le hi h.size) fun e => ?_).trans (h.block hi hn)⟩
  rcases hv i e.symm with h | h
  · exact hn h
  · omega
theorem Kf.cell (h : Kf F w w') {p : Addr} (hn : ¬ F p.block) {u : Value} (hc : w.cell? p = some u) : w'.cell? p = some u :=
  (World.cell?_of_block (h.block (World.block_lt_of_cell? _ _ hc) hn)).trans hc
theorem Kf.frozen (h : Kf F w w') {p : Addr} (hp : p.block < w.heap.size) (hn : ¬ F p.block) : w'.frozen? p = w.frozen? p := World.frozen?_of_block (h.block hp hn)
theorem RD.kf {α : Type} {E : Enc α} {v : Value} {l : List α} (h : RD w E v l) (hk : Kf F w w') (hv : 0 < l.length → ∀ k, v.ownBlock = some k → ¬ F k) : RD w' E v l := by
  obtain ⟨A, c, rfl, h1, h2, hn, h3⟩ := h
  refine ⟨A, c, rfl, h1, h2, hn, fun h0 => ?_⟩
  obtain ⟨b, o, rfl, hb, hc⟩ := h3 h0
  refine ⟨b, o, rfl, Nat.lt_of_lt_of_le hb hk.size, fun k hk' j hj => ?_⟩
  rw [← hc k hk' j hj]
  exact World.cell?_of_block (hk.block hb (hv h0 b rfl))
theorem OW.kf {α : Type} {B : Nat} {e : TypeId} {E : Enc α} {v : Value} {l : List α} (h : OW w B e E v l) (hk : Kf F w w') (hv : ∀ k, v.ownBlock = some k → ¬ F k) : OW w' B e E v l := by
  obtain ⟨h1, h2⟩ := h
  refine ⟨h1, ?_⟩
  rcases h2 with h2 | ⟨g, cap, cur, rfl, hg, hh, r⟩
  · exact .inl h2
  · refine .inr ⟨g, cap, cur, rfl, hg, ?_, r⟩
    rw [hk.block (Array.getElem?_eq_some_iff.1 hh).1 (hv g rfl)]
    exact hh
/-- A block's whole content. -/
def BC (w : World) (b : Nat) (t : TypeId) (cs : List Value) : Prop := w.heap[b]? = some (.cells cs.toArray t (0, 0))
theorem BC.lt {i : Nat} {t : TypeId} {cs : List Value} (h : BC w i t cs) : i < w.heap.size := (Array.getElem?_eq_some_iff.1 h).1
theorem BC.kf {i : Nat} {t : TypeId} {cs : List Value} (h : BC w i t cs) (hk : Kf F w w') (hn : ¬ F i) : BC w' i t cs := (hk.block h.lt hn).trans h
theorem BC.kp {i : Nat} {t : TypeId} {cs : List Value} (h : BC w i t cs) (hk : Kp w w') : BC w' i t cs := (hk.bel.block i h.lt).trans h
theorem BC.new (w : World) (t : TypeId) (cs : List Value) : BC (w.alloc (.cells cs.toArray t)) w.heap.size t cs := heap_alloc_new w _
theorem BC.cell {i : Nat} {t : TypeId} {cs : List Value} (h : BC w i t cs) (j : Nat) : w.cell? ⟨i, j, none⟩ = cs[j]? := by
  rw [cell_of_row w i j _ t (0, 0) h]; simp
theorem BC.frozen {i : Nat} {t : TypeId} {cs : List Value} (h : BC w i t cs) (j : Nat) : w.frozen? ⟨i, j, none⟩ = false := by
  unfold BC at h
  simp [World.frozen?, h]
theorem BC.ne {i j : Nat} {t u : TypeId} {cs ds : List Value} (h : BC w i t cs) (h' : BC w j u ds) (hn : t ≠ u) : i ≠ j := by
  rintro rfl
  unfold BC at h h'
  rw [h] at h'
  injection h' with h'
  injection h' with _ e
  exact hn e
theorem BC.set {i j : Nat} {t : TypeId} {cs : List Value} {u : Value} (h : BC w i t cs) : BC (w.setCell ⟨i, j, none⟩ u) i t (cs.set j u) := by
  unfold BC at h ⊢
  simp [World.setCell, Array.getElem?_modify, h]
theorem BC.far {i : Nat} {t : TypeId} {cs : List Value} {p : Addr} {u : Value} (h : BC w i t cs) (hp : i ≠ p.block) : BC (w.setCell p u) i t cs := (Below.heap_setCell w p u i hp).trans h
theorem OW.bc_ne {α : Type} {B i : Nat} {e t : TypeId} {E : Enc α} {v : Value} {l : List α} {cs : List Value} (h : OW w B e E v l) (h' : BC w i t cs) (hn : e ≠ t) : v.ownBlock ≠ some i := by
  rcases h.2 with ⟨rfl, _⟩ | ⟨g, cap, cur, rfl, hg, hh, r⟩
  · simp [Value.ownBlock]
  · intro e1
    injection e1 with e1
    subst e1
    unfold BC at h'
    rw [hh] at h'
    injection h' with h'
    injection h' with _ e
    exact hn e
end

/-! Trees. -/
inductive MT (α : Type) where
  | nil
  | node (a : α) (l r : MT α)
def MT.size {α : Type} : MT α → Nat
  | .nil => 0
  | .node _ l r => l.size + 1 + r.size
def nodeC {α : Type} (E : Enc α) (a : α) (pl pr : Option Addr) : List Value := E.cells a ++ [.pointer pl, .pointer pr]
section
variable {α : Type} {E : Enc α} {nt : TypeId} {w w' : World}
def MR (w : World) (nt : TypeId) (E : Enc α) : MT α → Option Addr → List Nat → Prop
  | .nil, p, F => p = none ∧ F = []
  | .node a l r, p, F => ∃ b pl pr Fl Fr, p = some ⟨b, 0, none⟩ ∧ F = b :: (Fl ++ Fr) ∧ BC w b nt (nodeC E a pl pr) ∧ b ∉ Fl ∧ b ∉ Fr ∧ (∀ x ∈ Fl, x ∉ Fr) ∧ MR w nt E l pl Fl ∧ MR w nt E r pr Fr
theorem MR.keep {F : List Nat} (hk : ∀ i ∈ F, w'.heap[i]? = w.heap[i]?) : ∀ {t : MT α} {p : Option Addr}, MR w nt E t p F → MR w' nt E t p F := by
  intro t
  induction t generalizing F with
  | nil => intro p h; exact h
  | node a l r ihl ihr =>
    rintro p ⟨b, pl, pr, Fl, Fr, rfl, rfl, hb, h1, h2, h3, hl, hr⟩
    exact ⟨b, pl, pr, Fl, Fr, rfl, rfl, (hk b (by simp)).trans hb, h1, h2, h3, ihl (fun i hi => hk i (by simp [hi])) hl, ihr (fun i hi => hk i (by simp [hi])) hr⟩
theorem MR.bc {t : MT α} {p : Option Addr} {F : List Nat} (h : MR w nt E t p F) : ∀ i ∈ F, ∃ cs, BC w i nt cs := by
  induction t generalizing F p with
  | nil => obtain ⟨rfl, rfl⟩ := h; simp
  | node a l r ihl ihr =>
    obtain ⟨b, pl, pr, Fl, Fr, rfl, rfl, hb, h1, h2, h3, hl, hr⟩ := h
    intro i hi
    rcases List.mem_cons.1 hi with rfl | hi
    · exact ⟨_, hb⟩
    · rcases List.mem_append.1 hi with hi | hi
      · exact ihl hl i hi
      · exact ihr hr i hi
theorem MR.lt {t : MT α} {p : Option Addr} {F : List Nat} (h : MR w nt E t p F) : ∀ i ∈ F, i < w.heap.size := fun i hi => by
  obtain ⟨cs, h⟩ := h.bc i hi
  exact h.lt
theorem MR.kf {G : Nat → Prop} {t : MT α} {p : Option Addr} {F : List Nat} (h : MR w nt E t p F) (hk : Kf G w w') (hn : ∀ i ∈ F, ¬ G i) : MR w' nt E t p F :=
  MR.keep (fun i hi => hk.block (h.lt i hi) (hn i hi)) h
theorem MR.kp {t : MT α} {p : Option Addr} {F : List Nat} (h : MR w nt E t p F) (hk : Kp w w') : MR w' nt E t p F := h.kf (Kf.of (F := fun _ => False) hk) (fun _ _ h => h)
theorem MR.set {t : MT α} {p : Option Addr} {F : List Nat} (h : MR w nt E t p F) {q : Addr} {u : Value} (hn : q.block ∉ F) : MR (w.setCell q u) nt E t p F :=
  MR.keep (fun i hi => Below.heap_setCell _ _ _ _ (by rintro rfl; exact hn hi)) h
theorem MR.nil : MR w nt E (.nil : MT α) none [] := ⟨rfl, rfl⟩
theorem MR.of_none {t : MT α} {F : List Nat} (h : MR w nt E t none F) : t = .nil ∧ F = [] := by
  cases t with
  | nil => exact ⟨rfl, h.2⟩
  | node a l r => obtain ⟨b, pl, pr, Fl, Fr, h1, _⟩ := h; cases h1
theorem MR.of_some {t : MT α} {F : List Nat} {p : Addr} (h : MR w nt E t (some p) F) : ∃ a l r b pl pr Fl Fr, t = .node a l r ∧ p = ⟨b, 0, none⟩ ∧ F = b :: (Fl ++ Fr) ∧ BC w b nt (nodeC E a pl pr) ∧ b ∉ Fl ∧ b ∉ Fr ∧ (∀ x ∈ Fl, x ∉ Fr) ∧ MR w nt E l pl Fl ∧ MR w nt E r pr Fr := by
  cases t with
  | nil => obtain ⟨h1, _⟩ := h; cases h1
  | node a l r =>
    obtain ⟨b, pl, pr, Fl, Fr, h1, h2, h3, h4, h5, h6, h7, h8⟩ := h
    injection h1 with h1
    exact ⟨a, l, r, b, pl, pr, Fl, Fr, rfl, h1, h2, h3, h4, h5, h6, h7, h8⟩
theorem MR.mk {a : α} {l r : MT α} {b : Nat} {pl pr : Option Addr} {Fl Fr : List Nat} (hb : BC w b nt (nodeC E a pl pr)) (h1 : b ∉ Fl) (h2 : b ∉ Fr) (h3 : ∀ x ∈ Fl, x ∉ Fr) (hl : MR w nt E l pl Fl) (hr : MR w nt E r pr Fr) :
    MR w nt E (.node a l r) (some ⟨b, 0, none⟩) (b :: (Fl ++ Fr)) := ⟨b, pl, pr, Fl, Fr, rfl, rfl, hb, h1, h2, h3, hl, hr⟩
/-- A new leaf. -/
theorem MR.leaf (w : World) (a : α) : MR (w.alloc (.cells (nodeC E a none none).toArray nt)) nt E (.node a .nil .nil) (some ⟨w.heap.size, 0, none⟩) [w.heap.size] :=
  MR.mk (Fl := []) (Fr := []) (BC.new w nt _) (by simp) (by simp) (by simp) MR.nil MR.nil

/-! A way down: a link that holds a subtree, and all that stands round it. -/
structure Fm (α : Type) where
  a : α
  left : Bool
  o : MT α
def Fm.on (f : Fm α) (t : MT α) : MT α := if f.left then .node f.a t f.o else .node f.a f.o t
def plug : List (Fm α) → MT α → MT α
  | [], t => t
  | f :: C, t => plug C (f.on t)
def lk (E : Enc α) (left : Bool) : Nat := if left then E.size else E.size + 1
def fmC (E : Enc α) (f : Fm α) (ph po : Option Addr) : List Value := if f.left then nodeC E f.a ph po else nodeC E f.a po ph
def ZP (w : World) (nt : TypeId) (E : Enc α) (r0 : Addr) : List (Fm α) → Addr → List Nat → Prop
  | [], q, F => q = r0 ∧ F = []
  | f :: C, q, F => ∃ b ph po Fo q' F', q = ⟨b, lk E f.left, none⟩ ∧ BC w b nt (fmC E f ph po) ∧ MR w nt E f.o po Fo ∧ ZP w nt E r0 C q' F' ∧ w.cell? q' = some (.pointer (some ⟨b, 0, none⟩)) ∧ F = b :: (Fo ++ F') ∧ b ∉ Fo ∧ b ∉ F' ∧ ∀ x ∈ Fo, x ∉ F'
variable {r0 q : Addr}
theorem ZP.nil : ZP w nt E r0 ([] : List (Fm α)) r0 [] := ⟨rfl, rfl⟩
theorem ZP.bc {C : List (Fm α)} {F : List Nat} (h : ZP w nt E r0 C q F) : ∀ i ∈ F, ∃ cs, BC w i nt cs := by
  induction C generalizing q F with
  | nil => obtain ⟨rfl, rfl⟩ := h; simp
  | cons f C ih =>
    obtain ⟨b, ph, po, Fo, q', F', rfl, hb, ho, hz, hc, rfl, h1, h2, h3⟩ := h
    intro i hi
    rcases List.mem_cons.1 hi with rfl | hi
    · exact ⟨_, hb⟩
    · rcases List.mem_append.1 hi with hi | hi
      · exact ho.bc i hi
      · exact ih hz i hi
theorem ZP.at_ {C : List (Fm α)} {F : List Nat} (h : ZP w nt E r0 C q F) : q = r0 ∨ q.block ∈ F := by
  cases C with
  | nil => exact .inl h.1
  | cons f C =>
    obtain ⟨b, ph, po, Fo, q', F', rfl, hb, ho, hz, hc, rfl, h1, h2, h3⟩ := h
    exact .inr (by simp)
theorem ZP.keep {C : List (Fm α)} {F : List Nat} (hr : w'.cell? r0 = w.cell? r0) (hk : ∀ i ∈ F, w'.heap[i]? = w.heap[i]?) (h : ZP w nt E r0 C q F) : ZP w' nt E r0 C q F := by
  induction C generalizing q F with
  | nil => exact h
  | cons f C ih =>
    obtain ⟨b, ph, po, Fo, q', F', rfl, hb, ho, hz, hc, rfl, h1, h2, h3⟩ := h
    refine ⟨b, ph, po, Fo, q', F', rfl, (hk b (by simp)).trans hb, MR.keep (fun i hi => hk i (by simp [hi])) ho, ih (fun i hi => hk i (by simp [hi])) hz, ?_, rfl, h1, h2, h3⟩
    rcases hz.at_ with rfl | hq
    · exact hr.trans hc
    · exact (World.cell?_of_block (hk _ (by simp [hq]))).trans hc
theorem ZP.kf {G : Nat → Prop} {C : List (Fm α)} {F : List Nat} (h : ZP w nt E r0 C q F) (hk : Kf G w w') (hr : ¬ G r0.block) (hrl : r0.block < w.heap.size) (hn : ∀ i ∈ F, ¬ G i) : ZP w' nt E r0 C q F :=
  h.keep (World.cell?_of_block (hk.block hrl hr)) fun i hi => by
    obtain ⟨cs, hb⟩ := h.bc i hi
    exact hk.block hb.lt (hn i hi)
theorem ZP.kp {C : List (Fm α)} {F : List Nat} (h : ZP w nt E r0 C q F) (hk : Kp w w') (hrl : r0.block < w.heap.size) : ZP w' nt E r0 C q F := h.kf (Kf.of (F := fun _ => False) hk) (fun h => h) hrl fun _ _ h => h
/-- A store into the link. -/
theorem ZP.store {C : List (Fm α)} {F : List Nat} (h : ZP w nt E r0 C q F) (hr : r0.block ∉ F) (p : Option Addr) : ZP (w.setCell q (.pointer p)) nt E r0 C q F := by
  cases C with
  | nil => exact h
  | cons f C =>
    obtain ⟨b, ph, po, Fo, q', F', rfl, hb, ho, hz, hc, rfl, h1, h2, h3⟩ := h
    simp only [List.mem_cons, List.mem_append, not_or] at hr
    have hne : q' ≠ ⟨b, lk E f.left, none⟩ := by
      rintro rfl
      rcases hz.at_ with h | h
      · exact hr.1 (by rw [← h])
      · exact h2 h
    refine ⟨b, p, po, Fo, q', F', rfl, ?_, ho.set h1, hz.keep (World.cell?_setCell_other _ _ _ _ (fun e => hr.1 (by rw [← e]))) (fun i hi => Below.heap_setCell _ _ _ _ (by rintro rfl; exact h2 hi)), ?_, rfl, h1, h2, h3⟩
    · have h4 := hb.set (j := lk E f.left) (u := .pointer p)
      have hl := E.len f.a
      have e : (fmC E f ph po).set (lk E f.left) (.pointer p) = fmC E f p po := by
        unfold fmC lk nodeC
        cases f.left
        · simp only [Bool.false_eq_true, if_false]
          rw [List.set_append_right _ _ (by omega), hl]; simp
        · simp only [if_true]
          rw [List.set_append_right _ _ (by omega), hl]; simp
      rw [e] at h4
      exact h4
    · rw [World.cell?_setCell_other _ _ _ _ (fun e => hne (by rw [e]))]; exact hc
theorem fmC_link (E : Enc α) (f : Fm α) (ph po : Option Addr) : (fmC E f ph po)[lk E f.left]? = some (.pointer ph) := by
  have hl := E.len f.a
  unfold fmC lk nodeC
  cases f.left
  · simp only [Bool.false_eq_true, if_false]
    rw [List.getElem?_append_right (by omega), hl]; simp
  · simp only [if_true]
    rw [List.getElem?_append_right (by omega), hl]; simp
/-- All of it is one tree. -/
theorem ZP.close {C : List (Fm α)} {F Ft : List Nat} {t : MT α} {p : Option Addr} (h : ZP w nt E r0 C q F) (hc : w.cell? q = some (.pointer p)) (ht : MR w nt E t p Ft) (hd : ∀ x ∈ Ft, x ∉ F) :
    ∃ p0 F0, w.cell? r0 = some (.pointer p0) ∧ MR w nt E (plug C t) p0 F0 ∧ ∀ x, x ∈ F0 ↔ x ∈ Ft ∨ x ∈ F := by
  induction C generalizing q F Ft t p with
  | nil =>
    obtain ⟨rfl, rfl⟩ := h
    exact ⟨p, Ft, hc, ht, fun x => by simp⟩
  | cons f C ih =>
    obtain ⟨b, ph, po, Fo, q', F', rfl, hb, ho, hz, hc', rfl, h1, h2, h3⟩ := h
    have e := hb.cell (lk E f.left)
    rw [hc, fmC_link] at e
    injection e with e
    injection e with e
    subst e
    have hbt : b ∉ Ft := fun h => hd b h (by simp)
    have hto : ∀ x ∈ Ft, x ∉ Fo := fun x hx hx' => hd x hx (by simp [hx'])
    cases hf : f.left with
    | true =>
      have hb' : BC w b nt (nodeC E f.a p po) := by simpa [fmC, hf] using hb
      obtain ⟨p0, F0, g1, g2, g3⟩ := ih hz hc' (MR.mk hb' hbt h1 hto ht ho) (fun x hx hx' => by
        rcases List.mem_cons.1 hx with rfl | hx
        · exact h2 hx'
        · rcases List.mem_append.1 hx with hx | hx
          · exact hd x hx (by simp [hx'])
          · exact h3 x hx hx')
      exact ⟨p0, F0, g1, by simpa [plug, Fm.on, hf] using g2, fun x => by rw [g3 x]; simp only [List.mem_cons, List.mem_append, or_assoc, or_left_comm, or_comm]⟩
    | false =>
      have hb' : BC w b nt (nodeC E f.a po p) := by simpa [fmC, hf] using hb
      obtain ⟨p0, F0, g1, g2, g3⟩ := ih hz hc' (MR.mk hb' h1 hbt (fun x hx hx' => hto x hx' hx) ho ht) (fun x hx hx' => by
        rcases List.mem_cons.1 hx with rfl | hx
        · exact h2 hx'
        · rcases List.mem_append.1 hx with hx | hx
          · exact h3 x hx hx'
          · exact hd x hx (by simp [hx']))
      exact ⟨p0, F0, g1, by simpa [plug, Fm.on, hf] using g2, fun x => by rw [g3 x]; simp only [List.mem_cons, List.mem_append, or_assoc, or_left_comm, or_comm]⟩
/-- One step down. -/
theorem ZP.push {C : List (Fm α)} {F Fl Fr : List Nat} {a : α} {l r : MT α} {b : Nat} {pl pr : Option Addr} (h : ZP w nt E r0 C q F) (hc : w.cell? q = some (.pointer (some ⟨b, 0, none⟩))) (hb : BC w b nt (nodeC E a pl pr)) (hl : MR w nt E l pl Fl) (hr : MR w nt E r pr Fr)
    (h1 : b ∉ Fl) (h2 : b ∉ Fr) (h3 : b ∉ F) (h4 : ∀ x ∈ Fl, x ∉ F) (h5 : ∀ x ∈ Fr, x ∉ F) (left : Bool) :
    ZP w nt E r0 (⟨a, left, if left then r else l⟩ :: C) ⟨b, lk E left, none⟩ (b :: ((if left then Fr else Fl) ++ F)) := by
  cases left with
  | true => exact ⟨b, pl, pr, Fr, q, F, rfl, by simpa [fmC] using hb, hr, h, hc, rfl, h2, h3, h5⟩
  | false => exact ⟨b, pr, pl, Fl, q, F, rfl, by simpa [fmC] using hb, hl, h, hc, rfl, h1, h3, h4⟩
theorem BC.link {b : Nat} {a : α} {pl pr : Option Addr} (hb : BC w b nt (nodeC E a pl pr)) (left : Bool) : w.cell? ⟨b, lk E left, none⟩ = some (.pointer (if left then pl else pr)) := by
  rw [hb.cell]
  have hl := E.len a
  unfold lk nodeC
  cases left
  · simp only [Bool.false_eq_true, if_false]
    rw [List.getElem?_append_right (by omega), hl]; simp
  · simp only [if_true]
    rw [List.getElem?_append_right (by omega), hl]; simp
end

/-! A variable that holds a slice that the call owns. -/
def OB {α : Type} (w : World) (B : Nat) (g : Nat) (st e : TypeId) (E : Enc α) (l : List α) : Prop := ∃ v, BC w g st [v] ∧ OW w B e E v l ∧ v.ownBlock ≠ some g
/-- What a call leaves that appends to the variable g. -/
def KO (g B : Nat) (w w' : World) : Prop := ∃ v v', w.cell? ⟨g, 0, none⟩ = some v ∧ w'.cell? ⟨g, 0, none⟩ = some v' ∧ Kf (fun i => i = g ∨ v.ownBlock = some i) w w' ∧ (v'.ownBlock = v.ownBlock ∨ Hi w.heap.size v')
theorem KO.trans {g B : Nat} {a b c : World} (h : KO g B a b) (k : KO g B b c) : KO g B a c := by
  obtain ⟨v, v', h1, h2, h3, h4⟩ := h
  obtain ⟨u, u', k1, k2, k3, k4⟩ := k
  rw [h2] at k1
  injection k1 with k1
  subst k1
  have hz := h3.size
  refine ⟨v, u', h1, k2, h3.trans k3 (fun i hi hg => ?_), ?_⟩
  · rcases hg with hg | hg
    · exact .inl hg
    · rcases h4 with h4 | h4
      · exact .inr (by rw [← h4]; exact hg)
      · have := h4 i hg; omega
  · rcases k4 with k4 | k4
    · rcases h4 with h4 | h4
      · exact .inl (k4.trans h4)
      · exact .inr (fun i hi => h4 i (by rw [← k4]; exact hi))
    · exact .inr (k4.mono hz)
theorem KO.refl {g B : Nat} {w : World} {v : Value} (h : w.cell? ⟨g, 0, none⟩ = some v) : KO g B w w := ⟨v, v, h, h, Kf.refl _ _, .inl rfl⟩
theorem OB.lt {α : Type} {w : World} {B g : Nat} {st e : TypeId} {E : Enc α} {l : List α} (h : OB w B g st e E l) : g < w.heap.size := by
  obtain ⟨v, h, _⟩ := h
  exact h.lt
theorem MR.ko {α β : Type} {w w' : World} {B g : Nat} {nt st e : TypeId} {E : Enc α} {E' : Enc β} {l : List β} {t : MT α} {p : Option Addr} {F : List Nat} (h : MR w nt E t p F) (ho : OB w B g st e E' l) (hk : KO g B w w') (h1 : st ≠ nt) (h2 : e ≠ nt) : MR w' nt E t p F := by
  obtain ⟨v, hb, hv, hn⟩ := ho
  obtain ⟨v1, v2, k1, k2, k3, k4⟩ := hk
  have e1 : some v1 = some v := k1.symm.trans (hb.cell 0)
  injection e1 with e1
  subst e1
  refine h.kf k3 fun i hi hg => ?_
  obtain ⟨cs, hc⟩ := h.bc i hi
  rcases hg with rfl | hg
  · exact hb.ne hc h1 rfl
  · exact hv.bc_ne hc h2 hg
theorem KO.kp {g B : Nat} {a w w' : World} (h : KO g B w w') (k : Kp a w) (hg : a.heap.size ≤ g) (hv : ∀ v, w.cell? ⟨g, 0, none⟩ = some v → Hi a.heap.size v) : Kp a w' := by
  obtain ⟨v, v', h1, h2, h3, h4⟩ := h
  exact h3.kp k fun i hi => by
    rcases hi with rfl | hi
    · exact hg
    · exact hv v h1 i hi
end Go.Proofs.Ytmhabjjabdambaa
namespace Go.Proofs.Ytmhabjjabdambaa
open Go.ChangeShapes Go.WideShapes Go.ChangeAt Go.RowKit
set_option linter.unusedVariables false
set_option linter.unusedSimpArgs false

/-- How many numbers a set of level n is of: 2, 4, 16, 256, 65536. -/
def UU : Nat → Int
  | 0 => 2
  | n + 1 => UU n * UU n
theorem UU_pos : ∀ n, 2 ≤ UU n
  | 0 => by decide
  | n + 1 => by
    have := UU_pos n
    have h : UU n * 2 ≤ UU n * UU n := Int.mul_le_mul_of_nonneg_left this (by omega)
    rw [UU]; omega
def UpL (l : List Int) : Prop := l.Pairwise (· < ·)
def insU (S : List Int) (x : Int) : List Int := S.filter (fun y => decide (y < x)) ++ [x] ++ S.filter (fun y => decide (x < y))
def delU (S : List Int) (x : Int) : List Int := S.filter (fun y => !(y == x))
def nxU (S : List Int) (x : Int) : Option Int := (S.filter fun y => decide (x < y)).head?
def pvU (S : List Int) (x : Int) : Option Int := (S.filter fun y => decide (y < x)).getLast?
theorem insU_mem {S : List Int} {x y : Int} : y ∈ insU S x ↔ y = x ∨ y ∈ S := by
  simp only [insU, List.mem_append, List.mem_filter, List.mem_singleton, decide_eq_true_eq]
  constructor
  · rintro ((h | h) | h)
    · exact .inr h.1
    · exact .inl h
    · exact .inr h.1
  · rintro (h | h)
    · exact .inl (.inr h)
    · rcases Int.lt_trichotomy y x with h1 | h1 | h1
      · exact .inl (.inl ⟨h, h1⟩)
      · exact .inl (.inr h1)
      · exact .inr ⟨h, h1⟩
theorem delU_mem {S : List Int} {x y : Int} : y ∈ delU S x ↔ y ∈ S ∧ y ≠ x := by simp [delU]
theorem insU_up {S : List Int} (h : UpL S) (x : Int) : UpL (insU S x) := by
  unfold insU UpL
  rw [List.pairwise_append, List.pairwise_append]
  refine ⟨⟨h.filter _, by simp, fun a ha b hb => ?_⟩, h.filter _, fun a ha b hb => ?_⟩
  · simp at ha hb; omega
  · simp at ha hb; omega
theorem delU_up {S : List Int} (h : UpL S) (x : Int) : UpL (delU S x) := h.filter _
theorem up_ext : ∀ {a b : List Int}, UpL a → UpL b → (∀ x, x ∈ a ↔ x ∈ b) → a = b
  | [], [], _, _, _ => rfl
  | [], y :: b, _, _, h => by have := (h y).2 (by simp); simp at this
  | x :: a, [], _, _, h => by have := (h x).1 (by simp); simp at this
  | x :: a, y :: b, ha, hb, h => by
    rw [UpL, List.pairwise_cons] at ha hb
    have e : x = y := by
      have h1 := (h x).1 (by simp)
      have h2 := (h y).2 (by simp)
      rw [List.mem_cons] at h1 h2
      rcases h1 with h1 | h1
      · exact h1
      · rcases h2 with h2 | h2
        · exact h2.symm
        · have := ha.1 y h2; have := hb.1 x h1; omega
    subst e
    rw [up_ext ha.2 hb.2 fun z => ?_]
    have hz := h z
    rw [List.mem_cons, List.mem_cons] at hz
    constructor
    · intro hm
      rcases hz.1 (.inr hm) with e | e
      · subst e; have := ha.1 z hm; omega
      · exact e
    · intro hm
      rcases hz.2 (.inr hm) with e | e
      · subst e; have := hb.1 z hm; omega
      · exact e
theorem nxU_iff {S : List Int} (h : UpL S) {x k : Int} : nxU S x = some k ↔ k ∈ S ∧ x < k ∧ ∀ y ∈ S, x < y → k ≤ y := by
  unfold nxU
  have hf : UpL (S.filter fun y => decide (x < y)) := h.filter _
  constructor
  · intro e
    cases hq : S.filter (fun y => decide (x < y)) with
    | nil => rw [hq] at e; simp at e
    | cons a l =>
      rw [hq] at e hf
      simp at e
      subst e
      have ha : a ∈ S.filter (fun y => decide (x < y)) := by rw [hq]; simp
      rw [List.mem_filter] at ha
      refine ⟨ha.1, by simpa using ha.2, fun y hy hxy => ?_⟩
      have : y ∈ a :: l := by rw [← hq, List.mem_filter]; exact ⟨hy, by simpa using hxy⟩
      rw [UpL, List.pairwise_cons] at hf
      rcases List.mem_cons.1 this with e | e
      · omega
      · have := hf.1 y e; omega
  · rintro ⟨h1, h2, h3⟩
    cases hq : S.filter (fun y => decide (x < y)) with
    | nil =>
      have : k ∈ S.filter (fun y => decide (x < y)) := by rw [List.mem_filter]; exact ⟨h1, by simpa using h2⟩
      rw [hq] at this; simp at this
    | cons a l =>
      rw [hq] at hf
      have ha : a ∈ S.filter (fun y => decide (x < y)) := by rw [hq]; simp
      rw [List.mem_filter] at ha
      have h4 := h3 a ha.1 (by simpa using ha.2)
      have : k ∈ a :: l := by rw [← hq, List.mem_filter]; exact ⟨h1, by simpa using h2⟩
      rw [UpL, List.pairwise_cons] at hf
      rcases List.mem_cons.1 this with e | e
      · simp [e]
      · have := hf.1 k e; omega
theorem nxU_none {S : List Int} {x : Int} : nxU S x = none ↔ ∀ y ∈ S, ¬ x < y := by
  unfold nxU
  rw [List.head?_eq_none_iff, List.filter_eq_nil_iff]
  simp
theorem pvU_iff {S : List Int} (h : UpL S) {x k : Int} : pvU S x = some k ↔ k ∈ S ∧ k < x ∧ ∀ y ∈ S, y < x → y ≤ k := by
  unfold pvU
  have hf : UpL (S.filter fun y => decide (y < x)) := h.filter _
  have key : ∀ l : List Int, UpL l → ∀ k, l.getLast? = some k ↔ k ∈ l ∧ ∀ y ∈ l, y ≤ k := by
    intro l hl k
    rw [UpL, List.pairwise_iff_getElem] at hl
    constructor
    · intro e
      refine ⟨List.mem_of_getLast? e, fun y hy => ?_⟩
      rw [List.getLast?_eq_getElem?] at e
      obtain ⟨i, hi, rfl⟩ := List.mem_iff_getElem.1 hy
      obtain ⟨hk, rfl⟩ := List.getElem?_eq_some_iff.1 e
      by_cases e2 : i = l.length - 1
      · subst e2; exact Int.le_refl _
      · exact Int.le_of_lt (hl i (l.length - 1) hi hk (by omega))
    · rintro ⟨h1, h2⟩
      obtain ⟨i, hi, rfl⟩ := List.mem_iff_getElem.1 h1
      rw [List.getLast?_eq_getElem?]
      have h3 := h2 _ (List.getElem_mem (show l.length - 1 < l.length by omega))
      by_cases e2 : i = l.length - 1
      · subst e2; exact List.getElem?_eq_getElem _
      · have := hl i (l.length - 1) hi (by omega) (by omega); omega
  rw [key _ hf]
  constructor
  · rintro ⟨h1, h2⟩
    rw [List.mem_filter] at h1
    exact ⟨h1.1, by simpa using h1.2, fun y hy hyx => h2 y (by rw [List.mem_filter]; exact ⟨hy, by simpa using hyx⟩)⟩
  · rintro ⟨h1, h2, h3⟩
    refine ⟨by rw [List.mem_filter]; exact ⟨h1, by simpa using h2⟩, fun y hy => ?_⟩
    rw [List.mem_filter] at hy
    exact h3 y hy.1 (by simpa using hy.2)
theorem pvU_none {S : List Int} {x : Int} : pvU S x = none ↔ ∀ y ∈ S, ¬ y < x := by
  unfold pvU
  rw [List.getLast?_eq_none_iff, List.filter_eq_nil_iff]
  simp
/-- Halves of a number. -/
theorem half_of {M h y : Int} (hM : 0 < M) (h0 : 0 ≤ y) (h1 : y < M) : (h * M + y) / M = h ∧ (h * M + y) % M = y := by
  constructor
  · rw [Int.add_comm, Int.add_mul_ediv_right _ _ (by omega), Int.ediv_eq_zero_of_lt h0 h1]; omega
  · rw [Int.add_comm, Int.add_mul_emod_self_right, Int.emod_eq_of_lt h0 h1]
theorem half_in {M x : Int} (hM : 0 < M) (h0 : 0 ≤ x) (h1 : x < M * M) : 0 ≤ x / M ∧ x / M < M ∧ 0 ≤ x % M ∧ x % M < M ∧ x / M * M + x % M = x := by
  have a1 := Int.emod_nonneg x (show M ≠ 0 by omega)
  have a2 := Int.emod_lt_of_pos x hM
  have a3 := Int.mul_ediv_add_emod x M
  refine ⟨Int.ediv_nonneg h0 (by omega), Int.ediv_lt_of_lt_mul hM h1, a1, a2, ?_⟩
  rw [Int.mul_comm]; exact a3
theorem half_lt {M h y h' y' : Int} (hM : 0 < M) (hy : 0 ≤ y) (hy1 : y < M) (hy' : 0 ≤ y') (hy1' : y' < M) : h * M + y < h' * M + y' ↔ h < h' ∨ (h = h' ∧ y < y') := by
  constructor
  · intro e
    rcases Int.lt_trichotomy h h' with h1 | h1 | h1
    · exact .inl h1
    · subst h1; exact .inr ⟨rfl, by omega⟩
    · have : (h' + 1) * M ≤ h * M := Int.mul_le_mul_of_nonneg_right (by omega) (by omega)
      rw [Int.add_mul] at this
      omega
  · rintro (h1 | ⟨rfl, h1⟩)
    · have : (h + 1) * M ≤ h' * M := Int.mul_le_mul_of_nonneg_right (by omega) (by omega)
      rw [Int.add_mul] at this
      omega
    · omega
end Go.Proofs.Ytmhabjjabdambaa
namespace Go.Proofs.Ytmhabjjabdambaa
open Go.ChangeShapes Go.WideShapes Go.ChangeAt Go.RowKit Go.ChangeMaps
set_option linter.unusedVariables false
set_option linter.unusedSimpArgs false

/-- A map of pointers by numbers. -/
def PM (w : World) (m : Nat) (E : List (Int × Nat)) : Prop := ∃ (es : Array MapEntry) (clock : Nat), w.heap[m]? = some (.map es clock) ∧ es.toList.map (fun e => (e.key, e.val)) = E.map fun p => (Value.int .i64 p.1, Value.pointer (some ⟨p.2, 0, none⟩))
def lkP (E : List (Int × Nat)) (x : Int) : Option Nat := (E.find? fun p => p.1 == x).map Prod.snd
theorem findNow_pm (x : Int) : ∀ (es : List MapEntry) (E : List (Int × Nat)) (i : Nat), es.map (fun e => (e.key, e.val)) = E.map (fun p => (Value.int .i64 p.1, Value.pointer (some ⟨p.2, 0, none⟩))) →
    ∃ r, Instr.findNow (.int .i64) (.int .i64 x) es i = some r ∧ r.map Prod.snd = (lkP E x).map fun b => Value.pointer (some ⟨b, 0, none⟩)
  | [], [], i, _ => ⟨none, rfl, rfl⟩
  | [], p :: E, i, h => by simp at h
  | e :: es, [], i, h => by simp at h
  | e :: es, p :: E, i, h => by
    simp only [List.map_cons, List.cons.injEq, Prod.mk.injEq] at h
    obtain ⟨⟨h1, h2⟩, h3⟩ := h
    by_cases hx : p.1 = x
    · refine ⟨some (i, e.val), ?_, ?_⟩
      · simp [Instr.findNow, Instr.sameNow, h1, hx]
      · simp [lkP, hx, h2]
    · obtain ⟨r, hr1, hr2⟩ := findNow_pm x es E (i + 1) h3
      refine ⟨r, ?_, ?_⟩
      · have : (x == p.1) = false := by simp; exact fun e => hx e.symm
        simp [Instr.findNow, Instr.sameNow, h1, this, hr1]
      · have : (p.1 == x) = false := by simp [hx]
        rw [hr2]
        simp [lkP, this]
section
variable {P : Program} {w w' : World} {m : Nat} {E : List (Int × Nat)} {T K V : TypeId}
theorem checkKey_intS (hK : P.underlying K = some (.int .i64)) (e : Bool) (x : Int) (n : Nat) : (Instr.checkKey e (n + 1) K (.int .i64 x)).run P w = .ok () w := by
  simp [Instr.checkKey, run_underlying hK]
theorem checkKey_int (hK : P.underlying K = some (.int .i64)) (e : Bool) (x : Int) : (Instr.checkKey e 10000 K (.int .i64 x)).run P w = .ok () w := checkKey_intS hK e x 9999
theorem PM.lookup (h : PM w m E) (hT : P.underlying T = some (.map K V)) (hK : P.underlying K = some (.int .i64)) (hz : (zeroValue V).run P w = .ok (.pointer none) w) (x : Int) :
    (Instr.lookup T (.map (some m)) (.int .i64 x) false).run P w = .ok (.pointer ((lkP E x).map fun b => ⟨b, 0, none⟩)) w := by
  obtain ⟨es, clock, hb, he⟩ := h
  obtain ⟨r, hr, hr2⟩ := findNow_pm x es.toList E 0 he
  have hf : (Instr.findKey K (.int .i64 x) es.toList).run P w = .ok r w := by
    simp [Instr.findKey, run_underlying hK, hr]
  cases r with
  | none =>
    cases hl : lkP E x with
    | none => simp [Instr.lookup, run_underlying hT, MapKept.run_getObj_map hb, checkKey_int hK, hf, hz, Result.andThen]
    | some b => rw [hl] at hr2; simp at hr2
  | some q =>
    cases hl : lkP E x with
    | none => rw [hl] at hr2; simp at hr2
    | some b =>
      rw [hl] at hr2
      simp at hr2
      simp [Instr.lookup, run_underlying hT, MapKept.run_getObj_map hb, checkKey_int hK, hf, hr2, Result.andThen]
theorem lookup_none (hT : P.underlying T = some (.map K V)) (hK : P.underlying K = some (.int .i64)) (hz : (zeroValue V).run P w = .ok (.pointer none) w) (x : Int) :
    (Instr.lookup T (.map none) (.int .i64 x) false).run P w = .ok (.pointer none) w := by
  simp [Instr.lookup, run_underlying hT, checkKey_int hK, Instr.findKey, run_underlying hK, Instr.findNow, hz, Result.andThen]
theorem PM.new : PM (w.alloc (.map #[] 0)) w.heap.size [] := ⟨#[], 0, heap_alloc_new w _, rfl⟩
theorem PM.lt (h : PM w m E) : m < w.heap.size := by
  obtain ⟨es, clock, hb, he⟩ := h
  exact (Array.getElem?_eq_some_iff.1 hb).1
theorem PM.kf {F : Nat → Prop} (h : PM w m E) (hk : Kf F w w') (hn : ¬ F m) : PM w' m E := by
  have hl := h.lt
  obtain ⟨es, clock, hb, he⟩ := h
  exact ⟨es, clock, (hk.block hl hn).trans hb, he⟩
/-- A new key. -/
theorem PM.put (h : PM w m E) (hT : P.underlying T = some (.map K V)) (hK : P.underlying K = some (.int .i64)) {x : Int} (hx : lkP E x = none) (b : Nat) :
    ∃ w', (Instr.mapUpdate T (.map (some m)) (.int .i64 x) (.pointer (some ⟨b, 0, none⟩))).run P w = .ok () w' ∧ PM w' m (E ++ [(x, b)]) ∧ Kf (fun i => i = m) w w' := by
  have hl := h.lt
  obtain ⟨es, clock, hb, he⟩ := h
  obtain ⟨r, hr, hr2⟩ := findNow_pm x es.toList E 0 he
  rw [hx] at hr2
  have hr0 : r = none := by
    cases r with
    | none => rfl
    | some q => simp at hr2
  subst hr0
  have hf : (Instr.findKey K (.int .i64 x) es.toList).run P w = .ok none w := by
    simp [Instr.findKey, run_underlying hK, hr]
  refine ⟨setBlock w m (.map (es.push { key := .int .i64 x, val := .pointer (some ⟨b, 0, none⟩), born := clock }) (clock + 1)), ?_, ?_, ?_⟩
  · simp [Instr.mapUpdate, run_underlying hT, MapKept.run_getObj_map hb, checkKey_int hK, hf, MapKept.run_setObj_map _ hb, Result.andThen, setBlock]
  · exact ⟨es.push { key := .int .i64 x, val := .pointer (some ⟨b, 0, none⟩), born := clock }, clock + 1, by simp [setBlock, Array.getElem?_setIfInBounds_self_of_lt hl], by simp [he]⟩
  · refine ⟨rfl, rfl, rfl, by simp [setBlock], fun i hi hn => ?_⟩
    simp [setBlock, Array.getElem?_setIfInBounds_ne (Ne.symm hn)]
end
/-- 'm[k] = v' at the operation, by its run equation. -/
theorem wpList_mapUpdate_run {P : Program} {w : World} (w' : World) {ops : Array Oper} {rest : List Oper} {o : Oper} {a : Act} {Q : Exit → Act → World → Prop} (hg : o.guard = none) (m x v : Operand) (t : TypeId) (hop : o.op = Op.mapUpdate t m x v) (mv xv vv : Value)
    (hm : a.eval m = mv) (hx : a.eval x = xv) (hv : a.eval v = vv) (hrun : (Instr.mapUpdate t mv xv vv).run P w = .ok () w') (hK : wpList P ops Q rest (a.put o.dst undef) w') : wpList P ops Q (o :: rest) a w := by
  refine wpList_plain hg fun K' hK' => ?_
  unfold Oper.wp
  simp [execOp, hop, hm, hx, hv, hrun, Result.andThen]
  exact hK' _ _ hK
end Go.Proofs.Ytmhabjjabdambaa
