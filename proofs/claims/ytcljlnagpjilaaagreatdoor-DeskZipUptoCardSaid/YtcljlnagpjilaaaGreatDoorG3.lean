/-
  What a call leaves that writes one block of its caller's own (Kg)
  Trees that are written (MT): nodes in blocks of their own, with a list of these blocks; a 
  A variable that holds a slice which grows (OB): read, appended to
-/
import Derived.Test.YtcljlnagpjilaaaGreatDoorG1

set_option linter.unusedVariables false
set_option linter.unusedSimpArgs false
set_option maxRecDepth 100000
set_option maxHeartbeats 8000000
namespace Go.Proofs.YtcljlnagpjilaaaGreatDoor
open Go.ChangeShapes Go.WideShapes Go.ChangeAt Go.RowKit
def Kg (g : Nat) (w w' : World) : Prop := w.grownBy w' (some g)
theorem Kg.refl (g : Nat) (w : World) : Kg g w w := ⟨rfl, rfl, rfl, Nat.le_refl _, fun _ _ _ => rfl⟩
theorem Kg.size {g : Nat} {w w' : World} (h : Kg g w w') : w.heap.size <= w'.heap.size := World.grownBy.size h
theorem Kg.trans {g : Nat} {a b c : World} (h : Kg g a b) (k : Kg g b c) : Kg g a c := by
 obtain ⟨h1, h2, h3, h4, h5⟩ := h
 obtain ⟨k1, k2, k3, k4, k5⟩ := k
 exact ⟨k1.trans h1, k2.trans h2, k3.trans h3, Nat.le_trans h4 k4, fun i hi hn => (k5 i (Nat.lt_of_lt_of_le hi h4) hn).trans (h5 i hi hn)⟩
theorem Kg.of {g : Nat} {w w' : World} (h : Kp w w') : Kg g w w' := by
 obtain ⟨h1, h2, h3, h4, h5⟩ := h
 exact ⟨h1, h2, h3, h4, fun i hi _ => h5 i hi⟩
theorem Kg.set1 {g k : Nat} {w : World} {x : Value} : Kg g w (w.setCell ⟨g, k, none⟩ x) :=
 ⟨rfl, rfl, rfl, by simp [World.setCell], fun i hi hn => Below.heap_setCell _ _ _ _ (by rintro rfl; exact hn rfl)⟩
theorem Kg.set {g k : Nat} {w w' : World} {x : Value} (h : Kg g w w') : Kg g w (w'.setCell ⟨g, k, none⟩ x) := h.trans Kg.set1
theorem Kg.kp {g : Nat} {w0 w w' : World} (h : Kg g w w') (h0 : Kp w0 w) (hg : w0.heap.size <= g) : Kp w0 w' := Below.grown h0 h h0.size (fun k hk => by injection hk with hk; omega)
theorem Kg.block {g : Nat} {w w' : World} (h : Kg g w w') {i : Nat} (hi : i < w.heap.size) (hn : i ≠ g) : w'.heap[i]? = w.heap[i]? := World.grownBy.block h i hi (fun e => hn (by injection e))
theorem RD.kg {α : Type} {g : Nat} {w w' : World} {E : Enc α} {v : Value} {l : List α} (h : RD w E v l) (hv : 0 < l.length -> v.ownBlock ≠ some g) (hk : Kg g w w') : RD w' E v l := by
 obtain ⟨A, c, rfl, h1, h2, hn, h3⟩ := h
 refine ⟨A, c, rfl, h1, h2, hn, fun h0 => ?_⟩
 obtain ⟨b, o, rfl, hb, hc⟩ := h3 h0
 refine ⟨b, o, rfl, Nat.lt_of_lt_of_le hb hk.size, fun k hk' j hj => ?_⟩
 rw [<- hc k hk' j hj]
 have hbg : b ≠ g := fun e => hv h0 (by rw [e]; rfl)
 have := hk.block hb hbg
 exact World.cell?_of_block this
def Kf (F : Nat -> Prop) (w w' : World) : Prop := w'.os = w.os /\ w'.tape = w.tape /\ w'.output = w.output /\ w.heap.size <= w'.heap.size /\ ∀ i, i < w.heap.size -> ¬ F i -> w'.heap[i]? = w.heap[i]?
section
variable {F G : Nat -> Prop} {a b c w w' : World}
theorem Kf.refl (F : Nat -> Prop) (w : World) : Kf F w w := ⟨rfl, rfl, rfl, Nat.le_refl _, fun _ _ _ => rfl⟩
theorem Kf.size (h : Kf F w w') : w.heap.size <= w'.heap.size := h.2.2.2.1
theorem Kf.block (h : Kf F w w') {i : Nat} (hi : i < w.heap.size) (hn : ¬ F i) : w'.heap[i]? = w.heap[i]? := h.2.2.2.2 i hi hn
theorem Kf.mono (h : Kf F w w') (hF : ∀ i, i < w.heap.size -> F i -> G i) : Kf G w w' := ⟨h.1, h.2.1, h.2.2.1, h.2.2.2.1, fun i hi hn => h.block hi fun hf => hn (hF i hi hf)⟩
theorem Kf.trans (h : Kf F a b) (k : Kf G b c) (hG : ∀ i, i < a.heap.size -> G i -> F i) : Kf F a c :=
 ⟨k.1.trans h.1, k.2.1.trans h.2.1, k.2.2.1.trans h.2.2.1, Nat.le_trans h.size k.size, fun i hi hn => (k.block (Nat.lt_of_lt_of_le hi h.size) fun hg => hn (hG i hi hg)).trans (h.block hi hn)⟩
theorem Kf.of (h : Kp w w') : Kf F w w' := by
 obtain ⟨h1, h2, h3, h4, h5⟩ := h
 exact ⟨h1, h2, h3, h4, fun i hi _ => h5 i hi⟩
theorem Kf.on (h : Kf F a b) (k : Kp b c) : Kf F a c := h.trans (Kf.of (F := fun _ => False) k) (fun _ _ h => h.elim)
theorem Kf.kp (h : Kf F w w') (k : Kp a w) (hF : ∀ i, F i -> a.heap.size <= i) : Kp a w' := by
 obtain ⟨h1, h2, h3, h4, h5⟩ := h
 have hz := k.size
 exact Below.trans (b := w) k ⟨h1, h2, h3, h4, fun i hi => h5 i (by omega) (fun hf => by have := hF i hf; omega)⟩
theorem Kf.set {p : Addr} {u : Value} (h : Kf F a b) (hp : F p.block ∨ a.heap.size <= p.block) : Kf F a (b.setCell p u) :=
 ⟨h.1, h.2.1, h.2.2.1, Nat.le_trans h.size (by simp [World.setCell]), fun i hi hn => (Below.heap_setCell _ _ _ _ (by rintro rfl; rcases hp with hp | hp; exact hn hp; omega)).trans (h.block hi hn)⟩
theorem Kf.app {v : Value} (h : Kf F a b) (hg : b.grownBy c v.ownBlock) (hv : ∀ k, v.ownBlock = some k -> F k ∨ a.heap.size <= k) : Kf F a c := by
 obtain ⟨h1, h2, h3, h4, h5⟩ := hg
 refine ⟨h1.trans h.1, h2.trans h.2.1, h3.trans h.2.2.1, Nat.le_trans h.size h4, fun i hi hn => (h5 i (Nat.lt_of_lt_of_le hi h.size) fun e => ?_).trans (h.block hi hn)⟩
 rcases hv i e.symm with h | h
 ·exact hn h
 ·omega
theorem Kf.cell (h : Kf F w w') {p : Addr} (hn : ¬ F p.block) {u : Value} (hc : w.cell? p = some u) : w'.cell? p = some u :=
 (World.cell?_of_block (h.block (World.block_lt_of_cell? _ _ hc) hn)).trans hc
theorem Kf.frozen (h : Kf F w w') {p : Addr} (hp : p.block < w.heap.size) (hn : ¬ F p.block) : w'.frozen? p = w.frozen? p := World.frozen?_of_block (h.block hp hn)
theorem RD.kf {α : Type} {E : Enc α} {v : Value} {l : List α} (h : RD w E v l) (hk : Kf F w w') (hv : 0 < l.length -> ∀ k, v.ownBlock = some k -> ¬ F k) : RD w' E v l := by
 obtain ⟨A, c, rfl, h1, h2, hn, h3⟩ := h
 refine ⟨A, c, rfl, h1, h2, hn, fun h0 => ?_⟩
 obtain ⟨b, o, rfl, hb, hc⟩ := h3 h0
 refine ⟨b, o, rfl, Nat.lt_of_lt_of_le hb hk.size, fun k hk' j hj => ?_⟩
 rw [<- hc k hk' j hj]
 exact World.cell?_of_block (hk.block hb (hv h0 b rfl))
theorem OW.kf {α : Type} {B : Nat} {e : TypeId} {E : Enc α} {v : Value} {l : List α} (h : OW w B e E v l) (hk : Kf F w w') (hv : ∀ k, v.ownBlock = some k -> ¬ F k) : OW w' B e E v l := by
 obtain ⟨h1, h2⟩ := h
 refine ⟨h1, ?_⟩
 rcases h2 with h2 | ⟨g, cap, cur, rfl, hg, hh, r⟩
 ·exact .inl h2
 ·refine .inr ⟨g, cap, cur, rfl, hg, ?_, r⟩
  rw [hk.block (Array.getElem?_eq_some_iff.1 hh).1 (hv g rfl)]
  exact hh
def BC (w : World) (b : Nat) (t : TypeId) (cs : List Value) : Prop := w.heap[b]? = some (.cells cs.toArray t (0, 0))
theorem BC.lt {i : Nat} {t : TypeId} {cs : List Value} (h : BC w i t cs) : i < w.heap.size := (Array.getElem?_eq_some_iff.1 h).1
theorem BC.kf {i : Nat} {t : TypeId} {cs : List Value} (h : BC w i t cs) (hk : Kf F w w') (hn : ¬ F i) : BC w' i t cs := (hk.block h.lt hn).trans h
theorem BC.kp {i : Nat} {t : TypeId} {cs : List Value} (h : BC w i t cs) (hk : Kp w w') : BC w' i t cs := (hk.bel.block i h.lt).trans h
theorem BC.new (w : World) (t : TypeId) (cs : List Value) : BC (w.alloc (.cells cs.toArray t)) w.heap.size t cs := heap_alloc_new w _
theorem BC.cell {i : Nat} {t : TypeId} {cs : List Value} (h : BC w i t cs) (j : Nat) : w.cell? ⟨i, j, none⟩ = cs[j]? := by
 rw [cell_of_row w i j _ t (0, 0) h]; simp
theorem BC.frozen {i : Nat} {t : TypeId} {cs : List Value} (h : BC w i t cs) (j : Nat) : w.frozen? ⟨i, j, none⟩ = false := by
 unfold BC at h
 simp [World.frozen?, h]
theorem BC.ne {i j : Nat} {t u : TypeId} {cs ds : List Value} (h : BC w i t cs) (h' : BC w j u ds) (hn : t ≠ u) : i ≠ j := by
 rintro rfl
 unfold BC at h h'
 rw [h] at h'
 injection h' with h'
 injection h' with _ e
 exact hn e
theorem BC.set {i j : Nat} {t : TypeId} {cs : List Value} {u : Value} (h : BC w i t cs) : BC (w.setCell ⟨i, j, none⟩ u) i t (cs.set j u) := by
 unfold BC at h ⊢
 simp [World.setCell, Array.getElem?_modify, h]
theorem BC.far {i : Nat} {t : TypeId} {cs : List Value} {p : Addr} {u : Value} (h : BC w i t cs) (hp : i ≠ p.block) : BC (w.setCell p u) i t cs := (Below.heap_setCell w p u i hp).trans h
theorem OW.bc_ne {α : Type} {B i : Nat} {e t : TypeId} {E : Enc α} {v : Value} {l : List α} {cs : List Value} (h : OW w B e E v l) (h' : BC w i t cs) (hn : e ≠ t) : v.ownBlock ≠ some i := by
 rcases h.2 with ⟨rfl, _⟩ | ⟨g, cap, cur, rfl, hg, hh, r⟩
 ·simp [Value.ownBlock]
 ·intro e1
  injection e1 with e1
  subst e1
  unfold BC at h'
  rw [hh] at h'
  injection h' with h'
  injection h' with _ e
  exact hn e
end
inductive MT (α : Type) where
 | nil
 | node (a : α) (l r : MT α)
def MT.size {α : Type} : MT α -> Nat
 | .nil => 0
 | .node _ l r => l.size + 1 + r.size
def nodeC {α : Type} (E : Enc α) (a : α) (pl pr : Option Addr) : List Value := E.cells a ++ [.pointer pl, .pointer pr]
section
variable {α : Type} {E : Enc α} {nt : TypeId} {w w' : World}
def MR (w : World) (nt : TypeId) (E : Enc α) : MT α -> Option Addr -> List Nat -> Prop
 | .nil, p, F => p = none /\ F = []
 | .node a l r, p, F => ∃ b pl pr Fl Fr, p = some ⟨b, 0, none⟩ /\ F = b :: (Fl ++ Fr) /\ BC w b nt (nodeC E a pl pr) /\ b ∉ Fl /\ b ∉ Fr /\ (∀ x ∈ Fl, x ∉ Fr) /\ MR w nt E l pl Fl /\ MR w nt E r pr Fr
theorem MR.keep {F : List Nat} (hk : ∀ i ∈ F, w'.heap[i]? = w.heap[i]?) : ∀ {t : MT α} {p : Option Addr}, MR w nt E t p F -> MR w' nt E t p F := by
 intro t
 induction t generalizing F with
 | nil => intro p h; exact h
 | node a l r ihl ihr =>
  rintro p ⟨b, pl, pr, Fl, Fr, rfl, rfl, hb, h1, h2, h3, hl, hr⟩
  exact ⟨b, pl, pr, Fl, Fr, rfl, rfl, (hk b (by simp)).trans hb, h1, h2, h3, ihl (fun i hi => hk i (by simp [hi])) hl, ihr (fun i hi => hk i (by simp [hi])) hr⟩
theorem MR.bc {t : MT α} {p : Option Addr} {F : List Nat} (h : MR w nt E t p F) : ∀ i ∈ F, ∃ cs, BC w i nt cs := by
 induction t generalizing F p with
 | nil => obtain ⟨rfl, rfl⟩ := h; simp
 | node a l r ihl ihr =>
  obtain ⟨b, pl, pr, Fl, Fr, rfl, rfl, hb, h1, h2, h3, hl, hr⟩ := h
  intro i hi
  rcases List.mem_cons.1 hi with rfl | hi
  ·exact ⟨_, hb⟩
  ·rcases List.mem_append.1 hi with hi | hi
   ·exact ihl hl i hi
   ·exact ihr hr i hi
theorem MR.lt {t : MT α} {p : Option Addr} {F : List Nat} (h : MR w nt E t p F) : ∀ i ∈ F, i < w.heap.size := fun i hi => by
 obtain ⟨cs, h⟩ := h.bc i hi
 exact h.lt
theorem MR.kf {G : Nat -> Prop} {t : MT α} {p : Option Addr} {F : List Nat} (h : MR w nt E t p F) (hk : Kf G w w') (hn : ∀ i ∈ F, ¬ G i) : MR w' nt E t p F :=
 MR.keep (fun i hi => hk.block (h.lt i hi) (hn i hi)) h
theorem MR.kp {t : MT α} {p : Option Addr} {F : List Nat} (h : MR w nt E t p F) (hk : Kp w w') : MR w' nt E t p F := h.kf (Kf.of (F := fun _ => False) hk) (fun _ _ h => h)
theorem MR.set {t : MT α} {p : Option Addr} {F : List Nat} (h : MR w nt E t p F) {q : Addr} {u : Value} (hn : q.block ∉ F) : MR (w.setCell q u) nt E t p F :=
 MR.keep (fun i hi => Below.heap_setCell _ _ _ _ (by rintro rfl; exact hn hi)) h
theorem MR.nil : MR w nt E (.nil : MT α) none [] := ⟨rfl, rfl⟩
theorem MR.of_none {t : MT α} {F : List Nat} (h : MR w nt E t none F) : t = .nil /\ F = [] := by
 cases t with
 | nil => exact ⟨rfl, h.2⟩
 | node a l r => obtain ⟨b, pl, pr, Fl, Fr, h1, _⟩ := h; cases h1
theorem MR.of_some {t : MT α} {F : List Nat} {p : Addr} (h : MR w nt E t (some p) F) : ∃ a l r b pl pr Fl Fr, t = .node a l r /\ p = ⟨b, 0, none⟩ /\ F = b :: (Fl ++ Fr) /\ BC w b nt (nodeC E a pl pr) /\ b ∉ Fl /\ b ∉ Fr /\ (∀ x ∈ Fl, x ∉ Fr) /\ MR w nt E l pl Fl /\ MR w nt E r pr Fr := by
 cases t with
 | nil => obtain ⟨h1, _⟩ := h; cases h1
 | node a l r =>
  obtain ⟨b, pl, pr, Fl, Fr, h1, h2, h3, h4, h5, h6, h7, h8⟩ := h
  injection h1 with h1
  exact ⟨a, l, r, b, pl, pr, Fl, Fr, rfl, h1, h2, h3, h4, h5, h6, h7, h8⟩
theorem MR.mk {a : α} {l r : MT α} {b : Nat} {pl pr : Option Addr} {Fl Fr : List Nat} (hb : BC w b nt (nodeC E a pl pr)) (h1 : b ∉ Fl) (h2 : b ∉ Fr) (h3 : ∀ x ∈ Fl, x ∉ Fr) (hl : MR w nt E l pl Fl) (hr : MR w nt E r pr Fr) :
  MR w nt E (.node a l r) (some ⟨b, 0, none⟩) (b :: (Fl ++ Fr)) := ⟨b, pl, pr, Fl, Fr, rfl, rfl, hb, h1, h2, h3, hl, hr⟩
theorem MR.leaf (w : World) (a : α) : MR (w.alloc (.cells (nodeC E a none none).toArray nt)) nt E (.node a .nil .nil) (some ⟨w.heap.size, 0, none⟩) [w.heap.size] :=
 MR.mk (Fl := []) (Fr := []) (BC.new w nt _) (by simp) (by simp) (by simp) MR.nil MR.nil
structure Fm (α : Type) where
 a : α
 left : Bool
 o : MT α
def Fm.on (f : Fm α) (t : MT α) : MT α := if f.left then .node f.a t f.o else .node f.a f.o t
def plug : List (Fm α) -> MT α -> MT α
 | [], t => t
 | f :: C, t => plug C (f.on t)
def lk (E : Enc α) (left : Bool) : Nat := if left then E.size else E.size + 1
def fmC (E : Enc α) (f : Fm α) (ph po : Option Addr) : List Value := if f.left then nodeC E f.a ph po else nodeC E f.a po ph
def ZP (w : World) (nt : TypeId) (E : Enc α) (r0 : Addr) : List (Fm α) -> Addr -> List Nat -> Prop
 | [], q, F => q = r0 /\ F = []
 | f :: C, q, F => ∃ b ph po Fo q' F', q = ⟨b, lk E f.left, none⟩ /\ BC w b nt (fmC E f ph po) /\ MR w nt E f.o po Fo /\ ZP w nt E r0 C q' F' /\ w.cell? q' = some (.pointer (some ⟨b, 0, none⟩)) /\ F = b :: (Fo ++ F') /\ b ∉ Fo /\ b ∉ F' /\ ∀ x ∈ Fo, x ∉ F'
variable {r0 q : Addr}
theorem ZP.nil : ZP w nt E r0 ([] : List (Fm α)) r0 [] := ⟨rfl, rfl⟩
theorem ZP.bc {C : List (Fm α)} {F : List Nat} (h : ZP w nt E r0 C q F) : ∀ i ∈ F, ∃ cs, BC w i nt cs := by
 induction C generalizing q F with
 | nil => obtain ⟨rfl, rfl⟩ := h; simp
 | cons f C ih =>
  obtain ⟨b, ph, po, Fo, q', F', rfl, hb, ho, hz, hc, rfl, h1, h2, h3⟩ := h
  intro i hi
  rcases List.mem_cons.1 hi with rfl | hi
  ·exact ⟨_, hb⟩
  ·rcases List.mem_append.1 hi with hi | hi
   ·exact ho.bc i hi
   ·exact ih hz i hi
theorem ZP.at_ {C : List (Fm α)} {F : List Nat} (h : ZP w nt E r0 C q F) : q = r0 ∨ q.block ∈ F := by
 cases C with
 | nil => exact .inl h.1
 | cons f C =>
  obtain ⟨b, ph, po, Fo, q', F', rfl, hb, ho, hz, hc, rfl, h1, h2, h3⟩ := h
  exact .inr (by simp)
theorem ZP.keep {C : List (Fm α)} {F : List Nat} (hr : w'.cell? r0 = w.cell? r0) (hk : ∀ i ∈ F, w'.heap[i]? = w.heap[i]?) (h : ZP w nt E r0 C q F) : ZP w' nt E r0 C q F := by
 induction C generalizing q F with
 | nil => exact h
 | cons f C ih =>
  obtain ⟨b, ph, po, Fo, q', F', rfl, hb, ho, hz, hc, rfl, h1, h2, h3⟩ := h
  refine ⟨b, ph, po, Fo, q', F', rfl, (hk b (by simp)).trans hb, MR.keep (fun i hi => hk i (by simp [hi])) ho, ih (fun i hi => hk i (by simp [hi])) hz, ?_, rfl, h1, h2, h3⟩
  rcases hz.at_ with rfl | hq
  ·exact hr.trans hc
  ·exact (World.cell?_of_block (hk _ (by simp [hq]))).trans hc
theorem ZP.kf {G : Nat -> Prop} {C : List (Fm α)} {F : List Nat} (h : ZP w nt E r0 C q F) (hk : Kf G w w') (hr : ¬ G r0.block) (hrl : r0.block < w.heap.size) (hn : ∀ i ∈ F, ¬ G i) : ZP w' nt E r0 C q F :=
 h.keep (World.cell?_of_block (hk.block hrl hr)) fun i hi => by
  obtain ⟨cs, hb⟩ := h.bc i hi
  exact hk.block hb.lt (hn i hi)
theorem ZP.kp {C : List (Fm α)} {F : List Nat} (h : ZP w nt E r0 C q F) (hk : Kp w w') (hrl : r0.block < w.heap.size) : ZP w' nt E r0 C q F := h.kf (Kf.of (F := fun _ => False) hk) (fun h => h) hrl fun _ _ h => h
theorem ZP.store {C : List (Fm α)} {F : List Nat} (h : ZP w nt E r0 C q F) (hr : r0.block ∉ F) (p : Option Addr) : ZP (w.setCell q (.pointer p)) nt E r0 C q F := by
 cases C with
 | nil => exact h
 | cons f C =>
  obtain ⟨b, ph, po, Fo, q', F', rfl, hb, ho, hz, hc, rfl, h1, h2, h3⟩ := h
  simp only [List.mem_cons, List.mem_append, not_or] at hr
  have hne : q' ≠ ⟨b, lk E f.left, none⟩ := by
   rintro rfl
   rcases hz.at_ with h | h
   ·exact hr.1 (by rw [<- h])
   ·exact h2 h
  refine ⟨b, p, po, Fo, q', F', rfl, ?_, ho.set h1, hz.keep (World.cell?_setCell_other _ _ _ _ (fun e => hr.1 (by rw [<- e]))) (fun i hi => Below.heap_setCell _ _ _ _ (by rintro rfl; exact h2 hi)), ?_, rfl, h1, h2, h3⟩
  ·have h4 := hb.set (j := lk E f.left) (u := .pointer p)
   have hl := E.len f.a
   have e : (fmC E f ph po).set (lk E f.left) (.pointer p) = fmC E f p po := by
    unfold fmC lk nodeC
    cases f.left
    ·simp only [Bool.false_eq_true, if_false]
     rw [List.set_append_right _ _ (by omega), hl]; simp
    ·simp only [if_true]
     rw [List.set_append_right _ _ (by omega), hl]; simp
   rw [e] at h4
   exact h4
  ·rw [World.cell?_setCell_other _ _ _ _ (fun e => hne (by rw [e]))]; exact hc
theorem fmC_link (E : Enc α) (f : Fm α) (ph po : Option Addr) : (fmC E f ph po)[lk E f.left]? = some (.pointer ph) := by
 have hl := E.len f.a
 unfold fmC lk nodeC
 cases f.left
 ·simp only [Bool.false_eq_true, if_false]
  rw [List.getElem?_append_right (by omega), hl]; simp
 ·simp only [if_true]
  rw [List.getElem?_append_right (by omega), hl]; simp
theorem ZP.close {C : List (Fm α)} {F Ft : List Nat} {t : MT α} {p : Option Addr} (h : ZP w nt E r0 C q F) (hc : w.cell? q = some (.pointer p)) (ht : MR w nt E t p Ft) (hd : ∀ x ∈ Ft, x ∉ F) :
  ∃ p0 F0, w.cell? r0 = some (.pointer p0) /\ MR w nt E (plug C t) p0 F0 /\ ∀ x, x ∈ F0 ↔ x ∈ Ft ∨ x ∈ F := by
 induction C generalizing q F Ft t p with
 | nil =>
  obtain ⟨rfl, rfl⟩ := h
  exact ⟨p, Ft, hc, ht, fun x => by simp⟩
 | cons f C ih =>
  obtain ⟨b, ph, po, Fo, q', F', rfl, hb, ho, hz, hc', rfl, h1, h2, h3⟩ := h
  have e := hb.cell (lk E f.left)
  rw [hc, fmC_link] at e
  injection e with e
  injection e with e
  subst e
  have hbt : b ∉ Ft := fun h => hd b h (by simp)
  have hto : ∀ x ∈ Ft, x ∉ Fo := fun x hx hx' => hd x hx (by simp [hx'])
  cases hf : f.left with
  | true =>
   have hb' : BC w b nt (nodeC E f.a p po) := by simpa [fmC, hf] using hb
   obtain ⟨p0, F0, g1, g2, g3⟩ := ih hz hc' (MR.mk hb' hbt h1 hto ht ho) (fun x hx hx' => by
    rcases List.mem_cons.1 hx with rfl | hx
    ·exact h2 hx'
    ·rcases List.mem_append.1 hx with hx | hx
     ·exact hd x hx (by simp [hx'])
     ·exact h3 x hx hx')
   exact ⟨p0, F0, g1, by simpa [plug, Fm.on, hf] using g2, fun x => by rw [g3 x]; simp only [List.mem_cons, List.mem_append, or_assoc, or_left_comm, or_comm]⟩
  | false =>
   have hb' : BC w b nt (nodeC E f.a po p) := by simpa [fmC, hf] using hb
   obtain ⟨p0, F0, g1, g2, g3⟩ := ih hz hc' (MR.mk hb' h1 hbt (fun x hx hx' => hto x hx' hx) ho ht) (fun x hx hx' => by
    rcases List.mem_cons.1 hx with rfl | hx
    ·exact h2 hx'
    ·rcases List.mem_append.1 hx with hx | hx
     ·exact h3 x hx hx'
     ·exact hd x hx (by simp [hx']))
   exact ⟨p0, F0, g1, by simpa [plug, Fm.on, hf] using g2, fun x => by rw [g3 x]; simp only [List.mem_cons, List.mem_append, or_assoc, or_left_comm, or_comm]⟩
theorem ZP.push {C : List (Fm α)} {F Fl Fr : List Nat} {a : α} {l r : MT α} {b : Nat} {pl pr : Option Addr} (h : ZP w nt E r0 C q F) (hc : w.cell? q = some (.pointer (some ⟨b, 0, none⟩))) (hb : BC w b nt (nodeC E a pl pr)) (hl : MR w nt E l pl Fl) (hr : MR w nt E r pr Fr)
  (h1 : b ∉ Fl) (h2 : b ∉ Fr) (h3 : b ∉ F) (h4 : ∀ x ∈ Fl, x ∉ F) (h5 : ∀ x ∈ Fr, x ∉ F) (left : Bool) :
  ZP w nt E r0 (⟨a, left, if left then r else l⟩ :: C) ⟨b, lk E left, none⟩ (b :: ((if left then Fr else Fl) ++ F)) := by
 cases left with
 | true => exact ⟨b, pl, pr, Fr, q, F, rfl, by simpa [fmC] using hb, hr, h, hc, rfl, h2, h3, h5⟩
 | false => exact ⟨b, pr, pl, Fl, q, F, rfl, by simpa [fmC] using hb, hl, h, hc, rfl, h1, h3, h4⟩
theorem BC.link {b : Nat} {a : α} {pl pr : Option Addr} (hb : BC w b nt (nodeC E a pl pr)) (left : Bool) : w.cell? ⟨b, lk E left, none⟩ = some (.pointer (if left then pl else pr)) := by
 rw [hb.cell]
 have hl := E.len a
 unfold lk nodeC
 cases left
 ·simp only [Bool.false_eq_true, if_false]
  rw [List.getElem?_append_right (by omega), hl]; simp
 ·simp only [if_true]
  rw [List.getElem?_append_right (by omega), hl]; simp
end
def OB {α : Type} (w : World) (B : Nat) (g : Nat) (st e : TypeId) (E : Enc α) (l : List α) : Prop := ∃ v, BC w g st [v] /\ OW w B e E v l /\ v.ownBlock ≠ some g
def KO (g B : Nat) (w w' : World) : Prop := ∃ v v', w.cell? ⟨g, 0, none⟩ = some v /\ w'.cell? ⟨g, 0, none⟩ = some v' /\ Kf (fun i => i = g ∨ v.ownBlock = some i) w w' /\ (v'.ownBlock = v.ownBlock ∨ Hi w.heap.size v')
theorem KO.trans {g B : Nat} {a b c : World} (h : KO g B a b) (k : KO g B b c) : KO g B a c := by
 obtain ⟨v, v', h1, h2, h3, h4⟩ := h
 obtain ⟨u, u', k1, k2, k3, k4⟩ := k
 rw [h2] at k1
 injection k1 with k1
 subst k1
 have hz := h3.size
 refine ⟨v, u', h1, k2, h3.trans k3 (fun i hi hg => ?_), ?_⟩
 ·rcases hg with hg | hg
  ·exact .inl hg
  ·rcases h4 with h4 | h4
   ·exact .inr (by rw [<- h4]; exact hg)
   ·have := h4 i hg; omega
 ·rcases k4 with k4 | k4
  ·rcases h4 with h4 | h4
   ·exact .inl (k4.trans h4)
   ·exact .inr (fun i hi => h4 i (by rw [<- k4]; exact hi))
  ·exact .inr (k4.mono hz)
theorem KO.refl {g B : Nat} {w : World} {v : Value} (h : w.cell? ⟨g, 0, none⟩ = some v) : KO g B w w := ⟨v, v, h, h, Kf.refl _ _, .inl rfl⟩
theorem MR.ko {α β : Type} {w w' : World} {B g : Nat} {nt st e : TypeId} {E : Enc α} {E' : Enc β} {l : List β} {t : MT α} {p : Option Addr} {F : List Nat} (h : MR w nt E t p F) (ho : OB w B g st e E' l) (hk : KO g B w w') (h1 : st ≠ nt) (h2 : e ≠ nt) : MR w' nt E t p F := by
 obtain ⟨v, hb, hv, hn⟩ := ho
 obtain ⟨v1, v2, k1, k2, k3, k4⟩ := hk
 have e1 : some v1 = some v := k1.symm.trans (hb.cell 0)
 injection e1 with e1
 subst e1
 refine h.kf k3 fun i hi hg => ?_
 obtain ⟨cs, hc⟩ := h.bc i hi
 rcases hg with rfl | hg
 ·exact hb.ne hc h1 rfl
 ·exact hv.bc_ne hc h2 hg
theorem KO.kp {g B : Nat} {a w w' : World} (h : KO g B w w') (k : Kp a w) (hg : a.heap.size <= g) (hv : ∀ v, w.cell? ⟨g, 0, none⟩ = some v -> Hi a.heap.size v) : Kp a w' := by
 obtain ⟨v, v', h1, h2, h3, h4⟩ := h
 exact h3.kp k fun i hi => by
  rcases hi with rfl | hi
  ·exact hg
  ·exact hv v h1 i hi
def KV (v : Value) (w w' : World) : Prop := Kf (fun i => v.ownBlock = some i) w w'
section
variable {v : Value} {w W W' : World}
theorem KV.refl (v : Value) (w : World) : KV v w w := Kf.refl _ _
theorem KV.size (h : KV v w W) : w.heap.size <= W.heap.size := Kf.size h
theorem KV.drew (h : KV v w W) : KV v w W.drew := Kf.on h (Kp.refl W).drew
theorem KV.drewN {n : Nat} (h : KV v w W) : KV v w (W.drewN n) := Kf.on h (Kp.refl W).drewN
theorem KV.alloc {o : Obj} (h : KV v w W) : KV v w (W.alloc o) := Kf.on h (Kp.refl W).alloc
theorem KV.app (hg : W.grownBy W' v.ownBlock) (h : KV v w W) : KV v w W' := Kf.app h hg fun _ hk => .inl hk
theorem KV.call (hb : Kp W W') (h : KV v w W) : KV v w W' := Kf.on h hb
theorem KV.cell {p : Addr} {u : Value} (h : KV v w W) (hn : v.ownBlock ≠ some p.block) (hc : w.cell? p = some u) : W.cell? p = some u := Kf.cell h hn hc
theorem KV.frozen {p : Addr} (h : KV v w W) (hp : p.block < w.heap.size) (hn : v.ownBlock ≠ some p.block) : W.frozen? p = w.frozen? p := Kf.frozen h hp hn
end
section
variable {α : Type} {w w3 : World} {B g : Nat} {st e : TypeId} {E : Enc α} {l l' : List α} {v v3 : Value}
theorem ob_app (hb : BC w g st [v]) (ho : OW w B e E v l) (hn : v.ownBlock ≠ some g) (k : KV v w w3) (ho3 : OW w3 B e E v3 l') (hat : v3.ownBlock = v.ownBlock ∨ Hi w.heap.size v3) :
  OB (w3.setCell ⟨g, 0, none⟩ v3) B g st e E l' /\ KO g B w (w3.setCell ⟨g, 0, none⟩ v3) := by
 have hz := KV.size k
 have hlt := hb.lt
 have hn3 : v3.ownBlock ≠ some g := by
  rcases hat with h | h
  ·rw [h]; exact hn
  ·intro e; have := h g e; omega
 have hb3 : BC w3 g st [v] := hb.kf k hn
 refine ⟨⟨v3, hb3.set (j := 0) (u := v3), ho3.setCell hn3 v3, hn3⟩, v, v3, hb.cell 0, (hb3.set (j := 0) (u := v3)).cell 0, Kf.set (Kf.mono k fun i _ hi => .inr hi) (.inl (.inl rfl)), hat⟩
theorem RD.slice {β : Type} {E' : Enc β} {u : Value} {m : List β} (h : RD w E' u m) : ∃ A n c, u = .slice A n c := by
 obtain ⟨A, c, rfl, _⟩ := h
 exact ⟨A, _, c, rfl⟩
theorem KO.size {a b : World} (h : KO g B a b) : a.heap.size <= b.heap.size := by
 obtain ⟨v, v', h1, h2, h3, h4⟩ := h
 exact Kf.size h3
theorem RD.ko {β : Type} {E' : Enc β} {w' : World} {u : Value} {m : List β} (h : RD w E' u m) (ho : OB w B g st e E l) (hk : KO g B w w') (hu : 0 < m.length -> Lo B u) (hg : B <= g) : RD w' E' u m := by
 obtain ⟨v, hb, hv, hn⟩ := ho
 obtain ⟨v1, v2, k1, k2, k3, k4⟩ := hk
 have e1 : some v1 = some v := k1.symm.trans (hb.cell 0)
 injection e1 with e1
 subst e1
 refine h.kf k3 fun h0 k hk hF => ?_
 have := hu h0 k hk
 rcases hF with rfl | hF
 ·omega
 ·have := (hv.lt k hF).1; omega
theorem OB.kp {w' : World} (h : OB w B g st e E l) (hk : Kp w w') : OB w' B g st e E l := by
 obtain ⟨v, hb, hv, hn⟩ := h
 exact ⟨v, hb.kp hk, hv.kp hk, hn⟩
theorem OB.new (w : World) (hB : B <= w.heap.size) : OB (w.alloc (.cells #[.slice none 0 0] st)) B w.heap.size st e E ([] : List α) :=
 ⟨.slice none 0 0, BC.new w st [.slice none 0 0], OW.nil, by simp [Value.ownBlock]⟩
theorem KO.on {a b c : World} (h : KO g B a b) (hk : Kp b c) : KO g B a c := by
 obtain ⟨v, v', h1, h2, h3, h4⟩ := h
 exact ⟨v, v', h1, hk.cell h2, h3.on hk, h4⟩
theorem OB.kp0 {a w' : World} (h : OB w B g st e E l) (hk : KO g B w w') (h0 : Kp a w) (hB : a.heap.size <= B) (hg : B <= g) : Kp a w' :=
 hk.kp h0 (by omega) fun v hv => by
  obtain ⟨u, hb, ho, _⟩ := h
  have e1 : some v = some u := hv.symm.trans (hb.cell 0)
  injection e1 with e1
  subst e1
  exact fun k hk => Nat.le_trans hB (ho.lt k hk).1
end
theorem BC.ko {α : Type} {w w' : World} {B g i : Nat} {st e t : TypeId} {E : Enc α} {l : List α} {cs : List Value} (h : BC w i t cs) (ho : OB w B g st e E l) (hk : KO g B w w') (h1 : st ≠ t) (h2 : e ≠ t) : BC w' i t cs := by
 obtain ⟨v, hb, hv, hn⟩ := ho
 obtain ⟨v1, v2, k1, k2, k3, k4⟩ := hk
 have e1 : some v1 = some v := k1.symm.trans (hb.cell 0)
 injection e1 with e1
 subst e1
 refine h.kf k3 fun hg => ?_
 rcases hg with rfl | hg
 ·exact hb.ne h h1 rfl
 ·exact hv.bc_ne h h2 hg
def WPost {α : Type} (B g : Nat) (st e : TypeId) (E : Enc α) (r : Value) (l : List α) (w : World) (en : Ending) (w' : World) : Prop := en = .returned r /\ OB w' B g st e E l /\ KO g B w w'
end Go.Proofs.YtcljlnagpjilaaaGreatDoor
