/-
  A desk in memory (DS), what a call of its methods keeps (KD); what the regions 7 and 9 of 
  The runs of the loads and stores of desk.ask's regions 7 and 9
  desk.answer's deferred closure: what it does where the frame returns, and where it panics 
-/
import Derived.Test.YtcljlnagpjilaaaGreatDoorG26
import Derived.Test.YtcljlnagpjilaaaGreatDoorG8
import Derived.Test.YtcljlnagpjilaaaGreatDoorG27
import Derived.Lib.OthersKept
import Derived.Lib.BufferKept
import Derived.Test.YtcljlnagpjilaaaGreatDoorG4
import Derived.Defers
import Derived.Recover
import Derived.Laws.Pointers

set_option linter.unusedVariables false
set_option linter.unusedSimpArgs false
set_option maxRecDepth 100000
set_option maxHeartbeats 8000000
namespace Go.Proofs.YtcljlnagpjilaaaGreatDoor
open Go.ChangeShapes Go.WideShapes Go.ChangeAt Go.RowKit
def KD (B d : Nat) (w w' : World) : Prop := Lib.OthersKept 82 (some d) w w' /\ Below B w w'
theorem KD.refl (B d : Nat) (w : World) : KD B d w w := ⟨Lib.OthersKept.refl _ _ _, Below.refl _ _⟩
theorem KD.trans {B d : Nat} {a b c : World} (h : KD B d a b) (k : KD B d b c) : KD B d a c := ⟨h.1.trans k.1, Below.trans h.2 k.2⟩
theorem KD.on {B d : Nat} {a b c : World} (h : KD B d a b) (k : Kp b c) (hB : B <= b.heap.size) : KD B d a c := ⟨h.1.below k.bel, h.2.trans (k.bel.mono hB)⟩
theorem KD.of {B d : Nat} {a b : World} (k : Kp a b) (hB : B <= a.heap.size) : KD B d a b := (KD.refl B d a).on k hB
theorem KD.bc {B d i : Nat} {w w' : World} {t : TypeId} {cs : List Value} (k : KD B d w w') (h : BC w i t cs) (hi : i ≠ d) (ht : t ≠ 82) : BC w' i t cs :=
 k.1 i _ h (fun e => hi (Option.some.inj e)) (fun c fz e => by injection e with _ e; exact ht e)
def TT (B : Nat) (w : World) : Prop := ∀ W, Below B w W -> T10 W /\ DTb W
theorem TT.go {B : Nat} {w w' : World} (h : TT B w) (k : Below B w w') : TT B w' := fun W hW => h W (k.trans hW)
theorem TT.t10 {B : Nat} {w : World} (h : TT B w) : T10 w := (h w (Below.refl _ _)).1
theorem TT.db {B : Nat} {w : World} (h : TT B w) : DTb w := (h w (Below.refl _ _)).2
theorem TT.of {B : Nat} {w : World} (h : T10 w) (h' : DTb w) (hB : w.heap.size <= B) : TT B w := fun W hW => ⟨Go.Joins.tab_stays gT10 h hW hB, fun i hi => (hW.cell (p := ⟨_, i, none⟩) (Nat.lt_of_lt_of_le (World.block_lt_of_cell? _ _ (h' i hi)) hB)).trans (h' i hi)⟩
def DS (w : World) (B d : Nat) (l : List IP) (ops : List O3) : Prop := ∃ v u, BC w d 40 [v, u] /\ OW w B 141 ePair v l /\ OW w B 82 eOp u ops
theorem DS.kp {w w' : World} {B d : Nat} {l : List IP} {ops : List O3} (h : DS w B d l ops) (k : Kp w w') : DS w' B d l ops := by
 obtain ⟨v, u, h1, h2, h3⟩ := h
 exact ⟨v, u, h1.kp k, h2.kp k, h3.kp k⟩
theorem ow_ne {α β : Type} {w : World} {B B' : Nat} {e e' : TypeId} {E : Enc α} {E' : Enc β} {v u : Value} {l : List α} {m : List β} (h : OW w B e E v l) (h' : OW w B' e' E' u m) (hn : e ≠ e') : v.ownBlock = none ∨ v.ownBlock ≠ u.ownBlock := by
 rcases h.2 with ⟨rfl, _⟩ | ⟨g, cap, cur, rfl, hg, hh, r⟩
 ·exact .inl rfl
 ·right
  rcases h'.2 with ⟨rfl, _⟩ | ⟨g', cap', cur', rfl, hg', hh', r'⟩
  ·simp [Value.ownBlock]
  ·intro e1
   simp only [Value.ownBlock] at e1
   injection e1 with e1
   subst e1
   rw [hh] at hh'
   injection hh' with hh'
   injection hh' with _ e
   exact hn e
theorem set_at (L : Array Bool) (k : Nat) : (L.setIfInBounds k true).getD k true = true := by
 by_cases h : k < L.size
 ·simp [Array.getD, h]
 ·simp [Array.getD, h]
theorem rep_true (n j : Nat) : (Array.replicate n true).getD j true = true := by
 simp only [Array.getD]
 split
 ·simp
 ·rfl
theorem set_far (L : Array Bool) (k j : Nat) (h : k ≠ j) : (L.setIfInBounds k true).getD j true = L.getD j true := by
 simp only [Array.getD_eq_getD_getElem?, Array.getElem?_setIfInBounds_ne h]
def J7 (w0 : World) (r : An) (L : Array Bool) (w : World) (γ : Nat) : Prop :=
 Kp w0 w /\ (L.getD 11 true = true -> L.getD 9 true = true) /\ (L.getD 9 true = true -> w0.heap.size <= γ /\ BC w γ 84 (if L.getD 11 true then [.int .i64 r.err, .int .i64 r.key, .int .i64 r.val, .bool r.is] else [.int .i64 0, .int .i64 0, .int .i64 0, .bool false]))
def G7 (B : Nat) (l : List IP) (r : An) (d : Nat) (v : Value) (w : World) (γ : Nat) : Prop :=
 ((d = 42 ∨ d = 36) -> ∃ v', v = .tuple #[v', r.v] /\ OW w B 141 ePair v' l) /\ ((d = 43 ∨ d = 8) -> OW w B 141 ePair v l) /\ (d = 9 -> v = .pointer (some ⟨γ, 0, none⟩))
section
variable {w0 w w' : World} {B d γ γ' : Nat} {l : List IP} {r : An} {L : Array Bool} {v : Value}
theorem J7.go (h : J7 w0 r L w γ) (k : Kp w w') (i : Nat) (h9 : i ≠ 9) (h11 : i ≠ 11) : J7 w0 r (L.setIfInBounds i true) w' γ := by
 obtain ⟨h1, hi, h2⟩ := h
 refine ⟨h1.trans k, ?_⟩
 rw [set_far _ _ _ h9, set_far _ _ _ h11]
 exact ⟨hi, fun h => ⟨(h2 h).1, (h2 h).2.kp k⟩⟩
theorem J7.bcA (h : J7 w0 r L w γ) (h9 : L.getD 9 true = true) : ∃ cs, BC w γ 84 cs /\ cs.length = 4 := ⟨_, (h.2.2 h9).2, by split <;> rfl⟩
theorem G7.kp (h : G7 B l r d v w γ) (k : Kp w w') : G7 B l r d v w' γ := by
 obtain ⟨h1, h2, h3⟩ := h
 exact ⟨fun e => by obtain ⟨v', e1, e2⟩ := h1 e; exact ⟨v', e1, e2.kp k⟩, fun e => (h2 e).kp k, h3⟩
theorem G7.none (h : d ≠ 42 /\ d ≠ 36 /\ d ≠ 43 /\ d ≠ 8 /\ d ≠ 9) : G7 B l r d v w γ := ⟨fun e => by omega, fun e => by omega, fun e => by omega⟩
theorem G7.alloc (h : G7 B l r d v w γ) (k : Kp w w') (hd : d ≠ 9) : G7 B l r d v w' γ' := by
 obtain ⟨h1, h2, h3⟩ := h
 exact ⟨fun e => by obtain ⟨v', e1, e2⟩ := h1 e; exact ⟨v', e1, e2.kp k⟩, fun e => (h2 e).kp k, fun e => absurd e hd⟩
theorem G7.set {cs : List Value} (hb : BC w γ 84 cs) (h : G7 B l r d v w γ) {j : Nat} {u : Value} : G7 B l r d v (w.setCell ⟨γ, j, Option.none⟩ u) γ := by
 obtain ⟨h1, h2, h3⟩ := h
 exact ⟨fun e => by obtain ⟨v', e1, e2⟩ := h1 e; exact ⟨v', e1, e2.setCell (e2.bc_ne hb (by decide)) u⟩, fun e => (h2 e).setCell ((h2 e).bc_ne hb (by decide)) u, h3⟩
theorem j7_new (h : J7 w0 r L w γ) (hl : L.getD 9 true = false) : J7 w0 r (L.setIfInBounds 9 true) (w.alloc (.cells #[.int .i64 0, .int .i64 0, .int .i64 0, .bool false] 84)) w.heap.size := by
 obtain ⟨h1, hi, h2⟩ := h
 have h11 : L.getD 11 true = false := by
  cases e : L.getD 11 true with
  | false => rfl
  | true => rw [hi e] at hl; cases hl
 refine ⟨h1.alloc, fun _ => set_at _ _, fun _ => ⟨h1.size, ?_⟩⟩
 rw [set_far _ _ _ (by decide), h11, if_neg (by decide)]
 exact BC.new w _ [.int .i64 0, .int .i64 0, .int .i64 0, .bool false]
def stAns (w : World) (γ : Nat) (r : An) : World := (((w.setCell ⟨γ, 0, none⟩ (.int .i64 r.err)).setCell ⟨γ, 1, none⟩ (.int .i64 r.key)).setCell ⟨γ, 2, none⟩ (.int .i64 r.val)).setCell ⟨γ, 3, none⟩ (.bool r.is)
theorem J7.store (h : J7 w0 r L w γ) (h9 : L.getD 9 true = true) : J7 w0 r (L.setIfInBounds 11 true) (stAns w γ r) γ := by
 obtain ⟨h1, hi, h2⟩ := h
 obtain ⟨h3, h4⟩ := h2 h9
 refine ⟨?_, fun _ => by rw [set_far _ _ _ (by decide)]; exact h9, fun _ => ⟨h3, ?_⟩⟩
 ·have e : ∀ (W : World) (p : Addr) (u : Value), p.block = γ -> Kp w0 W -> Kp w0 (W.setCell p u) := fun W p u hp k => by
   have := Kf.set (F := fun _ => False) (p := p) (u := u) (Kf.of k) (.inr (by rw [hp]; exact h3))
   exact this.kp (Kp.refl _) (fun _ h => h.elim)
  exact e _ _ _ rfl (e _ _ _ rfl (e _ _ _ rfl (e _ _ _ rfl h1)))
 ·rw [set_at _ _, if_pos rfl]
  have := (((h4.set (j := 0) (u := .int .i64 r.err)).set (j := 1) (u := .int .i64 r.key)).set (j := 2) (u := .int .i64 r.val)).set (j := 3) (u := .bool r.is)
  split at this <;> exact this
theorem G7.store {cs : List Value} (hb : BC w γ 84 cs) (h : G7 B l r d v w γ) : G7 B l r d v (stAns w γ r) γ := by
 have b1 := hb.set (j := 0) (u := .int .i64 r.err)
 have b2 := b1.set (j := 1) (u := .int .i64 r.key)
 have b3 := b2.set (j := 2) (u := .int .i64 r.val)
 exact ((((h.set hb).set b1).set b2).set b3)
end
theorem set_mono (L : Array Bool) (k j : Nat) (h : L.getD j true = true) : (L.setIfInBounds k true).getD j true = true := by
 by_cases e : k = j
 ·subst e; exact set_at _ _
 ·rw [set_far _ _ _ e]; exact h
def S9 (L : Array Bool) : Prop := (L.getD 9 true = true -> L.getD 6 true = true) /\ (L.getD 15 true = true -> L.getD 9 true = true)
theorem S9.go {L : Array Bool} (h : S9 L) (i : Nat) (h9 : i ≠ 9) (h15 : i ≠ 15) : S9 (L.setIfInBounds i true) := by
 refine ⟨?_, ?_⟩
 ·rw [set_far _ _ _ h9]; exact fun e => set_mono _ _ _ (h.1 e)
 ·rw [set_far _ _ _ h9, set_far _ _ _ h15]; exact h.2
theorem S9.not9 {L : Array Bool} (h : S9 L) (hl : L.getD 6 true = false) : L.getD 9 true = false := by
 cases e : L.getD 9 true with
 | false => rfl
 | true => rw [h.1 e] at hl; cases hl
theorem S9.not15 {L : Array Bool} (h : S9 L) (hl : L.getD 9 true = false) : L.getD 15 true = false := by
 cases e : L.getD 15 true with
 | false => rfl
 | true => rw [h.2 e] at hl; cases hl
def J9 (w0 : World) (B d p γ : Nat) (l : List IP) (ops : List O3) (o : O3) (an : An) (v u v8 : Value) (L : Array Bool) (w : World) : Prop :=
 S9 L /\ KD B d w0 w /\ w0.heap.size <= w.heap.size /\ BC w γ 84 [.int .i64 an.err, .int .i64 an.key, .int .i64 an.val, .bool an.is] /\ OW w B 141 ePair v8 l /\
 (L.getD 9 true = false -> OW w B 82 eOp u ops) /\ BC w p 82 (eOp.cells o) /\
 ∃ x0 x1, BC w d 40 [x0, x1] /\ (L.getD 12 true = true -> x0 = v8) /\ (L.getD 9 true = false -> x1 = u) /\ (L.getD 15 true = true -> OW w B 82 eOp x1 (ops ++ [o]))
def G9 (w0 : World) (B d : Nat) (ops : List O3) (o : O3) (j : Nat) (v : Value) (w : World) : Prop :=
 (j = 56 -> ∃ b, v = .slice (some ⟨b, 0, none⟩) 1 1 /\ w0.heap.size <= b /\ BC w b 82 (eOp.cells o)) /\ (j = 57 -> OW w B 82 eOp v (ops ++ [o]) /\ v.ownBlock ≠ some d)
section
variable {w0 w w' : World} {B d p γ j : Nat} {l : List IP} {ops : List O3} {o : O3} {an : An} {v u v8 x : Value} {L : Array Bool}
theorem J9.go (h : J9 w0 B d p γ l ops o an v u v8 L w) (k : Kp w w') (hB : B <= w0.heap.size) (i : Nat) (h9 : i ≠ 9) (h12 : i ≠ 12) (h15 : i ≠ 15) : J9 w0 B d p γ l ops o an v u v8 (L.setIfInBounds i true) w' := by
 obtain ⟨h0, h1, h2, h3, h4, h5, hp, x0, x1, h6, h7, h8, h10⟩ := h
 refine ⟨h0.go i h9 h15, h1.on k (by omega), Nat.le_trans h2 k.size, h3.kp k, h4.kp k, ?_, hp.kp k, x0, x1, h6.kp k, ?_, ?_, ?_⟩
 ·rw [set_far _ _ _ h9]; exact fun e => (h5 e).kp k
 ·rw [set_far _ _ _ h12]; exact h7
 ·rw [set_far _ _ _ h9]; exact h8
 ·rw [set_far _ _ _ h15]; exact fun e => (h10 e).kp k
theorem J9.bcD (h : J9 w0 B d p γ l ops o an v u v8 L w) : ∃ cs, BC w d 40 cs /\ cs.length = 2 := by
 obtain ⟨h0, h1, h2, h3, h4, h5, hp, x0, x1, h6, h7, h8, h10⟩ := h
 exact ⟨_, h6, rfl⟩
theorem G9.kp (h : G9 w0 B d ops o j v w) (k : Kp w w') : G9 w0 B d ops o j v w' :=
 ⟨fun e => by obtain ⟨b, e1, e2, e3⟩ := h.1 e; exact ⟨b, e1, e2, e3.kp k⟩, fun e => ⟨(h.2 e).1.kp k, (h.2 e).2⟩⟩
theorem G9.none (h : j ≠ 56 /\ j ≠ 57) : G9 w0 B d ops o j v w := ⟨fun e => by omega, fun e => by omega⟩
theorem J9.store0 (h : J9 w0 B d p γ l ops o an v u v8 L w) (hB : B <= d) : J9 w0 B d p γ l ops o an v u v8 (L.setIfInBounds 12 true) (w.setCell ⟨d, 0, Option.none⟩ v8) := by
 obtain ⟨h0, h1, h2, h3, h4, h5, hp, x0, x1, h6, h7, h8, h10⟩ := h
 refine ⟨h0.go 12 (by decide) (by decide), ⟨h1.1.setCell _ rfl _, h1.2.setCell hB _⟩, Nat.le_trans h2 (by simp [World.setCell]), h3.far (h3.ne h6 (by decide)), h4.setCell (h4.bc_ne h6 (by decide)) _, ?_, hp.far (hp.ne h6 (by decide)), v8, x1, h6.set (j := 0) (u := v8), fun _ => rfl, ?_, ?_⟩
 ·rw [set_far _ _ _ (by decide)]
  exact fun e => (h5 e).setCell ((h5 e).bc_ne h6 (by decide)) _
 ·rw [set_far _ _ _ (by decide)]; exact h8
 ·rw [set_far _ _ _ (by decide)]
  exact fun e => (h10 e).setCell ((h10 e).bc_ne h6 (by decide)) _
theorem G9.far (h : G9 w0 B d ops o j v w) (hd : d < w0.heap.size) {i : Nat} {y : Value} : G9 w0 B d ops o j v (w.setCell ⟨d, i, Option.none⟩ y) :=
 ⟨fun e => by obtain ⟨b, e1, e2, e3⟩ := h.1 e; exact ⟨b, e1, e2, e3.far (show b ≠ d by omega)⟩, fun e => ⟨(h.2 e).1.setCell (h.2 e).2 _, (h.2 e).2⟩⟩
theorem J9.store1 (h : J9 w0 B d p γ l ops o an v u v8 L w) (hB : B <= d) (h9 : L.getD 9 true = true) (hx : OW w B 82 eOp x (ops ++ [o])) : J9 w0 B d p γ l ops o an v u v8 (L.setIfInBounds 15 true) (w.setCell ⟨d, 1, Option.none⟩ x) := by
 obtain ⟨h0, h1, h2, h3, h4, h5, hp, x0, x1, h6, h7, h8, h10⟩ := h
 refine ⟨⟨?_, fun _ => by rw [set_far _ _ _ (by decide)]; exact h9⟩, ⟨h1.1.setCell _ rfl _, h1.2.setCell hB _⟩, Nat.le_trans h2 (by simp [World.setCell]), h3.far (h3.ne h6 (by decide)), h4.setCell (h4.bc_ne h6 (by decide)) _, ?_, hp.far (hp.ne h6 (by decide)), x0, x, h6.set (j := 1) (u := x), ?_, ?_, fun _ => hx.setCell (hx.bc_ne h6 (by decide)) _⟩
 ·exact fun _ => set_mono _ _ _ (h0.1 h9)
 ·rw [set_far _ _ _ (by decide), h9]; exact fun e => (by cases e)
 ·rw [set_far _ _ _ (by decide)]; exact h7
 ·rw [set_far _ _ _ (by decide), h9]; exact fun e => (by cases e)
theorem J9.app (h : J9 w0 B d p γ l ops o an v u v8 L w) (hB : B <= w0.heap.size) (h9 : L.getD 9 true = false) (h6' : L.getD 6 true = true) (hup : u.ownBlock ≠ some p) (hg : w.grownBy w' u.ownBlock) (hx : OW w' B 82 eOp x (ops ++ [o])) (hat : x.ownBlock = u.ownBlock ∨ x.ownBlock = some w.heap.size) :
  J9 w0 B d p γ l ops o an v u v8 (L.setIfInBounds 9 true) w' /\ x.ownBlock ≠ some d := by
 obtain ⟨h0, h1, h2, h3, h4, h5, hp, x0, x1, h6, h7, h8, h10⟩ := h
 have h15 := h0.not15 h9
 have h51 := h5 h9
 have n1 := h51.bc_ne h6 (by decide)
 have n2 := h51.bc_ne h3 (by decide)
 have hlt := h6.lt
 have k : Kf (fun i => u.ownBlock = some i) w w' := Kf.app (Kf.refl _ _) hg fun _ hk => .inl hk
 refine ⟨⟨⟨fun _ => set_mono _ _ _ h6', fun _ => set_at _ _⟩, ⟨h1.1.grown hg fun g hgr => ?_, h1.2.grown hg (by omega) fun g hgr => (h51.lt g hgr).1⟩, Nat.le_trans h2 (Kf.size k), h3.kf k n2, ?_, ?_, hp.kf k hup, x0, x1, h6.kf k n1, ?_, ?_, ?_⟩, ?_⟩
 ·rcases h51.2 with ⟨rfl, _⟩ | ⟨g', cap, cur, rfl, hg', hh, r⟩
  ·simp [Value.ownBlock] at hgr
  ·simp only [Value.ownBlock] at hgr
   injection hgr with hgr
   subst hgr
   exact ⟨_, _, hh⟩
 ·refine h4.kept hg ?_
  exact ow_ne h4 h51 (by decide)
 ·rw [set_at _ _]; exact fun e => (by cases e)
 ·rw [set_far _ _ _ (by decide)]; exact h7
 ·rw [set_at _ _]; exact fun e => (by cases e)
 ·rw [set_far _ _ _ (by decide), h15]; exact fun e => (by cases e)
 ·rcases hat with e | e
  ·rw [e]; exact n1
  ·rw [e]; intro e; injection e with e; omega
theorem G9.app (h : G9 w0 B d ops o j v w) (hj : j ≠ 57) (hg : w.grownBy w' u.ownBlock) (hu : ∀ k, u.ownBlock = some k -> k < w0.heap.size) : G9 w0 B d ops o j v w' :=
 ⟨fun e => by
  obtain ⟨b, e1, e2, e3⟩ := h.1 e
  exact ⟨b, e1, e2, e3.kf (Kf.app (F := fun i => u.ownBlock = some i) (Kf.refl _ _) hg fun _ hk => .inl hk) (fun e => by have := hu b e; omega)⟩, fun e => absurd e hj⟩
end
section
variable {W : World} {d p γ : Nat} {v u : Value} {k key val : Int}
theorem ld_pairs (c0 : W.cell? ⟨d, 0, none⟩ = some v) : (Instr.loadAt 37 (.pointer (some ⟨d, 0, none⟩))).run Tryz.prog W = .ok v W := by go_simp
theorem ld_ops (c0 : W.cell? ⟨d, 1, none⟩ = some v) : (Instr.loadAt 38 (.pointer (some ⟨d, 1, none⟩))).run Tryz.prog W = .ok v W := by go_simp
theorem ld_op (h : BC W p 82 (eOp.cells (k, key, val))) : (Instr.loadAt 82 (.pointer (some ⟨p, 0, none⟩))).run Tryz.prog W = .ok (.agg #[.int .i64 k, .int .i64 key, .int .i64 val]) W := by
 have c0 : W.cell? ⟨p, 0, none⟩ = some (.int .i64 k) := h.cell 0
 have c1 : W.cell? ⟨p, 1, none⟩ = some (.int .i64 key) := h.cell 1
 have c2 : W.cell? ⟨p, 2, none⟩ = some (.int .i64 val) := h.cell 2
 go_simp
theorem st_pairs {cs : List Value} (h : BC W d 40 cs) (hl : cs.length = 2) {A : Option Addr} {n c : Nat} : (Instr.storeAt 37 (.pointer (some ⟨d, 0, none⟩)) (.slice A n c)).run Tryz.prog W = .ok () (W.setCell ⟨d, 0, none⟩ (.slice A n c)) := by
 obtain ⟨x, y, rfl⟩ : ∃ x y, cs = [x, y] := by
  match cs, hl with
  | [a, b], _ => exact ⟨a, b, rfl⟩
 have c0 : W.cell? ⟨d, 0, none⟩ = some x := h.cell 0
 have f0 := h.frozen 0
 go_simp
theorem st_ops {cs : List Value} (h : BC W d 40 cs) (hl : cs.length = 2) {A : Option Addr} {n c : Nat} : (Instr.storeAt 38 (.pointer (some ⟨d, 1, none⟩)) (.slice A n c)).run Tryz.prog W = .ok () (W.setCell ⟨d, 1, none⟩ (.slice A n c)) := by
 obtain ⟨x, y, rfl⟩ : ∃ x y, cs = [x, y] := by
  match cs, hl with
  | [a, b], _ => exact ⟨a, b, rfl⟩
 have c0 : W.cell? ⟨d, 1, none⟩ = some y := h.cell 1
 have f0 := h.frozen 1
 go_simp
theorem st_ans {cs : List Value} (h : BC W γ 84 cs) (hl : cs.length = 4) (r : An) : (Instr.storeAt 84 (.pointer (some ⟨γ, 0, none⟩)) r.v).run Tryz.prog W = .ok () (stAns W γ r) := by
 obtain ⟨x, y, z, t, rfl⟩ : ∃ x y z t, cs = [x, y, z, t] := by
  match cs, hl with
  | [a, b, c, d], _ => exact ⟨a, b, c, d, rfl⟩
 obtain ⟨er, ak, av, ai⟩ := r
 unfold stAns An.v
 dsimp only
 have b1 := h.set (j := 0) (u := .int .i64 er)
 have b2 := b1.set (j := 1) (u := .int .i64 ak)
 have b3 := b2.set (j := 2) (u := .int .i64 av)
 have c0 : W.cell? ⟨γ, 0, none⟩ = some x := h.cell 0
 have f0 := h.frozen 0
 have c1 := b1.cell 1
 have f1 := b1.frozen 1
 have c2 := b2.cell 2
 have f2 := b2.frozen 2
 have c3 := b3.cell 3
 have f3 := b3.frozen 3
 simp only [List.set_cons_zero, List.set_cons_succ, List.getElem?_cons_zero, List.getElem?_cons_succ] at c1 c2 c3
 clear b1 b2 b3 h
 go_simp
theorem rd_one {b : Nat} {o : O3} (h : BC W b 82 (eOp.cells o)) : RD W eOp (.slice (some ⟨b, 0, none⟩) 1 1) [o] := RD.block (l := [o]) h (by simp) (by simp [maxLen])
end
theorem ans1_idle (p : Addr) (w : World) :
  CallsD Tryz.prog 34 #[.pointer (some p)] .returning w fun e u' w' => e = .returned (.tuple #[]) /\ u' = .returning /\ w' = w := by
 refine callsD_of_wpS Tryz.func34 rfl fun c₀ cs hu => ?_
 apply wpS_seq
 apply wpS_region
 simp [wpOpsS, go_sem, recoverD, hu, Tryz.ntmps34, Exit.thenS]
 refine wpS_of_wp ?_
 simp only [Array.replicate]
 go_wp2
 cases c₀
 simp_all [bodyPostS, results, Tryz.results34]
theorem bs_app (a b : By) : bs a ++ bs b = bs (a ++ b) := by
 apply ByteArray.ext
 simp [bs]
theorem bs_size (a : By) : (bs a).size = a.length := by rw [Lib.size_eq]; rfl
def errB (k : Int) : By := [101, 114, 114, 111, 114, 32] ++ Lib.itoa k
theorem ans1_slip (p : Addr) (k : Int) (x : Value) (w : World) (hk : -9223372036854775808 <= k /\ k <= 9223372036854775807) (hc : w.cell? p = some x) (hz : w.frozen? p = false) (ht : T10 w) :
  CallsD Tryz.prog 34 #[.pointer (some p)] (.panicking [{ v := .iface 63 (.agg #[.int .i64 k]), recovered := false }]) w fun e u' w' =>
   e = .returned (.tuple #[]) /\ u' = .panicking [{ v := .iface 63 (.agg #[.int .i64 k]), recovered := true }] /\ ∃ w1, Kp w w1 /\ w' = w1.setCell p (.string (bs (errB k))) := by
 have hta : ∀ W, (Instr.typeAssert (.iface 63 (.agg #[.int .i64 k])) 20 63 true).run Tryz.prog W = .ok (.tuple #[.agg #[.int .i64 k], .bool true]) W := fun _ => by kernel_rfl
 have HT := hide ht
 clear ht
 refine callsD_of_wpS Tryz.func34 rfl fun c₀ cs hu => ?_
 apply wpS_seq
 apply wpS_region
 simp [wpOpsS, go_sem, recoverD, hu, Tryz.ntmps34, Exit.thenS]
 refine wpS_of_wp ?_
 simp only [Array.replicate]
 have HU := hide hu
 clear hu
 go_wp2_with fail
 refine (itoa_any k hk.1 hk.2 _ (HT.out.kp (Kp.refl w).alloc)).mono ?_
 rintro e w1 ⟨rfl, hk1⟩
 have hkw : Kp w w1 := ((Kp.refl w).alloc).trans hk1
 have z1 : w1.frozen? p = false := by rw [hkw.frozen (World.block_lt_of_cell? _ _ hc)]; exact hz
 have hc1 := hkw.cell hc
 clear hc hz
 have hlen := Lib.itoa_length_le k hk.1 hk.2
 obtain ⟨il, hil⟩ : ∃ il, Lib.itoa k = il := ⟨_, rfl⟩
 rw [hil] at hlen
 have HIL := hide hil
 rw [hil]
 clear hil hk
 have hb6 : ¬ (9223372036854775807 < 6 + ((bs il).size : Int)) := by rw [bs_size]; omega
 clear hlen
 go_wp2
 refine ⟨rfl, _, rfl, .tuple #[], by simp [results, Tryz.results34], rfl, rfl, w1, hkw, ?_⟩
 rw [show errB k = [101, 114, 114, 111, 114, 32] ++ il by rw [errB, HIL.out], <- bs_app]
 rfl
end Go.Proofs.YtcljlnagpjilaaaGreatDoor
