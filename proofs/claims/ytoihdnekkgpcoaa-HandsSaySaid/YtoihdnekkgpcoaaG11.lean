/-
  The bench of the document in memory: beads, hands, what is done; what each write leaves. Conditions: as each theorem says.
  A region with two stores, of which the second hits a cell that the region reads: who comes ahead of whom (JC). No program. Conditions: none.
  The small methods of the document's bench: again, on, free, clean. Conditions: the bench lies as BQ says.
  The document's bench: a bead is put between two. Conditions: the bench lies as BQ says.
  The document's hand that goes hand over hand: a step of it. Conditions: the bench lies as BQ says.
-/
import Derived.Test.YtoihdnekkgpcoaaG10
import Derived.Test.YtoihdnekkgpcoaaG8
import Derived.Test.YtoihdnekkgpcoaaG5
import Derived.Test.YtoihdnekkgpcoaaG4
import Derived.Test.YtoihdnekkgpcoaaG9
import Derived.StillTailTactics
import Derived.Deep.DeepCutAuto

namespace Go.Proofs.Ytoihdnekkgpcoaa
open Go.ChangeShapes Go.WideShapes Go.ChangeAt Go.RowKit
set_option linter.unusedVariables false
set_option linter.unusedSimpArgs false

abbrev Bd := Int × Int × Bool × Bool
def eBead : Enc Bd := ⟨4, fun x => [.int .i64 x.1, .int .i64 x.2.1, .bool x.2.2.1, .bool x.2.2.2], fun _ => rfl, fun _ u h => by simp at h; rcases h with rfl | rfl | rfl | rfl <;> rfl⟩
abbrev Hs := Nat × Hd
def eHs : Enc Hs := ⟨5, fun x => [.int .i64 x.1, .int .i64 x.2.plc, .int .i64 x.2.p, .int .i64 x.2.c, .bool x.2.is], fun _ => rfl, fun _ u h => by simp at h; rcases h with rfl | rfl | rfl | rfl | rfl <;> rfl⟩
def nxt (m : Mm) (i : Nat) : Int := if m.ky i = 10 then -1 else (m.nx i : Int)
def beadL (m : Mm) : List Bd := (List.range m.n).map fun i => (m.ky i, nxt m i, m.mr i, m.lk i)
def handL (s : St) (nh : Nat) : List Hs := (List.range nh).map fun i => (s.deed i, s.hd i)
/-- Where all lies: the bench's block, the hands' block. -/
structure Bl where
  w0 : World
  b : Nat
  hg : Nat
  nh : Nat
  alg : Nat
  pv : Value
  ex : Nat → TypeId → List Value → Prop
def okBT (t : TypeId) : Prop := t ≠ 68 ∧ t ≠ 65 ∧ t ≠ 79 ∧ t ≠ 35
structure BQ (K : Bl) (s : St) (dl : List Tl) (bg bc : Nat) (dv : Value) (w : World) : Prop where
  kp : Kp K.w0 w
  b0 : K.w0.heap.size ≤ K.b
  h0 : K.w0.heap.size ≤ K.hg
  n0 : 0 < s.m.n
  bb : BC w K.b 68 [.int .i64 K.alg, .slice (some ⟨bg, 0, none⟩) s.m.n bc, .slice (some ⟨K.hg, 0, none⟩) K.nh K.nh, K.pv, .int .i64 s.now, dv]
  bd : OW w K.w0.heap.size 65 eBead (.slice (some ⟨bg, 0, none⟩) s.m.n bc) (beadL s.m)
  dn : OW w K.w0.heap.size 35 eDone dv dl
  hs : BC w K.hg 79 ((handL s K.nh).flatMap eHs.cells)
  ex : ∀ b t c, K.ex b t c → BC w b t c ∧ okBT t
def BN (K : Bl) (s : St) (dl : List Tl) (w : World) : Prop := ∃ bg bc dv, BQ K s dl bg bc dv w
variable {K : Bl} {s : St} {dl : List Tl} {bg bc : Nat} {dv : Value} {w w' : World}
theorem beadL_len (m : Mm) : (beadL m).length = m.n := by simp [beadL]
theorem beadL_get (m : Mm) {i : Nat} (h : i < m.n) : (beadL m)[i]'(by rw [beadL_len]; exact h) = (m.ky i, nxt m i, m.mr i, m.lk i) := by simp [beadL]
theorem handL_len (s : St) (n : Nat) : (handL s n).length = n := by simp [handL]
theorem handL_get (s : St) (n : Nat) {i : Nat} (h : i < n) : (handL s n)[i]'(by rw [handL_len]; exact h) = (s.deed i, s.hd i) := by simp [handL]
theorem BQ.kpw (h : BQ K s dl bg bc dv w) (k : Kp w w') : BQ K s dl bg bc dv w' := ⟨h.kp.trans k, h.b0, h.h0, h.n0, h.bb.kp k, h.bd.kp k, h.dn.kp k, h.hs.kp k, fun b t c e => ⟨(h.ex b t c e).1.kp k, (h.ex b t c e).2⟩⟩
theorem BN.kpw (h : BN K s dl w) (k : Kp w w') : BN K s dl w' := by
  obtain ⟨a, b, c, h⟩ := h
  exact ⟨a, b, c, h.kpw k⟩
/-- One more block that stands. -/
def Bl.add (K : Bl) (D : Nat) (t : TypeId) (c : List Value) : Bl := { K with ex := fun b t' c' => K.ex b t' c' ∨ (b = D ∧ t' = t ∧ c' = c) }
theorem BQ.add (h : BQ K s dl bg bc dv w) {D : Nat} {t : TypeId} {c : List Value} (hD : BC w D t c) (ht : okBT t) : BQ (K.add D t c) s dl bg bc dv w :=
  ⟨h.kp, h.b0, h.h0, h.n0, h.bb, h.bd, h.dn, h.hs, fun b t c e => by
    rcases e with e | ⟨rfl, rfl, rfl⟩
    · exact h.ex b t c e
    · exact ⟨hD, ht⟩⟩
theorem BQ.less {D : Nat} {t : TypeId} {c : List Value} (h : BQ (K.add D t c) s dl bg bc dv w) : BQ K s dl bg bc dv w := ⟨h.kp, h.b0, h.h0, h.n0, h.bb, h.bd, h.dn, h.hs, fun b t c e => h.ex b t c (.inl e)⟩
theorem BQ.added {D : Nat} {t : TypeId} {c : List Value} (h : BQ (K.add D t c) s dl bg bc dv w) : BC w D t c := (h.ex D t c (.inr ⟨rfl, rfl, rfl⟩)).1
theorem BN.less {D : Nat} {t : TypeId} {c : List Value} (h : BN (K.add D t c) s dl w) : BN K s dl w := by
  obtain ⟨a, b, c, h⟩ := h
  exact ⟨a, b, c, h.less⟩
theorem list_set_ext {α : Type} (n : Nat) (f g : Nat → α) (i : Nat) (x : α) (hi : i < n) (h1 : g i = x) (h2 : ∀ j, j < n → j ≠ i → g j = f j) : ((List.range n).map f).set i x = (List.range n).map g := by
  apply List.ext_getElem?
  intro j
  simp only [List.getElem?_set, List.getElem?_map, List.length_map, List.length_range]
  by_cases e : i = j
  · subst e; simp [hi, h1]
  · by_cases hj : j < n
    · simp [e, hj, h2 j hj (fun x => e x.symm)]
    · simp [e, hj]
theorem BQ.bgB (h : BQ K s dl bg bc dv w) : ∃ cur, BC w bg 65 cur ∧ K.w0.heap.size ≤ bg := by
  obtain ⟨cur, h1, h2, _⟩ := BK.of_ow h.bd
  exact ⟨cur, h1, h2⟩
theorem BQ.ne1 (h : BQ K s dl bg bc dv w) : ¬ K.b = bg := by obtain ⟨_, h1, _⟩ := h.bgB; exact BC.ne h.bb h1 (by decide)
theorem BQ.ne2 (h : BQ K s dl bg bc dv w) : ¬ K.hg = bg := by obtain ⟨_, h1, _⟩ := h.bgB; exact BC.ne h.hs h1 (by decide)
theorem BQ.ne3 (h : BQ K s dl bg bc dv w) : ¬ K.b = K.hg := BC.ne h.bb h.hs (by decide)
/-- The cells of a bead. -/
theorem BQ.bead (h : BQ K s dl bg bc dv w) {i : Nat} (hi : i < s.m.n) : w.cell? ⟨bg, i * 4, none⟩ = some (.int .i64 (s.m.ky i)) ∧ w.cell? ⟨bg, i * 4 + 1, none⟩ = some (.int .i64 (nxt s.m i)) ∧ w.cell? ⟨bg, i * 4 + 2, none⟩ = some (.bool (s.m.mr i)) ∧ w.cell? ⟨bg, i * 4 + 3, none⟩ = some (.bool (s.m.lk i)) ∧ (∀ k, w.frozen? ⟨bg, k, none⟩ = false) := by
  have hi' : i < (beadL s.m).length := by rw [beadL_len]; exact hi
  obtain ⟨x0, _⟩ := h.bd.cellAt i hi' 0 (by decide)
  obtain ⟨x1, _⟩ := h.bd.cellAt i hi' 1 (by decide)
  obtain ⟨x2, _⟩ := h.bd.cellAt i hi' 2 (by decide)
  obtain ⟨x3, _⟩ := h.bd.cellAt i hi' 3 (by decide)
  rw [beadL_get _ hi] at x0 x1 x2 x3
  obtain ⟨cur, hb, _⟩ := h.bgB
  exact ⟨x0, x1, x2, x3, fun k => hb.frozen k⟩
/-- The cells of a hand. -/
theorem BQ.hand (h : BQ K s dl bg bc dv w) {i : Nat} (hi : i < K.nh) : w.cell? ⟨K.hg, i * 5, none⟩ = some (.int .i64 (s.deed i)) ∧ w.cell? ⟨K.hg, i * 5 + 1, none⟩ = some (.int .i64 (s.hd i).plc) ∧ w.cell? ⟨K.hg, i * 5 + 2, none⟩ = some (.int .i64 (s.hd i).p) ∧
    w.cell? ⟨K.hg, i * 5 + 3, none⟩ = some (.int .i64 (s.hd i).c) ∧ w.cell? ⟨K.hg, i * 5 + 4, none⟩ = some (.bool (s.hd i).is) ∧ (∀ k, w.frozen? ⟨K.hg, k, none⟩ = false) := by
  have key : ∀ j, j < 5 → w.cell? ⟨K.hg, i * 5 + j, none⟩ = (eHs.cells (s.deed i, s.hd i))[j]? := fun j hj => by
    rw [h.hs.cell]
    have := flat_at eHs (handL s K.nh) i (by rw [handL_len]; exact hi) j hj
    rw [handL_get _ _ hi] at this
    exact this
  exact ⟨key 0 (by decide), key 1 (by decide), key 2 (by decide), key 3 (by decide), key 4 (by decide), fun k => h.hs.frozen k⟩
/-- A write to a bead. -/
theorem BQ.setb (h : BQ K s dl bg bc dv w) {i : Nat} (hi : i < s.m.n) (j : Nat) (hj : j < 4) (v : Value) (m' : Mm) (en : m'.n = s.m.n) (er : (eBead.cells (s.m.ky i, nxt s.m i, s.m.mr i, s.m.lk i)).set j v = eBead.cells (m'.ky i, nxt m' i, m'.mr i, m'.lk i))
    (eo : ∀ k, k < s.m.n → k ≠ i → m'.ky k = s.m.ky k ∧ nxt m' k = nxt s.m k ∧ m'.mr k = s.m.mr k ∧ m'.lk k = s.m.lk k) : BQ K { s with m := m' } dl bg bc dv (w.setCell ⟨bg, i * 4 + j, none⟩ v) := by
  have hi' : i < (beadL s.m).length := by rw [beadL_len]; exact hi
  obtain ⟨cur, hb, hB⟩ := h.bgB
  have h1 := h.bd.setAt i hi' j hj v (m'.ky i, nxt m' i, m'.mr i, m'.lk i) (by rw [beadL_get _ hi]; exact er)
  have e : (beadL s.m).set i (m'.ky i, nxt m' i, m'.mr i, m'.lk i) = beadL m' := by
    unfold beadL
    rw [en]
    exact list_set_ext s.m.n _ _ i _ hi rfl (fun k hk hne => by obtain ⟨a, b, c, d⟩ := eo k hk hne; simp only [a, b, c, d])
  rw [e] at h1
  refine ⟨h.kp.setR (by simpa using hB), h.b0, h.h0, by show 0 < m'.n; rw [en]; exact h.n0, ?_, ?_, ?_, ?_, fun b t c e => ⟨(h.ex b t c e).1.far (BC.ne (h.ex b t c e).1 hb (h.ex b t c e).2.2.1), (h.ex b t c e).2⟩⟩
  · show BC _ _ _ [_, .slice _ m'.n bc, _, _, _, _]
    rw [en]; exact h.bb.far h.ne1
  · show OW _ _ _ _ (.slice _ m'.n bc) _
    rw [en]; exact h1
  · exact h.dn.setCell (OW.bc_ne h.dn hb (by decide)) _
  · exact h.hs.far h.ne2
/-- A write to a hand. -/
theorem BQ.seth (h : BQ K s dl bg bc dv w) {i : Nat} (hi : i < K.nh) (j : Nat) (hj : j < 5) (v : Value) (hd' : Nat → Hd) (deed' : Nat → Nat) (er : (eHs.cells (s.deed i, s.hd i)).set j v = eHs.cells (deed' i, hd' i)) (eo : ∀ k, k ≠ i → deed' k = s.deed k ∧ hd' k = s.hd k) :
    BQ K { s with hd := hd', deed := deed' } dl bg bc dv (w.setCell ⟨K.hg, i * 5 + j, none⟩ v) := by
  have hi' : i < (handL s K.nh).length := by rw [handL_len]; exact hi
  obtain ⟨cur, hb, hB⟩ := h.bgB
  have h1 := h.hs.set (j := i * 5 + j) (u := v)
  have e1 := flat_set_one eHs (deed' i, hd' i) j v (handL s K.nh) i hi' hj (by rw [handL_get _ _ hi]; exact er)
  have e2 : (handL s K.nh).set i (deed' i, hd' i) = handL { s with hd := hd', deed := deed' } K.nh := by
    unfold handL
    exact list_set_ext K.nh _ _ i _ hi rfl (fun k hk hne => by obtain ⟨a, b⟩ := eo k hne; simp only [a, b])
  have e3 : ((handL s K.nh).flatMap eHs.cells).set (i * 5 + j) v = (handL { s with hd := hd', deed := deed' } K.nh).flatMap eHs.cells := by rw [← e2]; exact e1
  rw [e3] at h1
  refine ⟨h.kp.setR (by simpa using h.h0), h.b0, h.h0, h.n0, h.bb.far h.ne3, ?_, ?_, h1, fun b t c e => ⟨(h.ex b t c e).1.far (BC.ne (h.ex b t c e).1 h.hs (h.ex b t c e).2.2.2.1), (h.ex b t c e).2⟩⟩
  · exact h.bd.setCell (p := ⟨K.hg, i * 5 + j, none⟩) (fun e => h.ne2 (by simp [Value.ownBlock] at e; exact e.symm)) _
  · exact h.dn.setCell (OW.bc_ne h.dn h.hs (by decide)) _
-- the writes that occur
theorem BQ.setlk (h : BQ K s dl bg bc dv w) {i : Nat} (hi : i < s.m.n) (x : Bool) : BQ K { s with m := { s.m with lk := up s.m.lk i x } } dl bg bc dv (w.setCell ⟨bg, i * 4 + 3, none⟩ (.bool x)) :=
  h.setb hi 3 (by decide) _ _ rfl (by show [_, _, _, _] = [_, _, _, Value.bool (up s.m.lk i x i)]; rw [up_same]; rfl) (fun k _ hne => ⟨rfl, rfl, rfl, up_ne _ _ hne⟩)
theorem BQ.setmr (h : BQ K s dl bg bc dv w) {i : Nat} (hi : i < s.m.n) : BQ K { s with m := s.m.mark i } dl bg bc dv (w.setCell ⟨bg, i * 4 + 2, none⟩ (.bool true)) :=
  h.setb hi 2 (by decide) _ _ rfl (by show [_, _, _, _] = [_, _, Value.bool (up s.m.mr i true i), _]; rw [up_same]; rfl) (fun k _ hne => ⟨rfl, rfl, up_ne _ _ hne, rfl⟩)
theorem BQ.setnx (h : BQ K s dl bg bc dv w) {i c : Nat} (hi : i < s.m.n) (hk : s.m.ky i ≠ 10) : BQ K { s with m := { s.m with nx := up s.m.nx i c } } dl bg bc dv (w.setCell ⟨bg, i * 4 + 1, none⟩ (.int .i64 c)) := by
  refine h.setb hi 1 (by decide) _ _ rfl ?_ (fun k _ hne => ⟨rfl, ?_, rfl, rfl⟩)
  · show [_, _, _, _] = [_, Value.int .i64 (if s.m.ky i = 10 then -1 else ((up s.m.nx i c i : Nat) : Int)), _, _]
    rw [if_neg hk, up_same]
  · show (if s.m.ky k = 10 then -1 else ((up s.m.nx i c k : Nat) : Int)) = if s.m.ky k = 10 then -1 else ((s.m.nx k : Nat) : Int)
    rw [up_ne _ _ hne]
theorem BQ.setat (h : BQ K s dl bg bc dv w) {i : Nat} (hi : i < K.nh) (q : Nat) : BQ K { s with hd := up s.hd i { s.hd i with plc := q } } dl bg bc dv (w.setCell ⟨K.hg, i * 5 + 1, none⟩ (.int .i64 q)) :=
  h.seth hi 1 (by decide) _ _ s.deed (by rw [up_same]; rfl) (fun k hne => ⟨rfl, up_ne _ _ hne⟩)
theorem BQ.setp (h : BQ K s dl bg bc dv w) {i : Nat} (hi : i < K.nh) (q : Nat) : BQ K { s with hd := up s.hd i { s.hd i with p := q } } dl bg bc dv (w.setCell ⟨K.hg, i * 5 + 2, none⟩ (.int .i64 q)) :=
  h.seth hi 2 (by decide) _ _ s.deed (by rw [up_same]; rfl) (fun k hne => ⟨rfl, up_ne _ _ hne⟩)
theorem BQ.setc (h : BQ K s dl bg bc dv w) {i : Nat} (hi : i < K.nh) (q : Nat) : BQ K { s with hd := up s.hd i { s.hd i with c := q } } dl bg bc dv (w.setCell ⟨K.hg, i * 5 + 3, none⟩ (.int .i64 q)) :=
  h.seth hi 3 (by decide) _ _ s.deed (by rw [up_same]; rfl) (fun k hne => ⟨rfl, up_ne _ _ hne⟩)
theorem BQ.setis (h : BQ K s dl bg bc dv w) {i : Nat} (hi : i < K.nh) (x : Bool) : BQ K { s with hd := up s.hd i { s.hd i with is := x } } dl bg bc dv (w.setCell ⟨K.hg, i * 5 + 4, none⟩ (.bool x)) :=
  h.seth hi 4 (by decide) _ _ s.deed (by rw [up_same]; rfl) (fun k hne => ⟨rfl, up_ne _ _ hne⟩)
end Go.Proofs.Ytoihdnekkgpcoaa
namespace Go.Proofs.Ytoihdnekkgpcoaa
open Go
set_option linter.unusedVariables false
set_option linter.unusedSimpArgs false

def Cl (ch : List (Nat × Nat)) (L : Array Bool) : Prop := ∀ y ∈ ch, L.getD y.1 true = true → L.getD y.2 true = true
def pth (ch : List (Nat × Nat)) : Nat → List Nat → Bool
  | _, [] => true
  | a, b :: t => ch.contains (a, b) && pth ch b t
def lst (a : Nat) : List Nat → Nat
  | [] => a
  | b :: t => lst b t
theorem Cl.path {ch : List (Nat × Nat)} {L : Array Bool} (h : Cl ch L) : ∀ (l : List Nat) (a : Nat), pth ch a l = true → L.getD a true = true → L.getD (lst a l) true = true
  | [], a, _, e => e
  | b :: t, a, p, e => by
    rw [pth, Bool.and_eq_true] at p
    exact h.path t b p.2 (h (a, b) (List.contains_iff_mem.1 p.1) e)
theorem getD_set_or {L : Array Bool} {i j : Nat} (h : (L.setIfInBounds i true).getD j true = true) : j = i ∨ L.getD j true = true := by
  by_cases e : j = i
  · exact .inl e
  · right
    rw [getD_set_ne (fun x => e x.symm)] at h
    exact h
theorem getD_set_mono {L : Array Bool} {i j : Nat} (h : L.getD j true = true) : (L.setIfInBounds i true).getD j true = true := by
  by_cases e : i = j
  · subst e; exact getD_set_self
  · rw [getD_set_ne e]; exact h
theorem Cl.go {ch : List (Nat × Nat)} {L : Array Bool} {i : Nat} (h : Cl ch L) (hc : ∀ y ∈ ch, y.1 = i → L.getD y.2 true = true) : Cl ch (L.setIfInBounds i true) := by
  intro y hy e
  rcases getD_set_or e with e1 | e1
  · exact getD_set_mono (hc y hy e1)
  · exact getD_set_mono (h y hy e1)
def JC (ch : List (Nat × Nat)) (W0 W1 W2 : World) (s1 s2 : Nat) (L : Array Bool) (w : World) : Prop := JN W0 W1 W2 s1 s2 L w ∧ Cl ch L
section
variable {ch : List (Nat × Nat)} {W0 W1 W2 w : World} {s1 s2 i : Nat} {L : Array Bool}
theorem JC.go (h : JC ch W0 W1 W2 s1 s2 L w) (hc : ∀ y ∈ ch, y.1 = i → L.getD y.2 true = true) (h1 : i ≠ s1) (h2 : i ≠ s2) : JC ch W0 W1 W2 s1 s2 (L.setIfInBounds i true) w := ⟨h.1.go h1 h2, h.2.go hc⟩
theorem JC.cell (h : JC ch W0 W1 W2 s1 s2 L w) {p : Addr} {v : Value} (c : W0.cell? p = some v ∧ W1.cell? p = some v ∧ W2.cell? p = some v) : w.cell? p = some v := h.1.cell c
/-- A cell that the second store hits, read ahead of it. -/
theorem JC.early (h : JC ch W0 W1 W2 s1 s2 L w) (l : List Nat) (hp : pth ch s2 l = true) (hl : L.getD (lst s2 l) true = false) {p : Addr} {v : Value} (c : W0.cell? p = some v ∧ W1.cell? p = some v) : w.cell? p = some v := by
  rcases h.1 with ⟨a, b, n, rfl⟩ | ⟨a, b, n, rfl⟩ | ⟨a, b, n, rfl⟩
  · exact c.1
  · exact c.2
  · rw [h.2.path l s2 hp b] at hl; cases hl
theorem JC.st1 (h : JC ch W0 W1 W2 s1 s2 L w) (hc : ∀ y ∈ ch, y.1 = s1 → L.getD y.2 true = true) (hl : L.getD s1 true = false) (hn : s1 ≠ s2) {p : Addr} {v : Value} (e : W1 = W0.setCell p v) : (∃ n, w = W0.drewN n) ∧ JC ch W0 W1 W2 s1 s2 (L.setIfInBounds s1 true) (w.setCell p v) :=
  ⟨(h.1.st1 hl hn e).1, (h.1.st1 hl hn e).2, h.2.go hc⟩
theorem JC.st2 (h : JC ch W0 W1 W2 s1 s2 L w) (hc : ∀ y ∈ ch, y.1 = s2 → L.getD y.2 true = true) (hl : L.getD s2 true = false) (a2 : L.getD s1 true = true) {p : Addr} {v : Value} (e : W2 = W1.setCell p v) : (∃ n, w = W1.drewN n) ∧ JC ch W0 W1 W2 s1 s2 (L.setIfInBounds s2 true) (w.setCell p v) :=
  ⟨(h.1.st2 hl a2 e).1, (h.1.st2 hl a2 e).2, h.2.go hc⟩
theorem JC.start {n : Nat} (h1 : s1 < n) (h2 : s2 < n) (hc : ∀ y ∈ ch, y.1 < n) : JC ch W0 W1 W2 s1 s2 (Array.replicate n false) W0 :=
  ⟨JN.start h1 h2, fun y hy e => by simp [Array.getD, hc y hy] at e⟩
theorem JC.done {n : Nat} (h : JC ch W0 W1 W2 s1 s2 (Array.replicate n true) w) (h1 : s1 < n) (h2 : s2 < n) : ∃ n, w = W2.drewN n := h.1.done h1 h2
end
end Go.Proofs.Ytoihdnekkgpcoaa
namespace Go.Proofs.Ytoihdnekkgpcoaa
open Go.ChangeShapes Go.WideShapes Go.ChangeAt Go.RowKit
set_option linter.unusedVariables false
set_option linter.unusedSimpArgs false

variable {K : Bl} {s : St} {dl : List Tl} {bg bc : Nat} {dv : Value} {w w' : World}
def hp5 (K : Bl) (i : Nat) : Value := .pointer (some ⟨K.hg, i * 5, none⟩)
set_option maxRecDepth 100000 in
theorem again_b (h : BQ K s dl bg bc dv w) {i : Nat} (hi : i < K.nh) (h0 : s.m.ky 0 ≠ 10) : Calls Try.prog 58 #[ptr K.b, hp5 K i] w (fun e w' => e = .returned (.tuple #[]) ∧ BQ K { s with hd := up s.hd i ((s.hd i).again s.m) } dl bg bc dv w') := by
  have hb := (h.bb.cell 1).trans rfl
  obtain ⟨-, b1, -⟩ := h.bead h.n0
  obtain ⟨-, c1, c2, c3, -, fz⟩ := h.hand hi
  have HW : Hid (BQ K { s with hd := up s.hd i ((s.hd i).again s.m) } dl bg bc dv (((w.setCell ⟨K.hg, i * 5 + 2, none⟩ (.int .i64 0)).setCell ⟨K.hg, i * 5 + 3, none⟩ (.int .i64 (s.m.nx 0))).setCell ⟨K.hg, i * 5 + 1, none⟩ (.int .i64 1))) := by
    have h1 := ((h.setp hi 0).setc hi (s.m.nx 0)).setat hi 1
    refine hide ?_
    have e : (({ s with hd := up s.hd i ((s.hd i).again s.m) } : St)) = { s with hd := up (up (up s.hd i { s.hd i with p := 0 }) i { up s.hd i { s.hd i with p := 0 } i with c := s.m.nx 0 }) i { up (up s.hd i { s.hd i with p := 0 }) i { up s.hd i { s.hd i with p := 0 } i with c := s.m.nx 0 } i with plc := 1 } } := by
      simp only [up_same, up_up]; rfl
    rw [e]; exact h1
  rw [show nxt s.m 0 = (s.m.nx 0 : Int) from if_neg h0] at b1
  have n1 := h.ne1
  have n2 := h.ne2
  have n3 := h.ne3
  have f1 := fz (i * 5 + 1); have f2 := fz (i * 5 + 2); have f3 := fz (i * 5 + 3)
  have hn := h.n0
  obtain ⟨R, hR⟩ : ∃ R, R = BQ K { s with hd := up s.hd i ((s.hd i).again s.m) } dl bg bc dv := ⟨_, rfl⟩
  rw [← hR] at HW ⊢
  obtain ⟨b, hb'⟩ : ∃ b, b = K.b := ⟨_, rfl⟩
  obtain ⟨hg, hh'⟩ : ∃ b, b = K.hg := ⟨_, rfl⟩
  obtain ⟨n, hn'⟩ : ∃ b, b = s.m.n := ⟨_, rfl⟩
  obtain ⟨x, hx'⟩ : ∃ b, b = s.m.nx 0 := ⟨_, rfl⟩
  obtain ⟨z1, hz1⟩ : ∃ b, b = (s.hd i).plc := ⟨_, rfl⟩
  obtain ⟨z2, hz2⟩ : ∃ b, b = (s.hd i).p := ⟨_, rfl⟩
  obtain ⟨z3, hz3⟩ : ∃ b, b = (s.hd i).c := ⟨_, rfl⟩
  unfold hp5 ptr
  rw [← hb'] at hb n1 n3 ⊢
  rw [← hh'] at c1 c2 c3 f1 f2 f3 n2 n3 HW ⊢
  rw [← hn'] at hb hn
  rw [← hx'] at b1 HW
  rw [← hz1] at c1
  rw [← hz2] at c2
  rw [← hz3] at c3
  obtain ⟨o5, ho5⟩ : ∃ b, b = i * 5 := ⟨_, rfl⟩
  rw [← ho5] at c1 c2 c3 f1 f2 f3 HW ⊢
  clear h hi h0 hR hb' hh' hn' hx' ho5 fz hz1 hz2 hz3
  go_enter Try.func58, Try.ntmps58
  go_wp2
  all_goals exact bodyPost_end (v := .tuple #[]) (by simp [results, Try.results58, go_sem]) rfl ⟨rfl, HW.out⟩
def chC : List (Nat × Nat) := [(22, 5), (22, 13)]
set_option maxRecDepth 100000 in
theorem on_b (h : BQ K s dl bg bc dv w) {i : Nat} (hi : i < K.nh) (hcn : (s.hd i).c < s.m.n) (h0 : s.m.ky (s.hd i).c ≠ 10) : Calls Try.prog 59 #[ptr K.b, hp5 K i] w (fun e w' => e = .returned (.tuple #[]) ∧ BQ K { s with hd := up s.hd i ((s.hd i).on s.m) } dl bg bc dv w') := by
  have hb := (h.bb.cell 1).trans rfl
  obtain ⟨-, b1, -⟩ := h.bead hcn
  obtain ⟨-, -, c2, c3, -, fz⟩ := h.hand hi
  have HW : Hid (∀ m, BQ K { s with hd := up s.hd i ((s.hd i).on s.m) } dl bg bc dv (((w.drew.setCell ⟨K.hg, i * 5 + 2, none⟩ (.int .i64 (s.hd i).c)).setCell ⟨K.hg, i * 5 + 3, none⟩ (.int .i64 (s.m.nx (s.hd i).c))).drewN m)) := by
    refine hide fun m => BQ.kpw ?_ ((Kp.refl _).drewN)
    have h1 := ((h.kpw ((Kp.refl w).drew)).setp hi (s.hd i).c).setc hi (s.m.nx (s.hd i).c)
    have e : (({ s with hd := up s.hd i ((s.hd i).on s.m) } : St)) = { s with hd := up (up s.hd i { s.hd i with p := (s.hd i).c }) i { up s.hd i { s.hd i with p := (s.hd i).c } i with c := s.m.nx (s.hd i).c } } := by
      simp only [up_same, up_up]; rfl
    rw [e]; exact h1
  rw [show nxt s.m (s.hd i).c = (s.m.nx (s.hd i).c : Int) from if_neg h0] at b1
  have n1 := h.ne1
  have n2 := h.ne2
  have n3 := h.ne3
  have f2 := fz (i * 5 + 2); have f3 := fz (i * 5 + 3)
  obtain ⟨R, hR⟩ : ∃ R, R = BQ K { s with hd := up s.hd i ((s.hd i).on s.m) } dl bg bc dv := ⟨_, rfl⟩
  rw [← hR] at HW ⊢
  obtain ⟨b, hb'⟩ : ∃ b, b = K.b := ⟨_, rfl⟩
  obtain ⟨hg, hh'⟩ : ∃ b, b = K.hg := ⟨_, rfl⟩
  obtain ⟨n, hn'⟩ : ∃ b, b = s.m.n := ⟨_, rfl⟩
  obtain ⟨c, hc'⟩ : ∃ b, b = (s.hd i).c := ⟨_, rfl⟩
  rw [← hc'] at hcn b1 c3 HW
  obtain ⟨x, hx'⟩ : ∃ b, b = s.m.nx c := ⟨_, rfl⟩
  obtain ⟨z2, hz2⟩ : ∃ b, b = (s.hd i).p := ⟨_, rfl⟩
  unfold hp5 ptr
  rw [← hb'] at hb n1 n3 ⊢
  rw [← hh'] at c2 c3 f2 f3 n2 n3 HW ⊢
  rw [← hn'] at hb hcn
  rw [← hx'] at b1 HW
  rw [← hz2] at c2
  obtain ⟨o5, ho5⟩ : ∃ b, b = i * 5 := ⟨_, rfl⟩
  rw [← ho5] at c2 c3 f2 f3 HW ⊢
  clear h hi h0 hR hb' hh' hn' hx' ho5 fz hz2 hc'
  go_enter Try.func59, Try.ntmps59
  go_wp2_with fail
  obtain ⟨W0, hW0⟩ : ∃ W0, W0 = w.drew := ⟨_, rfl⟩
  obtain ⟨W1, hW1⟩ : ∃ W1, W1 = W0.setCell ⟨hg, o5 + 2, none⟩ (.int .i64 c) := ⟨_, rfl⟩
  obtain ⟨W2, hW2⟩ : ∃ W2, W2 = W1.setCell ⟨hg, o5 + 3, none⟩ (.int .i64 x) := ⟨_, rfl⟩
  have r4 : ∀ n, R (W2.drewN n) := fun n => by rw [hW2, hW1, hW0]; exact HW.out n
  have C3 : W0.cell? ⟨hg, o5 + 3, none⟩ = some (.int .i64 c) := by rw [hW0]; exact c3
  have C3b : W1.cell? ⟨hg, o5 + 3, none⟩ = some (.int .i64 c) := by rw [hW1, hW0]; simp [go_sem, c3]
  have n4 : ¬ hg = b := fun e => n3 e.symm
  have B1 : W0.cell? ⟨b, 1, none⟩ = some (.slice (some ⟨bg, 0, none⟩) n bc) ∧ W1.cell? ⟨b, 1, none⟩ = some (.slice (some ⟨bg, 0, none⟩) n bc) ∧ W2.cell? ⟨b, 1, none⟩ = some (.slice (some ⟨bg, 0, none⟩) n bc) := by
    rw [hW2, hW1, hW0]; refine ⟨hb, ?_, ?_⟩ <;> simp [go_sem, hb, n3]
  have n5 : ¬ bg = hg := fun e => n2 e.symm
  have D1 : W0.cell? ⟨bg, c * 4 + 1, none⟩ = some (.int .i64 x) ∧ W1.cell? ⟨bg, c * 4 + 1, none⟩ = some (.int .i64 x) ∧ W2.cell? ⟨bg, c * 4 + 1, none⟩ = some (.int .i64 x) := by
    rw [hW2, hW1, hW0]; refine ⟨b1, ?_, ?_⟩ <;> simp [go_sem, b1, n5]
  have S1 : W0.cell? ⟨hg, o5 + 2, none⟩ = some (.int .i64 z2) := by rw [hW0]; exact c2
  have T1 : W0.frozen? ⟨hg, o5 + 2, none⟩ = false := by rw [hW0]; exact f2
  have S2 := C3b
  have T2 : W1.frozen? ⟨hg, o5 + 3, none⟩ = false := by rw [hW1, hW0]; simp [go_sem, f3]
  have HW1 := hide hW1
  have HW2 := hide hW2
  have HW0 := hide hW0
  clear hW1 hW2 hW0
  refine wp_region_tab (by kernel_rfl) [(4, .pointer (some ⟨hg, o5, none⟩)), (5, .pointer (some ⟨hg, o5, none⟩)), (6, .pointer (some ⟨hg, o5, none⟩)), (7, .pointer (some ⟨hg, o5, none⟩)), (8, .pointer (some ⟨hg, o5 + 3, none⟩)), (9, .int .i64 c), (10, .pointer (some ⟨b, 0, none⟩)), (11, .pointer (some ⟨b, 0, none⟩)), (12, .pointer (some ⟨b, 1, none⟩)), (13, .slice (some ⟨bg, 0, none⟩) n bc), (14, .pointer (some ⟨hg, o5, none⟩)), (15, .pointer (some ⟨hg, o5, none⟩)), (16, .pointer (some ⟨hg, o5 + 3, none⟩)), (17, .int .i64 c), (18, .pointer (some ⟨bg, c * 4, none⟩)), (19, .pointer (some ⟨bg, c * 4 + 1, none⟩)), (20, .int .i64 x), (21, .pointer (some ⟨hg, o5, none⟩)), (22, .pointer (some ⟨hg, o5 + 2, none⟩)), (23, .pointer (some ⟨hg, o5, none⟩)), (24, .pointer (some ⟨hg, o5 + 3, none⟩))] (fun _ _ _ => True) (JC chC W0 W1 W2 19 22) (by rw [HW0.out]; exact JC.start (by decide) (by decide) (by decide)) (by kernel_rfl) (by kernel_rfl) ?_ ?_
  · refine ⟨?_, ?_, ?_, ?_, ?_, ?_, ?_, ?_, ?_, ?_, ?_, ?_, ?_, ?_, ?_, ?_, ?_, ?_, ?_, ?_, ?_, ?_, ?_, trivial⟩
    · intro hop L a w5 hs hk hl ha keep know spec
      have h1 := keep 1 (.pointer (some ⟨hg, o5, none⟩)) (by kernel_rfl) rfl
      have hc : ∀ y ∈ chC, y.1 = 0 → L.getD y.2 true = true := fun y hy e => absurd e ((by decide : ∀ y ∈ chC, y.1 ≠ 0) y hy)
      exact wpOp_value hop (wanted_none rfl) (v := .pointer (some ⟨hg, o5, none⟩)) (by simp only [execOp, Act.eval, h1]; rfl) ⟨_, rfl, (hk.go hc (by decide) (by decide)), (fun d hd => by injection hd with hd; subst hd; exact ⟨tab rfl, trivial⟩), fun _ _ h => h⟩
    · intro hop L a w5 hs hk hl ha keep know spec
      have h1 := keep 1 (.pointer (some ⟨hg, o5, none⟩)) (by kernel_rfl) rfl
      have hc : ∀ y ∈ chC, y.1 = 1 → L.getD y.2 true = true := fun y hy e => absurd e ((by decide : ∀ y ∈ chC, y.1 ≠ 1) y hy)
      exact wpOp_value hop (wanted_none rfl) (v := .pointer (some ⟨hg, o5, none⟩)) (by simp only [execOp, Act.eval, h1]; rfl) ⟨_, rfl, (hk.go hc (by decide) (by decide)), (fun d hd => by injection hd with hd; subst hd; exact ⟨tab rfl, trivial⟩), fun _ _ h => h⟩
    · intro hop L a w5 hs hk hl ha keep know spec
      have h1 := keep 1 (.pointer (some ⟨hg, o5, none⟩)) (by kernel_rfl) rfl
      have hc : ∀ y ∈ chC, y.1 = 2 → L.getD y.2 true = true := fun y hy e => absurd e ((by decide : ∀ y ∈ chC, y.1 ≠ 2) y hy)
      exact wpOp_value hop (wanted_none rfl) (v := .pointer (some ⟨hg, o5, none⟩)) (by simp only [execOp, Act.eval, h1]; rfl) ⟨_, rfl, (hk.go hc (by decide) (by decide)), (fun d hd => by injection hd with hd; subst hd; exact ⟨tab rfl, trivial⟩), fun _ _ h => h⟩
    · intro hop L a w5 hs hk hl ha keep know spec
      have h6 := know 6 (.pointer (some ⟨hg, o5, none⟩)) (by kernel_rfl) rfl
      have hc : ∀ y ∈ chC, y.1 = 3 → L.getD y.2 true = true := fun y hy e => absurd e ((by decide : ∀ y ∈ chC, y.1 ≠ 3) y hy)
      exact wpOp_value hop (wanted_none rfl) (v := .pointer (some ⟨hg, o5, none⟩)) (by simp only [execOp, Act.eval, h6]; go_simp) ⟨_, rfl, (hk.go hc (by decide) (by decide)), (fun d hd => by injection hd with hd; subst hd; exact ⟨tab rfl, trivial⟩), fun _ _ h => h⟩
    · intro hop L a w5 hs hk hl ha keep know spec
      have h7 := know 7 (.pointer (some ⟨hg, o5, none⟩)) (by kernel_rfl) rfl
      have hc : ∀ y ∈ chC, y.1 = 4 → L.getD y.2 true = true := fun y hy e => absurd e ((by decide : ∀ y ∈ chC, y.1 ≠ 4) y hy)
      exact wpOp_value hop (wanted_none rfl) (v := .pointer (some ⟨hg, o5 + 3, none⟩)) (by simp only [execOp, Act.eval, h7]; go_simp) ⟨_, rfl, (hk.go hc (by decide) (by decide)), (fun d hd => by injection hd with hd; subst hd; exact ⟨tab rfl, trivial⟩), fun _ _ h => h⟩
    · intro hop L a w5 hs hk hl ha keep know spec
      have h8 := know 8 (.pointer (some ⟨hg, o5 + 3, none⟩)) (by kernel_rfl) rfl
      have hc : ∀ y ∈ chC, y.1 = 5 → L.getD y.2 true = true := fun y hy e => absurd e ((by decide : ∀ y ∈ chC, y.1 ≠ 5) y hy)
      have q := hk.early [5] rfl hl ⟨C3, C3b⟩
      exact wpOp_value hop (wanted_none rfl) (v := .int .i64 c) (by simp only [execOp, Act.eval, h8]; go_simp) ⟨_, rfl, (hk.go hc (by decide) (by decide)), (fun d hd => by injection hd with hd; subst hd; exact ⟨tab rfl, trivial⟩), fun _ _ h => h⟩
    · intro hop L a w5 hs hk hl ha keep know spec
      have h0 := keep 0 (.pointer (some ⟨b, 0, none⟩)) (by kernel_rfl) rfl
      have hc : ∀ y ∈ chC, y.1 = 6 → L.getD y.2 true = true := fun y hy e => absurd e ((by decide : ∀ y ∈ chC, y.1 ≠ 6) y hy)
      exact wpOp_value hop (wanted_none rfl) (v := .pointer (some ⟨b, 0, none⟩)) (by simp only [execOp, Act.eval, h0]; rfl) ⟨_, rfl, (hk.go hc (by decide) (by decide)), (fun d hd => by injection hd with hd; subst hd; exact ⟨tab rfl, trivial⟩), fun _ _ h => h⟩
    · intro hop L a w5 hs hk hl ha keep know spec
      have h10 := know 10 (.pointer (some ⟨b, 0, none⟩)) (by kernel_rfl) rfl
      have hc : ∀ y ∈ chC, y.1 = 7 → L.getD y.2 true = true := fun y hy e => absurd e ((by decide : ∀ y ∈ chC, y.1 ≠ 7) y hy)
      exact wpOp_value hop (wanted_none rfl) (v := .pointer (some ⟨b, 0, none⟩)) (by simp only [execOp, Act.eval, h10]; go_simp) ⟨_, rfl, (hk.go hc (by decide) (by decide)), (fun d hd => by injection hd with hd; subst hd; exact ⟨tab rfl, trivial⟩), fun _ _ h => h⟩
    · intro hop L a w5 hs hk hl ha keep know spec
      have h11 := know 11 (.pointer (some ⟨b, 0, none⟩)) (by kernel_rfl) rfl
      have hc : ∀ y ∈ chC, y.1 = 8 → L.getD y.2 true = true := fun y hy e => absurd e ((by decide : ∀ y ∈ chC, y.1 ≠ 8) y hy)
      exact wpOp_value hop (wanted_none rfl) (v := .pointer (some ⟨b, 1, none⟩)) (by simp only [execOp, Act.eval, h11]; go_simp) ⟨_, rfl, (hk.go hc (by decide) (by decide)), (fun d hd => by injection hd with hd; subst hd; exact ⟨tab rfl, trivial⟩), fun _ _ h => h⟩
    · intro hop L a w5 hs hk hl ha keep know spec
      have h12 := know 12 (.pointer (some ⟨b, 1, none⟩)) (by kernel_rfl) rfl
      have hc : ∀ y ∈ chC, y.1 = 9 → L.getD y.2 true = true := fun y hy e => absurd e ((by decide : ∀ y ∈ chC, y.1 ≠ 9) y hy)
      have q := hk.cell B1
      exact wpOp_value hop (wanted_none rfl) (v := .slice (some ⟨bg, 0, none⟩) n bc) (by simp only [execOp, Act.eval, h12]; go_simp) ⟨_, rfl, (hk.go hc (by decide) (by decide)), (fun d hd => by injection hd with hd; subst hd; exact ⟨tab rfl, trivial⟩), fun _ _ h => h⟩
    · intro hop L a w5 hs hk hl ha keep know spec
      have h1 := keep 1 (.pointer (some ⟨hg, o5, none⟩)) (by kernel_rfl) rfl
      have hc : ∀ y ∈ chC, y.1 = 10 → L.getD y.2 true = true := fun y hy e => absurd e ((by decide : ∀ y ∈ chC, y.1 ≠ 10) y hy)
      exact wpOp_value hop (wanted_none rfl) (v := .pointer (some ⟨hg, o5, none⟩)) (by simp only [execOp, Act.eval, h1]; rfl) ⟨_, rfl, (hk.go hc (by decide) (by decide)), (fun d hd => by injection hd with hd; subst hd; exact ⟨tab rfl, trivial⟩), fun _ _ h => h⟩
    · intro hop L a w5 hs hk hl ha keep know spec
      have h14 := know 14 (.pointer (some ⟨hg, o5, none⟩)) (by kernel_rfl) rfl
      have hc : ∀ y ∈ chC, y.1 = 11 → L.getD y.2 true = true := fun y hy e => absurd e ((by decide : ∀ y ∈ chC, y.1 ≠ 11) y hy)
      exact wpOp_value hop (wanted_none rfl) (v := .pointer (some ⟨hg, o5, none⟩)) (by simp only [execOp, Act.eval, h14]; go_simp) ⟨_, rfl, (hk.go hc (by decide) (by decide)), (fun d hd => by injection hd with hd; subst hd; exact ⟨tab rfl, trivial⟩), fun _ _ h => h⟩
    · intro hop L a w5 hs hk hl ha keep know spec
      have h15 := know 15 (.pointer (some ⟨hg, o5, none⟩)) (by kernel_rfl) rfl
      have hc : ∀ y ∈ chC, y.1 = 12 → L.getD y.2 true = true := fun y hy e => absurd e ((by decide : ∀ y ∈ chC, y.1 ≠ 12) y hy)
      exact wpOp_value hop (wanted_none rfl) (v := .pointer (some ⟨hg, o5 + 3, none⟩)) (by simp only [execOp, Act.eval, h15]; go_simp) ⟨_, rfl, (hk.go hc (by decide) (by decide)), (fun d hd => by injection hd with hd; subst hd; exact ⟨tab rfl, trivial⟩), fun _ _ h => h⟩
    · intro hop L a w5 hs hk hl ha keep know spec
      have h16 := know 16 (.pointer (some ⟨hg, o5 + 3, none⟩)) (by kernel_rfl) rfl
      have hc : ∀ y ∈ chC, y.1 = 13 → L.getD y.2 true = true := fun y hy e => absurd e ((by decide : ∀ y ∈ chC, y.1 ≠ 13) y hy)
      have q := hk.early [13] rfl hl ⟨C3, C3b⟩
      exact wpOp_value hop (wanted_none rfl) (v := .int .i64 c) (by simp only [execOp, Act.eval, h16]; go_simp) ⟨_, rfl, (hk.go hc (by decide) (by decide)), (fun d hd => by injection hd with hd; subst hd; exact ⟨tab rfl, trivial⟩), fun _ _ h => h⟩
    · intro hop L a w5 hs hk hl ha keep know spec
      have h13 := know 13 (.slice (some ⟨bg, 0, none⟩) n bc) (by kernel_rfl) rfl
      have h17 := know 17 (.int .i64 c) (by kernel_rfl) rfl
      have hc : ∀ y ∈ chC, y.1 = 14 → L.getD y.2 true = true := fun y hy e => absurd e ((by decide : ∀ y ∈ chC, y.1 ≠ 14) y hy)
      exact wpOp_value hop (wanted_none rfl) (v := .pointer (some ⟨bg, c * 4, none⟩)) (by simp only [execOp, Act.eval, h13, h17]; go_simp) ⟨_, rfl, (hk.go hc (by decide) (by decide)), (fun d hd => by injection hd with hd; subst hd; exact ⟨tab rfl, trivial⟩), fun _ _ h => h⟩
    · intro hop L a w5 hs hk hl ha keep know spec
      have h18 := know 18 (.pointer (some ⟨bg, c * 4, none⟩)) (by kernel_rfl) rfl
      have hc : ∀ y ∈ chC, y.1 = 15 → L.getD y.2 true = true := fun y hy e => absurd e ((by decide : ∀ y ∈ chC, y.1 ≠ 15) y hy)
      exact wpOp_value hop (wanted_none rfl) (v := .pointer (some ⟨bg, c * 4 + 1, none⟩)) (by simp only [execOp, Act.eval, h18]; go_simp) ⟨_, rfl, (hk.go hc (by decide) (by decide)), (fun d hd => by injection hd with hd; subst hd; exact ⟨tab rfl, trivial⟩), fun _ _ h => h⟩
    · intro hop L a w5 hs hk hl ha keep know spec
      have h19 := know 19 (.pointer (some ⟨bg, c * 4 + 1, none⟩)) (by kernel_rfl) rfl
      have hc : ∀ y ∈ chC, y.1 = 16 → L.getD y.2 true = true := fun y hy e => absurd e ((by decide : ∀ y ∈ chC, y.1 ≠ 16) y hy)
      have q := hk.cell D1
      exact wpOp_value hop (wanted_none rfl) (v := .int .i64 x) (by simp only [execOp, Act.eval, h19]; go_simp) ⟨_, rfl, (hk.go hc (by decide) (by decide)), (fun d hd => by injection hd with hd; subst hd; exact ⟨tab rfl, trivial⟩), fun _ _ h => h⟩
    · intro hop L a w5 hs hk hl ha keep know spec
      have h4 := know 4 (.pointer (some ⟨hg, o5, none⟩)) (by kernel_rfl) rfl
      have hc : ∀ y ∈ chC, y.1 = 17 → L.getD y.2 true = true := fun y hy e => absurd e ((by decide : ∀ y ∈ chC, y.1 ≠ 17) y hy)
      exact wpOp_value hop (wanted_none rfl) (v := .pointer (some ⟨hg, o5, none⟩)) (by simp only [execOp, Act.eval, h4]; go_simp) ⟨_, rfl, (hk.go hc (by decide) (by decide)), (fun d hd => by injection hd with hd; subst hd; exact ⟨tab rfl, trivial⟩), fun _ _ h => h⟩
    · intro hop L a w5 hs hk hl ha keep know spec
      have h21 := know 21 (.pointer (some ⟨hg, o5, none⟩)) (by kernel_rfl) rfl
      have hc : ∀ y ∈ chC, y.1 = 18 → L.getD y.2 true = true := fun y hy e => absurd e ((by decide : ∀ y ∈ chC, y.1 ≠ 18) y hy)
      exact wpOp_value hop (wanted_none rfl) (v := .pointer (some ⟨hg, o5 + 2, none⟩)) (by simp only [execOp, Act.eval, h21]; go_simp) ⟨_, rfl, (hk.go hc (by decide) (by decide)), (fun d hd => by injection hd with hd; subst hd; exact ⟨tab rfl, trivial⟩), fun _ _ h => h⟩
    · intro hop L a w5 hs hk hl ha keep know spec
      have h22 := know 22 (.pointer (some ⟨hg, o5 + 2, none⟩)) (by kernel_rfl) rfl
      have h9 := know 9 (.int .i64 c) (by kernel_rfl) rfl
      have hc : ∀ y ∈ chC, y.1 = 19 → L.getD y.2 true = true := fun y hy e => absurd e ((by decide : ∀ y ∈ chC, y.1 ≠ 19) y hy)
      obtain ⟨⟨n5, e5⟩, hk2⟩ := hk.st1 hc hl (by decide) (p := ⟨hg, o5 + 2, none⟩) (v := .int .i64 c) HW1.out
      have q : w5.cell? ⟨hg, o5 + 2, none⟩ = some _ := (congrArg (fun W : World => W.cell? ⟨hg, o5 + 2, none⟩) e5).trans S1
      have r : w5.frozen? ⟨hg, o5 + 2, none⟩ = false := (congrArg (fun W : World => W.frozen? ⟨hg, o5 + 2, none⟩) e5).trans T1
      exact wpOp_skip hop (wanted_none rfl) (w' := w5.setCell ⟨hg, o5 + 2, none⟩ (.int .i64 c)) (by simp only [execOp, Act.eval, h22, h9]; go_simp) ⟨_, rfl, hk2, (fun d hd => by cases hd), fun _ _ h => h⟩
    · intro hop L a w5 hs hk hl ha keep know spec
      have h5 := know 5 (.pointer (some ⟨hg, o5, none⟩)) (by kernel_rfl) rfl
      have hc : ∀ y ∈ chC, y.1 = 20 → L.getD y.2 true = true := fun y hy e => absurd e ((by decide : ∀ y ∈ chC, y.1 ≠ 20) y hy)
      exact wpOp_value hop (wanted_none rfl) (v := .pointer (some ⟨hg, o5, none⟩)) (by simp only [execOp, Act.eval, h5]; go_simp) ⟨_, rfl, (hk.go hc (by decide) (by decide)), (fun d hd => by injection hd with hd; subst hd; exact ⟨tab rfl, trivial⟩), fun _ _ h => h⟩
    · intro hop L a w5 hs hk hl ha keep know spec
      have h23 := know 23 (.pointer (some ⟨hg, o5, none⟩)) (by kernel_rfl) rfl
      have hc : ∀ y ∈ chC, y.1 = 21 → L.getD y.2 true = true := fun y hy e => absurd e ((by decide : ∀ y ∈ chC, y.1 ≠ 21) y hy)
      exact wpOp_value hop (wanted_none rfl) (v := .pointer (some ⟨hg, o5 + 3, none⟩)) (by simp only [execOp, Act.eval, h23]; go_simp) ⟨_, rfl, (hk.go hc (by decide) (by decide)), (fun d hd => by injection hd with hd; subst hd; exact ⟨tab rfl, trivial⟩), fun _ _ h => h⟩
    · intro hop L a w5 hs hk hl ha keep know spec
      have h24 := know 24 (.pointer (some ⟨hg, o5 + 3, none⟩)) (by kernel_rfl) rfl
      have h20 := know 20 (.int .i64 x) (by kernel_rfl) rfl
      have hc : ∀ y ∈ chC, y.1 = 22 → L.getD y.2 true = true := by
        intro y hy e; simp only [chC, List.mem_cons, List.not_mem_nil, or_false] at hy
        rcases hy with rfl | rfl <;> first | exact absurd e (by decide) | exact after_done ha (k := 5) (by kernel_rfl) | exact after_done ha (k := 13) (by kernel_rfl)
      obtain ⟨⟨n5, e5⟩, hk2⟩ := hk.st2 hc hl (after_done ha (k := 19) (by kernel_rfl)) (p := ⟨hg, o5 + 3, none⟩) (v := .int .i64 x) HW2.out
      have q : w5.cell? ⟨hg, o5 + 3, none⟩ = some _ := (congrArg (fun W : World => W.cell? ⟨hg, o5 + 3, none⟩) e5).trans S2
      have r : w5.frozen? ⟨hg, o5 + 3, none⟩ = false := (congrArg (fun W : World => W.frozen? ⟨hg, o5 + 3, none⟩) e5).trans T2
      exact wpOp_skip hop (wanted_none rfl) (w' := w5.setCell ⟨hg, o5 + 3, none⟩ (.int .i64 x)) (by simp only [execOp, Act.eval, h24, h20]; go_simp) ⟨_, rfl, hk2, (fun d hd => by cases hd), fun _ _ h => h⟩
  · intro a' w7 e1' e2' hk keep know spec
    obtain ⟨tm, df⟩ := a'
    have e3' : df = [] := e1'
    obtain ⟨n7, e6⟩ := hk.done (n := 23) (by decide) (by decide)
    have r5 := r4 n7
    rw [← e6] at r5
    clear keep know spec e1' e2' hk r4 B1 C3 C3b D1 S1 S2 T1 T2 HW0 HW1 HW2 e6 HW
    subst e3'
    go_wp2
    all_goals exact bodyPost_end (v := .tuple #[]) (by simp [results, Try.results59, go_sem]) rfl ⟨rfl, r5⟩
set_option maxRecDepth 100000 in
theorem free_b (h : BQ K s dl bg bc dv w) {i : Nat} (hi : i < K.nh) (hp : (s.hd i).p < s.m.n) (hcn : (s.hd i).c < s.m.n) : Calls Try.prog 60 #[ptr K.b, hp5 K i] w (fun e w' => e = .returned (.tuple #[]) ∧ BQ K { s with m := s.m.free (s.hd i).p (s.hd i).c } dl bg bc dv w') := by
  have hb := (h.bb.cell 1).trans rfl
  obtain ⟨-, -, -, b3, fb⟩ := h.bead hp
  obtain ⟨-, -, -, d3, -⟩ := h.bead hcn
  obtain ⟨-, -, c2, c3, -, -⟩ := h.hand hi
  have HW : Hid (∀ m, BQ K { s with m := s.m.free (s.hd i).p (s.hd i).c } dl bg bc dv (((w.drew.setCell ⟨bg, (s.hd i).p * 4 + 3, none⟩ (.bool false)).setCell ⟨bg, (s.hd i).c * 4 + 3, none⟩ (.bool false)).drewN m)) :=
    hide fun m => BQ.kpw (((h.kpw ((Kp.refl w).drew)).setlk hp false).setlk (i := (s.hd i).c) hcn false) ((Kp.refl _).drewN)
  have n1 := h.ne1
  have n2 := h.ne2
  have n3 := h.ne3
  obtain ⟨y9, hd3⟩ : ∃ y, ((w.drew.setCell ⟨bg, (s.hd i).p * 4 + 3, none⟩ (.bool false)).cell? ⟨bg, (s.hd i).c * 4 + 3, none⟩ = some y) := by
    obtain ⟨-, -, -, x, -⟩ := ((h.kpw ((Kp.refl w).drew)).setlk hp false).bead hcn
    exact ⟨_, x⟩
  obtain ⟨R, hR⟩ : ∃ R, R = BQ K { s with m := s.m.free (s.hd i).p (s.hd i).c } dl bg bc dv := ⟨_, rfl⟩
  rw [← hR] at HW ⊢
  obtain ⟨b, hb'⟩ : ∃ b, b = K.b := ⟨_, rfl⟩
  obtain ⟨hg, hh'⟩ : ∃ b, b = K.hg := ⟨_, rfl⟩
  obtain ⟨n, hn'⟩ : ∃ b, b = s.m.n := ⟨_, rfl⟩
  obtain ⟨c, hc'⟩ : ∃ b, b = (s.hd i).c := ⟨_, rfl⟩
  obtain ⟨p, hp'⟩ : ∃ b, b = (s.hd i).p := ⟨_, rfl⟩
  obtain ⟨y1, hy1⟩ : ∃ b, b = s.m.lk (s.hd i).p := ⟨_, rfl⟩
  obtain ⟨y2, hy2⟩ : ∃ b, b = s.m.lk (s.hd i).c := ⟨_, rfl⟩
  rw [← hy1] at b3
  rw [← hy2] at d3
  rw [← hc'] at hcn d3 c3 HW hd3
  rw [← hp'] at hp b3 c2 HW hd3
  unfold hp5 ptr
  rw [← hb'] at hb n1 n3 ⊢
  rw [← hh'] at c2 c3 n2 n3 ⊢
  rw [← hn'] at hb hcn hp
  obtain ⟨o5, ho5⟩ : ∃ b, b = i * 5 := ⟨_, rfl⟩
  rw [← ho5] at c2 c3 ⊢
  clear h hi hR hb' hh' hn' ho5 hp' hc' hy1 hy2
  go_enter Try.func60, Try.ntmps60
  go_wp2_with fail
  obtain ⟨W0, hW0⟩ : ∃ W0, W0 = w.drew := ⟨_, rfl⟩
  obtain ⟨W1, hW1⟩ : ∃ W1, W1 = W0.setCell ⟨bg, p * 4 + 3, none⟩ (.bool false) := ⟨_, rfl⟩
  obtain ⟨W2, hW2⟩ : ∃ W2, W2 = W1.setCell ⟨bg, c * 4 + 3, none⟩ (.bool false) := ⟨_, rfl⟩
  have r4 : ∀ n, R (W2.drewN n) := fun n => by rw [hW2, hW1, hW0]; exact HW.out n
  have B1 : W0.cell? ⟨b, 1, none⟩ = some (.slice (some ⟨bg, 0, none⟩) n bc) ∧ W1.cell? ⟨b, 1, none⟩ = some (.slice (some ⟨bg, 0, none⟩) n bc) ∧ W2.cell? ⟨b, 1, none⟩ = some (.slice (some ⟨bg, 0, none⟩) n bc) := by
    rw [hW2, hW1, hW0]; refine ⟨hb, ?_, ?_⟩ <;> simp [go_sem, hb, n1]
  have C2 : W0.cell? ⟨hg, o5 + 2, none⟩ = some (.int .i64 p) ∧ W1.cell? ⟨hg, o5 + 2, none⟩ = some (.int .i64 p) ∧ W2.cell? ⟨hg, o5 + 2, none⟩ = some (.int .i64 p) := by
    rw [hW2, hW1, hW0]; refine ⟨c2, ?_, ?_⟩ <;> simp [go_sem, c2, n2]
  have C3 : W0.cell? ⟨hg, o5 + 3, none⟩ = some (.int .i64 c) ∧ W1.cell? ⟨hg, o5 + 3, none⟩ = some (.int .i64 c) ∧ W2.cell? ⟨hg, o5 + 3, none⟩ = some (.int .i64 c) := by
    rw [hW2, hW1, hW0]; refine ⟨c3, ?_, ?_⟩ <;> simp [go_sem, c3, n2]
  have S1 : W0.cell? ⟨bg, p * 4 + 3, none⟩ = some (.bool y1) := by rw [hW0]; exact b3
  have T1 : W0.frozen? ⟨bg, p * 4 + 3, none⟩ = false := by rw [hW0]; exact fb _
  have S2 : W1.cell? ⟨bg, c * 4 + 3, none⟩ = some y9 := by rw [hW1, hW0]; exact hd3
  have T2 : W1.frozen? ⟨bg, c * 4 + 3, none⟩ = false := by rw [hW1, hW0]; simp [go_sem, fb]
  have HW1 := hide hW1
  have HW2 := hide hW2
  have HW0 := hide hW0
  clear hW1 hW2 hW0
  refine wp_region_tab (by kernel_rfl) [(4, .pointer (some ⟨b, 0, none⟩)), (5, .pointer (some ⟨b, 0, none⟩)), (6, .pointer (some ⟨b, 1, none⟩)), (7, .slice (some ⟨bg, 0, none⟩) n bc), (8, .pointer (some ⟨hg, o5, none⟩)), (9, .pointer (some ⟨hg, o5, none⟩)), (10, .pointer (some ⟨hg, o5 + 2, none⟩)), (11, .int .i64 p), (12, .pointer (some ⟨b, 0, none⟩)), (13, .pointer (some ⟨b, 0, none⟩)), (14, .pointer (some ⟨b, 1, none⟩)), (15, .slice (some ⟨bg, 0, none⟩) n bc), (16, .pointer (some ⟨hg, o5, none⟩)), (17, .pointer (some ⟨hg, o5, none⟩)), (18, .pointer (some ⟨hg, o5 + 3, none⟩)), (19, .int .i64 c), (20, .pointer (some ⟨bg, p * 4, none⟩)), (21, .pointer (some ⟨bg, p * 4 + 3, none⟩)), (22, .pointer (some ⟨bg, c * 4, none⟩)), (23, .pointer (some ⟨bg, c * 4 + 3, none⟩))] (fun _ _ _ => True) (JN W0 W1 W2 18 21) (by rw [HW0.out]; exact JN.start (by decide) (by decide)) (by kernel_rfl) (by kernel_rfl) ?_ ?_
  · refine ⟨?_, ?_, ?_, ?_, ?_, ?_, ?_, ?_, ?_, ?_, ?_, ?_, ?_, ?_, ?_, ?_, ?_, ?_, ?_, ?_, ?_, ?_, trivial⟩
    · intro hop L a w5 hs hk hl ha keep know spec
      have h0 := keep 0 (.pointer (some ⟨b, 0, none⟩)) (by kernel_rfl) rfl
      exact wpOp_value hop (wanted_none rfl) (v := .pointer (some ⟨b, 0, none⟩)) (by simp only [execOp, Act.eval, h0]; rfl) ⟨_, rfl, (hk.go (by decide) (by decide)), (fun d hd => by injection hd with hd; subst hd; exact ⟨tab rfl, trivial⟩), fun _ _ h => h⟩
    · intro hop L a w5 hs hk hl ha keep know spec
      have h4 := know 4 (.pointer (some ⟨b, 0, none⟩)) (by kernel_rfl) rfl
      exact wpOp_value hop (wanted_none rfl) (v := .pointer (some ⟨b, 0, none⟩)) (by simp only [execOp, Act.eval, h4]; go_simp) ⟨_, rfl, (hk.go (by decide) (by decide)), (fun d hd => by injection hd with hd; subst hd; exact ⟨tab rfl, trivial⟩), fun _ _ h => h⟩
    · intro hop L a w5 hs hk hl ha keep know spec
      have h5 := know 5 (.pointer (some ⟨b, 0, none⟩)) (by kernel_rfl) rfl
      exact wpOp_value hop (wanted_none rfl) (v := .pointer (some ⟨b, 1, none⟩)) (by simp only [execOp, Act.eval, h5]; go_simp) ⟨_, rfl, (hk.go (by decide) (by decide)), (fun d hd => by injection hd with hd; subst hd; exact ⟨tab rfl, trivial⟩), fun _ _ h => h⟩
    · intro hop L a w5 hs hk hl ha keep know spec
      have h6 := know 6 (.pointer (some ⟨b, 1, none⟩)) (by kernel_rfl) rfl
      have q := hk.cell B1
      exact wpOp_value hop (wanted_none rfl) (v := .slice (some ⟨bg, 0, none⟩) n bc) (by simp only [execOp, Act.eval, h6]; go_simp) ⟨_, rfl, (hk.go (by decide) (by decide)), (fun d hd => by injection hd with hd; subst hd; exact ⟨tab rfl, trivial⟩), fun _ _ h => h⟩
    · intro hop L a w5 hs hk hl ha keep know spec
      have h1 := keep 1 (.pointer (some ⟨hg, o5, none⟩)) (by kernel_rfl) rfl
      exact wpOp_value hop (wanted_none rfl) (v := .pointer (some ⟨hg, o5, none⟩)) (by simp only [execOp, Act.eval, h1]; rfl) ⟨_, rfl, (hk.go (by decide) (by decide)), (fun d hd => by injection hd with hd; subst hd; exact ⟨tab rfl, trivial⟩), fun _ _ h => h⟩
    · intro hop L a w5 hs hk hl ha keep know spec
      have h8 := know 8 (.pointer (some ⟨hg, o5, none⟩)) (by kernel_rfl) rfl
      exact wpOp_value hop (wanted_none rfl) (v := .pointer (some ⟨hg, o5, none⟩)) (by simp only [execOp, Act.eval, h8]; go_simp) ⟨_, rfl, (hk.go (by decide) (by decide)), (fun d hd => by injection hd with hd; subst hd; exact ⟨tab rfl, trivial⟩), fun _ _ h => h⟩
    · intro hop L a w5 hs hk hl ha keep know spec
      have h9 := know 9 (.pointer (some ⟨hg, o5, none⟩)) (by kernel_rfl) rfl
      exact wpOp_value hop (wanted_none rfl) (v := .pointer (some ⟨hg, o5 + 2, none⟩)) (by simp only [execOp, Act.eval, h9]; go_simp) ⟨_, rfl, (hk.go (by decide) (by decide)), (fun d hd => by injection hd with hd; subst hd; exact ⟨tab rfl, trivial⟩), fun _ _ h => h⟩
    · intro hop L a w5 hs hk hl ha keep know spec
      have h10 := know 10 (.pointer (some ⟨hg, o5 + 2, none⟩)) (by kernel_rfl) rfl
      have q := hk.cell C2
      exact wpOp_value hop (wanted_none rfl) (v := .int .i64 p) (by simp only [execOp, Act.eval, h10]; go_simp) ⟨_, rfl, (hk.go (by decide) (by decide)), (fun d hd => by injection hd with hd; subst hd; exact ⟨tab rfl, trivial⟩), fun _ _ h => h⟩
    · intro hop L a w5 hs hk hl ha keep know spec
      have h0 := keep 0 (.pointer (some ⟨b, 0, none⟩)) (by kernel_rfl) rfl
      exact wpOp_value hop (wanted_none rfl) (v := .pointer (some ⟨b, 0, none⟩)) (by simp only [execOp, Act.eval, h0]; rfl) ⟨_, rfl, (hk.go (by decide) (by decide)), (fun d hd => by injection hd with hd; subst hd; exact ⟨tab rfl, trivial⟩), fun _ _ h => h⟩
    · intro hop L a w5 hs hk hl ha keep know spec
      have h12 := know 12 (.pointer (some ⟨b, 0, none⟩)) (by kernel_rfl) rfl
      exact wpOp_value hop (wanted_none rfl) (v := .pointer (some ⟨b, 0, none⟩)) (by simp only [execOp, Act.eval, h12]; go_simp) ⟨_, rfl, (hk.go (by decide) (by decide)), (fun d hd => by injection hd with hd; subst hd; exact ⟨tab rfl, trivial⟩), fun _ _ h => h⟩
    · intro hop L a w5 hs hk hl ha keep know spec
      have h13 := know 13 (.pointer (some ⟨b, 0, none⟩)) (by kernel_rfl) rfl
      exact wpOp_value hop (wanted_none rfl) (v := .pointer (some ⟨b, 1, none⟩)) (by simp only [execOp, Act.eval, h13]; go_simp) ⟨_, rfl, (hk.go (by decide) (by decide)), (fun d hd => by injection hd with hd; subst hd; exact ⟨tab rfl, trivial⟩), fun _ _ h => h⟩
    · intro hop L a w5 hs hk hl ha keep know spec
      have h14 := know 14 (.pointer (some ⟨b, 1, none⟩)) (by kernel_rfl) rfl
      have q := hk.cell B1
      exact wpOp_value hop (wanted_none rfl) (v := .slice (some ⟨bg, 0, none⟩) n bc) (by simp only [execOp, Act.eval, h14]; go_simp) ⟨_, rfl, (hk.go (by decide) (by decide)), (fun d hd => by injection hd with hd; subst hd; exact ⟨tab rfl, trivial⟩), fun _ _ h => h⟩
    · intro hop L a w5 hs hk hl ha keep know spec
      have h1 := keep 1 (.pointer (some ⟨hg, o5, none⟩)) (by kernel_rfl) rfl
      exact wpOp_value hop (wanted_none rfl) (v := .pointer (some ⟨hg, o5, none⟩)) (by simp only [execOp, Act.eval, h1]; rfl) ⟨_, rfl, (hk.go (by decide) (by decide)), (fun d hd => by injection hd with hd; subst hd; exact ⟨tab rfl, trivial⟩), fun _ _ h => h⟩
    · intro hop L a w5 hs hk hl ha keep know spec
      have h16 := know 16 (.pointer (some ⟨hg, o5, none⟩)) (by kernel_rfl) rfl
      exact wpOp_value hop (wanted_none rfl) (v := .pointer (some ⟨hg, o5, none⟩)) (by simp only [execOp, Act.eval, h16]; go_simp) ⟨_, rfl, (hk.go (by decide) (by decide)), (fun d hd => by injection hd with hd; subst hd; exact ⟨tab rfl, trivial⟩), fun _ _ h => h⟩
    · intro hop L a w5 hs hk hl ha keep know spec
      have h17 := know 17 (.pointer (some ⟨hg, o5, none⟩)) (by kernel_rfl) rfl
      exact wpOp_value hop (wanted_none rfl) (v := .pointer (some ⟨hg, o5 + 3, none⟩)) (by simp only [execOp, Act.eval, h17]; go_simp) ⟨_, rfl, (hk.go (by decide) (by decide)), (fun d hd => by injection hd with hd; subst hd; exact ⟨tab rfl, trivial⟩), fun _ _ h => h⟩
    · intro hop L a w5 hs hk hl ha keep know spec
      have h18 := know 18 (.pointer (some ⟨hg, o5 + 3, none⟩)) (by kernel_rfl) rfl
      have q := hk.cell C3
      exact wpOp_value hop (wanted_none rfl) (v := .int .i64 c) (by simp only [execOp, Act.eval, h18]; go_simp) ⟨_, rfl, (hk.go (by decide) (by decide)), (fun d hd => by injection hd with hd; subst hd; exact ⟨tab rfl, trivial⟩), fun _ _ h => h⟩
    · intro hop L a w5 hs hk hl ha keep know spec
      have h7 := know 7 (.slice (some ⟨bg, 0, none⟩) n bc) (by kernel_rfl) rfl
      have h11 := know 11 (.int .i64 p) (by kernel_rfl) rfl
      exact wpOp_value hop (wanted_none rfl) (v := .pointer (some ⟨bg, p * 4, none⟩)) (by simp only [execOp, Act.eval, h7, h11]; go_simp) ⟨_, rfl, (hk.go (by decide) (by decide)), (fun d hd => by injection hd with hd; subst hd; exact ⟨tab rfl, trivial⟩), fun _ _ h => h⟩
    · intro hop L a w5 hs hk hl ha keep know spec
      have h20 := know 20 (.pointer (some ⟨bg, p * 4, none⟩)) (by kernel_rfl) rfl
      exact wpOp_value hop (wanted_none rfl) (v := .pointer (some ⟨bg, p * 4 + 3, none⟩)) (by simp only [execOp, Act.eval, h20]; go_simp) ⟨_, rfl, (hk.go (by decide) (by decide)), (fun d hd => by injection hd with hd; subst hd; exact ⟨tab rfl, trivial⟩), fun _ _ h => h⟩
    · intro hop L a w5 hs hk hl ha keep know spec
      have h21 := know 21 (.pointer (some ⟨bg, p * 4 + 3, none⟩)) (by kernel_rfl) rfl
      obtain ⟨⟨n5, e5⟩, hk2⟩ := hk.st1 hl (by decide) (p := ⟨bg, p * 4 + 3, none⟩) (v := .bool false) HW1.out
      have q : w5.cell? ⟨bg, p * 4 + 3, none⟩ = some _ := (congrArg (fun W : World => W.cell? ⟨bg, p * 4 + 3, none⟩) e5).trans S1
      have r : w5.frozen? ⟨bg, p * 4 + 3, none⟩ = false := (congrArg (fun W : World => W.frozen? ⟨bg, p * 4 + 3, none⟩) e5).trans T1
      exact wpOp_skip hop (wanted_none rfl) (w' := w5.setCell ⟨bg, p * 4 + 3, none⟩ (.bool false)) (by simp only [execOp, Act.eval, h21]; go_simp) ⟨_, rfl, hk2, (fun d hd => by cases hd), fun _ _ h => h⟩
    · intro hop L a w5 hs hk hl ha keep know spec
      have h15 := know 15 (.slice (some ⟨bg, 0, none⟩) n bc) (by kernel_rfl) rfl
      have h19 := know 19 (.int .i64 c) (by kernel_rfl) rfl
      exact wpOp_value hop (wanted_none rfl) (v := .pointer (some ⟨bg, c * 4, none⟩)) (by simp only [execOp, Act.eval, h15, h19]; go_simp) ⟨_, rfl, (hk.go (by decide) (by decide)), (fun d hd => by injection hd with hd; subst hd; exact ⟨tab rfl, trivial⟩), fun _ _ h => h⟩
    · intro hop L a w5 hs hk hl ha keep know spec
      have h22 := know 22 (.pointer (some ⟨bg, c * 4, none⟩)) (by kernel_rfl) rfl
      exact wpOp_value hop (wanted_none rfl) (v := .pointer (some ⟨bg, c * 4 + 3, none⟩)) (by simp only [execOp, Act.eval, h22]; go_simp) ⟨_, rfl, (hk.go (by decide) (by decide)), (fun d hd => by injection hd with hd; subst hd; exact ⟨tab rfl, trivial⟩), fun _ _ h => h⟩
    · intro hop L a w5 hs hk hl ha keep know spec
      have h23 := know 23 (.pointer (some ⟨bg, c * 4 + 3, none⟩)) (by kernel_rfl) rfl
      obtain ⟨⟨n5, e5⟩, hk2⟩ := hk.st2 hl (after_done ha (k := 18) (by kernel_rfl)) (p := ⟨bg, c * 4 + 3, none⟩) (v := .bool false) HW2.out
      have q : w5.cell? ⟨bg, c * 4 + 3, none⟩ = some _ := (congrArg (fun W : World => W.cell? ⟨bg, c * 4 + 3, none⟩) e5).trans S2
      have r : w5.frozen? ⟨bg, c * 4 + 3, none⟩ = false := (congrArg (fun W : World => W.frozen? ⟨bg, c * 4 + 3, none⟩) e5).trans T2
      exact wpOp_skip hop (wanted_none rfl) (w' := w5.setCell ⟨bg, c * 4 + 3, none⟩ (.bool false)) (by simp only [execOp, Act.eval, h23]; go_simp) ⟨_, rfl, hk2, (fun d hd => by cases hd), fun _ _ h => h⟩
  · intro a' w7 e1' e2' hk keep know spec
    obtain ⟨tm, df⟩ := a'
    have e3' : df = [] := e1'
    obtain ⟨n7, e6⟩ := hk.done (n := 22) (by decide) (by decide)
    have r5 := r4 n7
    rw [← e6] at r5
    clear keep know spec e1' e2' hk r4 B1 C2 C3 S1 S2 T1 T2 HW0 HW1 HW2 e6 HW
    subst e3'
    go_wp2
    all_goals exact bodyPost_end (v := .tuple #[]) (by simp [results, Try.results60, go_sem]) rfl ⟨rfl, r5⟩
set_option maxRecDepth 100000 in
theorem clean_b (h : BQ K s dl bg bc dv w) {i : Nat} (hi : i < K.nh) (hp : (s.hd i).p < s.m.n) (hk : s.m.ky (s.hd i).p ≠ 10) : Calls Try.prog 62 #[ptr K.b, hp5 K i] w (fun e w' => e = .returned (.bool (clean s.m (s.hd i))) ∧ ∃ m, w' = w.drewN m) := by
  have hb := (h.bb.cell 1).trans rfl
  obtain ⟨-, b1, b2, -, -⟩ := h.bead hp
  obtain ⟨-, -, c2, c3, -, -⟩ := h.hand hi
  rw [show nxt s.m (s.hd i).p = (s.m.nx (s.hd i).p : Int) from if_neg hk] at b1
  obtain ⟨g, hg'⟩ : ∃ g, g = clean s.m (s.hd i) := ⟨_, rfl⟩
  rw [← hg']
  unfold clean at hg'
  obtain ⟨b, hb'⟩ : ∃ b, b = K.b := ⟨_, rfl⟩
  obtain ⟨hg, hh'⟩ : ∃ b, b = K.hg := ⟨_, rfl⟩
  obtain ⟨n, hn'⟩ : ∃ b, b = s.m.n := ⟨_, rfl⟩
  obtain ⟨c, hc'⟩ : ∃ b, b = (s.hd i).c := ⟨_, rfl⟩
  obtain ⟨p, hp'⟩ : ∃ b, b = (s.hd i).p := ⟨_, rfl⟩
  rw [← hc'] at c3 hg'
  rw [← hp'] at hp c2 b1 b2 hg'
  obtain ⟨x, hx'⟩ : ∃ b, b = s.m.nx p := ⟨_, rfl⟩
  obtain ⟨y, hy'⟩ : ∃ b, b = s.m.mr p := ⟨_, rfl⟩
  rw [← hx'] at b1 hg'
  rw [← hy'] at b2 hg'
  unfold hp5 ptr
  rw [← hb'] at hb ⊢
  rw [← hh'] at c2 c3 ⊢
  rw [← hn'] at hb hp
  obtain ⟨o5, ho5⟩ : ∃ b, b = i * 5 := ⟨_, rfl⟩
  rw [← ho5] at c2 c3 ⊢
  clear h hi hk hb' hh' hn' ho5 hp' hc' hx' hy'
  go_enter Try.func62, Try.ntmps62
  cases y with
  | true =>
    rw [show g = false from by rw [hg']; rfl]
    go_wp2_with fail
    go_quiet (fail)
    go_wp2
    exact ⟨rfl, .bool false, by simp [results, Try.results62, go_sem], rfl, _, rfl⟩
  | false =>
    by_cases hxc : x = c
    · have e1 : decide (x = c) = true := decide_eq_true hxc
      have e2 : g = true := by rw [hg']; simp [hxc]
      rw [e2]
      subst hxc
      go_wp2_with fail
      go_quiet (fail)
      go_wp2
      exact ⟨rfl, .bool true, by simp [results, Try.results62, go_sem], rfl, _, rfl⟩
    · have e1 : decide (x = c) = false := decide_eq_false hxc
      have e2 : g = false := by rw [hg']; simp [hxc]
      rw [e2]
      go_wp2_with fail
      go_quiet (fail)
      go_wp2
      exact ⟨rfl, .bool false, by simp [results, Try.results62, go_sem, hxc]; omega, rfl, _, rfl⟩
end Go.Proofs.Ytoihdnekkgpcoaa
namespace Go.Proofs.Ytoihdnekkgpcoaa
open Go.ChangeShapes Go.WideShapes Go.ChangeAt Go.RowKit
set_option linter.unusedVariables false
set_option linter.unusedSimpArgs false

variable {K : Bl} {s : St} {dl : List Tl} {bg bc : Nat} {dv : Value} {w w' : World}
def insA (m : Mm) (c : Nat) (k : Int) : Mm := { n := m.n + 1, ky := up m.ky m.n k, nx := up m.nx m.n c, mr := up m.mr m.n false, lk := up m.lk m.n false }
theorem beadL_ins (m : Mm) (c : Nat) (k : Int) (hk : k ≠ 10) : beadL (insA m c k) = beadL m ++ [(k, (c : Int), false, false)] := by
  unfold beadL
  show (List.range (m.n + 1)).map _ = _
  rw [List.range_succ, List.map_append]
  congr 1
  · apply List.map_congr_left
    intro j hj
    have hj : j ≠ m.n := by have := List.mem_range.1 hj; omega
    show (up m.ky m.n k j, (if up m.ky m.n k j = 10 then -1 else ((up m.nx m.n c j : Nat) : Int)), up m.mr m.n false j, up m.lk m.n false j) = _
    simp only [up_ne _ _ hj]; rfl
  · show [(up m.ky m.n k m.n, (if up m.ky m.n k m.n = 10 then -1 else ((up m.nx m.n c m.n : Nat) : Int)), up m.mr m.n false m.n, up m.lk m.n false m.n)] = _
    simp only [up_same, if_neg hk]
/-- A bead is appended and the slice stored. -/
theorem BQ.addb (h : BQ K s dl bg bc dv w) {W : World} {γ : Value} {c : Nat} {k : Int} (hk : k ≠ 10) (hW : KV (.slice (some ⟨bg, 0, none⟩) s.m.n bc) w W) (hγ : OW W K.w0.heap.size 65 eBead γ (beadL s.m ++ [(k, (c : Int), false, false)])) (hat : γ.ownBlock = (Value.slice (some ⟨bg, 0, none⟩) s.m.n bc).ownBlock ∨ Hi w.heap.size γ) :
    ∃ bg' bc', BQ K { s with m := insA s.m c k } dl bg' bc' dv (W.setCell ⟨K.b, 1, none⟩ γ) := by
  obtain ⟨g, cc, rfl, hg⟩ := hγ.blk (by simp)
  have eb : ∀ k, (Value.slice (some ⟨bg, 0, none⟩) s.m.n bc).ownBlock = some k → k = bg := fun k e => by simpa [Value.ownBlock] using e.symm
  have hlen : (beadL s.m ++ [(k, (c : Int), false, false)]).length = s.m.n + 1 := by simp [beadL_len]
  rw [hlen] at hγ hat ⊢
  have b1 : BC W K.b _ _ := h.bb.kf hW (fun e => h.ne1 (eb _ e))
  have b2 : BC W K.hg _ _ := h.hs.kf hW (fun e => h.ne2 (eb _ e))
  have hd : OW W K.w0.heap.size 35 eDone dv dl := h.dn.kf hW (fun k e1 e2 => by
    obtain ⟨cur, hb, _⟩ := h.bgB
    have := eb _ e2; subst this
    exact OW.bc_ne h.dn hb (by decide) e1)
  obtain ⟨cur, hbg, hB⟩ := h.bgB
  have hn : ¬ K.b = g := fun e => by
    rcases hat with e1 | e1
    · have := eb g (e1.symm.trans rfl); exact h.ne1 (e.trans this)
    · have h1 := e1 g rfl; have h2 := h.bb.lt; omega
  refine ⟨g, cc, ?_, h.b0, h.h0, by show 0 < s.m.n + 1; omega, ?_, ?_, ?_, ?_, fun b t c' e => ?_⟩
  · exact (hW.kp h.kp (fun k e => by rw [eb k e]; exact hB)).setR (by simpa using h.b0)
  · exact b1.set
  · rw [← beadL_ins _ _ _ hk] at hγ
    exact hγ.setCell (by show (some g : Option Nat) ≠ some K.b; simpa using fun e => hn e.symm) _
  · exact hd.setCell (OW.bc_ne hd b1 (by decide)) _
  · exact b2.far (fun e => h.ne3 e.symm)
  · obtain ⟨e1, e2⟩ := h.ex b t c' e
    exact ⟨(e1.kf hW (fun e9 => BC.ne e1 hbg e2.2.1 (eb _ e9))).far (BC.ne e1 h.bb e2.1), e2⟩
theorem info_bead : (Try.prog.info? 65).map (fun i => (i.zero, i.size, i.bytes)) = some (some (.agg #[.int .i64 0, .int .i64 0, .bool false, .bool false]), 4, 24) := by kernel_rfl
theorem row_bead : Row Try.prog 66 65 eBead 24 := row_of info_bead Try.underlying66 rfl rfl (by decide)
theorem BQ.sub (h : BQ K s dl bg bc dv w) : IntKind.i64.wrap (((s.m.n : Nat) : Int) + 1 - 1) = (s.m.n : Int) → True := fun _ => trivial
set_option maxRecDepth 100000 in
set_option maxHeartbeats 2000000 in
theorem insert_b (h : BQ K s dl bg bc dv w) {i : Nat} (hi : i < K.nh) (hp : (s.hd i).p < s.m.n) (hcn : (s.hd i).c < s.m.n) (hkp : s.m.ky (s.hd i).p ≠ 10) {k : Int} (hk10 : k ≠ 10) (hlim : s.m.n ≤ 100000) :
    Calls Try.prog 61 #[ptr K.b, hp5 K i, .int .i64 k] w (fun e w' => e = .returned (.tuple #[]) ∧ BN K { s with m := s.m.ins (s.hd i).p (s.hd i).c k } dl w') := by
  have hb := (h.bb.cell 1).trans rfl
  obtain ⟨-, -, c2, c3, -, -⟩ := h.hand hi
  have n1 := h.ne1
  have n2 := h.ne2
  have n3 := h.ne3
  have hHS := hide (fun W γ a1 a2 a3 => h.addb (W := W) (γ := γ) (c := (s.hd i).c) hk10 a1 a2 a3)
  have HU := hide h.bd
  have HB : Hid (K.w0.heap.size ≤ w.heap.size) := hide h.kp.size
  have HQL : Hid ((⟨K.b, 1, none⟩ : Addr).block < w.heap.size) := hide h.bb.lt
  have HF : Hid (w.frozen? ⟨K.b, 1, none⟩ = false) := hide (h.bb.frozen 1)
  have HUN : Hid ((Value.slice (some ⟨bg, 0, none⟩) s.m.n bc).ownBlock ≠ some (⟨K.b, 1, none⟩ : Addr).block) := hide (by show (some bg : Option Nat) ≠ some K.b; simpa using fun e => n1 e.symm)
  have HCU : Hid (w.cell? ⟨K.b, 1, none⟩ = some (.slice (some ⟨bg, 0, none⟩) s.m.n bc)) := hide hb
  have HC3 : Hid (w.cell? ⟨K.hg, i * 5 + 3, none⟩ = some (.int .i64 (s.hd i).c) ∧ (⟨K.hg, i * 5 + 3, none⟩ : Addr).block ≠ (⟨K.b, 1, none⟩ : Addr).block ∧ (Value.slice (some ⟨bg, 0, none⟩) s.m.n bc).ownBlock ≠ some (⟨K.hg, i * 5 + 3, none⟩ : Addr).block) :=
    hide ⟨c3, fun e => n3 e.symm, by show (some bg : Option Nat) ≠ some K.hg; simpa using fun e => n2 e.symm⟩
  have HM1 : Hid (((beadL s.m).length + [((k, ((s.hd i).c : Int), false, false) : Bd)].length) * 24 ≤ 140737488355328) := hide (by simp [beadL_len]; omega)
  have HM2 : Hid ((beadL s.m).length + [((k, ((s.hd i).c : Int), false, false) : Bd)].length ≤ maxLen) := hide (by simp [beadL_len, maxLen]; omega)
  have HX : ∃ R1 : World → Prop, (∀ a b, R1 a → Kp a b → R1 b) ∧ (∀ W γ, KV (.slice (some ⟨bg, 0, none⟩) s.m.n bc) w W → OW W K.w0.heap.size 65 eBead γ (beadL s.m ++ [(k, ((s.hd i).c : Int), false, false)]) → (γ.ownBlock = (Value.slice (some ⟨bg, 0, none⟩) s.m.n bc).ownBlock ∨ Hi w.heap.size γ) → R1 (W.setCell ⟨K.b, 1, none⟩ γ)) ∧
      (∀ W, R1 W → ∃ bg bc, W.cell? ⟨K.b, 1, none⟩ = some (.slice (some ⟨bg, 0, none⟩) (s.m.n + 1) bc) ∧ W.cell? ⟨K.hg, i * 5 + 2, none⟩ = some (.int .i64 (s.hd i).p) ∧ (∃ x, W.cell? ⟨bg, (s.hd i).p * 4 + 1, none⟩ = some x) ∧ W.frozen? ⟨bg, (s.hd i).p * 4 + 1, none⟩ = false ∧
        (∀ W', Kp W W' → BN K { s with m := s.m.ins (s.hd i).p (s.hd i).c k } dl (W'.setCell ⟨bg, (s.hd i).p * 4 + 1, none⟩ (.int .i64 s.m.n)))) := by
    refine ⟨fun W => ∃ bg bc, BQ K { s with m := insA s.m (s.hd i).c k } dl bg bc dv W, fun a b ⟨x, y, q⟩ kk => ⟨x, y, q.kpw kk⟩, hHS.out, fun W ⟨x, y, q⟩ => ⟨x, y, (q.bb.cell 1).trans rfl, ?_, ?_, ?_, fun W' kk => ?_⟩⟩
    · obtain ⟨-, -, z, -⟩ := q.hand hi; exact z
    · obtain ⟨-, z, -⟩ := q.bead (i := (s.hd i).p) (by show _ < s.m.n + 1; omega); exact ⟨_, z⟩
    · obtain ⟨-, -, -, -, z⟩ := q.bead (i := (s.hd i).p) (by show _ < s.m.n + 1; omega); exact z _
    · have hne : (s.hd i).p ≠ s.m.n := by omega
      exact ⟨x, y, dv, (q.kpw kk).setnx (i := (s.hd i).p) (c := s.m.n) (by show _ < s.m.n + 1; omega) (by show up s.m.ky s.m.n k (s.hd i).p ≠ 10; rw [up_ne _ _ hne]; exact hkp)⟩
  obtain ⟨R1, hR1, hS, hC⟩ := HX
  have HR1 := hide hR1
  have HS := hide hS
  have HC := hide hC
  obtain ⟨R, hR⟩ : ∃ R, R = BN K { s with m := s.m.ins (s.hd i).p (s.hd i).c k } dl := ⟨_, rfl⟩
  rw [← hR] at HC ⊢
  obtain ⟨b, hb'⟩ : ∃ b, b = K.b := ⟨_, rfl⟩
  obtain ⟨hg, hh'⟩ : ∃ b, b = K.hg := ⟨_, rfl⟩
  obtain ⟨B, hB'⟩ : ∃ b, b = K.w0.heap.size := ⟨_, rfl⟩
  obtain ⟨l0, hl0⟩ : ∃ b, b = beadL s.m := ⟨_, rfl⟩
  obtain ⟨n, hn'⟩ : ∃ b, b = s.m.n := ⟨_, rfl⟩
  obtain ⟨c, hc'⟩ : ∃ b, b = (s.hd i).c := ⟨_, rfl⟩
  obtain ⟨p, hp'⟩ : ∃ b, b = (s.hd i).p := ⟨_, rfl⟩
  obtain ⟨o5, ho5⟩ : ∃ b, b = i * 5 := ⟨_, rfl⟩
  rw [← hc'] at HC3 c3 HM1 HM2 HS
  rw [← hp'] at c2 HC hp
  unfold hp5 ptr
  rw [← hb'] at hb HQL HF HUN HCU HC3 HS HC n1 n3 ⊢
  rw [← hh'] at HC3 c2 c3 HC n2 n3 ⊢
  rw [← hB'] at HU HB HS
  rw [← hl0] at HU HM1 HM2 HS
  rw [← hn'] at hb HU HUN HCU HC3 HS HC hp hlim
  rw [← ho5] at HC3 c2 c3 HC ⊢
  have hw1 : IntKind.i64.wrap (((n + 1 : Nat) : Int) - 1) = (n : Int) := by rw [IntWalk.i64_in] <;> omega
  clear h hi hcn hkp hk10 hR hb' hh' hB' hl0 hn' hc' hp' ho5 hHS hR1 hS hC
  go_enter Try.func61, Try.ntmps61
  go_wp2_with fail
  refine wp_region_tabG (by kernel_rfl) [(6, .pointer (some ⟨b, 0, none⟩)), (7, .pointer (some ⟨b, 0, none⟩)), (8, .pointer (some ⟨b, 0, none⟩)), (9, .pointer (some ⟨b, 1, none⟩)), (10, .slice (some ⟨bg, 0, none⟩) n bc), (11, .int .i64 k), (12, .pointer (some ⟨hg, o5, none⟩)), (13, .pointer (some ⟨hg, o5, none⟩)), (14, .pointer (some ⟨hg, o5 + 3, none⟩)), (15, .int .i64 c), (16, .agg #[.int .i64 k, .int .i64 c, .bool false, .bool false]), (19, .pointer (some ⟨b, 0, none⟩)), (20, .pointer (some ⟨b, 1, none⟩))] (GA w 17 18 65 eBead (k, (c : Int), false, false)) (JA w (.slice (some ⟨bg, 0, none⟩) n bc) ⟨b, 1, none⟩ 4 12 15 B 65 eBead (l0 ++ [(k, (c : Int), false, false)]) R1) .nilFunc (JA.start (by decide) (by decide)) (by kernel_rfl) (by kernel_rfl) ?_ ?_
  · refine ⟨?_, ?_, ?_, ?_, ?_, ?_, ?_, ?_, ?_, ?_, ?_, ?_, ?_, ?_, ?_, ?_, trivial⟩
    · intro hop L a w5 γ hs hk hl ha keep know spec
      have h0 := keep 0 (.pointer (some ⟨b, 0, none⟩)) (by kernel_rfl) rfl
      exact wpOp_value hop (wanted_none rfl) (v := .pointer (some ⟨b, 0, none⟩)) (by simp only [execOp, Act.eval, h0]; rfl) ⟨_, γ, rfl, hk.go HR1.out (Kp.refl _) 0 (by decide) (by decide), (fun d hd => by injection hd with hd; subst hd; exact ⟨tab rfl, GA.none (by decide)⟩), fun _ _ _ h => h⟩
    · intro hop L a w5 γ hs hk hl ha keep know spec
      have h0 := keep 0 (.pointer (some ⟨b, 0, none⟩)) (by kernel_rfl) rfl
      exact wpOp_value hop (wanted_none rfl) (v := .pointer (some ⟨b, 0, none⟩)) (by simp only [execOp, Act.eval, h0]; rfl) ⟨_, γ, rfl, hk.go HR1.out (Kp.refl _) 1 (by decide) (by decide), (fun d hd => by injection hd with hd; subst hd; exact ⟨tab rfl, GA.none (by decide)⟩), fun _ _ _ h => h⟩
    · intro hop L a w5 γ hs hk hl ha keep know spec
      have h7 := know 7 (.pointer (some ⟨b, 0, none⟩)) (by kernel_rfl) rfl
      exact wpOp_value hop (wanted_none rfl) (v := .pointer (some ⟨b, 0, none⟩)) (by simp only [execOp, Act.eval, h7]; rfl) ⟨_, γ, rfl, hk.go HR1.out (Kp.refl _) 2 (by decide) (by decide), (fun d hd => by injection hd with hd; subst hd; exact ⟨tab rfl, GA.none (by decide)⟩), fun _ _ _ h => h⟩
    · intro hop L a w5 γ hs hk hl ha keep know spec
      have h8 := know 8 (.pointer (some ⟨b, 0, none⟩)) (by kernel_rfl) rfl
      exact wpOp_value hop (wanted_none rfl) (v := .pointer (some ⟨b, 1, none⟩)) (by simp only [execOp, Act.eval, h8]; rfl) ⟨_, γ, rfl, hk.go HR1.out (Kp.refl _) 3 (by decide) (by decide), (fun d hd => by injection hd with hd; subst hd; exact ⟨tab rfl, GA.none (by decide)⟩), fun _ _ _ h => h⟩
    · intro hop L a w5 γ hs hk hl ha keep know spec
      have h9 := know 9 (.pointer (some ⟨b, 1, none⟩)) (by kernel_rfl) rfl
      have q := hk.load hl HCU.out
      exact wpOp_value hop (wanted_none rfl) (v := .slice (some ⟨bg, 0, none⟩) n bc) (by simp only [execOp, Act.eval, h9]; go_simp) ⟨_, γ, rfl, hk.go HR1.out (Kp.refl _) 4 (by decide) (by decide), (fun d hd => by injection hd with hd; subst hd; exact ⟨tab rfl, GA.none (by decide)⟩), fun _ _ _ h => h⟩
    · intro hop L a w5 γ hs hk hl ha keep know spec
      have h2 := keep 2 (.int .i64 k) (by kernel_rfl) rfl
      exact wpOp_value hop (wanted_none rfl) (v := .int .i64 k) (by simp only [execOp, Act.eval, h2]; rfl) ⟨_, γ, rfl, hk.go HR1.out (Kp.refl _) 5 (by decide) (by decide), (fun d hd => by injection hd with hd; subst hd; exact ⟨tab rfl, GA.none (by decide)⟩), fun _ _ _ h => h⟩
    · intro hop L a w5 γ hs hk hl ha keep know spec
      have h1 := keep 1 (.pointer (some ⟨hg, o5, none⟩)) (by kernel_rfl) rfl
      exact wpOp_value hop (wanted_none rfl) (v := .pointer (some ⟨hg, o5, none⟩)) (by simp only [execOp, Act.eval, h1]; rfl) ⟨_, γ, rfl, hk.go HR1.out (Kp.refl _) 6 (by decide) (by decide), (fun d hd => by injection hd with hd; subst hd; exact ⟨tab rfl, GA.none (by decide)⟩), fun _ _ _ h => h⟩
    · intro hop L a w5 γ hs hk hl ha keep know spec
      have h12 := know 12 (.pointer (some ⟨hg, o5, none⟩)) (by kernel_rfl) rfl
      exact wpOp_value hop (wanted_none rfl) (v := .pointer (some ⟨hg, o5, none⟩)) (by simp only [execOp, Act.eval, h12]; rfl) ⟨_, γ, rfl, hk.go HR1.out (Kp.refl _) 7 (by decide) (by decide), (fun d hd => by injection hd with hd; subst hd; exact ⟨tab rfl, GA.none (by decide)⟩), fun _ _ _ h => h⟩
    · intro hop L a w5 γ hs hk hl ha keep know spec
      have h13 := know 13 (.pointer (some ⟨hg, o5, none⟩)) (by kernel_rfl) rfl
      exact wpOp_value hop (wanted_none rfl) (v := .pointer (some ⟨hg, o5 + 3, none⟩)) (by simp only [execOp, Act.eval, h13]; rfl) ⟨_, γ, rfl, hk.go HR1.out (Kp.refl _) 8 (by decide) (by decide), (fun d hd => by injection hd with hd; subst hd; exact ⟨tab rfl, GA.none (by decide)⟩), fun _ _ _ h => h⟩
    · intro hop L a w5 γ hs hk hl ha keep know spec
      have h14 := know 14 (.pointer (some ⟨hg, o5 + 3, none⟩)) (by kernel_rfl) rfl
      have q := hk.cell HC3.out
      exact wpOp_value hop (wanted_none rfl) (v := .int .i64 c) (by simp only [execOp, Act.eval, h14]; go_simp) ⟨_, γ, rfl, hk.go HR1.out (Kp.refl _) 9 (by decide) (by decide), (fun d hd => by injection hd with hd; subst hd; exact ⟨tab rfl, GA.none (by decide)⟩), fun _ _ _ h => h⟩
    · intro hop L a w5 γ hs hk hl ha keep know spec
      have h11 := know 11 (.int .i64 k) (by kernel_rfl) rfl
      have h15 := know 15 (.int .i64 c) (by kernel_rfl) rfl
      exact wpOp_value hop (wanted_none rfl) (v := .agg #[.int .i64 k, .int .i64 c, .bool false, .bool false]) (by simp only [execOp, Act.eval, List.map_toArray, List.map_cons, List.map_nil, h11, h15]; go_simp) ⟨_, γ, rfl, hk.go HR1.out (Kp.refl _) 10 (by decide) (by decide), (fun d hd => by injection hd with hd; subst hd; exact ⟨tab rfl, GA.none (by decide)⟩), fun _ _ _ h => h⟩
    · intro hop L a w5 γ hs hk hl ha keep know spec
      have h16 := know 16 (.agg #[.int .i64 k, .int .i64 c, .bool false, .bool false]) (by kernel_rfl) rfl
      exact wpOp_value hop (wanted_none rfl) (v := .slice (some ⟨w5.heap.size, 0, none⟩) 1 1) (w' := w5.alloc (.cells #[.int .i64 k, .int .i64 c, .bool false, .bool false] 65)) (by simp only [execOp, Act.eval, List.map_toArray, List.map_cons, List.map_nil, h16]; go_simp) ⟨_, γ, rfl, hk.go HR1.out (Kp.refl _).alloc 11 (by decide) (by decide), (fun d hd => by injection hd with hd; subst hd; exact ⟨tab_none rfl, ⟨fun _ => ⟨_, rfl, hk.k2.size, BC.new w5 _ [.int .i64 k, .int .i64 c, .bool false, .bool false]⟩, fun e => by omega⟩⟩), fun _ _ _ h => h.kp (Kp.refl _).alloc⟩
    · intro hop L a w5 γ hs hk hl ha keep know spec
      have h10 := know 10 (.slice (some ⟨bg, 0, none⟩) n bc) (by kernel_rfl) rfl
      obtain ⟨b, e17, hb, bc⟩ := (spec 17 (by kernel_rfl)).1 rfl
      have how := HU.out.kp (hk.k1 hl)
      obtain ⟨v', w', hr, hov, hgr, hat⟩ := run_app (P := Try.prog) 66 row_bead how (rd_blk (x := ((k, c, false, false) : Bd)) bc) HM1.out HM2.out (Nat.le_trans HB.out (hk.k1 hl).size)
      exact wpOp_value hop (wanted_none rfl) (v := v') (w' := w') (run_exec_app (.tmp 10) (.tmp 17) rfl h10 e17 hr) ⟨_, v', rfl, hk.app hl (after_done ha (k := 4) (by kernel_rfl)) (by decide) (by decide) HU.out hgr hov hat, (fun d hd => by injection hd with hd; subst hd; exact ⟨tab_none rfl, ⟨fun e => by omega, fun _ => rfl⟩⟩), fun j u hd h => h.app (fun e => hd (by rw [e])) HU.out hgr⟩
    · intro hop L a w5 γ hs hk hl ha keep know spec
      have h6 := know 6 (.pointer (some ⟨b, 0, none⟩)) (by kernel_rfl) rfl
      exact wpOp_value hop (wanted_none rfl) (v := .pointer (some ⟨b, 0, none⟩)) (by simp only [execOp, Act.eval, h6]; rfl) ⟨_, γ, rfl, hk.go HR1.out (Kp.refl _) 13 (by decide) (by decide), (fun d hd => by injection hd with hd; subst hd; exact ⟨tab rfl, GA.none (by decide)⟩), fun _ _ _ h => h⟩
    · intro hop L a w5 γ hs hk hl ha keep know spec
      have h19 := know 19 (.pointer (some ⟨b, 0, none⟩)) (by kernel_rfl) rfl
      exact wpOp_value hop (wanted_none rfl) (v := .pointer (some ⟨b, 1, none⟩)) (by simp only [execOp, Act.eval, h19]; rfl) ⟨_, γ, rfl, hk.go HR1.out (Kp.refl _) 14 (by decide) (by decide), (fun d hd => by injection hd with hd; subst hd; exact ⟨tab rfl, GA.none (by decide)⟩), fun _ _ _ h => h⟩
    · intro hop L a w5 γ hs hk hl ha keep know spec
      have h20 := know 20 (.pointer (some ⟨b, 1, none⟩)) (by kernel_rfl) rfl
      have hG := (spec 18 (by kernel_rfl)).2 rfl
      obtain ⟨q, f, ⟨xA, xn, xc, e⟩, hj⟩ := hk.store hl (after_done ha (k := 12) (by kernel_rfl)) (by decide) HQL.out HUN.out HCU.out HF.out HS.out
      subst e
      exact wpOp_skip hop (wanted_none rfl) (w' := w5.setCell ⟨b, 1, none⟩ (.slice xA xn xc)) (by simp only [execOp, Act.eval, h20, hG]; go_simp) ⟨_, _, rfl, hj, (fun d hd => by cases hd), fun _ _ _ h => h.far HQL.out⟩
  · intro a' w9 γ' e1 e2 hk keep know spec
    obtain ⟨tm, df⟩ := a'
    obtain ⟨f9, hf⟩ := frame_puts (D := [6, 7, 8, 9, 10, 11, 12, 13, 14, 15, 16, 17, 18, 19, 20]) e2 keep
    have e1' : df = [] := e1
    clear keep know spec e1 e2
    simp only [List.foldl_cons, List.foldl_nil, List.setIfInBounds_toArray, List.set_cons_zero, List.set_cons_succ] at hf
    subst e1'
    rw [hf]
    clear hf
    have hr := hk.k4 (getR_true _ _)
    clear hk HCU HC3 HU HB HM1 HM2 HQL HF HUN HS HR1 hb c2 c3 n1
    obtain ⟨bg2, bc2, hb, c2, ⟨x1, g1⟩, g2, hE⟩ := HC.out _ hr
    have HE := hide hE
    clear hE hr HC
    have hp2 : p < n + 1 := by omega
    have hw2 : IntKind.i64.wrap (n : Int) = (n : Int) := by rw [IntWalk.i64_in] <;> omega
    have hp3 : (p : Int) < (n : Int) + 1 := by omega
    go_wp2_with fail
    go_still_tail 16, (by kernel_rfl)
    change wpList _ _ _ _ _ w9.drew
    go_wp2
    all_goals exact bodyPost_end (v := .tuple #[]) (by simp [results, Try.results61, go_sem]) rfl ⟨rfl, HE.out _ (Kp.refl _).drew⟩
end Go.Proofs.Ytoihdnekkgpcoaa
namespace Go.Proofs.Ytoihdnekkgpcoaa
open Go.ChangeShapes Go.WideShapes Go.ChangeAt Go.RowKit
set_option linter.unusedVariables false
set_option linter.unusedSimpArgs false

variable {K : Bl} {s : St} {dl : List Tl} {bg bc : Nat} {dv : Value} {w w' : World}
def HP (K : Bl) (s : St) (dl : List Tl) (i : Nat) (r : Mm × Hd × Bool) (e : Ending) (w' : World) : Prop := e = .returned (.bool r.2.2) ∧ BN K { s with m := r.1, hd := up s.hd i r.2.1 } dl w'
theorem BQ.bsl (h : BQ K s dl bg bc dv w) : w.cell? ⟨K.b, 1, none⟩ = some (.slice (some ⟨bg, 0, none⟩) s.m.n bc) := h.bb.cell 1
theorem BQ.bsn (h : BQ K s dl bg bc dv w) {n : Nat} (e : s.m.n = n) : w.cell? ⟨K.b, 1, none⟩ = some (.slice (some ⟨bg, 0, none⟩) n bc) := by rw [← e]; exact h.bb.cell 1
theorem BQ.balg (h : BQ K s dl bg bc dv w) : w.cell? ⟨K.b, 0, none⟩ = some (.int .i64 K.alg) := h.bb.cell 0
theorem BQ.dd0 {D : Nat} {x y : Int} {t : TypeId} (h : BQ (K.add D t [.int .i64 x, .int .i64 y]) s dl bg bc dv w) : w.cell? ⟨D, 0, none⟩ = some (.int .i64 x) := h.added.cell 0
theorem BQ.dd1 {D : Nat} {x y : Int} {t : TypeId} (h : BQ (K.add D t [.int .i64 x, .int .i64 y]) s dl bg bc dv w) : w.cell? ⟨D, 1, none⟩ = some (.int .i64 y) := h.added.cell 1
theorem up_eta {α : Type} (f : Nat → α) (i : Nat) : up f i (f i) = f := by
  funext j
  by_cases e : j = i
  · subst e; exact up_same _ _ _
  · exact up_ne _ _ e
def deedV (d : Dd) : Value := .agg #[.int .i64 d.kind, .int .i64 d.key]
set_option maxRecDepth 100000 in
theorem ho_on (h : BQ K s dl bg bc dv w) {i : Nat} (hi : i < K.nh) (hp : (s.hd i).p < s.m.n) (hcn : (s.hd i).c < s.m.n) (h2 : (s.hd i).plc = 2) (hk : s.m.ky (s.hd i).c ≠ 10) {d : Dd} (hlt : s.m.ky (s.hd i).c < d.key) :
    Calls Try.prog 34 #[ptr K.b, hp5 K i, deedV d] w (HP K s dl i (lockS s.m (s.hd i) d)) := by
  have er : lockS s.m (s.hd i) d = (s.m.free1 (s.hd i).p, { (s.hd i).on s.m with plc := 1 }, false) := by unfold lockS; rw [h2]; simp only [hlt, if_true]
  rw [er]
  unfold HP hp5 ptr deedV
  have H0 := hide h
  clear h er
  go_enter Try.func34, Try.ntmps34
  go_upto_region 1 with fail
  obtain ⟨w1, hw1⟩ : ∃ x, x = w.alloc (.cells #[.int .i64 d.kind, .int .i64 d.key] 23) := ⟨_, rfl⟩
  have H1 := hide ((H0.out.kpw (w' := w1) (by rw [hw1]; exact (Kp.refl w).alloc)).add (D := w.heap.size) (t := 23) (c := [.int .i64 d.kind, .int .i64 d.key]) (by rw [hw1]; exact BC.new w _ _) (by unfold okBT; decide))
  try rw [← hw1]
  clear hw1 H0
  generalize w.heap.size = D at *
  have hb := H1.out.less.bsl
  obtain ⟨-, t1, t2, t3, t4, fz⟩ := H1.out.less.hand hi
  obtain ⟨q0, q1, q2, q3, -⟩ := H1.out.less.bead hcn
  obtain ⟨p0, p1, p2, p3, fb⟩ := H1.out.less.bead hp
  have d0 := H1.out.dd0
  have d1 := H1.out.dd1
  go_quiet (fail)
  obtain ⟨w2, hw⟩ : ∃ x, x = w1.drewN nq := ⟨_, rfl⟩
  try rw [← hw]
  have H2 := hide (H1.out.kpw (w' := w2) (by rw [hw]; (focus ((repeat (first | (with_reducible assumption) | (with_reducible exact Kp.refl _) | (with_reducible apply Kp.drew) | (with_reducible apply Kp.drewN) | ((with_reducible apply Kp.setR); (focus (first | (with_reducible assumption) | (simp; done) | (simp; omega)))) | (with_reducible apply Kp.alloc) | ((with_reducible apply Kp.call); (with_reducible assumption)) | ((with_reducible apply Kp.app); (with_reducible assumption)))); done))))
  clear hw
  clear hb t1 t2 t3 t4 fz q0 q1 q2 q3 p0 p1 p2 p3 fb d0 d1
  have hb := H2.out.less.bsl
  obtain ⟨-, t1, t2, t3, t4, fz⟩ := H2.out.less.hand hi
  obtain ⟨q0, q1, q2, q3, -⟩ := H2.out.less.bead hcn
  obtain ⟨p0, p1, p2, p3, fb⟩ := H2.out.less.bead hp
  have d0 := H2.out.dd0
  have d1 := H2.out.dd1
  have k1 : decide (s.m.ky (s.hd i).c < d.key) = true := decide_eq_true hlt
  go_wp2_with fail
  go_quiet (fail)
  obtain ⟨w3, hw⟩ : ∃ x, x = w2.drewN nq := ⟨_, rfl⟩
  try rw [← hw]
  have H3 := hide (H2.out.kpw (w' := w3) (by rw [hw]; (focus ((repeat (first | (with_reducible assumption) | (with_reducible exact Kp.refl _) | (with_reducible apply Kp.drew) | (with_reducible apply Kp.drewN) | ((with_reducible apply Kp.setR); (focus (first | (with_reducible assumption) | (simp; done) | (simp; omega)))) | (with_reducible apply Kp.alloc) | ((with_reducible apply Kp.call); (with_reducible assumption)) | ((with_reducible apply Kp.app); (with_reducible assumption)))); done))))
  clear hw
  clear hb t1 t2 t3 t4 fz q0 q1 q2 q3 p0 p1 p2 p3 fb d0 d1
  have hb := H3.out.less.bsl
  obtain ⟨-, t1, t2, t3, t4, fz⟩ := H3.out.less.hand hi
  obtain ⟨q0, q1, q2, q3, -⟩ := H3.out.less.bead hcn
  obtain ⟨p0, p1, p2, p3, fb⟩ := H3.out.less.bead hp
  have d0 := H3.out.dd0
  have d1 := H3.out.dd1
  go_upto_region 12 with fail
  go_still_tail 10, (by kernel_rfl)
  change wpList _ _ _ _ _ w3.drew
  obtain ⟨w4, hw⟩ : ∃ x, x = w3.drew := ⟨_, rfl⟩
  try rw [← hw]
  have H4 := hide (H3.out.kpw (w' := w4) (by rw [hw]; (focus ((repeat (first | (with_reducible assumption) | (with_reducible exact Kp.refl _) | (with_reducible apply Kp.drew) | (with_reducible apply Kp.drewN) | ((with_reducible apply Kp.setR); (focus (first | (with_reducible assumption) | (simp; done) | (simp; omega)))) | (with_reducible apply Kp.alloc) | ((with_reducible apply Kp.call); (with_reducible assumption)) | ((with_reducible apply Kp.app); (with_reducible assumption)))); done))))
  clear hw
  clear hb t1 t2 t3 t4 fz q0 q1 q2 q3 p0 p1 p2 p3 fb d0 d1
  have hb := H4.out.less.bsl
  obtain ⟨-, t1, t2, t3, t4, fz⟩ := H4.out.less.hand hi
  obtain ⟨q0, q1, q2, q3, -⟩ := H4.out.less.bead hcn
  obtain ⟨p0, p1, p2, p3, fb⟩ := H4.out.less.bead hp
  have d0 := H4.out.dd0
  have d1 := H4.out.dd1
  go_wp2_with fail
  have H5 := hide (H4.out.setlk hp false)
  refine (on_b H5.out hi hcn hk).mono ?_
  rintro e w5 ⟨rfl, h5⟩
  have H6 := hide h5
  clear h5
  clear hb t1 t2 t3 t4 fz q0 q1 q2 q3 p0 p1 p2 p3 fb d0 d1
  obtain ⟨-, t1, t2, t3, t4, fz⟩ := H6.out.less.hand hi
  go_wp2
  refine ⟨rfl, .bool false, by simp [results, Try.results34, go_sem], rfl, ?_⟩
  refine ⟨bg, bc, dv, ?_⟩
  have := H6.out.less.setat hi 1
  simp only [up_same, up_up] at this
  exact this
set_option maxRecDepth 100000 in
theorem ho_0l (h : BQ K s dl bg bc dv w) {i : Nat} (hi : i < K.nh) (hp : (s.hd i).p < s.m.n) (hcn : (s.hd i).c < s.m.n) (h2 : (s.hd i).plc = 0) {d : Dd} (hl : s.m.lk 0 = true) :
    Calls Try.prog 34 #[ptr K.b, hp5 K i, deedV d] w (HP K s dl i (lockS s.m (s.hd i) d)) := by
  have er : lockS s.m (s.hd i) d = (s.m, s.hd i, false) := by unfold lockS; rw [h2]; simp only [hl, if_true]
  rw [er]
  unfold HP hp5 ptr deedV
  have H0 := hide h
  clear h er
  go_enter Try.func34, Try.ntmps34
  go_upto_region 1 with fail
  obtain ⟨w1, hw1⟩ : ∃ x, x = w.alloc (.cells #[.int .i64 d.kind, .int .i64 d.key] 23) := ⟨_, rfl⟩
  have H1 := hide ((H0.out.kpw (w' := w1) (by rw [hw1]; exact (Kp.refl w).alloc)).add (D := w.heap.size) (t := 23) (c := [.int .i64 d.kind, .int .i64 d.key]) (by rw [hw1]; exact BC.new w _ _) (by unfold okBT; decide))
  try rw [← hw1]
  clear hw1 H0
  generalize w.heap.size = D at *
  have hb := H1.out.less.bsl
  obtain ⟨-, t1, t2, t3, t4, fz⟩ := H1.out.less.hand hi
  obtain ⟨q0, q1, q2, q3, -⟩ := H1.out.less.bead hcn
  obtain ⟨p0, p1, p2, p3, fb⟩ := H1.out.less.bead hp
  have d0 := H1.out.dd0
  have d1 := H1.out.dd1
  go_quiet (fail)
  obtain ⟨w2, hw⟩ : ∃ x, x = w1.drewN nq := ⟨_, rfl⟩
  try rw [← hw]
  have H2 := hide (H1.out.kpw (w' := w2) (by rw [hw]; (focus ((repeat (first | (with_reducible assumption) | (with_reducible exact Kp.refl _) | (with_reducible apply Kp.drew) | (with_reducible apply Kp.drewN) | ((with_reducible apply Kp.setR); (focus (first | (with_reducible assumption) | (simp; done) | (simp; omega)))) | (with_reducible apply Kp.alloc) | ((with_reducible apply Kp.call); (with_reducible assumption)) | ((with_reducible apply Kp.app); (with_reducible assumption)))); done))))
  clear hw
  clear hb t1 t2 t3 t4 fz q0 q1 q2 q3 p0 p1 p2 p3 fb d0 d1
  have hb := H2.out.less.bsl
  obtain ⟨-, t1, t2, t3, t4, fz⟩ := H2.out.less.hand hi
  obtain ⟨q0, q1, q2, q3, -⟩ := H2.out.less.bead hcn
  obtain ⟨p0, p1, p2, p3, fb⟩ := H2.out.less.bead hp
  have d0 := H2.out.dd0
  have d1 := H2.out.dd1
  have z3 : w2.cell? ⟨bg, 3, none⟩ = some (.bool (s.m.lk 0)) := by have := (H2.out.less.bead H2.out.n0).2.2.2.1; simpa using this
  have hn0 := H2.out.less.n0
  go_wp2
  refine ⟨rfl, .bool false, by simp [results, Try.results34, go_sem], rfl, ?_⟩
  refine ⟨bg, bc, dv, ?_⟩
  rw [up_eta]
  exact H2.out.less
set_option maxRecDepth 100000 in
theorem ho_0f (h : BQ K s dl bg bc dv w) {i : Nat} (hi : i < K.nh) (hp : (s.hd i).p < s.m.n) (hcn : (s.hd i).c < s.m.n) (h2 : (s.hd i).plc = 0) (h0 : s.m.ky 0 ≠ 10) {d : Dd} (hl : s.m.lk 0 = false) :
    Calls Try.prog 34 #[ptr K.b, hp5 K i, deedV d] w (HP K s dl i (lockS s.m (s.hd i) d)) := by
  have er : lockS s.m (s.hd i) d = (s.m.lock 0, (s.hd i).again s.m, false) := by unfold lockS; rw [h2]; simp [hl]
  rw [er]
  unfold HP hp5 ptr deedV
  have H0 := hide h
  clear h er
  go_enter Try.func34, Try.ntmps34
  go_upto_region 1 with fail
  obtain ⟨w1, hw1⟩ : ∃ x, x = w.alloc (.cells #[.int .i64 d.kind, .int .i64 d.key] 23) := ⟨_, rfl⟩
  have H1 := hide ((H0.out.kpw (w' := w1) (by rw [hw1]; exact (Kp.refl w).alloc)).add (D := w.heap.size) (t := 23) (c := [.int .i64 d.kind, .int .i64 d.key]) (by rw [hw1]; exact BC.new w _ _) (by unfold okBT; decide))
  try rw [← hw1]
  clear hw1 H0
  generalize w.heap.size = D at *
  have hb := H1.out.less.bsl
  obtain ⟨-, t1, t2, t3, t4, fz⟩ := H1.out.less.hand hi
  obtain ⟨q0, q1, q2, q3, -⟩ := H1.out.less.bead hcn
  obtain ⟨p0, p1, p2, p3, fb⟩ := H1.out.less.bead hp
  have d0 := H1.out.dd0
  have d1 := H1.out.dd1
  go_quiet (fail)
  obtain ⟨w2, hw⟩ : ∃ x, x = w1.drewN nq := ⟨_, rfl⟩
  try rw [← hw]
  have H2 := hide (H1.out.kpw (w' := w2) (by rw [hw]; (focus ((repeat (first | (with_reducible assumption) | (with_reducible exact Kp.refl _) | (with_reducible apply Kp.drew) | (with_reducible apply Kp.drewN) | ((with_reducible apply Kp.setR); (focus (first | (with_reducible assumption) | (simp; done) | (simp; omega)))) | (with_reducible apply Kp.alloc) | ((with_reducible apply Kp.call); (with_reducible assumption)) | ((with_reducible apply Kp.app); (with_reducible assumption)))); done))))
  clear hw
  clear hb t1 t2 t3 t4 fz q0 q1 q2 q3 p0 p1 p2 p3 fb d0 d1
  have hb := H2.out.less.bsl
  obtain ⟨-, t1, t2, t3, t4, fz⟩ := H2.out.less.hand hi
  obtain ⟨q0, q1, q2, q3, -⟩ := H2.out.less.bead hcn
  obtain ⟨p0, p1, p2, p3, fb⟩ := H2.out.less.bead hp
  have d0 := H2.out.dd0
  have d1 := H2.out.dd1
  have z3 : w2.cell? ⟨bg, 3, none⟩ = some (.bool (s.m.lk 0)) := by have := (H2.out.less.bead H2.out.n0).2.2.2.1; simpa using this
  have hn0 := H2.out.less.n0
  have z4 := fb 3
  go_wp2_with fail
  have H5 : Hid (BQ (K.add D 23 [.int .i64 d.kind, .int .i64 d.key]) { s with m := s.m.lock 0 } dl bg bc dv (w2.setCell ⟨bg, 3, none⟩ (.bool true))) := hide (by have := H2.out.setlk H2.out.n0 true; simp only [Nat.zero_mul, Nat.zero_add] at this; exact this)
  refine (again_b H5.out hi h0).mono ?_
  rintro e w5 ⟨rfl, h5⟩
  have H6 := hide h5
  clear h5
  clear hb t1 t2 t3 t4 fz q0 q1 q2 q3 p0 p1 p2 p3 fb d0 d1
  go_wp2
  refine ⟨rfl, .bool false, by simp [results, Try.results34, go_sem], rfl, ?_⟩
  exact ⟨bg, bc, dv, H6.out.less⟩
set_option maxRecDepth 100000 in
theorem ho_1l (h : BQ K s dl bg bc dv w) {i : Nat} (hi : i < K.nh) (hp : (s.hd i).p < s.m.n) (hcn : (s.hd i).c < s.m.n) (h2 : (s.hd i).plc = 1) {d : Dd} (hl : s.m.lk (s.hd i).c = true) :
    Calls Try.prog 34 #[ptr K.b, hp5 K i, deedV d] w (HP K s dl i (lockS s.m (s.hd i) d)) := by
  have er : lockS s.m (s.hd i) d = (s.m, s.hd i, false) := by unfold lockS; rw [h2]; simp only [hl, if_true]
  rw [er]
  unfold HP hp5 ptr deedV
  have H0 := hide h
  clear h er
  go_enter Try.func34, Try.ntmps34
  go_upto_region 1 with fail
  obtain ⟨w1, hw1⟩ : ∃ x, x = w.alloc (.cells #[.int .i64 d.kind, .int .i64 d.key] 23) := ⟨_, rfl⟩
  have H1 := hide ((H0.out.kpw (w' := w1) (by rw [hw1]; exact (Kp.refl w).alloc)).add (D := w.heap.size) (t := 23) (c := [.int .i64 d.kind, .int .i64 d.key]) (by rw [hw1]; exact BC.new w _ _) (by unfold okBT; decide))
  try rw [← hw1]
  clear hw1 H0
  generalize w.heap.size = D at *
  have hb := H1.out.less.bsl
  obtain ⟨-, t1, t2, t3, t4, fz⟩ := H1.out.less.hand hi
  obtain ⟨q0, q1, q2, q3, -⟩ := H1.out.less.bead hcn
  obtain ⟨p0, p1, p2, p3, fb⟩ := H1.out.less.bead hp
  have d0 := H1.out.dd0
  have d1 := H1.out.dd1
  go_quiet (fail)
  obtain ⟨w2, hw⟩ : ∃ x, x = w1.drewN nq := ⟨_, rfl⟩
  try rw [← hw]
  have H2 := hide (H1.out.kpw (w' := w2) (by rw [hw]; (focus ((repeat (first | (with_reducible assumption) | (with_reducible exact Kp.refl _) | (with_reducible apply Kp.drew) | (with_reducible apply Kp.drewN) | ((with_reducible apply Kp.setR); (focus (first | (with_reducible assumption) | (simp; done) | (simp; omega)))) | (with_reducible apply Kp.alloc) | ((with_reducible apply Kp.call); (with_reducible assumption)) | ((with_reducible apply Kp.app); (with_reducible assumption)))); done))))
  clear hw
  clear hb t1 t2 t3 t4 fz q0 q1 q2 q3 p0 p1 p2 p3 fb d0 d1
  have hb := H2.out.less.bsl
  obtain ⟨-, t1, t2, t3, t4, fz⟩ := H2.out.less.hand hi
  obtain ⟨q0, q1, q2, q3, -⟩ := H2.out.less.bead hcn
  obtain ⟨p0, p1, p2, p3, fb⟩ := H2.out.less.bead hp
  have d0 := H2.out.dd0
  have d1 := H2.out.dd1
  go_wp2
  refine ⟨rfl, .bool false, by simp [results, Try.results34, go_sem], rfl, ?_⟩
  refine ⟨bg, bc, dv, ?_⟩
  rw [up_eta]
  exact H2.out.less
set_option maxRecDepth 100000 in
theorem ho_1f (h : BQ K s dl bg bc dv w) {i : Nat} (hi : i < K.nh) (hp : (s.hd i).p < s.m.n) (hcn : (s.hd i).c < s.m.n) (h2 : (s.hd i).plc = 1) {d : Dd} (hl : s.m.lk (s.hd i).c = false) :
    Calls Try.prog 34 #[ptr K.b, hp5 K i, deedV d] w (HP K s dl i (lockS s.m (s.hd i) d)) := by
  have er : lockS s.m (s.hd i) d = (s.m.lock (s.hd i).c, { s.hd i with plc := 2 }, false) := by unfold lockS; rw [h2]; simp [hl]
  rw [er]
  unfold HP hp5 ptr deedV
  have H0 := hide h
  clear h er
  go_enter Try.func34, Try.ntmps34
  go_upto_region 1 with fail
  obtain ⟨w1, hw1⟩ : ∃ x, x = w.alloc (.cells #[.int .i64 d.kind, .int .i64 d.key] 23) := ⟨_, rfl⟩
  have H1 := hide ((H0.out.kpw (w' := w1) (by rw [hw1]; exact (Kp.refl w).alloc)).add (D := w.heap.size) (t := 23) (c := [.int .i64 d.kind, .int .i64 d.key]) (by rw [hw1]; exact BC.new w _ _) (by unfold okBT; decide))
  try rw [← hw1]
  clear hw1 H0
  generalize w.heap.size = D at *
  have hb := H1.out.less.bsl
  obtain ⟨-, t1, t2, t3, t4, fz⟩ := H1.out.less.hand hi
  obtain ⟨q0, q1, q2, q3, -⟩ := H1.out.less.bead hcn
  obtain ⟨p0, p1, p2, p3, fb⟩ := H1.out.less.bead hp
  have d0 := H1.out.dd0
  have d1 := H1.out.dd1
  go_quiet (fail)
  obtain ⟨w2, hw⟩ : ∃ x, x = w1.drewN nq := ⟨_, rfl⟩
  try rw [← hw]
  have H2 := hide (H1.out.kpw (w' := w2) (by rw [hw]; (focus ((repeat (first | (with_reducible assumption) | (with_reducible exact Kp.refl _) | (with_reducible apply Kp.drew) | (with_reducible apply Kp.drewN) | ((with_reducible apply Kp.setR); (focus (first | (with_reducible assumption) | (simp; done) | (simp; omega)))) | (with_reducible apply Kp.alloc) | ((with_reducible apply Kp.call); (with_reducible assumption)) | ((with_reducible apply Kp.app); (with_reducible assumption)))); done))))
  clear hw
  clear hb t1 t2 t3 t4 fz q0 q1 q2 q3 p0 p1 p2 p3 fb d0 d1
  have hb := H2.out.less.bsl
  obtain ⟨-, t1, t2, t3, t4, fz⟩ := H2.out.less.hand hi
  obtain ⟨q0, q1, q2, q3, -⟩ := H2.out.less.bead hcn
  obtain ⟨p0, p1, p2, p3, fb⟩ := H2.out.less.bead hp
  have d0 := H2.out.dd0
  have d1 := H2.out.dd1
  have n2 := H2.out.less.ne2
  go_wp2
  refine ⟨rfl, .bool false, by simp [results, Try.results34, go_sem], rfl, ?_⟩
  refine ⟨bg, bc, dv, ?_⟩
  exact (H2.out.less.setlk hcn true).setat hi 2
end Go.Proofs.Ytoihdnekkgpcoaa
