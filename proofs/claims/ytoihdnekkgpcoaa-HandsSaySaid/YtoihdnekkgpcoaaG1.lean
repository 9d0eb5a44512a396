/-
  Words for memory that all my walks share: a slice that reads as a list (RD), a slice that the call owns (OW), trees that are only read (TR), small lemmas on worlds. Conditions: none. Own work, after the guide's extra-words.
  A slice that the call owns (OW), appended to in a plain region and in one that draws its order; from OW to RD. Conditions: those of the guide's run_append_own_at.
  A block that the call made and that holds just a list (AR): read, written; an owned slice cut at its end. Conditions: none.
  Ops and answers of a map as they lie in memory. Conditions: none.
  An argument that is a slice of pairs of ints, or of ints, opened to RD. Conditions: none. (open_slice_fields: a block of the guide's page extra-structs, which says to copy it.)
  Arguments opened to RD: what all frames of this seat share. Conditions: none.
  The machine of hands at one list, in plain Lean: beads, places, the step of each of the ways, runs; and what each write keeps of the list. Conditions: as each theorem says.
  What each write keeps of the list: keys rise along the way, all without a mark are on the way from the head. Conditions: as each theorem says.
  An order of all deeds: what is kept by each step, and what follows when all deeds are done. Conditions: as each theorem says.
-/
import Derived.Test.YtoihdnekkgpcoaaProg
import Derived.WalkKit
import Derived.ProofKit
import Derived.Handy
import Derived.OpenShut
import Derived.BigQuiet
import Derived.WalkSpells
import Derived.WalkLawsBesides
import Derived.WalkSmall
import Derived.Deep.QuietTactic
import Derived.Deep.RegionHeld3
import Derived.Deep.RegionLaw
import Derived.Deep.RegionWith
import Derived.Deep.AppendLies
import Derived.Deep.AppendSrc
import Derived.Deep.Draws
import Derived.Lib.Hide
import Derived.Laws.AppendOwnNone
import Derived.Laws.MakeOwn
import Derived.Test.YtoihdnekkgpcoaaRows
import Derived.Lib.SmallJoins
import Derived.Deep.Slices
import Derived.Deep.Fields
import Derived.ChangeSame
import Derived.ChangeOld
import Derived.ShutString

namespace Go.Proofs.Ytoihdnekkgpcoaa
open Go.ChangeShapes Go.WideShapes Go.ChangeAt Go.RowKit
set_option linter.unusedVariables false
set_option linter.unusedSimpArgs false

theorem hide {p : Prop} (h : p) : Hid p := h

/-- How an element lies in memory: so many cells. -/
structure Enc (α : Type) where
  size : Nat
  cells : α → List Value
  len : ∀ a, (cells a).length = size
  one : ∀ a u, u ∈ cells a → u.oneCell' = true

abbrev IP := Int × Int
def eInt : Enc Int := ⟨1, fun n => [.int .i64 n], fun _ => rfl, fun _ u h => by simp at h; subst h; rfl⟩
def ePair : Enc IP := ⟨2, fun p => [.int .i64 p.1, .int .i64 p.2], fun _ => rfl, fun _ u h => by simp at h; rcases h with rfl | rfl <;> rfl⟩
def eVal : Enc {v : Value // v.oneCell' = true} := ⟨1, fun v => [v.1], fun _ => rfl, fun v u h => by simp at h; subst h; exact v.2⟩

/-- The slice value v reads as the list l in the world w. -/
def RD {α : Type} (w : World) (E : Enc α) (v : Value) (l : List α) : Prop :=
  ∃ A c, v = .slice A l.length c ∧ l.length ≤ c ∧ c ≤ maxLen ∧ (A = none → c = 0) ∧ (0 < l.length → ∃ b o, A = some ⟨b, o, none⟩ ∧ b < w.heap.size ∧
    ∀ k (h : k < l.length) j, j < E.size → w.cell? ⟨b, o + k * E.size + j, none⟩ = (E.cells l[k])[j]?)

section
variable {α : Type} {w w' : World} {E : Enc α} {v : Value} {l : List α}
theorem RD.nil : RD w E (.slice none 0 0) [] := ⟨none, 0, rfl, Nat.le_refl _, by decide, fun _ => rfl, fun h => by simp at h⟩
theorem RD.keep (h : RD w E v l) (hs : w.heap.size ≤ w'.heap.size) (hk : ∀ p : Addr, p.block < w.heap.size → w'.cell? p = w.cell? p) : RD w' E v l := by
  obtain ⟨A, c, rfl, h1, h2, hn, h3⟩ := h
  refine ⟨A, c, rfl, h1, h2, hn, fun h0 => ?_⟩
  obtain ⟨b, o, rfl, hb, hc⟩ := h3 h0
  exact ⟨b, o, rfl, by omega, fun k hk' j hj => (hk _ hb).trans (hc k hk' j hj)⟩
theorem RD.below (h : RD w E v l) (hb : Below w.heap.size w w') : RD w' E v l := h.keep hb.size fun p hp => hb.cell hp
theorem RD.shape (h : RD w E v l) : ∃ A c, v = .slice A l.length c ∧ l.length ≤ c ∧ c ≤ 9223372036854775807 := by
  obtain ⟨A, c, rfl, h1, h2, hn, h3⟩ := h
  exact ⟨A, c, rfl, h1, by unfold maxLen at h2; omega⟩
theorem RD.at_ {A : Option Addr} {n c : Nat} (h : RD w E (.slice A n c) l) {k : Nat} (hk : k < l.length) :
    ∃ b o, A = some ⟨b, o, none⟩ ∧ b < w.heap.size ∧ ∀ j, j < E.size → w.cell? ⟨b, o + k * E.size + j, none⟩ = (E.cells l[k])[j]? := by
  obtain ⟨A', c', e, h1, h2, hn, h3⟩ := h
  injection e with e1 e2 e3
  subst e1
  obtain ⟨b, o, rfl, hb, hc⟩ := h3 (by omega)
  exact ⟨b, o, rfl, hb, hc k hk⟩
theorem RD.cut {A : Option Addr} {n c : Nat} (h : RD w E (.slice A n c) l) {lo hi : Nat} (h1 : lo ≤ hi) (h2 : hi ≤ l.length) (A' : Option Addr) (hA0 : A' = none → A = none)
    (hA : ∀ b o, A = some ⟨b, o, none⟩ → lo < c → A' = some ⟨b, o + lo * E.size, none⟩) : RD w E (.slice A' (hi - lo) (c - lo)) ((l.take hi).drop lo) := by
  obtain ⟨A0, c', e, h3, h4, hn, h5⟩ := h
  injection e with e1 e2 e3
  subst e1; subst e3
  have hl : ((l.take hi).drop lo).length = hi - lo := by simp; omega
  refine ⟨A', c - lo, by rw [hl], by rw [hl]; omega, by omega, fun h0 => by have := hn (hA0 h0); omega, fun h0 => ?_⟩
  rw [hl] at h0
  obtain ⟨b, o, rfl, hb, hc⟩ := h5 (by omega)
  refine ⟨b, o + lo * E.size, hA b o rfl (by omega), hb, fun k hk j hj => ?_⟩
  have := hc (lo + k) (by simp at hk; omega) j hj
  rw [show o + lo * E.size + k * E.size + j = o + (lo + k) * E.size + j from by rw [Nat.add_mul]; omega, this]
  simp
end
section
variable {α : Type} {w : World} {E : Enc α} {l : List α} {n c : Nat}
theorem RD.takeS {A : Option Addr} (h : RD w E (.slice A n c) l) {k : Nat} (hk : k ≤ l.length) : RD w E (.slice A k c) (l.take k) := by
  obtain ⟨A0, c', e, h3, h4, hn, h5⟩ := h
  injection e with e1 e2 e3
  subst e1; subst e3
  have hl : (l.take k).length = k := by simp; omega
  refine ⟨A, c, by rw [hl], by rw [hl]; omega, h4, hn, fun h0 => ?_⟩
  rw [hl] at h0
  obtain ⟨b, o, rfl, hb, hc⟩ := h5 (by omega)
  refine ⟨b, o, rfl, hb, fun i hi j hj => ?_⟩
  rw [hc i (by omega) j hj]
  simp
/-- l[k:], as the walk writes it where the cut is not at the capacity's end; 'hA' where it is not known. -/
theorem RD.dropS {b o : Nat} (h : RD w E (.slice (some ⟨b, o, none⟩) n c) l) {k : Nat} (hk : k ≤ l.length) {A' : Option Addr} {s : Nat} (hs : s = E.size) (hA : (if c = k then some (⟨b, o, none⟩ : Addr) else some ⟨b, o + k * s, none⟩) = A') :
    RD w E (.slice A' (l.length - k) (c - k)) (l.drop k) := by
  obtain ⟨A0, c', e, h3, h4, hn, h5⟩ := h
  injection e with e1 e2 e3
  subst e1; subst e3; subst hs
  have hl : (l.drop k).length = l.length - k := by simp
  refine ⟨A', c - k, by rw [hl], by rw [hl]; omega, by omega, (fun h0 => by subst h0; split at hA <;> cases hA), fun h0 => ?_⟩
  rw [hl] at h0
  obtain ⟨b', o', e2, hb, hc⟩ := h5 (by omega)
  injection e2 with e2
  injection e2 with e3 e4
  subst e3; subst e4
  rw [if_neg (by omega)] at hA
  refine ⟨b, o + k * E.size, hA.symm, hb, fun i hi j hj => ?_⟩
  have := hc (k + i) (by simp at hi; omega) j hj
  rw [show o + k * E.size + i * E.size + j = o + (k + i) * E.size + j from by rw [Nat.add_mul]; omega, this]
  simp
end
section
variable {w : World} {A : Option Addr} {n c : Nat}
theorem RD.pair {l : List IP} (h : RD w ePair (.slice A n c) l) {k : Nat} (hk : k < l.length) :
    ∃ b o, A = some ⟨b, o, none⟩ ∧ b < w.heap.size ∧ w.cell? ⟨b, o + k * 2, none⟩ = some (.int .i64 l[k].1) ∧ w.cell? ⟨b, o + k * 2 + 1, none⟩ = some (.int .i64 l[k].2) := by
  obtain ⟨b, o, rfl, hb, hc⟩ := h.at_ hk
  exact ⟨b, o, rfl, hb, hc 0 (by decide), hc 1 (by decide)⟩
theorem RD.int {l : List Int} (h : RD w eInt (.slice A n c) l) {k : Nat} (hk : k < l.length) :
    ∃ b o, A = some ⟨b, o, none⟩ ∧ b < w.heap.size ∧ w.cell? ⟨b, o + k, none⟩ = some (.int .i64 l[k]) := by
  obtain ⟨b, o, rfl, hb, hc⟩ := h.at_ hk
  have := hc 0 (by decide)
  simp only [eInt, Nat.mul_one, Nat.add_zero] at this
  exact ⟨b, o, rfl, hb, this⟩
end

/-- What a call that answers v, and writes nothing that was there, leaves. -/
def Ret (v : Value) (w : World) (e : Ending) (w' : World) : Prop := e = .returned v ∧ Below w.heap.size w w'
theorem Ret.mk {v : Value} {w w' : World} (h : Below w.heap.size w w') : Ret v w (.returned v) w' := ⟨rfl, h⟩
/-- A call that answers a slice that reads as l. -/
def RetRD {α : Type} (E : Enc α) (l : List α) (w : World) (e : Ending) (w' : World) : Prop := ∃ v, e = .returned v ∧ RD w' E v l ∧ Below w.heap.size w w'
end Go.Proofs.Ytoihdnekkgpcoaa
namespace Go.Proofs.Ytoihdnekkgpcoaa
open Go.ChangeShapes Go.WideShapes Go.ChangeAt Go.RowKit
set_option linter.unusedVariables false
set_option linter.unusedSimpArgs false

def OW {α : Type} (w : World) (B : Nat) (e : TypeId) (E : Enc α) (v : Value) (l : List α) : Prop := w.ownsRow B e E.size v l.length (l.flatMap E.cells)

theorem flat_len {α : Type} (E : Enc α) (l : List α) : (l.flatMap E.cells).length = l.length * E.size := by
  induction l with
  | nil => simp
  | cons a t ih => simp [List.flatMap_cons, ih, E.len, Nat.add_mul, Nat.add_comm]
theorem flat_at {α : Type} (E : Enc α) : ∀ (l : List α) (k : Nat) (h : k < l.length) (j : Nat), j < E.size → (l.flatMap E.cells)[k * E.size + j]? = (E.cells l[k])[j]?
  | a :: t, 0, h, j, hj => by simp [List.flatMap_cons, List.getElem?_append, E.len, hj]
  | a :: t, k + 1, h, j, hj => by
    rw [List.flatMap_cons, List.getElem?_append_right (by rw [E.len, Nat.add_mul]; omega), E.len]
    rw [show (k + 1) * E.size + j - E.size = k * E.size + j from by rw [Nat.add_mul]; omega]
    exact flat_at E t k (by simpa using h) j hj
theorem flat_inv {α : Type} (E : Enc α) (hs : 0 < E.size) (l : List α) (j : Nat) (h : j < l.length * E.size) : ∃ k i, k < l.length ∧ i < E.size ∧ j = k * E.size + i :=
  ⟨j / E.size, j % E.size, by rw [Nat.div_lt_iff_lt_mul hs]; exact h, Nat.mod_lt _ hs, by rw [Nat.mul_comm]; exact (Nat.div_add_mod j E.size).symm⟩
theorem flat_one {α : Type} (E : Enc α) (l : List α) : ∀ u ∈ l.flatMap E.cells, u.oneCell' = true := fun u hu => by
  obtain ⟨a, _, h⟩ := List.mem_flatMap.1 hu
  exact E.one a u h

section
variable {α : Type} {w w' : World} {B : Nat} {e : TypeId} {E : Enc α} {v : Value} {l : List α}
theorem OW.nil : OW w B e E (.slice none 0 0) [] := World.ownsRow_nil w B e E.size
theorem OW.empty {w : World} {B : Nat} {e : TypeId} {E : Enc α} (hB : B ≤ w.heap.size) : OW (w.alloc (.cells #[] e)) B e E (.slice (some ⟨w.heap.size, 0, none⟩) 0 0) ([] : List α) :=
  ⟨by simp, .inr ⟨w.heap.size, 0, #[], rfl, hB, heap_alloc_new w _, Nat.le_refl _, by simp [maxLen], by simp, by simp⟩⟩
theorem OW.emptyE {w : World} {B g : Nat} {e : TypeId} {E : Enc α} (hg : w.heap.size = g) (hB : B ≤ g) : OW (w.alloc (.cells #[] e)) B e E (.slice (some ⟨g, 0, none⟩) 0 0) ([] : List α) := by
  subst hg
  exact OW.empty hB
theorem OW.rd (h : OW w B e E v l) : RD w E v l := by
  rcases h.2 with ⟨rfl, h0⟩ | ⟨g, cap, cur, rfl, hb, hg, h1, h2, h3, h4⟩
  · have : l = [] := List.eq_nil_of_length_eq_zero h0
    subst this
    exact RD.nil
  · refine ⟨_, cap, rfl, h1, h2, (fun h => by cases h), fun h0 => ⟨g, 0, rfl, (Array.getElem?_eq_some_iff.1 hg).1, fun k hk j hj => ?_⟩⟩
    rw [cell_of_row w g _ cur e (0, 0) hg, ← flat_at E l k hk j hj, ← h4, List.getElem?_take, if_pos]
    · simp
    · have : (k + 1) * E.size ≤ l.length * E.size := Nat.mul_le_mul_right _ hk
      rw [Nat.add_mul] at this
      omega
theorem OW.lt (h : OW w B e E v l) : ∀ k, v.ownBlock = some k → B ≤ k ∧ k < w.heap.size := World.ownsRow.lt h
theorem OW.more {B' : Nat} (h : OW w B e E v l) (hB : B' ≤ B) : OW w B' e E v l := by
  obtain ⟨h1, h2⟩ := h
  refine ⟨h1, ?_⟩
  rcases h2 with h2 | ⟨g, cap, cur, hv, hg, r⟩
  · exact .inl h2
  · exact .inr ⟨g, cap, cur, hv, by omega, r⟩
theorem OW.below (h : OW w B e E v l) (hb : Below w.heap.size w w') : OW w' B e E v l := by
  obtain ⟨h1, h2⟩ := h
  refine ⟨h1, ?_⟩
  rcases h2 with h2 | ⟨g, cap, cur, hv, hg, hh, r⟩
  · exact .inl h2
  · exact .inr ⟨g, cap, cur, hv, hg, by rw [hb.block g (Array.getElem?_eq_some_iff.1 hh).1]; exact hh, r⟩
theorem OW.belowR (hb : Below w.heap.size w w') (h : OW w B e E v l) : OW w' B e E v l := h.below hb
theorem OW.keptR {row : Option Nat} (hg : w.grownBy w' row) (hne : v.ownBlock = none ∨ v.ownBlock ≠ row) (h : OW w B e E v l) : OW w' B e E v l := World.ownsRow.kept h hg hne
theorem RD.belowR (hb : Below w.heap.size w w') (h : RD w E v l) : RD w' E v l := h.below hb
theorem OW.kept {row : Option Nat} (h : OW w B e E v l) (hg : w.grownBy w' row) (hne : v.ownBlock = none ∨ v.ownBlock ≠ row) : OW w' B e E v l := World.ownsRow.kept h hg hne
theorem OW.alloc (h : OW w B e E v l) (o : Obj) : OW (w.alloc o) B e E v l := World.ownsRow.alloc h o
theorem OW.drew (h : OW w B e E v l) : OW w.drew B e E v l := h
theorem OW.drewN (h : OW w B e E v l) (n : Nat) : OW (w.drewN n) B e E v l := h
theorem OW.setCell (h : OW w B e E v l) {p : Addr} (hp : v.ownBlock ≠ some p.block) (u : Value) : OW (w.setCell p u) B e E v l := by
  obtain ⟨h1, h2⟩ := h
  refine ⟨h1, ?_⟩
  rcases h2 with h2 | ⟨g, cap, cur, rfl, hg, hh, r⟩
  · exact .inl h2
  · refine .inr ⟨g, cap, cur, rfl, hg, ?_, r⟩
    rw [Below.heap_setCell _ _ _ _ (by rintro rfl; exact hp rfl)]
    exact hh
theorem OW.setCellR {p : Addr} {u : Value} (hp : v.ownBlock ≠ some p.block) (h : OW w B e E v l) : OW (w.setCell p u) B e E v l := h.setCell hp u
theorem RD.drew (h : RD w E v l) : RD w.drew E v l := h
theorem RD.drewN (h : RD w E v l) (n : Nat) : RD (w.drewN n) E v l := h
theorem RD.alloc (h : RD w E v l) (o : Obj) : RD (w.alloc o) E v l := h.below ((Below.refl _ _).alloc (Nat.le_refl _) o)
/-- A slice that was read before 'w.heap.size' stood; the row that has grown is another one. -/
theorem RD.grown {w0 : World} {row : Option Nat} (h : RD w0 E v l) (h0 : Below w0.heap.size w0 w) (hg : w.grownBy w' row) (hr : ∀ k, row = some k → w0.heap.size ≤ k) : RD w' E v l :=
  h.below (h0.grown hg h0.size hr)
theorem RD.grownR {row : Option Nat} (hg : w.grownBy w' row) (hne : v.ownBlock ≠ row) (h : RD w E v l) : RD w' E v l := by
  obtain ⟨A, c, rfl, h1, h2, hn, h3⟩ := h
  refine ⟨A, c, rfl, h1, h2, hn, fun h0 => ?_⟩
  obtain ⟨b, o, rfl, hb, hc⟩ := h3 h0
  refine ⟨b, o, rfl, Nat.lt_of_lt_of_le hb hg.size, fun k hk' j hj => ?_⟩
  rw [← hc k hk' j hj]
  exact World.cell?_of_block (hg.block b hb hne)
theorem Below.grew {a : World} {row : Option Nat} (h : Below B a w) (hg : w.grownBy w' row) (hB : B ≤ w.heap.size) (hr : ∀ k, row = some k → B ≤ k) : Below B a w' := h.grown hg hB hr

/-- What the type table says of a slice type t over e. -/
def Row {α : Type} (P : Program) (t e : TypeId) (E : Enc α) (bytes : Nat) : Prop :=
  ∃ i z, P.underlying t = some (.slice e) ∧ P.info? e = some i ∧ i.zero = some z ∧ i.size = E.size ∧ i.bytes = bytes ∧ z.cells.size = E.size ∧ 0 < E.size

theorem run_app {P : Program} {t : TypeId} (ty : TypeId) {bytes : Nat} (hrow : Row P t e E bytes) (h : OW w B e E v l) {u : Value} {m : List α} (hu : RD w E u m)
    (hlim : (l.length + m.length) * bytes ≤ 140737488355328) (h63 : l.length + m.length ≤ maxLen) (hB : B ≤ w.heap.size) :
    ∃ v' w', (Builtin.append_ #[t, t] ty #[v, u]).run P w = .ok v' w' ∧ OW w' B e E v' (l ++ m) ∧ w.grownBy w' v.ownBlock ∧ (v'.ownBlock = v.ownBlock ∨ v'.ownBlock = some w.heap.size) := by
  obtain ⟨i, z, ht, hi, hz, hsize, hby, hzs, hsz⟩ := hrow
  obtain ⟨A, c, rfl, h1, h2, hn, h3⟩ := hu
  cases A with
  | none =>
    have hc : c = 0 := hn rfl
    subst hc
    have hm : m = [] := List.eq_nil_of_length_eq_zero (by omega)
    subst hm
    refine ⟨v, w, ?_, by simpa using h, ⟨rfl, rfl, rfl, Nat.le_refl _, fun _ _ _ => rfl⟩, .inl rfl⟩
    exact run_append_owned_none (P := P) (w := w) B t ty e i E.size ht hi v l.length _ h
  | some ad =>
    have hnews : ∀ j u, (m.flatMap E.cells)[j]? = some u → w.cell? (ad.add j) = some u := by
      intro j u hj
      have hjl : j < m.length * E.size := by
        rw [← flat_len E m]
        rcases Nat.lt_or_ge j (m.flatMap E.cells).length with hh | hh
        · exact hh
        · rw [List.getElem?_eq_none hh] at hj; cases hj
      obtain ⟨k, x, hk, hx, rfl⟩ := flat_inv E hsz m j hjl
      obtain ⟨b, o, e1, hb, hc⟩ := h3 (by omega)
      injection e1 with e1
      subst e1
      rw [flat_at E m k hk x hx, ← hc k hk x hx] at hj
      rw [← hj]
      congr 1
      unfold Addr.add
      split
      · next h0 => rw [Nat.add_assoc, h0, Nat.add_zero]
      · simp [Nat.add_assoc]
    obtain ⟨v', w', hr, ho, hg, _, hb⟩ := run_append_own_at (P := P) w B t ty e i z E.size bytes ht hi hz hsize hby hzs hsz v l.length _ h ad m.length c (m.flatMap E.cells) (flat_len E m) hnews (flat_one E m) h63 hlim hB
    refine ⟨v', w', hr, ?_, hg, hb⟩
    unfold OW
    rw [List.length_append, List.flatMap_append]
    exact ho

theorem wp_app {P : Program} {o : Oper} {a : Act} {K : Act → World → Prop} {Q : Exit → Act → World → Prop} (s x : Operand) {t : TypeId}
    (ho : o.op = .call { callee := .builtin .append, args := #[s, x], argTypes := #[t, t] }) {bytes : Nat} (hrow : Row P t e E bytes) (hs : a.eval s = v) (h : OW w B e E v l) {m : List α} (hu : RD w E (a.eval x) m)
    (hlim : (l.length + m.length) * bytes ≤ 140737488355328) (h63 : l.length + m.length ≤ maxLen) (hB : B ≤ w.heap.size)
    (hh : ∀ v' w', OW w' B e E v' (l ++ m) → w.grownBy w' v.ownBlock → (v'.ownBlock = v.ownBlock ∨ v'.ownBlock = some w.heap.size) → K (a.put o.dst v') w') : o.wp P a w K Q := by
  obtain ⟨v', w', hr, h1, h2, h3⟩ := run_app (P := P) o.type hrow h hu hlim h63 hB
  unfold Oper.wp execOp
  simp only [ho, resolve, invoke, builtin, Sem.run_bind, Sem.run_pure, Result.andThen_ok, List.map_toArray, List.map_cons, List.map_nil, hs, hr]
  exact hh v' w' h1 h2 h3
/-- At a plain region. -/
theorem list_app {P : Program} {ops : Array Oper} {rest : List Oper} {o : Oper} {a : Act} {Q : Exit → Act → World → Prop} {t : TypeId} {bytes : Nat} (hrow : Row P t e E bytes) (v : Value) (hgd : o.guard = none) (s x : Operand)
    (ho : o.op = .call { callee := .builtin .append, args := #[s, x], argTypes := #[t, t] }) (hs : a.eval s = v) (h : OW w B e E v l) {m : List α} (hu : RD w E (a.eval x) m)
    (hlim : (l.length + m.length) * bytes ≤ 140737488355328) (h63 : l.length + m.length ≤ maxLen) (hB : B ≤ w.heap.size)
    (hh : ∀ v' w', OW w' B e E v' (l ++ m) → w.grownBy w' v.ownBlock → (v'.ownBlock = v.ownBlock ∨ v'.ownBlock = some w.heap.size) → wpList P ops Q rest (a.put o.dst v') w') : wpList P ops Q (o :: rest) a w :=
  wpList_plain hgd fun K hK => wp_app s x ho hrow hs h hu hlim h63 hB fun v' w' h1 h2 h3 => hK _ _ (hh v' w' h1 h2 h3)
/-- At a step of a region that draws. -/
theorem step_app {P : Program} {ops : Array Oper} {o : Oper} {a : Act} {K : Act → World → Prop} {Q : Exit → Act → World → Prop} {F : Prop} {t : TypeId} {bytes : Nat} (hrow : Row P t e E bytes) (v : Value) (hgd : o.guard = none) (s x : Operand)
    (ho : o.op = .call { callee := .builtin .append, args := #[s, x], argTypes := #[t, t] }) (hs : a.eval s = v) (h : OW w B e E v l) {m : List α} (hu : RD w E (a.eval x) m)
    (hlim : (l.length + m.length) * bytes ≤ 140737488355328) (h63 : l.length + m.length ≤ maxLen) (hB : B ≤ w.heap.size)
    (hh : ∀ v' w', OW w' B e E v' (l ++ m) → w.grownBy w' v.ownBlock → (v'.ownBlock = v.ownBlock ∨ v'.ownBlock = some w.heap.size) → K (a.put o.dst v') w') :
    if Region.wanted o (yielded ops a.tmps) = true then Oper.wp P o a w K Q else F := by
  have hw : Region.wanted o (yielded ops a.tmps) = true := by simp [Region.wanted, hgd]
  rw [if_pos hw]
  exact wp_app s x ho hrow hs h hu hlim h63 hB hh
end

/-- A block that was just made, of elements written out, as a slice over all of it. -/
theorem RD.block {α : Type} {w : World} {E : Enc α} {g : Nat} {cs : Array Value} {t : TypeId} {fr : Nat × Nat} (l : List α) (hg : w.heap[g]? = some (.cells cs t fr)) (hl : cs.toList = l.flatMap E.cells) (hm : l.length ≤ maxLen) :
    RD w E (.slice (some ⟨g, 0, none⟩) l.length l.length) l := by
  refine ⟨_, _, rfl, Nat.le_refl _, hm, fun h => (by cases h), fun h0 => ⟨g, 0, rfl, (Array.getElem?_eq_some_iff.1 hg).1, fun k hk j hj => ?_⟩⟩
  rw [cell_of_row w g _ cs t fr hg, ← flat_at E l k hk j hj, ← hl]
  simp
theorem RD.new1 {α : Type} {w : World} {E : Enc α} {cs : Array Value} {t : TypeId} (a : α) (hl : cs.toList = E.cells a) : RD (w.alloc (.cells cs t)) E (.slice (some ⟨w.heap.size, 0, none⟩) 1 1) [a] :=
  RD.block (l := [a]) (heap_alloc_new w _) (by simpa using hl) (by simp [maxLen])

theorem RD.new1e {α : Type} {w : World} {E : Enc α} {cs : Array Value} {t : TypeId} {g : Nat} (a : α) (hg : w.heap.size = g) (hl : cs.toList = E.cells a) : RD (w.alloc (.cells cs t)) E (.slice (some ⟨g, 0, none⟩) 1 1) [a] := by
  subst hg
  exact RD.new1 a hl

def RetOW {α : Type} (e : TypeId) (E : Enc α) (l : List α) (w : World) (en : Ending) (w' : World) : Prop := ∃ v, en = .returned v ∧ OW w' w.heap.size e E v l ∧ Below w.heap.size w w'

/-- What stood at w stands at w'. Behind a name, so that the walk does not look into it. -/
def Kp (w w' : World) : Prop := Below w.heap.size w w'
theorem Kp.refl (w : World) : Kp w w := Below.refl _ _
theorem Kp.bel {w w' : World} (h : Kp w w') : Below w.heap.size w w' := h
theorem Kp.of {w w' : World} (h : Below w.heap.size w w') : Kp w w' := h
theorem Kp.size {w w' : World} (h : Kp w w') : w.heap.size ≤ w'.heap.size := Below.size h
theorem Kp.drew {w w' : World} (h : Kp w w') : Kp w w'.drew := Below.drew h
theorem Kp.drewN {w w' : World} {n : Nat} (h : Kp w w') : Kp w (w'.drewN n) := below_drewN h n
theorem Kp.alloc {w w' : World} {o : Obj} (h : Kp w w') : Kp w (w'.alloc o) := Below.alloc h (Below.size h) o
theorem Kp.call {w W W' : World} (hb : Below W.heap.size W W') (h : Kp w W) : Kp w W' := Below.trans h (hb.mono h.size)
theorem Kp.set {w W : World} {p : Addr} (h : Kp w W) (hp : w.heap.size ≤ p.block) (u : Value) : Kp w (W.setCell p u) := Below.setCell h hp u
theorem Kp.setR {w W : World} {p : Addr} {u : Value} (hp : w.heap.size ≤ p.block) (h : Kp w W) : Kp w (W.setCell p u) := Below.setCell h hp u
theorem Kp.cell {w w' : World} {p : Addr} {u : Value} (h : Kp w w') (hc : w.cell? p = some u) : w'.cell? p = some u := (Below.cell h (World.block_lt_of_cell? _ _ hc)).trans hc
theorem Kp.frozen {w w' : World} {p : Addr} (h : Kp w w') (hp : p.block < w.heap.size) : w'.frozen? p = w.frozen? p := Below.frozen h hp
theorem Kp.trans {a b c : World} (h : Kp a b) (k : Kp b c) : Kp a c := Below.trans h (Below.mono k h.size)
theorem RD.kp {α : Type} {w w' : World} {E : Enc α} {v : Value} {l : List α} (h : RD w E v l) (hb : Kp w w') : RD w' E v l := h.below hb
theorem OW.kp {α : Type} {w w' : World} {B : Nat} {e : TypeId} {E : Enc α} {v : Value} {l : List α} (h : OW w B e E v l) (hb : Kp w w') : OW w' B e E v l := h.below hb
/-- All that v owns lies below b | from b on. -/
def Lo (b : Nat) (v : Value) : Prop := ∀ k, v.ownBlock = some k → k < b
def Hi (b : Nat) (v : Value) : Prop := ∀ k, v.ownBlock = some k → b ≤ k
theorem Kp.app {w W W' : World} {v : Value} (hg : W.grownBy W' v.ownBlock) (h : Kp w W) (hr : Hi w.heap.size v) : Kp w W' := Below.grown h hg h.size hr
theorem OW.lo {α : Type} {w : World} {B : Nat} {e : TypeId} {E : Enc α} {v : Value} {l : List α} (h : OW w B e E v l) : Lo w.heap.size v := fun k hk => (h.lt k hk).2
theorem OW.hi {α : Type} {w : World} {B : Nat} {e : TypeId} {E : Enc α} {v : Value} {l : List α} (h : OW w B e E v l) : Hi B v := fun k hk => (h.lt k hk).1
theorem Lo.apart {b : Nat} {u v : Value} (hu : Lo b u) (hv : Hi b v) : v.ownBlock = none ∨ v.ownBlock ≠ u.ownBlock := by
  cases hc : v.ownBlock with
  | none => exact .inl rfl
  | some k =>
    refine .inr fun e => ?_
    have h1 := hu k e.symm
    have h2 := hv k hc
    omega
theorem Hi.mono {b c : Nat} {v : Value} (h : Hi c v) (hb : b ≤ c) : Hi b v := fun k hk => Nat.le_trans hb (h k hk)
theorem Lo.mono {b c : Nat} {v : Value} (h : Lo b v) (hb : b ≤ c) : Lo c v := fun k hk => Nat.lt_of_lt_of_le (h k hk) hb

theorem RD.len_eq {α : Type} {E : Enc α} {w w' : World} {v : Value} {l m : List α} (h : RD w E v l) (h' : RD w' E v m) : l.length = m.length := by
  obtain ⟨A, c, rfl, _⟩ := h
  obtain ⟨A', c', e, _⟩ := h'
  injection e
theorem RD.lo {α : Type} {E : Enc α} {w : World} {v : Value} {l : List α} (h : RD w E v l) (h0 : 0 < l.length) : Lo w.heap.size v := by
  obtain ⟨A, c, rfl, h1, h2, hn, h3⟩ := h
  obtain ⟨b, o, rfl, hb, _⟩ := h3 h0
  intro k hk
  simp [Value.ownBlock] at hk
  omega
theorem own_hi {v v3 : Value} {b H : Nat} (h : v3.ownBlock = v.ownBlock ∨ v3.ownBlock = some H) (hv : Hi b v) (hH : b ≤ H) : Hi b v3 := fun k hk => by
  rcases h with h | h
  · exact hv k (h.symm.trans hk)
  · rw [h] at hk; injection hk with hk; omega

/-! The rows of the type table. -/
theorem info_int : (Try.prog.info? 3).map (fun i => (i.zero, i.size, i.bytes)) = some (some (.int .i64 0), 1, 8) := by kernel_rfl
theorem row_of {α : Type} {P : Program} {t e : TypeId} {E : Enc α} {z : Value} {n bytes : Nat} (h : (P.info? e).map (fun i => (i.zero, i.size, i.bytes)) = some (some z, n, bytes)) (ht : P.underlying t = some (.slice e)) (hn : n = E.size) (hz : z.cells.size = E.size) (h0 : 0 < E.size) : Row P t e E bytes := by
  obtain ⟨i, hi, h1, h2, h3⟩ := info_parts h
  exact ⟨i, z, ht, hi, h1, h2.trans hn, h3, hz, h0⟩
theorem row_int : Row Try.prog 27 3 eInt 8 := row_of info_int Try.underlying27 rfl rfl (by decide)
end Go.Proofs.Ytoihdnekkgpcoaa
namespace Go.Proofs.Ytoihdnekkgpcoaa
open Go.ChangeShapes Go.WideShapes Go.ChangeAt Go.RowKit
set_option linter.unusedVariables false
set_option linter.unusedSimpArgs false

def AR {α : Type} (w : World) (g : Nat) (e : TypeId) (E : Enc α) (l : List α) : Prop := w.heap[g]? = some (.cells (l.flatMap E.cells).toArray e (0, 0))
section
variable {α : Type} {w w' : World} {g : Nat} {e : TypeId} {E : Enc α} {l : List α}
theorem AR.lt (h : AR w g e E l) : g < w.heap.size := (Array.getElem?_eq_some_iff.1 h).1
theorem AR.rd (h : AR w g e E l) (hm : l.length ≤ maxLen) : RD w E (.slice (some ⟨g, 0, none⟩) l.length l.length) l := RD.block l h (by simp) hm
theorem AR.ow (h : AR w g e E l) {B : Nat} (hB : B ≤ g) (hm : l.length ≤ maxLen) : OW w B e E (.slice (some ⟨g, 0, none⟩) l.length l.length) l :=
  ⟨flat_len E l, .inr ⟨g, _, _, rfl, hB, h, Nat.le_refl _, hm, by rw [List.size_toArray, flat_len], by rw [← flat_len E l, List.take_length]⟩⟩
theorem AR.below (h : AR w g e E l) (hb : Below w.heap.size w w') : AR w' g e E l := (hb.block g h.lt).trans h
theorem AR.belowR (hb : Below w.heap.size w w') (h : AR w g e E l) : AR w' g e E l := h.below hb
theorem AR.kp (h : AR w g e E l) (hb : Kp w w') : AR w' g e E l := h.below hb
theorem AR.alloc (h : AR w g e E l) {o : Obj} : AR (w.alloc o) g e E l := (Below.heap_alloc w o g h.lt).trans h
theorem AR.drew (h : AR w g e E l) : AR w.drew g e E l := h
theorem AR.drewN (h : AR w g e E l) {n : Nat} : AR (w.drewN n) g e E l := h
theorem AR.setCell (h : AR w g e E l) {p : Addr} (hp : g ≠ p.block) {u : Value} : AR (w.setCell p u) g e E l := (Below.heap_setCell w p u g hp).trans h
theorem AR.grown {v : Value} (hg : w.grownBy w' v.ownBlock) (hne : v.ownBlock ≠ some g) (h : AR w g e E l) : AR w' g e E l := (hg.block g h.lt (fun e => hne e.symm)).trans h
theorem AR.frozen (h : AR w g e E l) (i : Nat) : w.frozen? ⟨g, i, none⟩ = false := by
  unfold AR at h
  simp [World.frozen?, h]
theorem AR.cell (h : AR w g e E l) (k : Nat) (hk : k < l.length) (j : Nat) (hj : j < E.size) : w.cell? ⟨g, k * E.size + j, none⟩ = (E.cells l[k])[j]? := by
  rw [cell_of_row w g _ _ e (0, 0) h, ← flat_at E l k hk j hj]
  simp
end
theorem flat_int (l : List Int) : l.flatMap eInt.cells = l.map (Value.int .i64) := by
  induction l with
  | nil => rfl
  | cons a t ih => rw [List.flatMap_cons, ih]; rfl
section
variable {w : World} {g c : Nat} {e : TypeId} {l : List Int}
theorem AR.int (h : AR w g e eInt l) {k : Nat} (hk : k < l.length) : w.cell? ⟨g, k, none⟩ = some (.int .i64 l[k]) := by
  have := h.cell k hk 0 (by decide)
  simpa [eInt] using this
theorem AR.set (h : AR w g e eInt l) {k : Nat} (x : Int) : AR (w.setCell ⟨g, k, none⟩ (.int .i64 x)) g e eInt (l.set k x) := by
  unfold AR at h ⊢
  simp only [World.setCell, Array.getElem?_modify, h]
  simp [flat_int, List.map_set]
theorem flat_set_pair (x : IP) : ∀ (l : List IP) (k : Nat), ((l.flatMap ePair.cells).set (k * 2) (.int .i64 x.1)).set (k * 2 + 1) (.int .i64 x.2) = (l.set k x).flatMap ePair.cells
  | [], k => by simp
  | a :: t, 0 => by simp [List.flatMap_cons, ePair]
  | a :: t, k + 1 => by
    have ih := flat_set_pair x t k
    simp only [List.flatMap_cons, List.set_cons_succ]
    rw [← ih]
    simp only [ePair, List.cons_append, List.nil_append]
    rw [show (k + 1) * 2 = k * 2 + 1 + 1 from by omega]
    simp [List.set_cons_succ]
theorem AR.setPair {w : World} {g : Nat} {e : TypeId} {l : List IP} (h : AR w g e ePair l) {k : Nat} (x : IP) : AR ((w.setCell ⟨g, k * 2, none⟩ (.int .i64 x.1)).setCell ⟨g, k * 2 + 1, none⟩ (.int .i64 x.2)) g e ePair (l.set k x) := by
  unfold AR at h ⊢
  simp only [World.setCell, Array.getElem?_modify, h]
  rw [← flat_set_pair]
  simp
theorem OW.int (h : ∃ B, OW w B e eInt (.slice (some ⟨g, 0, none⟩) l.length c) l) {k : Nat} (hk : k < l.length) : w.cell? ⟨g, k, none⟩ = some (.int .i64 l[k]) := by
  obtain ⟨B, h⟩ := h
  obtain ⟨b, o, e1, _, hc⟩ := h.rd.int hk
  injection e1 with e1
  injection e1 with e2 e3
  subst e2 e3
  simpa using hc
end
theorem OW.shape {α : Type} {w : World} {B : Nat} {e : TypeId} {E : Enc α} {v : Value} {l : List α} (h : OW w B e E v l) (h0 : 0 < l.length) : ∃ g c, v = .slice (some ⟨g, 0, none⟩) l.length c ∧ B ≤ g ∧ g < w.heap.size ∧ l.length ≤ c ∧ c ≤ 9223372036854775807 := by
  rcases h.2 with ⟨_, h1⟩ | ⟨g, cap, cur, hv, hb, hg, h1, h2, _⟩
  · omega
  · exact ⟨g, cap, hv, hb, (Array.getElem?_eq_some_iff.1 hg).1, h1, by unfold maxLen at h2; omega⟩
theorem OW.pop {α : Type} {w : World} {B : Nat} {e : TypeId} {E : Enc α} {g n c : Nat} {l : List α} {a : α} (h : OW w B e E (.slice (some ⟨g, 0, none⟩) n c) (l ++ [a])) : OW w B e E (.slice (some ⟨g, 0, none⟩) l.length c) l := by
  rcases h.2 with ⟨h1, _⟩ | ⟨g', cap, cur, hv, hb, hg, h1, h2, h3, h4⟩
  · cases h1
  · injection hv with e1 e2 e3
    injection e1 with e1
    injection e1 with e1 _
    subst e1 e3
    refine ⟨flat_len E l, .inr ⟨g, c, cur, rfl, hb, hg, by simp at h1; omega, h2, h3, ?_⟩⟩
    have := congrArg (List.take (l.length * E.size)) h4
    rw [List.take_take, List.flatMap_append, List.take_append_of_le_length (by rw [flat_len]; omega), ← flat_len E l, List.take_length, flat_len] at this
    rw [← this]
    congr 1
    simp [Nat.add_mul]

theorem madeCells_flat {α : Type} (E : Enc α) (a : α) (z : Array Value) (n : Nat) (hz : z.toList = E.cells a) (h0 : 0 < E.size) : madeCells z (n * E.size) = ((List.replicate n a).flatMap E.cells).toArray := by
  have hs : z.size = E.size := by rw [← Array.length_toList, hz, E.len]
  apply Array.ext
  · simp only [size_madeCells, List.size_toArray, flat_len, List.length_replicate]
  · intro j h1 h2
    simp only [size_madeCells] at h1
    obtain ⟨k, i, hk, hi, rfl⟩ := flat_inv E h0 (List.replicate n a) j (by simpa using h1)
    have h3 := flat_at E (List.replicate n a) k hk i hi
    have h4 : ((List.replicate n a).flatMap E.cells).toArray[k * E.size + i]? = (E.cells a)[i]? := by simpa using h3
    have h5 : (madeCells z (n * E.size))[k * E.size + i]? = (E.cells a)[i]? := by
      simp only [madeCells, Array.getElem?_map]
      rw [Array.getElem?_range, if_pos h1, ← hz]
      simp only [Option.map_some, hs]
      have e : (k * E.size + i) % E.size = i := by rw [Nat.mul_comm, Nat.mul_add_mod]; exact Nat.mod_eq_of_lt hi
      rw [e, getElem!_pos z i (by omega)]
      simp [Array.getElem?_eq_getElem (show i < z.size by omega)]
    rw [Array.getElem?_eq_getElem (by rw [size_madeCells]; exact h1)] at h5
    rw [Array.getElem?_eq_getElem h2] at h4
    exact Option.some.inj (h5.trans h4.symm)

/-- make([]T, n): the block is a letter C. -/
theorem run_mk {α : Type} {P : Program} {t e : TypeId} {E : Enc α} {bytes : Nat} (hrow : Row P t e E bytes) (a : α) (hz : ∀ i z, P.info? e = some i → i.zero = some z → z.cells.toList = E.cells a) (n : Nat)
    (hb : n * bytes ≤ 281474976710656) (h63 : n ≤ maxLen) :
    ∃ C : Array Value, Hid (C = ((List.replicate n a).flatMap E.cells).toArray) ∧ ∀ W : World, (Instr.makeSlice t (.int .i64 (n : Int)) (.int .i64 (n : Int))).run P W = .ok (.slice (some ⟨W.heap.size, 0, none⟩) n n) (W.alloc (.cells C e)) := by
  obtain ⟨i, z, ht, hi, h1, h2, h3, h4, h5⟩ := hrow
  refine ⟨_, rfl, fun W => ?_⟩
  have hbb : (i.bytes : Int) * (n : Int) ≤ 281474976710656 := by
    have h : ((n * bytes : Nat) : Int) ≤ 281474976710656 := by omega
    rw [Int.natCast_mul] at h
    rw [h3, Int.mul_comm]
    exact h
  have := run_make (P := P) W t e i z ht hi h1 .i64 .i64 n n (by omega) (Int.le_refl _) hbb (by unfold maxLen at h63; omega)
  rw [this, Int.toNat_natCast, h2, madeCells_flat E a z.cells n (hz i z hi h1) h5]
theorem AR.made {α : Type} {W : World} {C : Array Value} {e : TypeId} {E : Enc α} {n : Nat} {a : α} (h : Hid (C = ((List.replicate n a).flatMap E.cells).toArray)) : AR (W.alloc (.cells C e)) W.heap.size e E (List.replicate n a) := by
  unfold AR
  rw [← h.out]
  exact heap_alloc_new W _
theorem zero_of {α : Type} {P : Program} {e : TypeId} {E : Enc α} {z : Value} {n bytes : Nat} {a : α} (h : (P.info? e).map (fun i => (i.zero, i.size, i.bytes)) = some (some z, n, bytes)) (hz : z.cells.toList = E.cells a) :
    ∀ i z, P.info? e = some i → i.zero = some z → z.cells.toList = E.cells a := by
  intro i z' hi hz'
  rw [hi] at h
  simp only [Option.map_some, Option.some.injEq, Prod.mk.injEq] at h
  rw [hz'] at h
  injection h.1 with h1
  rw [h1, hz]
theorem zero_int : ∀ i z, Try.prog.info? 3 = some i → i.zero = some z → z.cells.toList = eInt.cells 0 := zero_of info_int rfl
def Ret2 {α : Type} (E : Enc α) (r : List α × Int) (w : World) (e : Ending) (w' : World) : Prop := ∃ v, e = .returned (.tuple #[v, .int .i64 r.2]) ∧ RD w' E v r.1 ∧ Below w.heap.size w w'
def gv (l : List IP) (k : Nat) : Int := (l.getD k (0, 0)).2
theorem gv_eq (l : List IP) (k : Nat) (h : k < l.length) : gv l k = l[k].2 := by simp [gv, List.getD_eq_getElem?_getD, List.getElem?_eq_getElem h]
def sliceLen : Value → Nat | .slice _ n _ => n | _ => 0

def RetAR {α : Type} (e : TypeId) (E : Enc α) (l : List α) (w : World) (en : Ending) (w' : World) : Prop :=
  ∃ g, en = .returned (.slice (some ⟨g, 0, none⟩) l.length l.length) ∧ w.heap.size ≤ g ∧ AR w' g e E l ∧ Below w.heap.size w w'

def Drew (v : Value) (w : World) (e : Ending) (w' : World) : Prop := e = .returned v ∧ ∃ n, w' = w.drewN n

/-- The first k are laid, the others still zero. -/
def part {α : Type} (res : List α) (z : α) (k : Nat) : List α := res.take k ++ List.replicate (res.length - k) z
theorem part_len {α : Type} (res : List α) (z : α) (k : Nat) (h : k ≤ res.length) : (part res z k).length = res.length := by simp [part]; omega
theorem part_zero {α : Type} (res : List α) (z : α) : part res z 0 = List.replicate res.length z := by simp [part]
theorem part_at {α : Type} (res : List α) (z : α) (k a : Nat) (h : a < k) (hk : k ≤ res.length) : (part res z k)[a]'(by rw [part_len _ _ _ hk]; omega) = res[a] := by
  unfold part
  rw [List.getElem_append_left (by simp; omega)]
  simp
theorem part_end {α : Type} (res : List α) (z : α) : part res z res.length = res := by simp [part]
theorem part_set {α : Type} (res : List α) (z : α) (k : Nat) (h : k < res.length) : (part res z k).set k res[k] = part res z (k + 1) := by
  unfold part
  rw [List.set_append_right _ _ (by simp; omega)]
  rw [show res.length - k = (res.length - (k + 1)) + 1 from by omega, List.replicate_succ]
  rw [List.take_succ_eq_append_getElem h, List.append_assoc]
  simp [show min k res.length = k from by omega]

end Go.Proofs.Ytoihdnekkgpcoaa
namespace Go.Proofs.Ytoihdnekkgpcoaa
open Go.ChangeShapes Go.WideShapes Go.ChangeAt Go.RowKit
set_option linter.unusedVariables false
set_option linter.unusedSimpArgs false

structure An where
  err : Int
  key : Int
  val : Int
  is : Bool
deriving DecidableEq
def An.v (a : An) : Value := .agg #[.int .i64 a.err, .int .i64 a.key, .int .i64 a.val, .bool a.is]
theorem An.v_inj {a b : An} (h : a.v = b.v) : a = b := by
  cases a; cases b; simp [An.v] at h; simp [h]
abbrev O3 := Int × Int × Int
def eAns : Enc An := ⟨4, fun a => [.int .i64 a.err, .int .i64 a.key, .int .i64 a.val, .bool a.is], fun _ => rfl, fun _ u h => by simp at h; rcases h with rfl | rfl | rfl | rfl <;> rfl⟩
def eOp : Enc O3 := ⟨3, fun o => [.int .i64 o.1, .int .i64 o.2.1, .int .i64 o.2.2], fun _ => rfl, fun _ u h => by simp at h; rcases h with rfl | rfl | rfl <;> rfl⟩
section
variable {w : World} {A : Option Addr} {n c : Nat}
theorem RD.op {l : List O3} (h : RD w eOp (.slice A n c) l) {k : Nat} (hk : k < l.length) :
    ∃ b o, A = some ⟨b, o, none⟩ ∧ b < w.heap.size ∧ w.cell? ⟨b, o + k * 3, none⟩ = some (.int .i64 l[k].1) ∧ w.cell? ⟨b, o + k * 3 + 1, none⟩ = some (.int .i64 l[k].2.1) ∧ w.cell? ⟨b, o + k * 3 + 2, none⟩ = some (.int .i64 l[k].2.2) := by
  obtain ⟨b, o, rfl, hb, hc⟩ := h.at_ hk
  exact ⟨b, o, rfl, hb, hc 0 (by decide), hc 1 (by decide), hc 2 (by decide)⟩
theorem RD.ans {l : List An} (h : RD w eAns (.slice A n c) l) {k : Nat} (hk : k < l.length) :
    ∃ b o, A = some ⟨b, o, none⟩ ∧ b < w.heap.size ∧ w.cell? ⟨b, o + k * 4, none⟩ = some (.int .i64 l[k].err) ∧ w.cell? ⟨b, o + k * 4 + 1, none⟩ = some (.int .i64 l[k].key) ∧ w.cell? ⟨b, o + k * 4 + 2, none⟩ = some (.int .i64 l[k].val) ∧ w.cell? ⟨b, o + k * 4 + 3, none⟩ = some (.bool l[k].is) := by
  obtain ⟨b, o, rfl, hb, hc⟩ := h.at_ hk
  exact ⟨b, o, rfl, hb, hc 0 (by decide), hc 1 (by decide), hc 2 (by decide), hc 3 (by decide)⟩
end
/-! Boxes that hold an answer. -/
def BX (W : World) (a : Nat) (n : An) : Prop := W.cell? ⟨a, 0, none⟩ = some (.int .i64 n.err) ∧ W.cell? ⟨a, 1, none⟩ = some (.int .i64 n.key) ∧ W.cell? ⟨a, 2, none⟩ = some (.int .i64 n.val) ∧ W.cell? ⟨a, 3, none⟩ = some (.bool n.is)
theorem BX.kp {W W' : World} {a : Nat} {n : An} (h : BX W a n) (hk : Kp W W') : BX W' a n := ⟨hk.cell h.1, hk.cell h.2.1, hk.cell h.2.2.1, hk.cell h.2.2.2⟩
theorem BX.new (w : World) (a b c : Int) (d : Bool) (t : TypeId) : BX (w.alloc (.cells #[.int .i64 a, .int .i64 b, .int .i64 c, .bool d] t)) w.heap.size ⟨a, b, c, d⟩ := by simp [BX, go_sem]
def FZ (W : World) (a : Nat) : Prop := W.frozen? ⟨a, 0, none⟩ = false ∧ W.frozen? ⟨a, 1, none⟩ = false ∧ W.frozen? ⟨a, 2, none⟩ = false ∧ W.frozen? ⟨a, 3, none⟩ = false
theorem FZ.kp {W W' : World} {a : Nat} (h : FZ W a) (ha : a < W.heap.size) (hk : Kp W W') : FZ W' a := ⟨(hk.frozen (p := ⟨a, 0, none⟩) ha).trans h.1, (hk.frozen (p := ⟨a, 1, none⟩) ha).trans h.2.1, (hk.frozen (p := ⟨a, 2, none⟩) ha).trans h.2.2.1, (hk.frozen (p := ⟨a, 3, none⟩) ha).trans h.2.2.2⟩
theorem FZ.new (w : World) (cs : Array Value) (t : TypeId) : FZ (w.alloc (.cells cs t)) w.heap.size := by simp [FZ, go_sem]
theorem BX.lt {W : World} {a : Nat} {n : An} (h : BX W a n) : a < W.heap.size := World.block_lt_of_cell? _ _ h.1
theorem BX.set {W : World} {a : Nat} {n : An} (h : BX W a n) (e k v : Int) (i : Bool) : BX ((((W.setCell ⟨a, 0, none⟩ (.int .i64 e)).setCell ⟨a, 1, none⟩ (.int .i64 k)).setCell ⟨a, 2, none⟩ (.int .i64 v)).setCell ⟨a, 3, none⟩ (.bool i)) a ⟨e, k, v, i⟩ := by
  obtain ⟨h0, h1, h2, h3⟩ := h
  simp [BX, go_sem, h0, h1, h2, h3]
theorem FZ.set {W : World} {a : Nat} (h : FZ W a) (e k v : Int) (i : Bool) : FZ ((((W.setCell ⟨a, 0, none⟩ (.int .i64 e)).setCell ⟨a, 1, none⟩ (.int .i64 k)).setCell ⟨a, 2, none⟩ (.int .i64 v)).setCell ⟨a, 3, none⟩ (.bool i)) a := by
  obtain ⟨h0, h1, h2, h3⟩ := h
  simp [FZ, go_sem, h0, h1, h2, h3]

theorem Kp.callK {w W W' : World} (hb : Kp W W') (h : Kp w W) : Kp w W' := h.trans hb
end Go.Proofs.Ytoihdnekkgpcoaa
namespace Go.Proofs.Ytoihdnekkgpcoaa
open Go.ChangeShapes Go.WideShapes Go.ChangeAt Go.RowKit Go.Deep
set_option linter.unusedVariables false
set_option linter.unusedSimpArgs false

section
variable {H : Type} {enc : TypeId × Value → H} {P : Program} {w : World} {base : Nat} {spare : Nat → Bool} {held : Bool}
theorem open_slice_fields {t e : TypeId} {fs : Array Field} {fuel : Nat} {cs : List Value} {x : DataW H × List MemPlace} (ht : P.underlying t = some (.slice e)) (he : P.underlying e = some (.struct fs))
    (hone : oneCellFields P fs = true) (hC : P.cellsOf e = fs.size) (h : DataW.trod enc P w base spare held fuel t cs = some x) :
    (cs = [.slice none 0 0] ∧ x = (.nil, [])) ∨
    ∃ (a : Addr) (len cap m : Nat) (D : Nat → DataW H) (Pl : Nat → List MemPlace), cs = [.slice (some a) len cap] ∧ base ≤ a.block ∧ len ≤ cap ∧ cap ≤ maxLen ∧ m = (if spare a.block then cap else len) ∧
      x = (.slice ((List.range len).map D) ((List.range (m - len)).map fun j => D (len + j)), MemPlace.row a (m * fs.size) ++ (List.range m).flatMap Pl) ∧
      ∀ i, i < m → ∃ (ys : List (DataW H × List MemPlace)) (n : Nat), D i = .agg (ys.map (·.1)) ∧ Pl i = ys.flatMap (·.2) ∧ ys.length = fs.size ∧
        ∀ (j : Nat) (f : Field), fs[j]? = some f → ∃ (v : Value) (y : DataW H × List MemPlace), w.cell? (a.add (i * fs.size + j)) = some v ∧ ys[j]? = some y ∧ DataW.trod enc P w base spare held n f.type [v] = some y := by
  rcases open_slice ht h with h0 | ⟨a, len, cap, m, n, D, Pl, hcs, hb, hl, hm, hmm, hx, hi⟩
  · exact .inl h0
  · refine .inr ⟨a, len, cap, m, D, Pl, hcs, hb, hl, hm, hmm, by rw [hC] at hx; exact hx, fun i him => ?_⟩
    obtain ⟨cs', hc, ht'⟩ := hi i him
    rw [hC] at hc
    obtain ⟨ys, n', hn', hy, hlen, hyl, hf⟩ := DataW.trod_struct he ht'
    obtain ⟨_, hcl, hat⟩ := World.cells?_some hc
    simp only [Prod.mk.injEq] at hy
    refine ⟨ys, n', hy.1, hy.2, hyl, fun j f hj => ?_⟩
    obtain ⟨ho, hk⟩ := hone_of hone j f hj
    have hjl : j < fs.size := (Array.getElem?_eq_some_iff.1 hj).1
    have hcell := hat j hjl
    have hv : cs'[j]? = some (cs'[j]'(by omega)) := List.getElem?_eq_getElem (by omega)
    have h1 := hf j f hj
    rw [ho, hk] at h1
    have hone' : (cs'.drop j).take 1 = [cs'[j]'(by omega)] := by
      rw [List.drop_eq_getElem_cons (by omega)]
      rfl
    rw [hone'] at h1
    have hys : ys[j]? = some (ys[j]'(by omega)) := List.getElem?_eq_getElem (by omega)
    refine ⟨_, _, ?_, hys, h1.trans hys⟩
    rw [← Go.Deep.add_add, hcell, hv]
theorem rd_pairs {t e : TypeId} {f0 f1 : Field} {fuel : Nat} {cs : List Value} {x : DataW H × List MemPlace} (ht : P.underlying t = some (.slice e)) (he : P.underlying e = some (.struct #[f0, f1]))
    (hone : oneCellFields P #[f0, f1] = true) (hC : P.cellsOf e = 2) (h0 : P.underlying f0.type = some (.int .i64)) (h1 : P.underlying f1.type = some (.int .i64)) (h : DataW.trod enc P w base spare held fuel t cs = some x) :
    ∃ v, cs = [v] ∧ ∃ l : List IP, RD w ePair v l := by
  rcases open_slice_fields ht he hone hC h with ⟨rfl, _⟩ | ⟨a, len, cap, m, D, Pl, rfl, hb, hl, hm, hmm, _, hf⟩
  · exact ⟨_, rfl, [], RD.nil⟩
  · refine ⟨_, rfl, ?_⟩
    have hlm : len ≤ m := by rw [hmm]; split <;> omega
    have hq : ∀ i, ∃ p : IP, i < len → w.cell? (a.add (i * 2)) = some (.int .i64 p.1) ∧ w.cell? (a.add (i * 2 + 1)) = some (.int .i64 p.2) := by
      intro i
      by_cases hi : i < len
      · obtain ⟨ys, n, _, _, _, hj⟩ := hf i (by omega)
        obtain ⟨v, y, hc, _, hy⟩ := hj 0 f0 rfl
        obtain ⟨v', y', hc', _, hy'⟩ := hj 1 f1 rfl
        obtain ⟨n0, e0, _⟩ := DataW.trod_int h0 hy
        obtain ⟨n1, e1, _⟩ := DataW.trod_int h1 hy'
        injection e0 with e0
        injection e1 with e1
        subst e0 e1
        exact ⟨(n0, n1), fun _ => ⟨hc, hc'⟩⟩
      · exact ⟨(0, 0), fun h => absurd h hi⟩
    obtain ⟨f, hf2⟩ := Classical.axiomOfChoice hq
    refine ⟨(List.range len).map f, some a, cap, by simp, by simpa using hl, hm, (fun h => by cases h), fun hpos => ?_⟩
    simp only [List.length_map, List.length_range] at hpos
    obtain ⟨c0, _⟩ := hf2 0 hpos
    have ha0 : a.add (0 * 2) = a := by simp [Addr.add]
    rw [ha0] at c0
    obtain ⟨b, o, sp⟩ := a
    have hsp : sp = none := World.cell?_spot c0
    subst hsp
    refine ⟨b, o, rfl, World.block_lt_of_cell? w _ c0, fun k hk j hj => ?_⟩
    simp only [List.length_map, List.length_range] at hk
    obtain ⟨d0, d1⟩ := hf2 k hk
    have hadd : ∀ i, (⟨b, o, none⟩ : Addr).add i = ⟨b, o + i, none⟩ := fun i => by unfold Addr.add; split <;> simp_all
    rw [hadd] at d0 d1
    simp only [List.getElem_map, List.getElem_range]
    match j, hj with
    | 0, _ => exact d0
    | 1, _ => rw [← Nat.add_assoc] at d1; exact d1
theorem rd_ints {t e : TypeId} {fuel : Nat} {cs : List Value} {x : DataW H × List MemPlace} (ht : P.underlying t = some (.slice e)) (he : P.underlying e = some (.int .i64)) (hC : P.cellsOf e = 1)
    (h : DataW.trod enc P w base spare held fuel t cs = some x) : ∃ v, cs = [v] ∧ ∃ l : List Int, RD w eInt v l := by
  rcases open_ints ht he hC h with ⟨rfl, _⟩ | ⟨a, len, cap, zs, rfl, _, hl, hm, hz, _, hcell, _⟩
  · exact ⟨_, rfl, [], RD.nil⟩
  · have hz' : len ≤ zs.length := by have h : zs.length = if spare a.block = true then cap else len := by simpa using hz
                                     rw [h]; split <;> omega
    refine ⟨_, rfl, zs.take len, some a, cap, by simp; omega, by simp; omega, hm, (fun h => by cases h), fun hpos => ?_⟩
    simp at hpos
    have hzl : 0 < zs.length := by omega
    have c0 := hcell 0 hzl
    have ha0 : a.add 0 = a := by simp [Addr.add]
    rw [ha0] at c0
    obtain ⟨b, o, sp⟩ := a
    have hsp : sp = none := World.cell?_spot c0
    subst hsp
    refine ⟨b, o, rfl, World.block_lt_of_cell? w _ c0, fun k hk j hj => ?_⟩
    simp at hk
    have hadd : ∀ i, (⟨b, o, none⟩ : Addr).add i = ⟨b, o + i, none⟩ := fun i => by unfold Addr.add; split <;> simp_all
    have d0 := hcell k (by omega)
    rw [hadd] at d0
    match j, hj with
    | 0, _ =>
      simp only [eInt, Nat.mul_one, Nat.add_zero]
      rw [d0]
      simp [List.getD_eq_getElem?_getD, List.getElem?_eq_getElem (show k < zs.length by omega)]
theorem rd_triples {t e : TypeId} {f0 f1 f2 : Field} {fuel : Nat} {cs : List Value} {x : DataW H × List MemPlace} (ht : P.underlying t = some (.slice e)) (he : P.underlying e = some (.struct #[f0, f1, f2]))
    (hone : oneCellFields P #[f0, f1, f2] = true) (hC : P.cellsOf e = 3) (h0 : P.underlying f0.type = some (.int .i64)) (h1 : P.underlying f1.type = some (.int .i64)) (h2 : P.underlying f2.type = some (.int .i64)) (h : DataW.trod enc P w base spare held fuel t cs = some x) :
    ∃ v, cs = [v] ∧ ∃ l : List O3, RD w eOp v l := by
  rcases open_slice_fields ht he hone hC h with ⟨rfl, _⟩ | ⟨a, len, cap, m, D, Pl, rfl, hb, hl, hm, hmm, _, hf⟩
  · exact ⟨_, rfl, [], RD.nil⟩
  · refine ⟨_, rfl, ?_⟩
    have hlm : len ≤ m := by rw [hmm]; split <;> omega
    have hq : ∀ i, ∃ p : O3, i < len → w.cell? (a.add (i * 3)) = some (.int .i64 p.1) ∧ w.cell? (a.add (i * 3 + 1)) = some (.int .i64 p.2.1) ∧ w.cell? (a.add (i * 3 + 2)) = some (.int .i64 p.2.2) := by
      intro i
      by_cases hi : i < len
      · obtain ⟨ys, n, _, _, _, hj⟩ := hf i (by omega)
        obtain ⟨v, y, hc, _, hy⟩ := hj 0 f0 rfl
        obtain ⟨v', y', hc', _, hy'⟩ := hj 1 f1 rfl
        obtain ⟨v'', y'', hc'', _, hy''⟩ := hj 2 f2 rfl
        obtain ⟨n0, e0, _⟩ := DataW.trod_int h0 hy
        obtain ⟨n1, e1, _⟩ := DataW.trod_int h1 hy'
        obtain ⟨n2, e2, _⟩ := DataW.trod_int h2 hy''
        injection e0 with e0
        injection e1 with e1
        injection e2 with e2
        subst e0 e1 e2
        exact ⟨(n0, n1, n2), fun _ => ⟨hc, hc', hc''⟩⟩
      · exact ⟨(0, 0, 0), fun h => absurd h hi⟩
    obtain ⟨f, hf2⟩ := Classical.axiomOfChoice hq
    refine ⟨(List.range len).map f, some a, cap, by simp, by simpa using hl, hm, (fun h => by cases h), fun hpos => ?_⟩
    simp only [List.length_map, List.length_range] at hpos
    obtain ⟨c0, _⟩ := hf2 0 hpos
    have ha0 : a.add (0 * 3) = a := by simp [Addr.add]
    rw [ha0] at c0
    obtain ⟨b, o, sp⟩ := a
    have hsp : sp = none := World.cell?_spot c0
    subst hsp
    refine ⟨b, o, rfl, World.block_lt_of_cell? w _ c0, fun k hk j hj => ?_⟩
    simp only [List.length_map, List.length_range] at hk
    obtain ⟨d0, d1, d2⟩ := hf2 k hk
    have hadd : ∀ i, (⟨b, o, none⟩ : Addr).add i = ⟨b, o + i, none⟩ := fun i => by unfold Addr.add; split <;> simp_all
    rw [hadd] at d0 d1 d2
    simp only [List.getElem_map, List.getElem_range]
    match j, hj with
    | 0, _ => exact d0
    | 1, _ => rw [← Nat.add_assoc] at d1; exact d1
    | 2, _ => rw [← Nat.add_assoc] at d2; exact d2
theorem rd_triple {r : Reach} {b0 : Nat} {t : TypeId} {f0 f1 f2 : Field} {v : Value} {d : DataW H} {p : List MemPlace} (hs : P.underlying t = some (.struct #[f0, f1, f2])) (hone : oneCellFields P #[f0, f1, f2] = true) (hC : P.cellsOf t = 3)
    (h0 : P.underlying f0.type = some (.int .i64)) (h1 : P.underlying f1.type = some (.int .i64)) (h2 : P.underlying f2.type = some (.int .i64)) (hv : Value.okWide P w r b0 t v) (h : DataW.Trod enc P w base spare held t v d p) :
    ∃ a b c : Int, v = .agg #[.int .i64 a, .int .i64 b, .int .i64 c] := by
  obtain ⟨v0, v1, v2, y0, y1, y2, n, rfl, _, _, t0, t1, t2⟩ := Go.Joins.open_agg3 hs hone hC hv h
  obtain ⟨n0, e0, _⟩ := DataW.trod_int h0 t0
  obtain ⟨n1, e1, _⟩ := DataW.trod_int h1 t1
  obtain ⟨n2, e2, _⟩ := DataW.trod_int h2 t2
  injection e0 with e0
  injection e1 with e1
  injection e2 with e2
  subst e0 e1 e2
  exact ⟨_, _, _, rfl⟩
end
end Go.Proofs.Ytoihdnekkgpcoaa
namespace Go.Proofs.Ytoihdnekkgpcoaa
open Go.ChangeShapes Go.WideShapes Go.ChangeAt Go.RowKit Go.Deep
set_option linter.unusedVariables false
set_option linter.unusedSimpArgs false

set_option maxRecDepth 100000 in
theorem own : ownKnob Try.prog.godebug = none := by kernel_rfl
set_option maxRecDepth 100000 in
theorem laidOut : laidOutB Try.prog = true := by kernel_rfl
section
variable {H : Type} {enc : TypeId × Value → H} {w : World} {base : Nat} {spare : Nat → Bool} {held : Bool} {a0 : Option Addr} {n c : Nat} {d : DataW H} {p : List MemPlace}
set_option maxRecDepth 100000 in
theorem arg_ints (h : DataW.Trod enc Try.prog w base spare held 27 (.slice a0 n c) d p) : ∃ l, RD w eInt (.slice a0 n c) l := by
  obtain ⟨fuel, hf⟩ := h
  obtain ⟨v, hv, l, hl⟩ := rd_ints Try.underlying27 Try.underlying3 (by kernel_rfl) hf
  simp [Value.cells] at hv
  subst hv
  exact ⟨l, hl⟩
end
theorem wf_i64 {H : Type} {enc : TypeId × Value → H} {P : Program} {w : World} {base : Nat} {spare : Nat → Bool} {held : Bool} {t : TypeId} {n : Int} {m : Nat} {x : DataW H × List MemPlace} (ht : P.underlying t = some (.int .i64))
    (h : DataW.trod enc P w base spare held m t (Value.int .i64 n).cells.toList = some x) : -9223372036854775808 ≤ n ∧ n ≤ 9223372036854775807 := by
  obtain ⟨k, e, _, hw⟩ := DataW.trod_int ht h
  simp [Value.cells] at e
  subst e
  simp [Lit.wf, IntKind.min, IntKind.max, IntKind.bits, IntKind.signed] at hw
  omega
theorem and_true_of {a b : Bool} (ha : a = true) (hb : b = true) : (a && b) = true := by rw [ha, hb]; rfl
end Go.Proofs.Ytoihdnekkgpcoaa
namespace Go.Proofs.Ytoihdnekkgpcoaa
set_option linter.unusedVariables false
set_option linter.unusedSimpArgs false

/-- A function, but for one place. -/
def up {α : Type} (f : Nat → α) (i : Nat) (x : α) : Nat → α := fun j => if j = i then x else f j
theorem up_same {α : Type} (f : Nat → α) (i : Nat) (x : α) : up f i x i = x := by simp [up]
theorem up_ne {α : Type} (f : Nat → α) {i j : Nat} (x : α) (h : j ≠ i) : up f i x j = f j := by simp [up, h]
/-- A deed. -/
structure Dd where
  kind : Int
  key : Int
/-- What is told of a deed of a hand. -/
structure Dn where
  bgn : Nat
  fin : Int
  is : Bool
/-- The beads: how many; the key, the next one, the mark and the lock of each. -/
structure Mm where
  n : Nat
  ky : Nat → Int
  nx : Nat → Nat
  mr : Nat → Bool
  lk : Nat → Bool
/-- A hand within its deed: the place in it, two beads, the answer. -/
structure Hd where
  plc : Nat
  p : Nat
  c : Nat
  is : Bool
namespace Mm
def ins (m : Mm) (p c : Nat) (k : Int) : Mm := { n := m.n + 1, ky := up m.ky m.n k, nx := up (up m.nx m.n c) p m.n, mr := up m.mr m.n false, lk := up m.lk m.n false }
def lock (m : Mm) (i : Nat) : Mm := { m with lk := up m.lk i true }
def free1 (m : Mm) (i : Nat) : Mm := { m with lk := up m.lk i false }
def free (m : Mm) (p c : Nat) : Mm := (m.free1 p).free1 c
def mark (m : Mm) (i : Nat) : Mm := { m with mr := up m.mr i true }
def drop (m : Mm) (p c : Nat) : Mm := { m with nx := up m.nx p (m.nx c) }
end Mm
/-- Begin of a way. -/
def Hd.again (h : Hd) (m : Mm) : Hd := { h with plc := 1, p := 0, c := m.nx 0 }
/-- One bead farther. -/
def Hd.on (h : Hd) (m : Mm) : Hd := { h with p := h.c, c := m.nx h.c }

/-- A step of one that goes hand over hand; true: the deed is done. -/
def lockS (m : Mm) (h : Hd) (d : Dd) : Mm × Hd × Bool :=
  match h.plc with
  | 0 => if m.lk 0 then (m, h, false) else (m.lock 0, h.again m, false)
  | 1 => if m.lk h.c then (m, h, false) else (m.lock h.c, { h with plc := 2 }, false)
  | _ =>
    if m.ky h.c < d.key then (m.free1 h.p, { h.on m with plc := 1 }, false)
    else if d.kind = 1 then
      if m.ky h.c = d.key then (m.free h.p h.c, { h with is := false }, true)
      else ((m.free h.p h.c).ins h.p h.c d.key, { h with is := true }, true)
    else if m.ky h.c = d.key then
      if d.kind = 2 then (((m.free h.p h.c).mark h.c).drop h.p h.c, { h with is := true }, true)
      else (m.free h.p h.c, { h with is := true }, true)
    else (m.free h.p h.c, { h with is := false }, true)
/-- The first lock of one that looks twice. -/
def lazy2 (m : Mm) (h : Hd) : Mm × Hd × Bool :=
  if m.lk h.p then (m, { h with plc := 2 }, false) else (m.lock h.p, { h with plc := 3 }, false)
/-- A step of one that looks twice. -/
def lazyS (m : Mm) (h : Hd) (d : Dd) : Mm × Hd × Bool :=
  match h.plc with
  | 0 => (m, h.again m, false)
  | 1 =>
    if m.ky h.c < d.key then (m, h.on m, false)
    else if d.kind = 3 then (m, { h with is := decide (m.ky h.c = d.key) && !m.mr h.c }, true)
    else lazy2 m h
  | 2 => lazy2 m h
  | 3 => if m.lk h.c then (m, h, false) else (m.lock h.c, { h with plc := 4 }, false)
  | 4 =>
    if m.mr h.p || m.mr h.c || m.nx h.p != h.c then (m.free h.p h.c, { h with plc := 0 }, false)
    else if d.kind = 1 then
      if m.ky h.c = d.key then (m.free h.p h.c, { h with is := false }, true)
      else ((m.free h.p h.c).ins h.p h.c d.key, { h with is := true }, true)
    else if m.ky h.c = d.key then (m.mark h.c, { h with plc := 5, is := true }, false)
    else (m.free h.p h.c, { h with is := false }, true)
  | _ => ((m.drop h.p h.c).free h.p h.c, h, true)
/-- Is the way of two beads as it was? -/
def clean (m : Mm) (h : Hd) : Bool := !m.mr h.p && m.nx h.p == h.c
/-- A step of one that marks, or of the naive one. -/
def markS (naive : Bool) (m : Mm) (h : Hd) (d : Dd) : Mm × Hd × Bool :=
  match h.plc with
  | 0 => (m, h.again m, false)
  | 1 =>
    if m.mr h.c && d.kind != 3 then
      if clean m h then (m.drop h.p h.c, { h with c := m.nx h.c }, false) else (m, { h with plc := 0 }, false)
    else if m.ky h.c < d.key then (m, h.on m, false)
    else if d.kind = 3 then (m, { h with is := decide (m.ky h.c = d.key) && !m.mr h.c }, true)
    else if decide (m.ky h.c = d.key) = decide (d.kind = 1) then (m, { h with is := false }, true)
    else (m, { h with plc := 2 }, false)
  | 2 =>
    if d.kind = 1 then
      if naive || clean m h then (m.ins h.p h.c d.key, { h with is := true }, true) else (m, { h with plc := 0 }, false)
    else if naive then (m.drop h.p h.c, { h with is := true }, true)
    else if m.mr h.c then (m, { h with plc := 0 }, false)
    else (m.mark h.c, { h with plc := 3, is := true }, false)
  | _ => (if clean m h then m.drop h.p h.c else m, h, true)
/-- A step of a hand within its deed. -/
def algS (alg : Nat) (m : Mm) (h : Hd) (d : Dd) : Mm × Hd × Bool :=
  if alg = 1 then lockS m h d else if alg = 2 then lazyS m h d else markS (alg == 4) m h d

/-- The bench: beads; each hand's place; which deed; what is told of each hand; the time. -/
structure St where
  m : Mm
  hd : Nat → Hd
  deed : Nat → Nat
  told : Nat → List Dn
  now : Nat
def hd0 : Hd := ⟨0, 0, 0, false⟩
/-- What is told of hand i when its step begins. -/
def toldB (s : St) (i : Nat) : List Dn := if (s.told i).length ≤ s.deed i then s.told i ++ [⟨s.now, -1, false⟩] else s.told i
/-- What is told when a deed is done. -/
def toldE (l : List Dn) (k : Nat) (t : Nat) (is : Bool) : List Dn := l.modify k (fun x => { x with fin := t, is := is })
/-- A step of hand i with its deed d. -/
def stp (alg : Nat) (d : Dd) (s : St) (i : Nat) : St :=
  let r := algS alg s.m (s.hd i) d
  if r.2.2 then
    { m := r.1, hd := up s.hd i hd0, deed := up s.deed i (s.deed i + 1), told := up s.told i (toldE (toldB s i) (s.deed i) s.now r.2.1.is), now := s.now + 1 }
  else { m := r.1, hd := up s.hd i r.2.1, deed := s.deed, told := up s.told i (toldB s i), now := s.now + 1 }
/-- A step of hand i, if it has a deed left. -/
def stpO (alg : Nat) (P : List (List Dd)) (s : St) (i : Nat) : St :=
  match P[i]? with
  | none => s
  | some l => match l[s.deed i]? with
    | none => s
    | some d => stp alg d s i
/-- May hand i step? -/
def can (P : List (List Dd)) (s : St) (i : Nat) : Bool :=
  match P[i]? with
  | none => false
  | some l => decide (s.deed i < l.length)
theorem stpO_cannot (alg : Nat) (P : List (List Dd)) (s : St) (i : Nat) (h : can P s i = false) : stpO alg P s i = s := by
  unfold stpO; unfold can at h
  cases hP : P[i]? with
  | none => rfl
  | some l =>
    rw [hP] at h
    simp only [decide_eq_false_iff_not, Nat.not_lt] at h
    simp only []
    rw [List.getElem?_eq_none_iff.2 h]
/-- The steps of an order. -/
def ordS (alg : Nat) (P : List (List Dd)) (o : List Int) (s : St) : St :=
  o.foldl (fun s (w : Int) => if 0 ≤ w ∧ w < (P.length : Int) then stpO alg P s w.toNat else s) s
/-- Behind the limit nobody steps. -/
def stpL (alg : Nat) (P : List (List Dd)) (s : St) (i : Nat) : St := if s.now < 4000 then stpO alg P s i else s
/-- A round: each hand once. -/
def rnd (alg : Nat) (P : List (List Dd)) (s : St) : St := (List.range P.length).foldl (stpL alg P) s
/-- Rounds, until nobody steps. -/
def FinR (alg : Nat) (P : List (List Dd)) (s s' : St) : Prop := ∃ k, s' = Nat.rec s (fun _ x => rnd alg P x) k ∧ rnd alg P s' = s'
theorem fin_one (alg : Nat) (P : List (List Dd)) (s a b : St) (h1 : FinR alg P s a) (h2 : FinR alg P s b) : a = b := by
  obtain ⟨k1, e1, f1⟩ := h1
  obtain ⟨k2, e2, f2⟩ := h2
  have go : ∀ (k j : Nat) (a : St), a = Nat.rec s (fun _ x => rnd alg P x) k → rnd alg P a = a → Nat.rec (motive := fun _ => St) s (fun _ x => rnd alg P x) (k + j) = a := by
    intro k j a ha fa
    induction j with
    | zero => exact ha.symm
    | succ j ih =>
      show rnd alg P (Nat.rec (motive := fun _ => St) s (fun _ x => rnd alg P x) (k + j)) = a
      rw [ih, fa]
  rcases Nat.le_total k1 k2 with h | h
  · obtain ⟨j, rfl⟩ := Nat.exists_eq_add_of_le h
    rw [e2]; exact (go k1 j a e1 f1).symm
  · obtain ⟨j, rfl⟩ := Nat.exists_eq_add_of_le h
    rw [e1]; exact go k2 j b e2 f2
/-- The beads of a list of keys: the head, the keys, the end. -/
def mm0 (l : List Int) : Mm :=
  { n := l.length + 2, ky := fun i => if i = 0 then -1 else if h : i - 1 < l.length then l[i - 1] else 10, nx := fun i => if i = l.length + 1 then i else i + 1, mr := fun _ => false, lk := fun _ => false }
def st0 (l : List Int) : St := { m := mm0 l, hd := fun _ => hd0, deed := fun _ => 0, told := fun _ => [], now := 0 }
/-- The keys from bead i on that bear no mark; no more than so many beads are met. -/
def leftF (m : Mm) : Nat → Nat → List Int
  | 0, _ => []
  | f + 1, i => if m.ky i = 10 then [] else (if m.mr i then [] else [m.ky i]) ++ leftF m f (m.nx i)
end Go.Proofs.Ytoihdnekkgpcoaa
namespace Go.Proofs.Ytoihdnekkgpcoaa
set_option linter.unusedVariables false
set_option linter.unusedSimpArgs false

/-- Along the way from a to b. -/
inductive Rc (f : Nat → Nat) : Nat → Nat → Prop
  | refl (a : Nat) : Rc f a a
  | step (a b : Nat) (h : Rc f (f a) b) : Rc f a b
theorem Rc.comp {f : Nat → Nat} {a b : Nat} (h : Rc f a b) : ∀ c, Rc f a c → Rc f b c ∨ Rc f c b := by
  induction h with
  | refl a => intro c h; exact Or.inl h
  | step a b h ih =>
    intro c hc
    cases hc with
    | refl => exact Or.inr (.step _ _ h)
    | step _ _ hc => exact ih c hc
theorem Rc.trans {f : Nat → Nat} {a b c : Nat} (h : Rc f a b) (h2 : Rc f b c) : Rc f a c := by
  induction h with
  | refl a => exact h2
  | step a b h ih => exact .step _ _ (ih h2)
/-- The list is sound. -/
structure MI (m : Mm) : Prop where
  pos : 0 < m.n
  k0 : m.ky 0 = -1
  kl : ∀ i, i < m.n → m.ky i ≤ 10
  nl : ∀ i, i < m.n → m.nx i < m.n
  ri : ∀ i, i < m.n → m.ky i ≠ 10 → m.ky i < m.ky (m.nx i)
  tl : ∀ i, i < m.n → m.ky i = 10 → m.nx i = i
  md : ∀ i, i < m.n → m.mr i = true → 0 ≤ m.ky i ∧ m.ky i ≤ 9
  rc : ∀ i, i < m.n → m.mr i = false → Rc m.nx 0 i
theorem MI.lock {m : Mm} (h : MI m) (i : Nat) : MI (m.lock i) := ⟨h.pos, h.k0, h.kl, h.nl, h.ri, h.tl, h.md, h.rc⟩
theorem MI.free1 {m : Mm} (h : MI m) (i : Nat) : MI (m.free1 i) := ⟨h.pos, h.k0, h.kl, h.nl, h.ri, h.tl, h.md, h.rc⟩
theorem MI.free {m : Mm} (h : MI m) (p c : Nat) : MI (m.free p c) := ⟨h.pos, h.k0, h.kl, h.nl, h.ri, h.tl, h.md, h.rc⟩
theorem MI.lt {m : Mm} (h : MI m) {a b : Nat} (hr : Rc m.nx a b) (ha : a < m.n) : b < m.n := by
  induction hr with
  | refl a => exact ha
  | step a b hr ih => exact ih (h.nl a ha)
theorem MI.le {m : Mm} (h : MI m) {a b : Nat} (hr : Rc m.nx a b) (ha : a < m.n) : b = a ∨ m.ky a < m.ky b := by
  induction hr with
  | refl a => exact Or.inl rfl
  | step a b hr ih =>
    have h1 := ih (h.nl a ha)
    by_cases hk : m.ky a = 10
    · rw [h.tl a ha hk] at h1; exact h1
    · have h2 := h.ri a ha hk
      rcases h1 with h1 | h1
      · rw [h1]; exact Or.inr h2
      · exact Or.inr (by omega)
theorem MI.mr0 {m : Mm} (h : MI m) : m.mr 0 = false := by
  cases h0 : m.mr 0 with
  | false => rfl
  | true => have := h.md 0 h.pos h0; rw [h.k0] at this; omega
theorem MI.kg {m : Mm} (h : MI m) {i : Nat} (hi : i < m.n) : -1 ≤ m.ky i := by
  cases hm : m.mr i with
  | true => have := h.md i hi hm; omega
  | false =>
    rcases h.le (h.rc i hi hm) h.pos with e | e
    · rw [e, h.k0]; omega
    · rw [h.k0] at e; omega
/-- The set: the keys without a mark. -/
def InS (m : Mm) (k : Int) : Prop := ∃ i, i < m.n ∧ m.mr i = false ∧ m.ky i = k
theorem MI.one {m : Mm} (h : MI m) {i j : Nat} (hi : i < m.n) (hj : j < m.n) (mi : m.mr i = false) (mj : m.mr j = false) (hk : m.ky i = m.ky j) : i = j := by
  rcases (h.rc i hi mi).comp j (h.rc j hj mj) with r | r
  · rcases h.le r hi with e | e
    · exact e.symm
    · omega
  · rcases h.le r hj with e | e
    · exact e
    · omega
theorem MI.gap {m : Mm} (h : MI m) {p c : Nat} {k : Int} (hp : p < m.n) (mp : m.mr p = false) (hn : m.nx p = c) (h1 : m.ky p < k) (h2 : k < m.ky c) : ¬ InS m k := by
  rintro ⟨i, hi, mi, rfl⟩
  rcases (h.rc p hp mp).comp i (h.rc i hi mi) with r | r
  · cases r with
    | refl => omega
    | step _ _ r =>
      rw [hn] at r
      rcases h.le r (by rw [← hn]; exact h.nl p hp) with e | e
      · rw [e] at h2; omega
      · omega
  · rcases h.le r hi with e | e
    · rw [e] at h1; omega
    · omega

-- a new bead
theorem Rc.ins {m : Mm} (h : MI m) {p c : Nat} {k : Int} (hp : p < m.n) (hn : m.nx p = c) {a b : Nat} (r : Rc m.nx a b) (ha : a < m.n) : Rc (m.ins p c k).nx a b := by
  induction r with
  | refl a => exact .refl a
  | step a b r ih =>
    have h1 := ih (h.nl a ha)
    by_cases e : a = p
    · subst e
      refine .step _ _ ?_
      have e1 : (m.ins a c k).nx a = m.n := by simp [Mm.ins, up]
      rw [e1]
      refine .step _ _ ?_
      have e2 : (m.ins a c k).nx m.n = c := by simp [Mm.ins, up, show m.n ≠ a by omega]
      rw [e2]; rw [hn] at h1; exact h1
    · refine .step _ _ ?_
      have e1 : (m.ins p c k).nx a = m.nx a := by simp [Mm.ins, up, e, show a ≠ m.n by omega]
      rw [e1]; exact h1
theorem MI.ins {m : Mm} (h : MI m) {p c : Nat} {k : Int} (hp : p < m.n) (mp : m.mr p = false) (hn : m.nx p = c) (h1 : m.ky p < k) (h2 : k < m.ky c) (h3 : 0 ≤ k) (h4 : k ≤ 9) : MI (m.ins p c k) := by
  have hc : c < m.n := by rw [← hn]; exact h.nl p hp
  have hpn : p ≠ m.n := by omega
  have hcn : c ≠ m.n := by omega
  refine ⟨Nat.succ_pos _, ?_, ?_, ?_, ?_, ?_, ?_, ?_⟩
  · have := h.pos
    simp [Mm.ins, up, show (0 : Nat) ≠ m.n by omega, h.k0]
  · intro i hi
    have hi : i < m.n + 1 := hi
    by_cases e : i = m.n
    · subst e; simp [Mm.ins, up]; omega
    · simp only [Mm.ins, up, e, if_false]; exact h.kl i (by omega)
  · intro i hi
    have hi : i < m.n + 1 := hi
    show _ < m.n + 1
    simp only [Mm.ins, up]
    split
    · omega
    · split
      · omega
      · have := h.nl i (by omega); omega
  · intro i hi hk
    have hi : i < m.n + 1 := hi
    by_cases e : i = m.n
    · subst e; simp [Mm.ins, up, hpn.symm, hcn]; exact h2
    · by_cases e2 : i = p
      · subst e2; simp [Mm.ins, up, hpn]; exact h1
      · have hk' : m.ky i ≠ 10 := by simpa [Mm.ins, up, e] using hk
        have hl := h.nl i (by omega)
        simp only [Mm.ins, up, e, e2, if_false, show m.nx i ≠ m.n by omega]
        exact h.ri i (by omega) hk'
  · intro i hi hk
    have hi : i < m.n + 1 := hi
    by_cases e : i = m.n
    · subst e; simp [Mm.ins, up] at hk; omega
    · have hk' : m.ky i = 10 := by simpa [Mm.ins, up, e] using hk
      by_cases e2 : i = p
      · subst e2; omega
      · simp only [Mm.ins, up, e, e2, if_false]
        exact h.tl i (by omega) hk'
  · intro i hi hm
    have hi : i < m.n + 1 := hi
    by_cases e : i = m.n
    · subst e; simp [Mm.ins, up] at hm
    · simp only [Mm.ins, up, e, if_false] at hm ⊢
      exact h.md i (by omega) hm
  · intro i hi hm
    have hi : i < m.n + 1 := hi
    by_cases e : i = m.n
    · subst e
      have r := Rc.ins h (k := k) hp hn (h.rc p hp mp) h.pos
      refine r.trans (.step _ _ ?_)
      have e1 : (m.ins p c k).nx p = m.n := by simp [Mm.ins, up]
      rw [e1]; exact .refl _
    · simp only [Mm.ins, up, e, if_false] at hm
      exact Rc.ins h hp hn (h.rc i (by omega) hm) h.pos
theorem InS.ins {m : Mm} (p c : Nat) (k x : Int) : InS (m.ins p c k) x ↔ InS m x ∨ x = k := by
  constructor
  · rintro ⟨i, hi, hm, hk⟩
    have hi : i < m.n + 1 := hi
    by_cases e : i = m.n
    · subst e; simp [Mm.ins, up] at hk; exact Or.inr hk.symm
    · simp only [Mm.ins, up, e, if_false] at hm hk
      exact Or.inl ⟨i, by omega, hm, hk⟩
  · rintro (⟨i, hi, hm, hk⟩ | rfl)
    · exact ⟨i, Nat.lt_succ_of_lt hi, by simp [Mm.ins, up, show i ≠ m.n by omega, hm], by simp [Mm.ins, up, show i ≠ m.n by omega, hk]⟩
    · exact ⟨m.n, Nat.lt_succ_self _, by simp [Mm.ins, up], by simp [Mm.ins, up]⟩
-- a mark
theorem MI.mark {m : Mm} (h : MI m) {c : Nat} (h1 : 0 ≤ m.ky c) (h2 : m.ky c ≤ 9) : MI (m.mark c) := by
  refine ⟨h.pos, h.k0, h.kl, h.nl, h.ri, h.tl, ?_, ?_⟩
  · intro i hi hm
    by_cases e : i = c
    · subst e; exact ⟨h1, h2⟩
    · simp only [Mm.mark, up, e, if_false] at hm
      exact h.md i hi hm
  · intro i hi hm
    by_cases e : i = c
    · subst e; simp [Mm.mark, up] at hm
    · simp only [Mm.mark, up, e, if_false] at hm
      exact h.rc i hi hm
theorem InS.mark {m : Mm} (h : MI m) {c : Nat} (hc : c < m.n) (mc : m.mr c = false) (x : Int) : InS (m.mark c) x ↔ InS m x ∧ x ≠ m.ky c := by
  constructor
  · rintro ⟨i, hi, hm, hk⟩
    by_cases e : i = c
    · subst e; simp [Mm.mark, up] at hm
    · simp only [Mm.mark, up, e, if_false] at hm hk
      refine ⟨⟨i, hi, hm, hk⟩, fun e2 => e (h.one hi hc hm mc (by rw [hk, e2]))⟩
  · rintro ⟨⟨i, hi, hm, hk⟩, hx⟩
    have e : i ≠ c := by rintro rfl; exact hx hk.symm
    exact ⟨i, hi, by simp [Mm.mark, up, e, hm], hk⟩
-- one with a mark leaves the way
theorem Rc.drop {m : Mm} (h : MI m) {p c : Nat} (hp : p < m.n) (hn : m.nx p = c) (hpk : m.ky p ≠ 10) {a b : Nat} (r : Rc m.nx a b) (hb : b ≠ c) : Rc (m.drop p c).nx a b := by
  have hcp : c ≠ p := by
    rintro rfl
    have := h.ri c hp hpk
    rw [hn] at this; omega
  induction r with
  | refl a => exact .refl a
  | step a b r ih =>
    have h1 := ih hb
    refine .step _ _ ?_
    by_cases e : a = p
    · subst e
      have e1 : (m.drop a c).nx a = m.nx c := by simp [Mm.drop, up]
      rw [e1]; rw [hn] at h1
      cases h1 with
      | refl => exact absurd rfl hb
      | step _ _ h1 =>
        have e2 : (m.drop a c).nx c = m.nx c := by simp [Mm.drop, up, hcp]
        rw [e2] at h1; exact h1
    · have e1 : (m.drop p c).nx a = m.nx a := by simp [Mm.drop, up, e]
      rw [e1]; exact h1
theorem MI.drop {m : Mm} (h : MI m) {p c : Nat} (hp : p < m.n) (hn : m.nx p = c) (hpk : m.ky p ≠ 10) (mc : m.mr c = true) : MI (m.drop p c) := by
  have hc : c < m.n := by rw [← hn]; exact h.nl p hp
  have hck := h.md c hc mc
  refine ⟨h.pos, h.k0, h.kl, ?_, ?_, ?_, h.md, ?_⟩
  · intro i hi
    by_cases e : i = p
    · subst e; simp [Mm.drop, up]; exact h.nl c hc
    · simp only [Mm.drop, up, e, if_false]; exact h.nl i hi
  · intro i hi hk
    by_cases e : i = p
    · subst e
      have h1 := h.ri i hp hpk
      have h2 := h.ri c hc (by omega)
      rw [hn] at h1
      simp only [Mm.drop, up, if_true]; omega
    · simp only [Mm.drop, up, e, if_false]; exact h.ri i hi hk
  · intro i hi hk
    by_cases e : i = p
    · subst e; exact absurd hk hpk
    · simp only [Mm.drop, up, e, if_false]; exact h.tl i hi hk
  · intro i hi hm
    have hm : m.mr i = false := hm
    refine Rc.drop h hp hn hpk (h.rc i hi hm) ?_
    intro e
    rw [e, mc] at hm; exact absurd hm (by decide)
theorem InS.drop {m : Mm} (p c : Nat) (x : Int) : InS (m.drop p c) x ↔ InS m x := Iff.rfl
theorem InS.lock {m : Mm} (i : Nat) (x : Int) : InS (m.lock i) x ↔ InS m x := Iff.rfl
theorem InS.free {m : Mm} (p c : Nat) (x : Int) : InS (m.free p c) x ↔ InS m x := Iff.rfl
theorem InS.free1 {m : Mm} (p : Nat) (x : Int) : InS (m.free1 p) x ↔ InS m x := Iff.rfl
/-- From c on the key k is met, without a mark. -/
def Wk (m : Mm) (c : Nat) (k : Int) : Prop := ∃ i, i < m.n ∧ m.mr i = false ∧ m.ky i = k ∧ Rc m.nx c i
theorem Wk.ins {m : Mm} (h : MI m) {p c : Nat} {k : Int} (hp : p < m.n) (hn : m.nx p = c) {a : Nat} {x : Int} (ha : a < m.n) (w : Wk m a x) : Wk (m.ins p c k) a x := by
  obtain ⟨i, hi, hm, hk, r⟩ := w
  exact ⟨i, Nat.lt_succ_of_lt hi, by simp [Mm.ins, up, show i ≠ m.n by omega, hm], by simp [Mm.ins, up, show i ≠ m.n by omega, hk], Rc.ins h hp hn r ha⟩
theorem Wk.mark {m : Mm} {c a : Nat} {x : Int} (hx : m.ky c ≠ x) (w : Wk m a x) : Wk (m.mark c) a x := by
  obtain ⟨i, hi, hm, hk, r⟩ := w
  have e : i ≠ c := by rintro rfl; exact hx hk
  exact ⟨i, hi, by simp [Mm.mark, up, e, hm], hk, r⟩
theorem Wk.drop {m : Mm} (h : MI m) {p c : Nat} (hp : p < m.n) (hn : m.nx p = c) (hpk : m.ky p ≠ 10) (mc : m.mr c = true) {a : Nat} {x : Int} (w : Wk m a x) : Wk (m.drop p c) a x := by
  obtain ⟨i, hi, hm, hk, r⟩ := w
  refine ⟨i, hi, hm, hk, Rc.drop h hp hn hpk r ?_⟩
  rintro rfl
  rw [mc] at hm; exact absurd hm (by decide)
theorem Wk.on {m : Mm} {c : Nat} {k : Int} (w : Wk m c k) (hk : m.ky c < k) : Wk m (m.nx c) k := by
  obtain ⟨i, hi, hm, e, r⟩ := w
  cases r with
  | refl => omega
  | step _ _ r => exact ⟨i, hi, hm, e, r⟩
theorem Wk.past {m : Mm} {c : Nat} {k : Int} (w : Wk m c k) (hc : m.mr c = true) : Wk m (m.nx c) k := by
  obtain ⟨i, hi, hm, e, r⟩ := w
  cases r with
  | refl => rw [hc] at hm; exact absurd hm (by decide)
  | step _ _ r => exact ⟨i, hi, hm, e, r⟩
theorem Wk.start {m : Mm} (h : MI m) {k : Int} (hk : 0 ≤ k) (s : InS m k) : Wk m (m.nx 0) k := by
  obtain ⟨i, hi, hm, e⟩ := s
  have r := h.rc i hi hm
  cases r with
  | refl => rw [h.k0] at e; omega
  | step _ _ r => exact ⟨i, hi, hm, e, r⟩
theorem Wk.found {m : Mm} (h : MI m) {c : Nat} {k : Int} (hc : c < m.n) (w : Wk m c k) (hk : k ≤ m.ky c) : m.ky c = k ∧ m.mr c = false := by
  obtain ⟨i, hi, hm, e, r⟩ := w
  rcases h.le r hc with e2 | e2
  · subst e2; exact ⟨e, hm⟩
  · omega
/-- At the beginning. -/
theorem mm0_MI (l : List Int) (hl : ∀ x ∈ l, 0 ≤ x ∧ x ≤ 9) (hs : l.Pairwise (· < ·)) : MI (mm0 l) := by
  have kx : ∀ i (h : i < l.length), (mm0 l).ky (i + 1) = l[i] := by intro i h; simp [mm0, h]
  have kt : (mm0 l).ky (l.length + 1) = 10 := by simp [mm0]
  have nx : ∀ i, i ≠ l.length + 1 → (mm0 l).nx i = i + 1 := by intro i h; simp [mm0, h]
  have cs : ∀ i, i < l.length + 2 → i = 0 ∨ (∃ j, j < l.length ∧ i = j + 1) ∨ i = l.length + 1 := by
    intro i hi
    rcases i with _ | i
    · exact Or.inl rfl
    · by_cases e : i < l.length
      · exact Or.inr (Or.inl ⟨i, e, rfl⟩)
      · exact Or.inr (Or.inr (by omega))
  refine ⟨Nat.succ_pos _, by simp [mm0], ?_, ?_, ?_, ?_, ?_, ?_⟩
  · intro i hi
    rcases cs i hi with rfl | ⟨j, hj, rfl⟩ | rfl
    · simp [mm0]
    · rw [kx j hj]; have := hl _ (List.getElem_mem hj); omega
    · rw [kt]; omega
  · intro i hi
    have hi : i < l.length + 2 := hi
    show _ < l.length + 2
    simp only [mm0]
    split <;> omega
  · intro i hi hk
    rcases cs i hi with rfl | ⟨j, hj, rfl⟩ | rfl
    · rw [nx 0 (by omega)]
      by_cases e : 0 < l.length
      · rw [kx 0 e]; have := hl _ (List.getElem_mem e); simp [mm0]; omega
      · have e : l.length = 0 := by omega
        simp [mm0, e]
    · rw [nx _ (by omega), kx j hj]
      by_cases e : j + 1 < l.length
      · rw [kx _ e]; exact List.pairwise_iff_getElem.1 hs j (j + 1) hj e (by omega)
      · have e : j + 1 = l.length := by omega
        rw [e, kt]; have := hl _ (List.getElem_mem hj); omega
    · exact absurd kt hk
  · intro i hi hk
    rcases cs i hi with rfl | ⟨j, hj, rfl⟩ | rfl
    · simp [mm0] at hk
    · rw [kx j hj] at hk; have := hl _ (List.getElem_mem hj); omega
    · simp [mm0]
  · intro i hi hm; simp [mm0] at hm
  · intro i hi hm
    have hi : i < l.length + 2 := hi
    have go : ∀ j a, a + j = i → Rc (mm0 l).nx a i := by
      intro j
      induction j with
      | zero => intro a ha; rw [← ha]; exact .refl _
      | succ j ih =>
        intro a ha
        refine .step _ _ ?_
        rw [nx a (by omega)]
        exact ih (a + 1) (by omega)
    exact go i 0 (by omega)
theorem mm0_InS (l : List Int) (hl : ∀ x ∈ l, 0 ≤ x ∧ x ≤ 9) (k : Int) (hk : 0 ≤ k ∧ k ≤ 9) : InS (mm0 l) k ↔ k ∈ l := by
  constructor
  · rintro ⟨i, hi, hm, e⟩
    have hi : i < l.length + 2 := hi
    simp only [mm0] at e
    split at e
    · omega
    · split at e
      · rw [← e]; exact List.getElem_mem _
      · omega
  · intro h
    obtain ⟨i, hi, e⟩ := List.getElem_of_mem h
    exact ⟨i + 1, by show _ < l.length + 2; omega, rfl, by simp [mm0, hi, e]⟩
end Go.Proofs.Ytoihdnekkgpcoaa
namespace Go.Proofs.Ytoihdnekkgpcoaa
set_option linter.unusedVariables false
set_option linter.unusedSimpArgs false

/-- A deed that was told stands at place q of the order: S t is the set at time t. -/
def Ok1 (S : Nat → Int → Prop) (d : Dd) (r : Dn) (q : Nat) : Prop :=
  2 * r.bgn ≤ q ∧ (q : Int) ≤ 2 * r.fin + 1 ∧
  ((r.is = true ∧ d.kind ≠ 3 ∧ ∃ t, q = 2 * t + 1 ∧ (S t d.key ↔ d.kind = 2) ∧ ∀ x, S (t + 1) x ↔ if x = d.key then d.kind = 1 else S t x) ∨
   (¬ (r.is = true ∧ d.kind ≠ 3) ∧ ∃ t, q = 2 * t ∧ (S t d.key ↔ r.is = decide (d.kind ≠ 1))))
theorem Ok1.agree {S S' : Nat → Int → Prop} {n : Nat} (h : ∀ t, t ≤ n → ∀ x, S' t x ↔ S t x) {d : Dd} {r : Dn} {q : Nat} (o : Ok1 S d r q) (hf : r.fin < n) : Ok1 S' d r q := by
  obtain ⟨o1, o2, o3⟩ := o
  refine ⟨o1, o2, ?_⟩
  rcases o3 with ⟨a, b, t, e, c1, c2⟩ | ⟨a, t, e, c1⟩
  · refine Or.inl ⟨a, b, t, e, ?_, ?_⟩
    · rw [h t (by omega)]; exact c1
    · intro x; rw [h (t + 1) (by omega), h t (by omega)]; exact c2 x
  · refine Or.inr ⟨a, t, e, ?_⟩
    rw [h t (by omega)]; exact c1
/-- Is a hand between its mark and the end? -/
def pd (alg : Nat) (h : Hd) : Prop := (alg = 2 ∧ h.plc = 5) ∨ (alg = 3 ∧ h.plc = 3)
/-- When the deed began at which hand i is, or begins. -/
def bgnO (s : St) (i : Nat) : Nat := if (s.told i).length ≤ s.deed i then s.now else match (s.told i)[s.deed i]? with | some r => r.bgn | none => 0
/-- Has deed e of hand i its place? -/
def asg (alg : Nat) (s : St) (i e : Nat) : Prop := e < s.deed i ∨ (e = s.deed i ∧ pd alg (s.hd i))
structure LI (alg nh : Nat) (D : Nat → Nat → Dd) (S : Nat → Int → Prop) (pos : Nat → Nat → Nat) (s : St) : Prop where
  cur : ∀ x, S s.now x ↔ InS s.m x
  len : ∀ i, s.deed i ≤ (s.told i).length ∧ (s.told i).length ≤ s.deed i + 1
  dn : ∀ i e r, e < s.deed i → (s.told i)[e]? = some r → Ok1 S (D i e) r (pos i e) ∧ (r.bgn : Int) ≤ r.fin ∧ r.fin < s.now
  bg : ∀ i r, (s.told i)[s.deed i]? = some r → r.bgn < s.now ∧ r.fin = -1 ∧ r.is = false
  pn : ∀ i, pd alg (s.hd i) → (s.told i).length = s.deed i + 1 ∧ (D i (s.deed i)).kind = 2 ∧ ∃ t, pos i (s.deed i) = 2 * t + 1 ∧ bgnO s i ≤ t ∧ t < s.now ∧ S t (D i (s.deed i)).key ∧ ∀ x, S (t + 1) x ↔ x ≠ (D i (s.deed i)).key ∧ S t x
  acc : ∀ t, t < s.now → (∀ x, S (t + 1) x ↔ S t x) ∨ ∃ i e, i < nh ∧ pos i e = 2 * t + 1 ∧ asg alg s i e
  unq : ∀ t i e i' e', asg alg s i e → asg alg s i' e' → pos i e = 2 * t + 1 → pos i' e' = 2 * t + 1 → i = i' ∧ e = e'
  lt : ∀ i e, asg alg s i e → pos i e < 2 * s.now

/-- What a step of hand i may do to the set. -/
def Outc (alg : Nat) (S : Nat → Int → Prop) (s : St) (i : Nat) (d : Dd) (r : Mm × Hd × Bool) : Prop :=
  (r.2.2 = false ∧ (∀ x, InS r.1 x ↔ InS s.m x) ∧ ¬ pd alg (s.hd i) ∧ ¬ pd alg r.2.1) ∨
  (r.2.2 = true ∧ ¬ pd alg (s.hd i) ∧ (∀ x, InS r.1 x ↔ InS s.m x) ∧ ¬ (r.2.1.is = true ∧ d.kind ≠ 3) ∧ ∃ t, bgnO s i ≤ t ∧ t ≤ s.now ∧ (S t d.key ↔ r.2.1.is = decide (d.kind ≠ 1))) ∨
  (r.2.2 = true ∧ ¬ pd alg (s.hd i) ∧ r.2.1.is = true ∧ d.kind ≠ 3 ∧ (InS s.m d.key ↔ d.kind = 2) ∧ ∀ x, InS r.1 x ↔ if x = d.key then d.kind = 1 else InS s.m x) ∨
  (r.2.2 = false ∧ ¬ pd alg (s.hd i) ∧ pd alg r.2.1 ∧ d.kind = 2 ∧ InS s.m d.key ∧ ∀ x, InS r.1 x ↔ x ≠ d.key ∧ InS s.m x) ∨
  (r.2.2 = true ∧ pd alg (s.hd i) ∧ r.2.1.is = true ∧ ∀ x, InS r.1 x ↔ InS s.m x)

theorem toldB_len {s : St} {i : Nat} (h : s.deed i ≤ (s.told i).length ∧ (s.told i).length ≤ s.deed i + 1) : (toldB s i).length = s.deed i + 1 := by
  unfold toldB; split
  · rw [List.length_append]; simp; omega
  · omega
theorem toldB_lt {s : St} {i e : Nat} (h : s.deed i ≤ (s.told i).length) (he : e < s.deed i) : (toldB s i)[e]? = (s.told i)[e]? := by
  unfold toldB; split
  · rw [List.getElem?_append_left (by omega)]
  · rfl
theorem toldB_at {s : St} {i : Nat} (h : s.deed i ≤ (s.told i).length ∧ (s.told i).length ≤ s.deed i + 1) (hb : ∀ r, (s.told i)[s.deed i]? = some r → r.bgn < s.now ∧ r.fin = -1 ∧ r.is = false) : (toldB s i)[s.deed i]? = some ⟨bgnO s i, -1, false⟩ ∧ bgnO s i ≤ s.now := by
  unfold toldB bgnO
  split
  · rename_i h1
    have e : (s.told i).length = s.deed i := by omega
    rw [List.getElem?_append_right (by omega), e]
    simp
  · rename_i h1
    have hl : s.deed i < (s.told i).length := by omega
    rw [List.getElem?_eq_getElem hl]
    have := hb _ (List.getElem?_eq_getElem hl)
    simp only []
    refine ⟨?_, by omega⟩
    obtain ⟨-, h2, h3⟩ := this
    cases hr : (s.told i)[s.deed i] with
    | mk b f x => rw [hr] at h2 h3; simp only at h2 h3; subst h2; subst h3; rfl

theorem LI.step {alg nh : Nat} {D : Nat → Nat → Dd} {S : Nat → Int → Prop} {pos : Nat → Nat → Nat} {s : St} (h : LI alg nh D S pos s) (i : Nat) (hi : i < nh) (ho : Outc alg S s i (D i (s.deed i)) (algS alg s.m (s.hd i) (D i (s.deed i)))) :
    ∃ S' pos', LI alg nh D S' pos' (stp alg (D i (s.deed i)) s i) ∧ ∀ t, t ≤ s.now → ∀ x, S' t x ↔ S t x := by
  obtain ⟨d, hd⟩ : ∃ d, d = D i (s.deed i) := ⟨_, rfl⟩
  rw [← hd] at ho ⊢
  obtain ⟨r, hr⟩ : ∃ r, r = algS alg s.m (s.hd i) d := ⟨_, rfl⟩
  rw [← hr] at ho
  have hnp : ¬ pd alg hd0 := by unfold pd hd0; simp
  have hlB := toldB_len (h.len i)
  obtain ⟨hB, hbn⟩ := toldB_at (h.len i) (h.bg i)
  -- the history, one longer
  obtain ⟨S', hS'⟩ : ∃ S' : Nat → Int → Prop, S' = fun t x => if t ≤ s.now then S t x else InS r.1 x := ⟨_, rfl⟩
  have hSa : ∀ t, t ≤ s.now → ∀ x, S' t x ↔ S t x := by intro t ht x; rw [hS']; simp [ht]
  have hSn : ∀ x, S' (s.now + 1) x ↔ InS r.1 x := by intro x; rw [hS']; show (if s.now + 1 ≤ s.now then _ else _) ↔ _; rw [if_neg (by omega)]
  clear hS'
  -- one place more, or none
  have key : ∀ (q : Nat) (over : Bool) (is : Bool) (hd' : Hd) , r.2.2 = over → (over = false → hd' = r.2.1) → (over = true → hd' = hd0 ∧ r.2.1.is = is) →
      (∀ x, InS r.1 x ↔ InS s.m x) ∨ (q = 2 * s.now + 1 ∧ (over = true ∨ pd alg hd')) →
      (over = true → Ok1 S' d ⟨bgnO s i, s.now, is⟩ q) →
      (pd alg (s.hd i) → q = pos i (s.deed i)) →
      (pd alg (s.hd i) → over = true) →
      (over = true → q ≤ 2 * s.now + 1) →
      (pd alg hd' → d.kind = 2 ∧ q = 2 * s.now + 1 ∧ S s.now d.key ∧ ∀ x, InS r.1 x ↔ x ≠ d.key ∧ InS s.m x) →
      (pd alg (s.hd i) ∨ q % 2 = 0 ∨ q = 2 * s.now + 1) →
      ∃ S' pos', LI alg nh D S' pos' (stp alg d s i) ∧ ∀ t, t ≤ s.now → ∀ x, S' t x ↔ S t x := by
    intro q over is hd' h1 h2 h3 h4 h5 h6 h7 h8 h9 h10
    refine ⟨S', fun j e => if j = i ∧ e = s.deed i then q else pos j e, ?_, hSa⟩
    -- the state behind the step
    obtain ⟨s', hs'⟩ : ∃ s', s' = stp alg d s i := ⟨_, rfl⟩
    rw [← hs']
    have hm : s'.m = r.1 := by rw [hs']; unfold stp; rw [← hr]; dsimp only; rw [h1]; cases over <;> rfl
    have hhd : s'.hd = up s.hd i hd' := by
      rw [hs']; unfold stp; rw [← hr]; dsimp only; rw [h1]
      cases over with
      | false => rw [h2 rfl]; rfl
      | true => rw [(h3 rfl).1]; rfl
    have hde : s'.deed = up s.deed i (if over then s.deed i + 1 else s.deed i) := by
      rw [hs']; unfold stp; rw [← hr]; dsimp only; rw [h1]
      cases over with
      | false => simp only [Bool.false_eq_true, if_false]; funext j; unfold up; split <;> simp_all
      | true => rfl
    have hto : s'.told = up s.told i (if over then toldE (toldB s i) (s.deed i) s.now is else toldB s i) := by
      rw [hs']; unfold stp; rw [← hr]; dsimp only; rw [h1]
      cases over with
      | false => rfl
      | true => rw [← (h3 rfl).2]; rfl
    have hno : s'.now = s.now + 1 := by rw [hs']; unfold stp; rw [← hr]; dsimp only; rw [h1]; cases over <;> rfl
    clear hs'
    have tdi : s'.told i = if over then toldE (toldB s i) (s.deed i) s.now is else toldB s i := by rw [hto, up_same]
    have tdj : ∀ j, j ≠ i → s'.told j = s.told j := by intro j hj; rw [hto, up_ne _ _ hj]
    have dei : s'.deed i = if over then s.deed i + 1 else s.deed i := by rw [hde, up_same]
    have dej : ∀ j, j ≠ i → s'.deed j = s.deed j := by intro j hj; rw [hde, up_ne _ _ hj]
    have hhi : s'.hd i = hd' := by rw [hhd, up_same]
    have hhj : ∀ j, j ≠ i → s'.hd j = s.hd j := by intro j hj; rw [hhd, up_ne _ _ hj]
    have lni : (s'.told i).length = s.deed i + 1 := by rw [tdi]; cases over <;> simp [toldE, hlB]
    have npo : over = true → ¬ pd alg hd' := by intro e; rw [(h3 e).1]; exact hnp
    -- who has a place now
    have asg1 : ∀ j e, asg alg s' j e → (j = i ∧ e = s.deed i ∧ (over = true ∨ pd alg hd')) ∨ (¬ (j = i ∧ e = s.deed i) ∧ asg alg s j e) := by
      intro j e ha
      by_cases hj : j = i
      · subst hj
        unfold asg at ha ⊢
        rw [dei, hhi] at ha
        cases over with
        | false =>
          simp only [Bool.false_eq_true, if_false] at ha
          rcases ha with ha | ⟨ha, hp⟩
          · exact Or.inr ⟨by omega, Or.inl ha⟩
          · exact Or.inl ⟨rfl, ha, Or.inr hp⟩
        | true =>
          simp only [if_true] at ha
          rcases ha with ha | ⟨ha, hp⟩
          · by_cases e2 : e = s.deed j
            · exact Or.inl ⟨rfl, e2, Or.inl rfl⟩
            · exact Or.inr ⟨fun hh => e2 hh.2, Or.inl (by omega)⟩
          · exact absurd hp (npo rfl)
      · unfold asg at ha ⊢
        rw [dej j hj, hhj j hj] at ha
        exact Or.inr ⟨fun hh => hj hh.1, ha⟩
    have asg2 : ∀ j e, asg alg s j e → asg alg s' j e := by
      intro j e ha
      unfold asg at ha ⊢
      by_cases hj : j = i
      · subst hj
        rw [dei, hhi]
        rcases ha with ha | ⟨ha, hp⟩
        · left; cases over <;> simp <;> omega
        · have := h7 hp; subst this; left; simp; omega
      · rw [dej j hj, hhj j hj]; exact ha
    have qlt : ∀ (t : Nat), q = 2 * t + 1 → (¬ pd alg (s.hd i)) → t = s.now := by
      intro t e hp
      rcases h10 with h10 | h10 | h10
      · exact absurd h10 hp
      · omega
      · omega
    refine ⟨?_, ?_, ?_, ?_, ?_, ?_, ?_, ?_⟩
    · intro x; rw [hno, hm]; exact hSn x
    · intro j
      by_cases hj : j = i
      · subst hj; rw [lni, dei]; cases over <;> simp
      · rw [tdj j hj, dej j hj]; exact h.len j
    · intro j e r0 he hr0
      rw [hno]
      by_cases hj : j = i
      · subst hj
        rw [dei] at he; rw [tdi] at hr0
        by_cases e2 : e = s.deed j
        · subst e2
          cases over with
          | false => simp at he
          | true =>
            simp only [if_true] at hr0
            rw [toldE, List.getElem?_modify, hB] at hr0
            simp at hr0
            subst hr0
            simp only [and_self, if_true]
            rw [← hd]
            exact ⟨h5 rfl, by omega, by omega⟩
        · have he2 : e < s.deed j := by
            clear h1 h2 h3 h4 h5 h6 h7 h8 h9 h10 hde hto tdi dei asg1 asg2 npo hr0
            cases over
            · simpa using he
            · have : e < s.deed j + 1 := by simpa using he
              omega
          have hr1 : (s.told j)[e]? = some r0 := by
            cases over with
            | false => simp only [Bool.false_eq_true, if_false] at hr0; rw [toldB_lt (h.len j).1 he2] at hr0; exact hr0
            | true =>
              simp only [if_true] at hr0
              rw [toldE, List.getElem?_modify, toldB_lt (h.len j).1 he2] at hr0
              simpa [show s.deed j ≠ e from fun hh => e2 hh.symm] using hr0
          obtain ⟨a, b, c⟩ := h.dn j e r0 he2 hr1
          rw [if_neg (fun hh => e2 hh.2)]
          exact ⟨a.agree hSa c, b, by omega⟩
      · rw [dej j hj] at he; rw [tdj j hj] at hr0
        obtain ⟨a, b, c⟩ := h.dn j e r0 he hr0
        rw [if_neg (fun hh => hj hh.1)]
        exact ⟨a.agree hSa c, b, by omega⟩
    · intro j r0 hr0
      rw [hno]
      by_cases hj : j = i
      · subst hj
        rw [dei, tdi] at hr0
        cases over with
        | false =>
          simp only [Bool.false_eq_true, if_false] at hr0
          rw [hB] at hr0
          injection hr0 with hr0; subst hr0
          exact ⟨by simp only []; omega, rfl, rfl⟩
        | true =>
          simp only [if_true] at hr0
          rw [List.getElem?_eq_none_iff.2 (by simp [toldE, hlB])] at hr0
          exact absurd hr0 (by simp)
      · rw [dej j hj, tdj j hj] at hr0
        obtain ⟨a, b, c⟩ := h.bg j r0 hr0
        exact ⟨by omega, b, c⟩
    · intro j hp
      by_cases hj : j = i
      · subst hj
        rw [hhi] at hp
        have ho : over = false := by cases hov : over with | false => rfl | true => exact absurd hp (npo hov)
        subst ho
        obtain ⟨k1, k2, k3, k4⟩ := h9 hp
        have hbe : bgnO s' j = bgnO s j := by
          have e1 : (s'.told j)[s'.deed j]? = some ⟨bgnO s j, -1, false⟩ := by
            rw [tdi, dei]; simp only [Bool.false_eq_true, if_false]; exact hB
          rw [bgnO, if_neg (by rw [lni, dei]; simp), e1]
        rw [lni, dei]
        simp only [Bool.false_eq_true, if_false]
        rw [← hd, hbe]
        refine ⟨trivial, k1, s.now, by simp [k2], hbn, by omega, (hSa _ (Nat.le_refl _) _).2 k3, ?_⟩
        intro x
        rw [hSn x, k4 x, hSa _ (Nat.le_refl _) x, h.cur x]
      · rw [hhj j hj] at hp
        obtain ⟨k1, k2, t, k3, k4, k5, k6, k7⟩ := h.pn j hp
        have hbe : bgnO s' j = bgnO s j := by
          unfold bgnO
          rw [tdj j hj, dej j hj]
          rw [if_neg (by omega), if_neg (by omega)]
        rw [tdj j hj, dej j hj, hbe, hno]
        refine ⟨k1, k2, t, by rw [if_neg (fun hh => hj hh.1)]; exact k3, k4, by omega, (hSa _ (by omega) _).2 k6, ?_⟩
        intro x; rw [hSa _ (by omega), hSa _ (by omega)]; exact k7 x
    · intro t ht
      rw [hno] at ht
      by_cases e : t = s.now
      · subst e
        rcases h4 with h4 | ⟨h4, h4b⟩
        · left; intro x; rw [hSn x, h4 x, hSa _ (Nat.le_refl _) x, h.cur x]
        · right
          refine ⟨i, s.deed i, hi, by simp [h4], ?_⟩
          unfold asg
          rw [dei, hhi]
          rcases h4b with h4b | h4b
          · left; rw [h4b]; simp
          · have ho : over = false := by cases hov : over with | false => rfl | true => exact absurd h4b (npo hov)
            subst ho
            exact Or.inr ⟨by simp, h4b⟩
      · rcases h.acc t (by omega) with a | ⟨j, e2, hj, hp, ha⟩
        · left; intro x; rw [hSa _ (by omega), hSa _ (by omega)]; exact a x
        · right
          refine ⟨j, e2, hj, ?_, asg2 _ _ ha⟩
          by_cases hh : j = i ∧ e2 = s.deed i
          · rw [if_pos hh]
            obtain ⟨rfl, rfl⟩ := hh
            unfold asg at ha
            rcases ha with ha | ⟨_, ha⟩
            · omega
            · rw [h6 ha]; exact hp
          · rw [if_neg hh]; exact hp
    · intro t j e j' e' ha ha' hp hp'
      rcases asg1 j e ha with ⟨rfl, rfl, k⟩ | ⟨k, hb⟩
      · rcases asg1 j' e' ha' with ⟨rfl, rfl, k'⟩ | ⟨k', hb'⟩
        · exact ⟨rfl, rfl⟩
        · exfalso
          simp only [and_self, if_true] at hp
          rw [if_neg k'] at hp'
          by_cases hpe : pd alg (s.hd j)
          · rw [h6 hpe] at hp
            have := h.unq t j (s.deed j) j' e' (Or.inr ⟨rfl, hpe⟩) hb' hp hp'
            exact k' ⟨this.1.symm, this.2.symm⟩
          · have h11 := qlt t hp hpe
            have := h.lt j' e' hb'
            omega
      · rcases asg1 j' e' ha' with ⟨rfl, rfl, k'⟩ | ⟨k', hb'⟩
        · exfalso
          simp only [and_self, if_true] at hp'
          rw [if_neg k] at hp
          by_cases hpe : pd alg (s.hd j')
          · rw [h6 hpe] at hp'
            have := h.unq t j e j' (s.deed j') hb (Or.inr ⟨rfl, hpe⟩) hp hp'
            exact k this
          · have h11 := qlt t hp' hpe
            have := h.lt j e hb
            omega
        · rw [if_neg k] at hp; rw [if_neg k'] at hp'
          exact h.unq t j e j' e' hb hb' hp hp'
    · intro j e ha
      rw [hno]
      rcases asg1 j e ha with ⟨rfl, rfl, k⟩ | ⟨k, hb⟩
      · simp only [and_self, if_true]
        rcases k with k | k
        · have := h8 k; omega
        · have := (h9 k).2.1; omega
      · rw [if_neg k]; have := h.lt j e hb; omega
  -- the five ways
  rcases ho with ⟨o1, o2, o3, o4⟩ | ⟨o1, o2, o3, o4, t, o5, o6, o7⟩ | ⟨o1, o2, o3, o4, o5, o6⟩ | ⟨o1, o2, o3, o4, o5, o6⟩ | ⟨o1, o2, o3, o4⟩
  · exact key 0 false false r.2.1 o1 (fun _ => rfl) (fun e => absurd e (by simp)) (Or.inl o2) (fun e => absurd e (by simp)) (fun e => absurd e o3) (fun e => absurd e o3) (fun e => absurd e (by simp)) (fun e => absurd e o4) (Or.inr (Or.inl rfl))
  · refine key (2 * t) true r.2.1.is hd0 o1 (fun e => absurd e (by simp)) (fun _ => ⟨rfl, rfl⟩) (Or.inl o3) (fun _ => ⟨by simp only []; omega, by simp only []; omega, Or.inr ⟨o4, t, rfl, ?_⟩⟩) (fun e => absurd e o2) (fun e => absurd e o2) (fun _ => by omega) (fun e => absurd e hnp) (Or.inr (Or.inl (by omega)))
    rw [hSa t o6]; exact o7
  · refine key (2 * s.now + 1) true true hd0 o1 (fun e => absurd e (by simp)) (fun _ => ⟨rfl, o3⟩) (Or.inr ⟨rfl, Or.inl rfl⟩) (fun _ => ⟨by simp only []; omega, by simp only []; omega, Or.inl ⟨rfl, o4, s.now, rfl, ?_, ?_⟩⟩) (fun e => absurd e o2) (fun e => absurd e o2) (fun _ => by omega) (fun e => absurd e hnp) (Or.inr (Or.inr rfl))
    · rw [hSa _ (Nat.le_refl _), h.cur]; exact o5
    · intro x; rw [hSn x, o6 x, hSa _ (Nat.le_refl _), h.cur]
  · exact key (2 * s.now + 1) false false r.2.1 o1 (fun _ => rfl) (fun e => absurd e (by simp)) (Or.inr ⟨rfl, Or.inr o3⟩) (fun e => absurd e (by simp)) (fun e => absurd e o2) (fun e => absurd e o2) (fun e => absurd e (by simp)) (fun _ => ⟨o4, rfl, (h.cur _).2 o5, o6⟩) (Or.inr (Or.inr rfl))
  · obtain ⟨k1, k2, t, k3, k4, k5, k6, k7⟩ := h.pn i o2
    rw [← hd] at k2 k6 k7
    refine key (pos i (s.deed i)) true true hd0 o1 (fun e => absurd e (by simp)) (fun _ => ⟨rfl, o3⟩) (Or.inl o4) (fun _ => ⟨by simp only []; omega, by simp only []; omega, Or.inl ⟨rfl, by omega, t, k3, ?_, ?_⟩⟩) (fun _ => rfl) (fun _ => rfl) (fun _ => by omega) (fun e => absurd e hnp) (Or.inl o2)
    · rw [hSa _ (by omega)]; simp [k2, k6]
    · intro x; rw [hSa _ (by omega), hSa _ (by omega), k7 x]
      by_cases e : x = d.key <;> simp [e, k2]
end Go.Proofs.Ytoihdnekkgpcoaa
