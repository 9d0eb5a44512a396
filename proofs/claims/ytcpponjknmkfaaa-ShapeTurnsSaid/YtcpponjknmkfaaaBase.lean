/-
  Words for memory that all my walks share: a slice that reads as a list (RD), a slice that the call owns (OW), trees that are only read (TR), small lemmas on worlds. Conditions: none. Own work, after the guide's extra-words.
-/
import Derived.Test.YtcpponjknmkfaaaProg
import Derived.WalkKit
import Derived.ProofKit
import Derived.Handy
import Derived.OpenShut
import Derived.BigQuiet
import Derived.WalkSpells
import Derived.WalkLawsBesides
import Derived.WalkSmall
import Derived.Deep.QuietTactic
import Derived.Deep.RegionHeld3
import Derived.Deep.RegionLaw
import Derived.Deep.RegionWith
import Derived.Deep.AppendLies
import Derived.Deep.AppendSrc
import Derived.Deep.Draws
import Derived.Lib.Hide
namespace Go.Proofs.Ytcpponjknmkfaaa
open Go.ChangeShapes Go.WideShapes Go.ChangeAt Go.RowKit
set_option linter.unusedVariables false
set_option linter.unusedSimpArgs false

theorem hide {p : Prop} (h : p) : Hid p := h

/-- How an element lies in memory: so many cells. -/
structure Enc (α : Type) where
  size : Nat
  cells : α → List Value
  len : ∀ a, (cells a).length = size
  one : ∀ a u, u ∈ cells a → u.oneCell' = true

abbrev IP := Int × Int
def eInt : Enc Int := ⟨1, fun n => [.int .i64 n], fun _ => rfl, fun _ u h => by simp at h; subst h; rfl⟩
def ePair : Enc IP := ⟨2, fun p => [.int .i64 p.1, .int .i64 p.2], fun _ => rfl, fun _ u h => by simp at h; rcases h with rfl | rfl <;> rfl⟩
def eVal : Enc {v : Value // v.oneCell' = true} := ⟨1, fun v => [v.1], fun _ => rfl, fun v u h => by simp at h; subst h; exact v.2⟩

/-- The slice value v reads as the list l in the world w. -/
def RD {α : Type} (w : World) (E : Enc α) (v : Value) (l : List α) : Prop :=
  ∃ A c, v = .slice A l.length c ∧ l.length ≤ c ∧ c ≤ maxLen ∧ (A = none → c = 0) ∧ (0 < l.length → ∃ b o, A = some ⟨b, o, none⟩ ∧ b < w.heap.size ∧
    ∀ k (h : k < l.length) j, j < E.size → w.cell? ⟨b, o + k * E.size + j, none⟩ = (E.cells l[k])[j]?)

section
variable {α : Type} {w w' : World} {E : Enc α} {v : Value} {l : List α}
theorem RD.nil : RD w E (.slice none 0 0) [] := ⟨none, 0, rfl, Nat.le_refl _, by decide, fun _ => rfl, fun h => by simp at h⟩
theorem RD.keep (h : RD w E v l) (hs : w.heap.size ≤ w'.heap.size) (hk : ∀ p : Addr, p.block < w.heap.size → w'.cell? p = w.cell? p) : RD w' E v l := by
  obtain ⟨A, c, rfl, h1, h2, hn, h3⟩ := h
  refine ⟨A, c, rfl, h1, h2, hn, fun h0 => ?_⟩
  obtain ⟨b, o, rfl, hb, hc⟩ := h3 h0
  exact ⟨b, o, rfl, by omega, fun k hk' j hj => (hk _ hb).trans (hc k hk' j hj)⟩
theorem RD.below (h : RD w E v l) (hb : Below w.heap.size w w') : RD w' E v l := h.keep hb.size fun p hp => hb.cell hp
theorem RD.shape (h : RD w E v l) : ∃ A c, v = .slice A l.length c ∧ l.length ≤ c ∧ c ≤ 9223372036854775807 := by
  obtain ⟨A, c, rfl, h1, h2, hn, h3⟩ := h
  exact ⟨A, c, rfl, h1, by unfold maxLen at h2; omega⟩
theorem RD.at_ {A : Option Addr} {n c : Nat} (h : RD w E (.slice A n c) l) {k : Nat} (hk : k < l.length) :
    ∃ b o, A = some ⟨b, o, none⟩ ∧ b < w.heap.size ∧ ∀ j, j < E.size → w.cell? ⟨b, o + k * E.size + j, none⟩ = (E.cells l[k])[j]? := by
  obtain ⟨A', c', e, h1, h2, hn, h3⟩ := h
  injection e with e1 e2 e3
  subst e1
  obtain ⟨b, o, rfl, hb, hc⟩ := h3 (by omega)
  exact ⟨b, o, rfl, hb, hc k hk⟩
theorem RD.cut {A : Option Addr} {n c : Nat} (h : RD w E (.slice A n c) l) {lo hi : Nat} (h1 : lo ≤ hi) (h2 : hi ≤ l.length) (A' : Option Addr) (hA0 : A' = none → A = none)
    (hA : ∀ b o, A = some ⟨b, o, none⟩ → lo < c → A' = some ⟨b, o + lo * E.size, none⟩) : RD w E (.slice A' (hi - lo) (c - lo)) ((l.take hi).drop lo) := by
  obtain ⟨A0, c', e, h3, h4, hn, h5⟩ := h
  injection e with e1 e2 e3
  subst e1; subst e3
  have hl : ((l.take hi).drop lo).length = hi - lo := by simp; omega
  refine ⟨A', c - lo, by rw [hl], by rw [hl]; omega, by omega, fun h0 => by have := hn (hA0 h0); omega, fun h0 => ?_⟩
  rw [hl] at h0
  obtain ⟨b, o, rfl, hb, hc⟩ := h5 (by omega)
  refine ⟨b, o + lo * E.size, hA b o rfl (by omega), hb, fun k hk j hj => ?_⟩
  have := hc (lo + k) (by simp at hk; omega) j hj
  rw [show o + lo * E.size + k * E.size + j = o + (lo + k) * E.size + j from by rw [Nat.add_mul]; omega, this]
  simp
end
section
variable {α : Type} {w : World} {E : Enc α} {l : List α} {n c : Nat}
theorem RD.takeS {A : Option Addr} (h : RD w E (.slice A n c) l) {k : Nat} (hk : k ≤ l.length) : RD w E (.slice A k c) (l.take k) := by
  obtain ⟨A0, c', e, h3, h4, hn, h5⟩ := h
  injection e with e1 e2 e3
  subst e1; subst e3
  have hl : (l.take k).length = k := by simp; omega
  refine ⟨A, c, by rw [hl], by rw [hl]; omega, h4, hn, fun h0 => ?_⟩
  rw [hl] at h0
  obtain ⟨b, o, rfl, hb, hc⟩ := h5 (by omega)
  refine ⟨b, o, rfl, hb, fun i hi j hj => ?_⟩
  rw [hc i (by omega) j hj]
  simp
/-- l[k:], as the walk writes it where the cut is not at the capacity's end; 'hA' where it is not known. -/
theorem RD.dropS {b o : Nat} (h : RD w E (.slice (some ⟨b, o, none⟩) n c) l) {k : Nat} (hk : k ≤ l.length) {A' : Option Addr} {s : Nat} (hs : s = E.size) (hA : (if c = k then some (⟨b, o, none⟩ : Addr) else some ⟨b, o + k * s, none⟩) = A') :
    RD w E (.slice A' (l.length - k) (c - k)) (l.drop k) := by
  obtain ⟨A0, c', e, h3, h4, hn, h5⟩ := h
  injection e with e1 e2 e3
  subst e1; subst e3; subst hs
  have hl : (l.drop k).length = l.length - k := by simp
  refine ⟨A', c - k, by rw [hl], by rw [hl]; omega, by omega, (fun h0 => by subst h0; split at hA <;> cases hA), fun h0 => ?_⟩
  rw [hl] at h0
  obtain ⟨b', o', e2, hb, hc⟩ := h5 (by omega)
  injection e2 with e2
  injection e2 with e3 e4
  subst e3; subst e4
  rw [if_neg (by omega)] at hA
  refine ⟨b, o + k * E.size, hA.symm, hb, fun i hi j hj => ?_⟩
  have := hc (k + i) (by simp at hi; omega) j hj
  rw [show o + k * E.size + i * E.size + j = o + (k + i) * E.size + j from by rw [Nat.add_mul]; omega, this]
  simp
end
section
variable {w : World} {A : Option Addr} {n c : Nat}
theorem RD.pair {l : List IP} (h : RD w ePair (.slice A n c) l) {k : Nat} (hk : k < l.length) :
    ∃ b o, A = some ⟨b, o, none⟩ ∧ b < w.heap.size ∧ w.cell? ⟨b, o + k * 2, none⟩ = some (.int .i64 l[k].1) ∧ w.cell? ⟨b, o + k * 2 + 1, none⟩ = some (.int .i64 l[k].2) := by
  obtain ⟨b, o, rfl, hb, hc⟩ := h.at_ hk
  exact ⟨b, o, rfl, hb, hc 0 (by decide), hc 1 (by decide)⟩
theorem RD.int {l : List Int} (h : RD w eInt (.slice A n c) l) {k : Nat} (hk : k < l.length) :
    ∃ b o, A = some ⟨b, o, none⟩ ∧ b < w.heap.size ∧ w.cell? ⟨b, o + k, none⟩ = some (.int .i64 l[k]) := by
  obtain ⟨b, o, rfl, hb, hc⟩ := h.at_ hk
  have := hc 0 (by decide)
  simp only [eInt, Nat.mul_one, Nat.add_zero] at this
  exact ⟨b, o, rfl, hb, this⟩
end

/-- What a call that answers v, and writes nothing that was there, leaves. -/
def Ret (v : Value) (w : World) (e : Ending) (w' : World) : Prop := e = .returned v ∧ Below w.heap.size w w'
theorem Ret.mk {v : Value} {w w' : World} (h : Below w.heap.size w w') : Ret v w (.returned v) w' := ⟨rfl, h⟩
/-- A call that answers a slice that reads as l. -/
def RetRD {α : Type} (E : Enc α) (l : List α) (w : World) (e : Ending) (w' : World) : Prop := ∃ v, e = .returned v ∧ RD w' E v l ∧ Below w.heap.size w w'
end Go.Proofs.Ytcpponjknmkfaaa
