/-
  Words for memory that all my walks share: a slice that reads as a list (RD), a slice that 
  A slice that the call owns (OW), appended to in a plain region and in one that draws its o
  A block that the call made and that holds just a list (AR): read, written; an owned slice 
  Ops and answers of a map as they lie in memory
  An argument that is a slice of pairs of ints, or of ints, opened to RD
  Arguments opened to RD: what all frames of this seat share
  skip.Height: what it answers
  What the bound of an Upto statement gives: a slice that is handed in is no longer than the
-/
import Derived.Test.YtcljlnagpjilaaaGreatDoorProg
import Derived.WalkKit
import Derived.ProofKit
import Derived.Handy
import Derived.OpenShut
import Derived.BigQuiet
import Derived.WalkSpells
import Derived.WalkLawsBesides
import Derived.WalkSmall
import Derived.Deep.QuietTactic
import Derived.Deep.RegionHeld3
import Derived.Deep.RegionLaw
import Derived.Deep.RegionWith
import Derived.Deep.AppendLies
import Derived.Deep.AppendSrc
import Derived.Deep.Draws
import Derived.Lib.Hide
import Derived.Laws.AppendOwnNone
import Derived.Laws.MakeOwn
import Derived.Test.YtcljlnagpjilaaaGreatDoorRows
import Derived.Lib.SmallJoins
import Derived.Deep.Slices
import Derived.Deep.Fields
import Derived.ChangeSame
import Derived.ChangeOld
import Derived.ShutString

set_option linter.unusedVariables false
set_option linter.unusedSimpArgs false
set_option maxRecDepth 100000
set_option maxHeartbeats 8000000
namespace Go.Proofs.YtcljlnagpjilaaaGreatDoor
open Go.ChangeShapes Go.WideShapes Go.ChangeAt Go.RowKit
theorem hide {p : Prop} (h : p) : Hid p := h
structure Enc (α : Type) where
 size : Nat
 cells : α -> List Value
 len : ∀ a, (cells a).length = size
 one : ∀ a u, u ∈ cells a -> u.oneCell' = true
abbrev IP := Int × Int
def eInt : Enc Int := ⟨1, fun n => [.int .i64 n], fun _ => rfl, fun _ u h => by simp at h; subst h; rfl⟩
def ePair : Enc IP := ⟨2, fun p => [.int .i64 p.1, .int .i64 p.2], fun _ => rfl, fun _ u h => by simp at h; rcases h with rfl | rfl <;> rfl⟩
def eVal : Enc {v : Value // v.oneCell' = true} := ⟨1, fun v => [v.1], fun _ => rfl, fun v u h => by simp at h; subst h; exact v.2⟩
def RD {α : Type} (w : World) (E : Enc α) (v : Value) (l : List α) : Prop :=
 ∃ A c, v = .slice A l.length c /\ l.length <= c /\ c <= maxLen /\ (A = none -> c = 0) /\ (0 < l.length -> ∃ b o, A = some ⟨b, o, none⟩ /\ b < w.heap.size /\
  ∀ k (h : k < l.length) j, j < E.size -> w.cell? ⟨b, o + k * E.size + j, none⟩ = (E.cells l[k])[j]?)
section
variable {α : Type} {w w' : World} {E : Enc α} {v : Value} {l : List α}
theorem RD.nil : RD w E (.slice none 0 0) [] := ⟨none, 0, rfl, Nat.le_refl _, by decide, fun _ => rfl, fun h => by simp at h⟩
theorem RD.keep (h : RD w E v l) (hs : w.heap.size <= w'.heap.size) (hk : ∀ p : Addr, p.block < w.heap.size -> w'.cell? p = w.cell? p) : RD w' E v l := by
 obtain ⟨A, c, rfl, h1, h2, hn, h3⟩ := h
 refine ⟨A, c, rfl, h1, h2, hn, fun h0 => ?_⟩
 obtain ⟨b, o, rfl, hb, hc⟩ := h3 h0
 exact ⟨b, o, rfl, by omega, fun k hk' j hj => (hk _ hb).trans (hc k hk' j hj)⟩
theorem RD.below (h : RD w E v l) (hb : Below w.heap.size w w') : RD w' E v l := h.keep hb.size fun p hp => hb.cell hp
theorem RD.shape (h : RD w E v l) : ∃ A c, v = .slice A l.length c /\ l.length <= c /\ c <= 9223372036854775807 := by
 obtain ⟨A, c, rfl, h1, h2, hn, h3⟩ := h
 exact ⟨A, c, rfl, h1, by unfold maxLen at h2; omega⟩
theorem RD.at_ {A : Option Addr} {n c : Nat} (h : RD w E (.slice A n c) l) {k : Nat} (hk : k < l.length) :
  ∃ b o, A = some ⟨b, o, none⟩ /\ b < w.heap.size /\ ∀ j, j < E.size -> w.cell? ⟨b, o + k * E.size + j, none⟩ = (E.cells l[k])[j]? := by
 obtain ⟨A', c', e, h1, h2, hn, h3⟩ := h
 injection e with e1 e2 e3
 subst e1
 obtain ⟨b, o, rfl, hb, hc⟩ := h3 (by omega)
 exact ⟨b, o, rfl, hb, hc k hk⟩
end
section
variable {α : Type} {w : World} {E : Enc α} {l : List α} {n c : Nat}
theorem RD.takeS {A : Option Addr} (h : RD w E (.slice A n c) l) {k : Nat} (hk : k <= l.length) : RD w E (.slice A k c) (l.take k) := by
 obtain ⟨A0, c', e, h3, h4, hn, h5⟩ := h
 injection e with e1 e2 e3
 subst e1; subst e3
 have hl : (l.take k).length = k := by simp; omega
 refine ⟨A, c, by rw [hl], by rw [hl]; omega, h4, hn, fun h0 => ?_⟩
 rw [hl] at h0
 obtain ⟨b, o, rfl, hb, hc⟩ := h5 (by omega)
 refine ⟨b, o, rfl, hb, fun i hi j hj => ?_⟩
 rw [hc i (by omega) j hj]
 simp
theorem RD.dropS {b o : Nat} (h : RD w E (.slice (some ⟨b, o, none⟩) n c) l) {k : Nat} (hk : k <= l.length) {A' : Option Addr} {s : Nat} (hs : s = E.size) (hA : (if c = k then some (⟨b, o, none⟩ : Addr) else some ⟨b, o + k * s, none⟩) = A') :
  RD w E (.slice A' (l.length - k) (c - k)) (l.drop k) := by
 obtain ⟨A0, c', e, h3, h4, hn, h5⟩ := h
 injection e with e1 e2 e3
 subst e1; subst e3; subst hs
 have hl : (l.drop k).length = l.length - k := by simp
 refine ⟨A', c - k, by rw [hl], by rw [hl]; omega, by omega, (fun h0 => by subst h0; split at hA <;> cases hA), fun h0 => ?_⟩
 rw [hl] at h0
 obtain ⟨b', o', e2, hb, hc⟩ := h5 (by omega)
 injection e2 with e2
 injection e2 with e3 e4
 subst e3; subst e4
 rw [if_neg (by omega)] at hA
 refine ⟨b, o + k * E.size, hA.symm, hb, fun i hi j hj => ?_⟩
 have := hc (k + i) (by simp at hi; omega) j hj
 rw [show o + k * E.size + i * E.size + j = o + (k + i) * E.size + j from by rw [Nat.add_mul]; omega, this]
 simp
end
section
variable {w : World} {A : Option Addr} {n c : Nat}
theorem RD.pair {l : List IP} (h : RD w ePair (.slice A n c) l) {k : Nat} (hk : k < l.length) :
  ∃ b o, A = some ⟨b, o, none⟩ /\ b < w.heap.size /\ w.cell? ⟨b, o + k * 2, none⟩ = some (.int .i64 l[k].1) /\ w.cell? ⟨b, o + k * 2 + 1, none⟩ = some (.int .i64 l[k].2) := by
 obtain ⟨b, o, rfl, hb, hc⟩ := h.at_ hk
 exact ⟨b, o, rfl, hb, hc 0 (by decide), hc 1 (by decide)⟩
theorem RD.int {l : List Int} (h : RD w eInt (.slice A n c) l) {k : Nat} (hk : k < l.length) :
  ∃ b o, A = some ⟨b, o, none⟩ /\ b < w.heap.size /\ w.cell? ⟨b, o + k, none⟩ = some (.int .i64 l[k]) := by
 obtain ⟨b, o, rfl, hb, hc⟩ := h.at_ hk
 have := hc 0 (by decide)
 simp only [eInt, Nat.mul_one, Nat.add_zero] at this
 exact ⟨b, o, rfl, hb, this⟩
end
def Ret (v : Value) (w : World) (e : Ending) (w' : World) : Prop := e = .returned v /\ Below w.heap.size w w'
def RetRD {α : Type} (E : Enc α) (l : List α) (w : World) (e : Ending) (w' : World) : Prop := ∃ v, e = .returned v /\ RD w' E v l /\ Below w.heap.size w w'
def OW {α : Type} (w : World) (B : Nat) (e : TypeId) (E : Enc α) (v : Value) (l : List α) : Prop := w.ownsRow B e E.size v l.length (l.flatMap E.cells)
theorem flat_len {α : Type} (E : Enc α) (l : List α) : (l.flatMap E.cells).length = l.length * E.size := by
 induction l with
 | nil => simp
 | cons a t ih => simp [List.flatMap_cons, ih, E.len, Nat.add_mul, Nat.add_comm]
theorem flat_at {α : Type} (E : Enc α) : ∀ (l : List α) (k : Nat) (h : k < l.length) (j : Nat), j < E.size -> (l.flatMap E.cells)[k * E.size + j]? = (E.cells l[k])[j]?
 | a :: t, 0, h, j, hj => by simp [List.flatMap_cons, List.getElem?_append, E.len, hj]
 | a :: t, k + 1, h, j, hj => by
  rw [List.flatMap_cons, List.getElem?_append_right (by rw [E.len, Nat.add_mul]; omega), E.len]
  rw [show (k + 1) * E.size + j - E.size = k * E.size + j from by rw [Nat.add_mul]; omega]
  exact flat_at E t k (by simpa using h) j hj
theorem flat_inv {α : Type} (E : Enc α) (hs : 0 < E.size) (l : List α) (j : Nat) (h : j < l.length * E.size) : ∃ k i, k < l.length /\ i < E.size /\ j = k * E.size + i :=
 ⟨j / E.size, j % E.size, by rw [Nat.div_lt_iff_lt_mul hs]; exact h, Nat.mod_lt _ hs, by rw [Nat.mul_comm]; exact (Nat.div_add_mod j E.size).symm⟩
theorem flat_one {α : Type} (E : Enc α) (l : List α) : ∀ u ∈ l.flatMap E.cells, u.oneCell' = true := fun u hu => by
 obtain ⟨a, _, h⟩ := List.mem_flatMap.1 hu
 exact E.one a u h
section
variable {α : Type} {w w' : World} {B : Nat} {e : TypeId} {E : Enc α} {v : Value} {l : List α}
theorem OW.nil : OW w B e E (.slice none 0 0) [] := World.ownsRow_nil w B e E.size
theorem OW.empty {w : World} {B : Nat} {e : TypeId} {E : Enc α} (hB : B <= w.heap.size) : OW (w.alloc (.cells #[] e)) B e E (.slice (some ⟨w.heap.size, 0, none⟩) 0 0) ([] : List α) :=
 ⟨by simp, .inr ⟨w.heap.size, 0, #[], rfl, hB, heap_alloc_new w _, Nat.le_refl _, by simp [maxLen], by simp, by simp⟩⟩
theorem OW.rd (h : OW w B e E v l) : RD w E v l := by
 rcases h.2 with ⟨rfl, h0⟩ | ⟨g, cap, cur, rfl, hb, hg, h1, h2, h3, h4⟩
 ·have : l = [] := List.eq_nil_of_length_eq_zero h0
  subst this
  exact RD.nil
 ·refine ⟨_, cap, rfl, h1, h2, (fun h => by cases h), fun h0 => ⟨g, 0, rfl, (Array.getElem?_eq_some_iff.1 hg).1, fun k hk j hj => ?_⟩⟩
  rw [cell_of_row w g _ cur e (0, 0) hg, <- flat_at E l k hk j hj, <- h4, List.getElem?_take, if_pos]
  ·simp
  ·have : (k + 1) * E.size <= l.length * E.size := Nat.mul_le_mul_right _ hk
   rw [Nat.add_mul] at this
   omega
theorem OW.lt (h : OW w B e E v l) : ∀ k, v.ownBlock = some k -> B <= k /\ k < w.heap.size := World.ownsRow.lt h
theorem OW.more {B' : Nat} (h : OW w B e E v l) (hB : B' <= B) : OW w B' e E v l := by
 obtain ⟨h1, h2⟩ := h
 refine ⟨h1, ?_⟩
 rcases h2 with h2 | ⟨g, cap, cur, hv, hg, r⟩
 ·exact .inl h2
 ·exact .inr ⟨g, cap, cur, hv, by omega, r⟩
theorem OW.below (h : OW w B e E v l) (hb : Below w.heap.size w w') : OW w' B e E v l := by
 obtain ⟨h1, h2⟩ := h
 refine ⟨h1, ?_⟩
 rcases h2 with h2 | ⟨g, cap, cur, hv, hg, hh, r⟩
 ·exact .inl h2
 ·exact .inr ⟨g, cap, cur, hv, hg, by rw [hb.block g (Array.getElem?_eq_some_iff.1 hh).1]; exact hh, r⟩
theorem OW.belowR (hb : Below w.heap.size w w') (h : OW w B e E v l) : OW w' B e E v l := h.below hb
theorem OW.keptR {row : Option Nat} (hg : w.grownBy w' row) (hne : v.ownBlock = none ∨ v.ownBlock ≠ row) (h : OW w B e E v l) : OW w' B e E v l := World.ownsRow.kept h hg hne
theorem RD.belowR (hb : Below w.heap.size w w') (h : RD w E v l) : RD w' E v l := h.below hb
theorem OW.kept {row : Option Nat} (h : OW w B e E v l) (hg : w.grownBy w' row) (hne : v.ownBlock = none ∨ v.ownBlock ≠ row) : OW w' B e E v l := World.ownsRow.kept h hg hne
theorem OW.alloc (h : OW w B e E v l) (o : Obj) : OW (w.alloc o) B e E v l := World.ownsRow.alloc h o
theorem OW.drew (h : OW w B e E v l) : OW w.drew B e E v l := h
theorem OW.drewN (h : OW w B e E v l) (n : Nat) : OW (w.drewN n) B e E v l := h
theorem OW.setCell (h : OW w B e E v l) {p : Addr} (hp : v.ownBlock ≠ some p.block) (u : Value) : OW (w.setCell p u) B e E v l := by
 obtain ⟨h1, h2⟩ := h
 refine ⟨h1, ?_⟩
 rcases h2 with h2 | ⟨g, cap, cur, rfl, hg, hh, r⟩
 ·exact .inl h2
 ·refine .inr ⟨g, cap, cur, rfl, hg, ?_, r⟩
  rw [Below.heap_setCell _ _ _ _ (by rintro rfl; exact hp rfl)]
  exact hh
theorem OW.setCellR {p : Addr} {u : Value} (hp : v.ownBlock ≠ some p.block) (h : OW w B e E v l) : OW (w.setCell p u) B e E v l := h.setCell hp u
theorem RD.drew (h : RD w E v l) : RD w.drew E v l := h
theorem RD.drewN (h : RD w E v l) (n : Nat) : RD (w.drewN n) E v l := h
theorem RD.alloc (h : RD w E v l) (o : Obj) : RD (w.alloc o) E v l := h.below ((Below.refl _ _).alloc (Nat.le_refl _) o)
def Row {α : Type} (P : Program) (t e : TypeId) (E : Enc α) (bytes : Nat) : Prop :=
 ∃ i z, P.underlying t = some (.slice e) /\ P.info? e = some i /\ i.zero = some z /\ i.size = E.size /\ i.bytes = bytes /\ z.cells.size = E.size /\ 0 < E.size
theorem run_app {P : Program} {t : TypeId} (ty : TypeId) {bytes : Nat} (hrow : Row P t e E bytes) (h : OW w B e E v l) {u : Value} {m : List α} (hu : RD w E u m)
  (hlim : (l.length + m.length) * bytes <= 140737488355328) (h63 : l.length + m.length <= maxLen) (hB : B <= w.heap.size) :
  ∃ v' w', (Builtin.append_ #[t, t] ty #[v, u]).run P w = .ok v' w' /\ OW w' B e E v' (l ++ m) /\ w.grownBy w' v.ownBlock /\ (v'.ownBlock = v.ownBlock ∨ v'.ownBlock = some w.heap.size) := by
 obtain ⟨i, z, ht, hi, hz, hsize, hby, hzs, hsz⟩ := hrow
 obtain ⟨A, c, rfl, h1, h2, hn, h3⟩ := hu
 cases A with
 | none =>
  have hc : c = 0 := hn rfl
  subst hc
  have hm : m = [] := List.eq_nil_of_length_eq_zero (by omega)
  subst hm
  refine ⟨v, w, ?_, by simpa using h, ⟨rfl, rfl, rfl, Nat.le_refl _, fun _ _ _ => rfl⟩, .inl rfl⟩
  exact run_append_owned_none (P := P) (w := w) B t ty e i E.size ht hi v l.length _ h
 | some ad =>
  have hnews : ∀ j u, (m.flatMap E.cells)[j]? = some u -> w.cell? (ad.add j) = some u := by
   intro j u hj
   have hjl : j < m.length * E.size := by
    rw [<- flat_len E m]
    rcases Nat.lt_or_ge j (m.flatMap E.cells).length with hh | hh
    ·exact hh
    ·rw [List.getElem?_eq_none hh] at hj; cases hj
   obtain ⟨k, x, hk, hx, rfl⟩ := flat_inv E hsz m j hjl
   obtain ⟨b, o, e1, hb, hc⟩ := h3 (by omega)
   injection e1 with e1
   subst e1
   rw [flat_at E m k hk x hx, <- hc k hk x hx] at hj
   rw [<- hj]
   congr 1
   unfold Addr.add
   split
   ·next h0 => rw [Nat.add_assoc, h0, Nat.add_zero]
   ·simp [Nat.add_assoc]
  obtain ⟨v', w', hr, ho, hg, _, hb⟩ := run_append_own_at (P := P) w B t ty e i z E.size bytes ht hi hz hsize hby hzs hsz v l.length _ h ad m.length c (m.flatMap E.cells) (flat_len E m) hnews (flat_one E m) h63 hlim hB
  refine ⟨v', w', hr, ?_, hg, hb⟩
  unfold OW
  rw [List.length_append, List.flatMap_append]
  exact ho
theorem wp_app {P : Program} {o : Oper} {a : Act} {K : Act -> World -> Prop} {Q : Exit -> Act -> World -> Prop} (s x : Operand) {t : TypeId}
  (ho : o.op = .call { callee := .builtin .append, args := #[s, x], argTypes := #[t, t] }) {bytes : Nat} (hrow : Row P t e E bytes) (hs : a.eval s = v) (h : OW w B e E v l) {m : List α} (hu : RD w E (a.eval x) m)
  (hlim : (l.length + m.length) * bytes <= 140737488355328) (h63 : l.length + m.length <= maxLen) (hB : B <= w.heap.size)
  (hh : ∀ v' w', OW w' B e E v' (l ++ m) -> w.grownBy w' v.ownBlock -> (v'.ownBlock = v.ownBlock ∨ v'.ownBlock = some w.heap.size) -> K (a.put o.dst v') w') : o.wp P a w K Q := by
 obtain ⟨v', w', hr, h1, h2, h3⟩ := run_app (P := P) o.type hrow h hu hlim h63 hB
 unfold Oper.wp execOp
 simp only [ho, resolve, invoke, builtin, Sem.run_bind, Sem.run_pure, Result.andThen_ok, List.map_toArray, List.map_cons, List.map_nil, hs, hr]
 exact hh v' w' h1 h2 h3
theorem list_app {P : Program} {ops : Array Oper} {rest : List Oper} {o : Oper} {a : Act} {Q : Exit -> Act -> World -> Prop} {t : TypeId} {bytes : Nat} (hrow : Row P t e E bytes) (v : Value) (hgd : o.guard = none) (s x : Operand)
  (ho : o.op = .call { callee := .builtin .append, args := #[s, x], argTypes := #[t, t] }) (hs : a.eval s = v) (h : OW w B e E v l) {m : List α} (hu : RD w E (a.eval x) m)
  (hlim : (l.length + m.length) * bytes <= 140737488355328) (h63 : l.length + m.length <= maxLen) (hB : B <= w.heap.size)
  (hh : ∀ v' w', OW w' B e E v' (l ++ m) -> w.grownBy w' v.ownBlock -> (v'.ownBlock = v.ownBlock ∨ v'.ownBlock = some w.heap.size) -> wpList P ops Q rest (a.put o.dst v') w') : wpList P ops Q (o :: rest) a w :=
 wpList_plain hgd fun K hK => wp_app s x ho hrow hs h hu hlim h63 hB fun v' w' h1 h2 h3 => hK _ _ (hh v' w' h1 h2 h3)
theorem step_app {P : Program} {ops : Array Oper} {o : Oper} {a : Act} {K : Act -> World -> Prop} {Q : Exit -> Act -> World -> Prop} {F : Prop} {t : TypeId} {bytes : Nat} (hrow : Row P t e E bytes) (v : Value) (hgd : o.guard = none) (s x : Operand)
  (ho : o.op = .call { callee := .builtin .append, args := #[s, x], argTypes := #[t, t] }) (hs : a.eval s = v) (h : OW w B e E v l) {m : List α} (hu : RD w E (a.eval x) m)
  (hlim : (l.length + m.length) * bytes <= 140737488355328) (h63 : l.length + m.length <= maxLen) (hB : B <= w.heap.size)
  (hh : ∀ v' w', OW w' B e E v' (l ++ m) -> w.grownBy w' v.ownBlock -> (v'.ownBlock = v.ownBlock ∨ v'.ownBlock = some w.heap.size) -> K (a.put o.dst v') w') :
  if Region.wanted o (yielded ops a.tmps) = true then Oper.wp P o a w K Q else F := by
 have hw : Region.wanted o (yielded ops a.tmps) = true := by simp [Region.wanted, hgd]
 rw [if_pos hw]
 exact wp_app s x ho hrow hs h hu hlim h63 hB hh
end
theorem RD.block {α : Type} {w : World} {E : Enc α} {g : Nat} {cs : Array Value} {t : TypeId} {fr : Nat × Nat} (l : List α) (hg : w.heap[g]? = some (.cells cs t fr)) (hl : cs.toList = l.flatMap E.cells) (hm : l.length <= maxLen) :
  RD w E (.slice (some ⟨g, 0, none⟩) l.length l.length) l := by
 refine ⟨_, _, rfl, Nat.le_refl _, hm, fun h => (by cases h), fun h0 => ⟨g, 0, rfl, (Array.getElem?_eq_some_iff.1 hg).1, fun k hk j hj => ?_⟩⟩
 rw [cell_of_row w g _ cs t fr hg, <- flat_at E l k hk j hj, <- hl]
 simp
theorem RD.new1 {α : Type} {w : World} {E : Enc α} {cs : Array Value} {t : TypeId} (a : α) (hl : cs.toList = E.cells a) : RD (w.alloc (.cells cs t)) E (.slice (some ⟨w.heap.size, 0, none⟩) 1 1) [a] :=
 RD.block (l := [a]) (heap_alloc_new w _) (by simpa using hl) (by simp [maxLen])
theorem RD.new1e {α : Type} {w : World} {E : Enc α} {cs : Array Value} {t : TypeId} {g : Nat} (a : α) (hg : w.heap.size = g) (hl : cs.toList = E.cells a) : RD (w.alloc (.cells cs t)) E (.slice (some ⟨g, 0, none⟩) 1 1) [a] := by
 subst hg
 exact RD.new1 a hl
def RetOW {α : Type} (e : TypeId) (E : Enc α) (l : List α) (w : World) (en : Ending) (w' : World) : Prop := ∃ v, en = .returned v /\ OW w' w.heap.size e E v l /\ Below w.heap.size w w'
def Kp (w w' : World) : Prop := Below w.heap.size w w'
theorem Kp.refl (w : World) : Kp w w := Below.refl _ _
theorem Kp.bel {w w' : World} (h : Kp w w') : Below w.heap.size w w' := h
theorem Kp.of {w w' : World} (h : Below w.heap.size w w') : Kp w w' := h
theorem Kp.size {w w' : World} (h : Kp w w') : w.heap.size <= w'.heap.size := Below.size h
theorem Kp.drew {w w' : World} (h : Kp w w') : Kp w w'.drew := Below.drew h
theorem Kp.drewN {w w' : World} {n : Nat} (h : Kp w w') : Kp w (w'.drewN n) := below_drewN h n
theorem Kp.alloc {w w' : World} {o : Obj} (h : Kp w w') : Kp w (w'.alloc o) := Below.alloc h (Below.size h) o
theorem Kp.call {w W W' : World} (hb : Below W.heap.size W W') (h : Kp w W) : Kp w W' := Below.trans h (hb.mono h.size)
theorem Kp.set {w W : World} {p : Addr} (h : Kp w W) (hp : w.heap.size <= p.block) (u : Value) : Kp w (W.setCell p u) := Below.setCell h hp u
theorem Kp.setR {w W : World} {p : Addr} {u : Value} (hp : w.heap.size <= p.block) (h : Kp w W) : Kp w (W.setCell p u) := Below.setCell h hp u
theorem Kp.cell {w w' : World} {p : Addr} {u : Value} (h : Kp w w') (hc : w.cell? p = some u) : w'.cell? p = some u := (Below.cell h (World.block_lt_of_cell? _ _ hc)).trans hc
theorem Kp.frozen {w w' : World} {p : Addr} (h : Kp w w') (hp : p.block < w.heap.size) : w'.frozen? p = w.frozen? p := Below.frozen h hp
theorem Kp.trans {a b c : World} (h : Kp a b) (k : Kp b c) : Kp a c := Below.trans h (Below.mono k h.size)
theorem RD.kp {α : Type} {w w' : World} {E : Enc α} {v : Value} {l : List α} (h : RD w E v l) (hb : Kp w w') : RD w' E v l := h.below hb
theorem OW.kp {α : Type} {w w' : World} {B : Nat} {e : TypeId} {E : Enc α} {v : Value} {l : List α} (h : OW w B e E v l) (hb : Kp w w') : OW w' B e E v l := h.below hb
def Lo (b : Nat) (v : Value) : Prop := ∀ k, v.ownBlock = some k -> k < b
def Hi (b : Nat) (v : Value) : Prop := ∀ k, v.ownBlock = some k -> b <= k
theorem Kp.app {w W W' : World} {v : Value} (hg : W.grownBy W' v.ownBlock) (h : Kp w W) (hr : Hi w.heap.size v) : Kp w W' := Below.grown h hg h.size hr
theorem OW.lo {α : Type} {w : World} {B : Nat} {e : TypeId} {E : Enc α} {v : Value} {l : List α} (h : OW w B e E v l) : Lo w.heap.size v := fun k hk => (h.lt k hk).2
theorem OW.hi {α : Type} {w : World} {B : Nat} {e : TypeId} {E : Enc α} {v : Value} {l : List α} (h : OW w B e E v l) : Hi B v := fun k hk => (h.lt k hk).1
theorem Lo.apart {b : Nat} {u v : Value} (hu : Lo b u) (hv : Hi b v) : v.ownBlock = none ∨ v.ownBlock ≠ u.ownBlock := by
 cases hc : v.ownBlock with
 | none => exact .inl rfl
 | some k =>
  refine .inr fun e => ?_
  have h1 := hu k e.symm
  have h2 := hv k hc
  omega
theorem Hi.mono {b c : Nat} {v : Value} (h : Hi c v) (hb : b <= c) : Hi b v := fun k hk => Nat.le_trans hb (h k hk)
theorem RD.lo {α : Type} {E : Enc α} {w : World} {v : Value} {l : List α} (h : RD w E v l) (h0 : 0 < l.length) : Lo w.heap.size v := by
 obtain ⟨A, c, rfl, h1, h2, hn, h3⟩ := h
 obtain ⟨b, o, rfl, hb, _⟩ := h3 h0
 intro k hk
 simp [Value.ownBlock] at hk
 omega
theorem info_spot : (Tryz.prog.info? 108).map (fun i => (i.zero, i.size, i.bytes)) = some (some (.agg #[.int .i64 0, .int .i64 0]), 2, 16) := by kernel_rfl
theorem info_int : (Tryz.prog.info? 3).map (fun i => (i.zero, i.size, i.bytes)) = some (some (.int .i64 0), 1, 8) := by kernel_rfl
theorem info_pair : (Tryz.prog.info? 141).map (fun i => (i.zero, i.size, i.bytes)) = some (some (.agg #[.int .i64 0, .int .i64 0]), 2, 16) := by kernel_rfl
theorem row_of {α : Type} {P : Program} {t e : TypeId} {E : Enc α} {z : Value} {n bytes : Nat} (h : (P.info? e).map (fun i => (i.zero, i.size, i.bytes)) = some (some z, n, bytes)) (ht : P.underlying t = some (.slice e)) (hn : n = E.size) (hz : z.cells.size = E.size) (h0 : 0 < E.size) : Row P t e E bytes := by
 obtain ⟨i, hi, h1, h2, h3⟩ := info_parts h
 exact ⟨i, z, ht, hi, h1, h2.trans hn, h3, hz, h0⟩
theorem row_spot : Row Tryz.prog 72 108 ePair 16 := row_of info_spot Tryz.underlying72 rfl rfl (by decide)
theorem row_int : Row Tryz.prog 69 3 eInt 8 := row_of info_int Tryz.underlying69 rfl rfl (by decide)
theorem row_pair : Row Tryz.prog 37 141 ePair 16 := row_of info_pair Tryz.underlying37 rfl rfl (by decide)
theorem Kp.auto {w w' : World} (h : Kp w w' := by (focus ((repeat (first | (with_reducible assumption) | (with_reducible exact Kp.refl _) | (with_reducible apply Kp.drew) | (with_reducible apply Kp.drewN) | ((with_reducible apply Kp.setR); (focus (first | (with_reducible assumption) | (simp; done) | (simp; omega)))) | (with_reducible apply Kp.alloc) | ((with_reducible apply Kp.call); (with_reducible assumption)) | ((with_reducible apply Kp.app); (with_reducible assumption)))); done))) : Kp w w' := h
theorem RD.auto {α : Type} {w : World} {E : Enc α} {v : Value} {l : List α} (h : RD w E v l := by (focus ((repeat (first | (with_reducible assumption) | exact RD.new1 _ rfl | (refine RD.new1e _ ?_ rfl; simp; done) | (with_reducible apply RD.alloc) | (with_reducible apply RD.drew) | (with_reducible apply RD.drewN) | ((with_reducible apply RD.belowR); (with_reducible assumption)))); done))) : RD w E v l := h
theorem OW.auto {α : Type} {w : World} {b : Nat} {t : TypeId} {E : Enc α} {v : Value} {l : List α} (h : OW w b t E v l := by (focus ((repeat (first | (with_reducible assumption) | (with_reducible apply OW.alloc) | (with_reducible apply OW.drew) | (with_reducible apply OW.drewN) | ((with_reducible apply OW.setCellR); (with_reducible assumption)) | ((with_reducible apply OW.belowR); (with_reducible assumption)) | ((with_reducible apply OW.keptR); (with_reducible assumption); (with_reducible assumption)))); done))) : OW w b t E v l := h
def AR {α : Type} (w : World) (g : Nat) (e : TypeId) (E : Enc α) (l : List α) : Prop := w.heap[g]? = some (.cells (l.flatMap E.cells).toArray e (0, 0))
section
variable {α : Type} {w w' : World} {g : Nat} {e : TypeId} {E : Enc α} {l : List α}
theorem AR.lt (h : AR w g e E l) : g < w.heap.size := (Array.getElem?_eq_some_iff.1 h).1
theorem AR.rd (h : AR w g e E l) (hm : l.length <= maxLen) : RD w E (.slice (some ⟨g, 0, none⟩) l.length l.length) l := RD.block l h (by simp) hm
theorem AR.drewN (h : AR w g e E l) {n : Nat} : AR (w.drewN n) g e E l := h
theorem AR.frozen (h : AR w g e E l) (i : Nat) : w.frozen? ⟨g, i, none⟩ = false := by
 unfold AR at h
 simp [World.frozen?, h]
theorem AR.cell (h : AR w g e E l) (k : Nat) (hk : k < l.length) (j : Nat) (hj : j < E.size) : w.cell? ⟨g, k * E.size + j, none⟩ = (E.cells l[k])[j]? := by
 rw [cell_of_row w g _ _ e (0, 0) h, <- flat_at E l k hk j hj]
 simp
end
theorem flat_int (l : List Int) : l.flatMap eInt.cells = l.map (Value.int .i64) := by
 induction l with
 | nil => rfl
 | cons a t ih => rw [List.flatMap_cons, ih]; rfl
section
variable {w : World} {g c : Nat} {e : TypeId} {l : List Int}
theorem AR.int (h : AR w g e eInt l) {k : Nat} (hk : k < l.length) : w.cell? ⟨g, k, none⟩ = some (.int .i64 l[k]) := by
 have := h.cell k hk 0 (by decide)
 simpa [eInt] using this
theorem AR.set (h : AR w g e eInt l) {k : Nat} (x : Int) : AR (w.setCell ⟨g, k, none⟩ (.int .i64 x)) g e eInt (l.set k x) := by
 unfold AR at h ⊢
 simp only [World.setCell, Array.getElem?_modify, h]
 simp [flat_int, List.map_set]
theorem flat_set_pair (x : IP) : ∀ (l : List IP) (k : Nat), ((l.flatMap ePair.cells).set (k * 2) (.int .i64 x.1)).set (k * 2 + 1) (.int .i64 x.2) = (l.set k x).flatMap ePair.cells
 | [], k => by simp
 | a :: t, 0 => by simp [List.flatMap_cons, ePair]
 | a :: t, k + 1 => by
  have ih := flat_set_pair x t k
  simp only [List.flatMap_cons, List.set_cons_succ]
  rw [<- ih]
  simp only [ePair, List.cons_append, List.nil_append]
  rw [show (k + 1) * 2 = k * 2 + 1 + 1 from by omega]
  simp [List.set_cons_succ]
end
theorem OW.shape {α : Type} {w : World} {B : Nat} {e : TypeId} {E : Enc α} {v : Value} {l : List α} (h : OW w B e E v l) (h0 : 0 < l.length) : ∃ g c, v = .slice (some ⟨g, 0, none⟩) l.length c /\ B <= g /\ g < w.heap.size /\ l.length <= c /\ c <= 9223372036854775807 := by
 rcases h.2 with ⟨_, h1⟩ | ⟨g, cap, cur, hv, hb, hg, h1, h2, _⟩
 ·omega
 ·exact ⟨g, cap, hv, hb, (Array.getElem?_eq_some_iff.1 hg).1, h1, by unfold maxLen at h2; omega⟩
theorem madeCells_flat {α : Type} (E : Enc α) (a : α) (z : Array Value) (n : Nat) (hz : z.toList = E.cells a) (h0 : 0 < E.size) : madeCells z (n * E.size) = ((List.replicate n a).flatMap E.cells).toArray := by
 have hs : z.size = E.size := by rw [<- Array.length_toList, hz, E.len]
 apply Array.ext
 ·simp only [size_madeCells, List.size_toArray, flat_len, List.length_replicate]
 ·intro j h1 h2
  simp only [size_madeCells] at h1
  obtain ⟨k, i, hk, hi, rfl⟩ := flat_inv E h0 (List.replicate n a) j (by simpa using h1)
  have h3 := flat_at E (List.replicate n a) k hk i hi
  have h4 : ((List.replicate n a).flatMap E.cells).toArray[k * E.size + i]? = (E.cells a)[i]? := by simpa using h3
  have h5 : (madeCells z (n * E.size))[k * E.size + i]? = (E.cells a)[i]? := by
   simp only [madeCells, Array.getElem?_map]
   rw [Array.getElem?_range, if_pos h1, <- hz]
   simp only [Option.map_some, hs]
   have e : (k * E.size + i) % E.size = i := by rw [Nat.mul_comm, Nat.mul_add_mod]; exact Nat.mod_eq_of_lt hi
   rw [e, getElem!_pos z i (by omega)]
   simp [Array.getElem?_eq_getElem (show i < z.size by omega)]
  rw [Array.getElem?_eq_getElem (by rw [size_madeCells]; exact h1)] at h5
  rw [Array.getElem?_eq_getElem h2] at h4
  exact Option.some.inj (h5.trans h4.symm)
theorem run_mk {α : Type} {P : Program} {t e : TypeId} {E : Enc α} {bytes : Nat} (hrow : Row P t e E bytes) (a : α) (hz : ∀ i z, P.info? e = some i -> i.zero = some z -> z.cells.toList = E.cells a) (n : Nat)
  (hb : n * bytes <= 281474976710656) (h63 : n <= maxLen) :
  ∃ C : Array Value, Hid (C = ((List.replicate n a).flatMap E.cells).toArray) /\ ∀ W : World, (Instr.makeSlice t (.int .i64 (n : Int)) (.int .i64 (n : Int))).run P W = .ok (.slice (some ⟨W.heap.size, 0, none⟩) n n) (W.alloc (.cells C e)) := by
 obtain ⟨i, z, ht, hi, h1, h2, h3, h4, h5⟩ := hrow
 refine ⟨_, rfl, fun W => ?_⟩
 have hbb : (i.bytes : Int) * (n : Int) <= 281474976710656 := by
  have h : ((n * bytes : Nat) : Int) <= 281474976710656 := by omega
  rw [Int.natCast_mul] at h
  rw [h3, Int.mul_comm]
  exact h
 have := run_make (P := P) W t e i z ht hi h1 .i64 .i64 n n (by omega) (Int.le_refl _) hbb (by unfold maxLen at h63; omega)
 rw [this, Int.toNat_natCast, h2, madeCells_flat E a z.cells n (hz i z hi h1) h5]
theorem AR.made {α : Type} {W : World} {C : Array Value} {e : TypeId} {E : Enc α} {n : Nat} {a : α} (h : Hid (C = ((List.replicate n a).flatMap E.cells).toArray)) : AR (W.alloc (.cells C e)) W.heap.size e E (List.replicate n a) := by
 unfold AR
 rw [<- h.out]
 exact heap_alloc_new W _
theorem zero_of {α : Type} {P : Program} {e : TypeId} {E : Enc α} {z : Value} {n bytes : Nat} {a : α} (h : (P.info? e).map (fun i => (i.zero, i.size, i.bytes)) = some (some z, n, bytes)) (hz : z.cells.toList = E.cells a) :
  ∀ i z, P.info? e = some i -> i.zero = some z -> z.cells.toList = E.cells a := by
 intro i z' hi hz'
 rw [hi] at h
 simp only [Option.map_some, Option.some.injEq, Prod.mk.injEq] at h
 rw [hz'] at h
 injection h.1 with h1
 rw [h1, hz]
theorem zero_int : ∀ i z, Tryz.prog.info? 3 = some i -> i.zero = some z -> z.cells.toList = eInt.cells 0 := zero_of info_int rfl
theorem zero_pair : ∀ i z, Tryz.prog.info? 141 = some i -> i.zero = some z -> z.cells.toList = ePair.cells (0, 0) := zero_of info_pair rfl
def Ret2 {α : Type} (E : Enc α) (r : List α × Int) (w : World) (e : Ending) (w' : World) : Prop := ∃ v, e = .returned (.tuple #[v, .int .i64 r.2]) /\ RD w' E v r.1 /\ Below w.heap.size w w'
def gv (l : List IP) (k : Nat) : Int := (l.getD k (0, 0)).2
theorem gv_eq (l : List IP) (k : Nat) (h : k < l.length) : gv l k = l[k].2 := by simp [gv, List.getD_eq_getElem?_getD, List.getElem?_eq_getElem h]
def Drew (v : Value) (w : World) (e : Ending) (w' : World) : Prop := e = .returned v /\ ∃ n, w' = w.drewN n
structure An where
 err : Int
 key : Int
 val : Int
 is : Bool
deriving DecidableEq
def An.v (a : An) : Value := .agg #[.int .i64 a.err, .int .i64 a.key, .int .i64 a.val, .bool a.is]
abbrev O3 := Int × Int × Int
def eAns : Enc An := ⟨4, fun a => [.int .i64 a.err, .int .i64 a.key, .int .i64 a.val, .bool a.is], fun _ => rfl, fun _ u h => by simp at h; rcases h with rfl | rfl | rfl | rfl <;> rfl⟩
def eOp : Enc O3 := ⟨3, fun o => [.int .i64 o.1, .int .i64 o.2.1, .int .i64 o.2.2], fun _ => rfl, fun _ u h => by simp at h; rcases h with rfl | rfl | rfl <;> rfl⟩
section
variable {w : World} {A : Option Addr} {n c : Nat}
theorem RD.op {l : List O3} (h : RD w eOp (.slice A n c) l) {k : Nat} (hk : k < l.length) :
  ∃ b o, A = some ⟨b, o, none⟩ /\ b < w.heap.size /\ w.cell? ⟨b, o + k * 3, none⟩ = some (.int .i64 l[k].1) /\ w.cell? ⟨b, o + k * 3 + 1, none⟩ = some (.int .i64 l[k].2.1) /\ w.cell? ⟨b, o + k * 3 + 2, none⟩ = some (.int .i64 l[k].2.2) := by
 obtain ⟨b, o, rfl, hb, hc⟩ := h.at_ hk
 exact ⟨b, o, rfl, hb, hc 0 (by decide), hc 1 (by decide), hc 2 (by decide)⟩
theorem RD.ans {l : List An} (h : RD w eAns (.slice A n c) l) {k : Nat} (hk : k < l.length) :
  ∃ b o, A = some ⟨b, o, none⟩ /\ b < w.heap.size /\ w.cell? ⟨b, o + k * 4, none⟩ = some (.int .i64 l[k].err) /\ w.cell? ⟨b, o + k * 4 + 1, none⟩ = some (.int .i64 l[k].key) /\ w.cell? ⟨b, o + k * 4 + 2, none⟩ = some (.int .i64 l[k].val) /\ w.cell? ⟨b, o + k * 4 + 3, none⟩ = some (.bool l[k].is) := by
 obtain ⟨b, o, rfl, hb, hc⟩ := h.at_ hk
 exact ⟨b, o, rfl, hb, hc 0 (by decide), hc 1 (by decide), hc 2 (by decide), hc 3 (by decide)⟩
end
theorem info_ans : (Tryz.prog.info? 84).map (fun i => (i.zero, i.size, i.bytes)) = some (some (.agg #[.int .i64 0, .int .i64 0, .int .i64 0, .bool false]), 4, 32) := by kernel_rfl
theorem row_ans : Row Tryz.prog 97 84 eAns 32 := row_of info_ans Tryz.underlying97 rfl rfl (by decide)
end Go.Proofs.YtcljlnagpjilaaaGreatDoor
namespace Go.Proofs.YtcljlnagpjilaaaGreatDoor
open Go.ChangeShapes Go.WideShapes Go.ChangeAt Go.RowKit Go.Deep
theorem own : ownKnob Tryz.prog.godebug = none := by kernel_rfl
theorem and_true_of {a b : Bool} (ha : a = true) (hb : b = true) : (a && b) = true := by rw [ha, hb]; rfl
end Go.Proofs.YtcljlnagpjilaaaGreatDoor
namespace Go.Proofs.YtcljlnagpjilaaaGreatDoor
open Go.ChangeShapes Go.WideShapes Go.ChangeAt Go.RowKit
def dbTab : List Int := [0, 1, 56, 2, 57, 49, 28, 3, 61, 58, 42, 50, 38, 29, 17, 4, 62, 47, 59, 36, 45, 43, 51, 22, 53, 39, 33, 30, 24, 18, 12, 5, 63, 55, 48, 27, 60, 41, 37, 16, 46, 35, 44, 21, 52, 32, 23, 11, 54, 26, 40, 15, 34, 20, 31, 10, 25, 14, 19, 9, 13, 8, 7, 6]
def DTb (w : World) : Prop := ∀ i : Nat, i < 64 -> w.cell? ⟨6, i, none⟩ = some (.int .u8 (dbTab.getD i 0))
theorem DTb.kp {w w' : World} (h : DTb w) (hk : Kp w w') : DTb w' := fun i hi => hk.cell (h i hi)
def x1 (x : Int) : Int := bits .xor .u64 x (x / 1073741824)
def x2 (x : Int) : Int := IntKind.u64.wrap (x1 x * 13787848793156543929)
def x3 (x : Int) : Int := bits .xor .u64 (x2 x) (x2 x / 134217728)
def x4 (x : Int) : Int := IntKind.u64.wrap (x3 x * 10723151780598845931)
def mixF (x : Int) : Int := bits .xor .u64 (x4 x) (x4 x / 2147483648)
theorem mixed_any (x : Int) (w : World) : Calls Tryz.prog 196 #[.int .u64 x] w fun e w' => e = .returned (.int .u64 (mixF x)) /\ w = w' := by
 go_enter Tryz.func196, Tryz.ntmps196
 go_wp2
 go_ret
 exact ⟨rfl, rfl⟩
def tzI (x : Int) : Int := IntKind.u64.wrap (bits .and .u64 x (IntKind.u64.wrap (-x)) * 285870213051353865) / 288230376151711744
def tzF (x : Int) : Int := if x = 0 then 64 else dbTab.getD (tzI x).toNat 0
theorem dbTab_in : ∀ i, 0 <= dbTab.getD i 0 /\ dbTab.getD i 0 <= 63 := by
 intro i
 by_cases h : i < 64
 ·have : ∀ i : Fin 64, 0 <= dbTab.getD i.val 0 /\ dbTab.getD i.val 0 <= 63 := by decide
  exact this ⟨i, h⟩
 ·rw [List.getD_eq_getElem?_getD, List.getElem?_eq_none (by simp [dbTab]; omega)]; decide
theorem tzI_in (x : Int) : 0 <= tzI x /\ tzI x < 64 := by
 unfold tzI
 obtain ⟨y, hy⟩ : ∃ y, y = IntKind.u64.wrap (bits .and .u64 x (IntKind.u64.wrap (-x)) * 285870213051353865) := ⟨_, rfl⟩
 rw [<- hy]
 have : 0 <= y /\ y < 18446744073709551616 := by
  rw [hy]
  simp only [IntKind.wrap, IntKind.signed, IntKind.bits]
  simp
  omega
 omega
theorem tzF_in (x : Int) : 0 <= tzF x /\ tzF x <= 64 := by
 unfold tzF
 split
 ·omega
 ·have := dbTab_in (tzI x).toNat; omega
theorem tz_any (x : Int) (w : World) (h : DTb w) : Calls Tryz.prog 195 #[.int .u64 x] w fun e w' => e = .returned (.int .i64 (tzF x)) /\ w = w' := by
 by_cases h0 : x = 0
 ·subst h0
  go_enter Tryz.func195, Tryz.ntmps195
  go_wp2
  go_ret
  exact ⟨rfl, rfl⟩
 ·have H1 : Hid (tzF x = dbTab.getD (tzI x).toNat 0) := hide (by rw [tzF, if_neg h0])
  obtain ⟨p, hp⟩ : ∃ p, IntKind.u64.wrap (bits .and .u64 x (IntKind.u64.wrap (-x)) * 285870213051353865) = p := ⟨_, rfl⟩
  obtain ⟨g1, g2⟩ := tzI_in x
  obtain ⟨j, hj⟩ : ∃ j : Nat, tzI x = (j : Int) := ⟨(tzI x).toNat, by omega⟩
  have hq : p / 288230376151711744 = (j : Int) := by rw [<- hj, tzI, hp]
  have hj64 : (j : Int) < 64 := by omega
  have hj0 : (0 : Int) <= (j : Int) := by omega
  have c0 := h j (by omega)
  have H2 : Hid (tzF x = dbTab.getD j 0) := hide (by rw [H1.out, hj]; rfl)
  have hd := dbTab_in j
  obtain ⟨y, hy⟩ : ∃ y, dbTab.getD j 0 = y := ⟨_, rfl⟩
  rw [hy] at c0 H2 hd
  obtain ⟨d1, d2⟩ := hd
  have b0 : (x == 0) = false := by simpa using h0
  clear g1 g2 hj hy h
  go_enter Tryz.func195, Tryz.ntmps195
  go_wp2
  go_ret
  exact ⟨by rw [H2.out]; rfl, rfl⟩
def hgtF (key : Int) : Int := if 12 < tzF (mixF (IntKind.u64.wrap key)) + 1 then 12 else tzF (mixF (IntKind.u64.wrap key)) + 1
theorem hgtF_in (key : Int) : 1 <= hgtF key /\ hgtF key <= 12 := by
 have := tzF_in (mixF (IntKind.u64.wrap key))
 unfold hgtF
 split <;> omega
theorem height_any (key : Int) (w : World) (h : DTb w) : Calls Tryz.prog 172 #[.int .i64 key] w fun e w' => e = .returned (.int .i64 (hgtF key)) /\ w = w' := by
 obtain ⟨q, hq⟩ : ∃ q, IntKind.u64.wrap key = q := ⟨_, rfl⟩
 have H1 : Hid (hgtF key = if 12 < tzF (mixF q) + 1 then 12 else tzF (mixF q) + 1) := hide (by rw [hgtF, hq])
 have HM := hide (fun W => mixed_any q W)
 obtain ⟨m, hm⟩ : ∃ m, m = mixF q := ⟨_, rfl⟩
 rw [<- hm] at HM H1
 have HT := hide (fun W h => tz_any m W h)
 obtain ⟨g1, g2⟩ := tzF_in m
 obtain ⟨t, ht⟩ : ∃ t, t = tzF m := ⟨_, rfl⟩
 rw [<- ht] at HT H1 g1 g2
 obtain ⟨M, hM⟩ : ∃ M, (if (12 : Int) < t + 1 then (12 : Int) else t + 1) = M := ⟨_, rfl⟩
 rw [hM] at H1
 have HD := hide h
 clear h hm ht
 go_enter Tryz.func172, Tryz.ntmps172
 go_wp2_with fail
 with_reducible refine (HM.out _).mono ?_
 rintro e w1 ⟨rfl, rfl⟩
 go_wp2_with fail
 with_reducible refine (HT.out _ HD.out).mono ?_
 rintro e w1 ⟨rfl, rfl⟩
 go_wp2
 go_ret
 exact ⟨by rw [H1.out]; rfl, rfl⟩
end Go.Proofs.YtcljlnagpjilaaaGreatDoor
namespace Go.Proofs.YtcljlnagpjilaaaGreatDoor
open Go.ChangeShapes Go.WideShapes Go.ChangeAt Go.RowKit Go.Deep
theorem bulk_part {H : Type} {d : DataW H} : ∀ {l : List (DataW H)}, d ∈ l -> Rows.uptoBulk d <= Rows.uptoBulkAll l
 | x :: r, h => by
  simp only [Rows.uptoBulkAll]
  rcases List.mem_cons.1 h with e | h
  ·subst e; omega
  ·have := bulk_part h; omega
theorem upto_part {H : Type} {d : DataW H} {l : List (DataW H)} (h : Rows.uptoSmall H l = true) (hd : d ∈ l) : Rows.uptoBulk d <= 1048576 := by
 have h1 := of_decide_eq_true h
 have h2 := bulk_part hd
 omega
end Go.Proofs.YtcljlnagpjilaaaGreatDoor
