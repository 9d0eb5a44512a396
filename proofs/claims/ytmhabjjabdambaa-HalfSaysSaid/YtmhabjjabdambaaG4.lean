/-
  Sets of half the bits each time, in memory (HR): a set of level n reads as a rising list, with all its blocks; parts by their high halves (HP). Conditions: none.
  Plain laws of the parts of a set: a number put into them, taken out of them. No program. Conditions: none.
  A set of half the bits each time with its parts, in memory (HQ): what calls that turn one of its parts leave. Conditions: none.
  half's made, halves, whole: what they answer. Conditions: the set's number of bits stands in its first cell.
  half's has: what it answers. Conditions: the set reads as a rising list (HR).
-/
import Derived.Test.YtmhabjjabdambaaG3
import Derived.Laws.BitsLemmas

namespace Go.Proofs.Ytmhabjjabdambaa
open Go.ChangeShapes Go.WideShapes Go.ChangeAt Go.RowKit
set_option linter.unusedVariables false
set_option linter.unusedSimpArgs false

/-- A part of a set: its high half, its block, what it holds, its blocks. -/
structure HE where
  h : Int
  b : Nat
  S : List Int
  F : List Nat
def HB (n : Nat) (S : List Int) (an : Bool) (le mo : Int) : Prop := UpL S ∧ (∀ x ∈ S, 0 ≤ x ∧ x < UU n) ∧ (an = true ↔ S ≠ []) ∧ (an = true → le ∈ S ∧ mo ∈ S ∧ ∀ x ∈ S, le ≤ x ∧ x ≤ mo)
/-- What the parts hold, and which have any. -/
def HP (n : Nat) (S : List Int) (an : Bool) (le : Int) (Hs : List Int) (E : List HE) : Prop :=
  (∀ h y, 0 ≤ y → y < UU n → ((an = true ∧ h * UU n + y ∈ S ∧ h * UU n + y ≠ le) ↔ ∃ e ∈ E, e.h = h ∧ y ∈ e.S)) ∧ ∀ h, h ∈ Hs ↔ ∃ e ∈ E, e.h = h ∧ e.S ≠ []
def hC (n : Nat) (an : Bool) (le mo : Int) (mv hv : Value) : List Value := [.int .i64 ((2 ^ n : Nat) : Int), .bool an, .int .i64 le, .int .i64 mo, mv, hv]
/-- A set of level n at a block, with all its blocks. -/
def HR (ty : TypeId) : Nat → World → List Int → Nat → List Nat → Prop
  | 0, w, S, b, F => ∃ an le mo, HB 0 S an le mo ∧ BC w b ty (hC 0 an le mo (.map none) (.pointer none)) ∧ F = [b]
  | n + 1, w, S, b, F => ∃ an le mo, HB (n + 1) S an le mo ∧
      ((BC w b ty (hC (n + 1) an le mo (.map none) (.pointer none)) ∧ F = [b] ∧ (an = true → ∀ x ∈ S, x = le)) ∨
       ∃ (m hb : Nat) (Hs : List Int) (Fh : List Nat) (E : List HE), BC w b ty (hC (n + 1) an le mo (.map (some m)) (.pointer (some ⟨hb, 0, none⟩))) ∧ PM w m (E.map fun e => (e.h, e.b)) ∧ HR ty n w Hs hb Fh ∧
         (∀ e ∈ E, HR ty n w e.S e.b e.F ∧ 0 ≤ e.h ∧ e.h < UU n) ∧ (E.map HE.h).Nodup ∧ F = b :: m :: (Fh ++ E.flatMap HE.F) ∧ F.Nodup ∧ HP n S an le Hs E)
section
variable {ty : TypeId} {w w' : World}
theorem HR.lt : ∀ {n : Nat} {S : List Int} {b : Nat} {F : List Nat}, HR ty n w S b F → b ∈ F ∧ ∀ i ∈ F, i < w.heap.size
  | 0, S, b, F, ⟨an, le, mo, h1, h2, h3⟩ => by subst h3; exact ⟨by simp, fun i hi => by rw [List.mem_singleton] at hi; subst hi; exact h2.lt⟩
  | n + 1, S, b, F, ⟨an, le, mo, h1, h2⟩ => by
    rcases h2 with ⟨h2, h3, h4⟩ | ⟨m, hb, Hs, Fh, E, a1, a2, a3, a4, a5, a6, a7, a8⟩
    · subst h3; exact ⟨by simp, fun i hi => by rw [List.mem_singleton] at hi; subst hi; exact h2.lt⟩
    · subst a6
      refine ⟨by simp, fun i hi => ?_⟩
      rw [List.mem_cons, List.mem_cons, List.mem_append, List.mem_flatMap] at hi
      rcases hi with rfl | rfl | hi | ⟨e, he, hi⟩
      · exact a1.lt
      · exact a2.lt
      · exact a3.lt.2 i hi
      · exact (a4 e he).1.lt.2 i hi
theorem HR.kf {G : Nat → Prop} (hk : Kf G w w') : ∀ {n : Nat} {S : List Int} {b : Nat} {F : List Nat}, HR ty n w S b F → (∀ i ∈ F, ¬ G i) → HR ty n w' S b F
  | 0, S, b, F, ⟨an, le, mo, h1, h2, h3⟩, hn => ⟨an, le, mo, h1, h2.kf hk (hn b (by rw [h3]; simp)), h3⟩
  | n + 1, S, b, F, ⟨an, le, mo, h1, h2⟩, hn => by
    refine ⟨an, le, mo, h1, ?_⟩
    rcases h2 with ⟨h2, h3, h4⟩ | ⟨m, hb, Hs, Fh, E, a1, a2, a3, a4, a5, a6, a7, a8⟩
    · exact .inl ⟨h2.kf hk (hn b (by rw [h3]; simp)), h3, h4⟩
    · refine .inr ⟨m, hb, Hs, Fh, E, a1.kf hk (hn b (by rw [a6]; simp)), a2.kf hk (hn m (by rw [a6]; simp)), HR.kf hk a3 (fun i hi => hn i (by rw [a6]; simp [hi])), fun e he => ⟨HR.kf hk (a4 e he).1 (fun i hi => hn i ?_), (a4 e he).2⟩, a5, a6, a7, a8⟩
      rw [a6, List.mem_cons, List.mem_cons, List.mem_append, List.mem_flatMap]
      exact .inr (.inr (.inr ⟨e, he, hi⟩))
theorem HR.nodup : ∀ {n : Nat} {S : List Int} {b : Nat} {F : List Nat}, HR ty n w S b F → F.Nodup
  | 0, S, b, F, ⟨an, le, mo, h1, h2, h3⟩ => by subst h3; simp
  | n + 1, S, b, F, ⟨an, le, mo, h1, h2⟩ => by
    rcases h2 with ⟨h2, h3, h4⟩ | ⟨m, hb, Hs, Fh, E, a1, a2, a3, a4, a5, a6, a7, a8⟩
    · subst h3; simp
    · exact a7
/-- The bounds. -/
theorem HR.hb : ∀ {n : Nat} {S : List Int} {b : Nat} {F : List Nat}, HR ty n w S b F → ∃ an le mo mv hv, HB n S an le mo ∧ BC w b ty (hC n an le mo mv hv)
  | 0, S, b, F, ⟨an, le, mo, h1, h2, h3⟩ => ⟨an, le, mo, _, _, h1, h2⟩
  | n + 1, S, b, F, ⟨an, le, mo, h1, h2⟩ => by
    rcases h2 with ⟨h2, h3, h4⟩ | ⟨m, hb, Hs, Fh, E, a1, a2, a3, a4, a5, a6, a7, a8⟩
    · exact ⟨an, le, mo, _, _, h1, h2⟩
    · exact ⟨an, le, mo, _, _, h1, a1⟩
end
theorem lkP_some {E : List HE} {h : Int} {b : Nat} (hn : (E.map HE.h).Nodup) : lkP (E.map fun e => (e.h, e.b)) h = some b ↔ ∃ e ∈ E, e.h = h ∧ e.b = b := by
  induction E with
  | nil => simp [lkP]
  | cons a E ih =>
    rw [List.map_cons, List.nodup_cons] at hn
    by_cases e : a.h = h
    · have : lkP ((a :: E).map fun e => (e.h, e.b)) h = some a.b := by simp [lkP, e]
      rw [this]
      constructor
      · intro e2; injection e2 with e2; exact ⟨a, by simp, e, e2⟩
      · rintro ⟨x, hx, h1, h2⟩
        rcases List.mem_cons.1 hx with e3 | e3
        · subst e3; rw [h2]
        · exact absurd (by rw [e, ← h1]; exact List.mem_map_of_mem e3) hn.1
    · have : lkP ((a :: E).map fun e => (e.h, e.b)) h = lkP (E.map fun e => (e.h, e.b)) h := by simp [lkP, e]
      rw [this, ih hn.2]
      constructor
      · rintro ⟨x, hx, h1⟩; exact ⟨x, by simp [hx], h1⟩
      · rintro ⟨x, hx, h1, h2⟩
        rcases List.mem_cons.1 hx with e3 | e3
        · subst e3; exact absurd h1 e
        · exact ⟨x, e3, h1, h2⟩
theorem lkP_none {E : List HE} {h : Int} : lkP (E.map fun e => (e.h, e.b)) h = none ↔ ∀ e ∈ E, e.h ≠ h := by
  simp [lkP, List.find?_eq_none]
/-- Whether a number is there, by the parts. -/
theorem HP.has {n : Nat} {S : List Int} {le x : Int} {Hs : List Int} {E : List HE} (hp : HP n S true le Hs E) (hx0 : 0 ≤ x) (hx1 : x < UU (n + 1)) (hne : x ≠ le) : x ∈ S ↔ ∃ e ∈ E, e.h = x / UU n ∧ x % UU n ∈ e.S := by
  have hM := UU_pos n
  obtain ⟨a1, a2, a3, a4, a5⟩ := half_in (M := UU n) (by omega) hx0 (by rw [UU] at hx1; exact hx1)
  have := hp.1 (x / UU n) (x % UU n) a3 a4
  rw [a5] at this
  rw [← this]
  simp [hne]
end Go.Proofs.Ytmhabjjabdambaa
namespace Go.Proofs.Ytmhabjjabdambaa
open Go.ChangeShapes Go.WideShapes Go.ChangeAt Go.RowKit
set_option linter.unusedVariables false
set_option linter.unusedSimpArgs false

/-- The parts with one put anew. -/
def setE (E : List HE) (h : Int) (S : List Int) (F : List Nat) : List HE := E.map fun e => if e.h = h then ⟨e.h, e.b, S, F⟩ else e
theorem setE_h {E : List HE} {h : Int} {S : List Int} {F : List Nat} : (setE E h S F).map HE.h = E.map HE.h := by
  unfold setE
  rw [List.map_map]
  apply List.map_congr_left
  intro e _
  simp only [Function.comp]
  split <;> rfl
theorem setE_hb {E : List HE} {h : Int} {S : List Int} {F : List Nat} : (setE E h S F).map (fun e => (e.h, e.b)) = E.map fun e => (e.h, e.b) := by
  unfold setE
  rw [List.map_map]
  apply List.map_congr_left
  intro e _
  simp only [Function.comp]
  split <;> rfl
theorem setE_mem {E : List HE} {h : Int} {S : List Int} {F : List Nat} {x : HE} : x ∈ setE E h S F ↔ ∃ e ∈ E, x = if e.h = h then ⟨e.h, e.b, S, F⟩ else e := by
  unfold setE
  rw [List.mem_map]
  constructor
  · rintro ⟨e, he, rfl⟩; exact ⟨e, he, rfl⟩
  · rintro ⟨e, he, rfl⟩; exact ⟨e, he, rfl⟩
theorem one_of {E : List HE} (hn : (E.map HE.h).Nodup) {a b : HE} (ha : a ∈ E) (hb : b ∈ E) (h : a.h = b.h) : a = b := by
  induction E with
  | nil => cases ha
  | cons c E ih =>
    rw [List.map_cons, List.nodup_cons] at hn
    rcases List.mem_cons.1 ha with e1 | e1 <;> rcases List.mem_cons.1 hb with e2 | e2
    · rw [e1, e2]
    · subst e1; exact absurd (by rw [h]; exact List.mem_map_of_mem e2) hn.1
    · subst e2; exact absurd (by rw [← h]; exact List.mem_map_of_mem e1) hn.1
    · exact ih hn.2 e1 e2
/-- A number put into the parts. -/
theorem HP.put {n : Nat} {S S' : List Int} {an : Bool} {le le' z : Int} {Hs : List Int} {E : List HE} {e0 : HE} {F' : List Nat} (hp : HP n S an le Hs E) (hn : (E.map HE.h).Nodup) (he : e0 ∈ E) (hz0 : 0 ≤ z) (hz1 : z < UU (n + 1)) (heh : e0.h = z / UU n)
    (hS : ∀ v, (v ∈ S' ∧ v ≠ le') ↔ (v = z ∨ (an = true ∧ v ∈ S ∧ v ≠ le))) : HP n S' true le' (insU Hs (z / UU n)) (setE E (z / UU n) (insU e0.S (z % UU n)) F') := by
  have hM := UU_pos n
  obtain ⟨a1, a2, a3, a4, a5⟩ := half_in (M := UU n) (by omega) hz0 (by rw [UU] at hz1; exact hz1)
  obtain ⟨p1, p2⟩ := hp
  have key : ∀ h y, (∃ e ∈ setE E (z / UU n) (insU e0.S (z % UU n)) F', e.h = h ∧ y ∈ e.S) ↔ ((h = z / UU n ∧ y = z % UU n) ∨ ∃ e ∈ E, e.h = h ∧ y ∈ e.S) := by
    intro h y
    constructor
    · rintro ⟨x, hx, h1, h2⟩
      obtain ⟨e, hee, rfl⟩ := setE_mem.1 hx
      by_cases e1 : e.h = z / UU n
      · rw [if_pos e1] at h1 h2
        simp only at h1 h2
        rw [insU_mem] at h2
        rcases h2 with h2 | h2
        · exact .inl ⟨by rw [← h1, e1], h2⟩
        · exact .inr ⟨e0, he, by rw [← h1, e1, heh], h2⟩
      · rw [if_neg e1] at h1 h2
        exact .inr ⟨e, hee, h1, h2⟩
    · rintro (⟨h1, h2⟩ | ⟨e, hee, h1, h2⟩)
      · refine ⟨_, setE_mem.2 ⟨e0, he, rfl⟩, ?_, ?_⟩
        · rw [if_pos heh, h1, ← heh]
        · rw [if_pos heh]; exact insU_mem.2 (.inl h2)
      · refine ⟨_, setE_mem.2 ⟨e, hee, rfl⟩, ?_, ?_⟩
        · split <;> exact h1
        · split
          · next e1 =>
            have : e = e0 := one_of hn hee he (by rw [e1, heh])
            subst this
            exact insU_mem.2 (.inr h2)
          · exact h2
  refine ⟨fun h y hy0 hy1 => ?_, fun h => ?_⟩
  · rw [key]
    have h5 := hS (h * UU n + y)
    have h6 := p1 h y hy0 hy1
    simp only [true_and]
    rw [h5, ← h6]
    constructor
    · rintro (h7 | h7)
      · left
        obtain ⟨q1, q2⟩ := half_of (M := UU n) (h := h) (by omega) hy0 hy1
        rw [h7] at q1 q2
        exact ⟨q1.symm, q2.symm⟩
      · exact .inr h7
    · rintro (⟨h7, h8⟩ | h7)
      · left; rw [h7, h8]; exact a5
      · exact .inr h7
  · rw [insU_mem, p2]
    constructor
    · rintro (h1 | ⟨e, hee, h1, h2⟩)
      · refine ⟨_, setE_mem.2 ⟨e0, he, rfl⟩, ?_, ?_⟩
        · rw [if_pos heh, h1, ← heh]
        · rw [if_pos heh]
          intro h3
          have : z % UU n ∈ insU e0.S (z % UU n) := insU_mem.2 (.inl rfl)
          simp only at h3
          rw [h3] at this
          cases this
      · refine ⟨_, setE_mem.2 ⟨e, hee, rfl⟩, ?_, ?_⟩
        · split <;> exact h1
        · split
          · intro h3
            have : z % UU n ∈ insU e0.S (z % UU n) := insU_mem.2 (.inl rfl)
            simp only at h3
            rw [h3] at this
            cases this
          · exact h2
    · rintro ⟨x, hx, h1, h2⟩
      obtain ⟨e, hee, rfl⟩ := setE_mem.1 hx
      by_cases e1 : e.h = z / UU n
      · rw [if_pos e1] at h1
        exact .inl (by rw [← h1, e1])
      · rw [if_neg e1] at h1 h2
        exact .inr ⟨e, hee, h1, h2⟩
/-- A number taken out of the parts; its high half out of those that have any, where none is left. -/
theorem HP.cut {n : Nat} {S S' : List Int} {an : Bool} {le le' z : Int} {Hs Hs' : List Int} {E : List HE} {e0 : HE} {F' : List Nat} (hp : HP n S an le Hs E) (hn : (E.map HE.h).Nodup) (he : e0 ∈ E) (hz0 : 0 ≤ z) (hz1 : z < UU (n + 1)) (heh : e0.h = z / UU n)
    (hS : ∀ v, (v ∈ S' ∧ v ≠ le') ↔ (v ≠ z ∧ (an = true ∧ v ∈ S ∧ v ≠ le))) (hHs : Hs' = if delU e0.S (z % UU n) = [] then delU Hs (z / UU n) else Hs) : HP n S' true le' Hs' (setE E (z / UU n) (delU e0.S (z % UU n)) F') := by
  have hM := UU_pos n
  obtain ⟨a1, a2, a3, a4, a5⟩ := half_in (M := UU n) (by omega) hz0 (by rw [UU] at hz1; exact hz1)
  obtain ⟨p1, p2⟩ := hp
  have key : ∀ h y, (∃ e ∈ setE E (z / UU n) (delU e0.S (z % UU n)) F', e.h = h ∧ y ∈ e.S) ↔ (¬ (h = z / UU n ∧ y = z % UU n) ∧ ∃ e ∈ E, e.h = h ∧ y ∈ e.S) := by
    intro h y
    constructor
    · rintro ⟨x, hx, h1, h2⟩
      obtain ⟨e, hee, rfl⟩ := setE_mem.1 hx
      by_cases e1 : e.h = z / UU n
      · rw [if_pos e1] at h1 h2
        simp only at h1 h2
        rw [delU_mem] at h2
        exact ⟨fun h3 => h2.2 h3.2, e0, he, by rw [← h1, e1, heh], h2.1⟩
      · rw [if_neg e1] at h1 h2
        exact ⟨fun h3 => e1 (by rw [h1, h3.1]), e, hee, h1, h2⟩
    · rintro ⟨h3, e, hee, h1, h2⟩
      refine ⟨_, setE_mem.2 ⟨e, hee, rfl⟩, ?_, ?_⟩
      · split <;> exact h1
      · split
        · next e1 =>
          have : e = e0 := one_of hn hee he (by rw [e1, heh])
          subst this
          exact delU_mem.2 ⟨h2, fun h4 => h3 ⟨by rw [← h1, e1], h4⟩⟩
        · exact h2
  refine ⟨fun h y hy0 hy1 => ?_, fun h => ?_⟩
  · rw [key]
    have h5 := hS (h * UU n + y)
    have h6 := p1 h y hy0 hy1
    simp only [true_and]
    rw [h5, h6]
    have h7 : h * UU n + y ≠ z ↔ ¬ (h = z / UU n ∧ y = z % UU n) := by
      constructor
      · rintro h8 ⟨h9, h10⟩
        exact h8 (by rw [h9, h10]; exact a5)
      · intro h8 h9
        obtain ⟨q1, q2⟩ := half_of (M := UU n) (h := h) (by omega) hy0 hy1
        rw [h9] at q1 q2
        exact h8 ⟨q1.symm, q2.symm⟩
    rw [h7]
  · subst hHs
    have hx : (∃ e ∈ setE E (z / UU n) (delU e0.S (z % UU n)) F', e.h = h ∧ e.S ≠ []) ↔ if h = z / UU n then delU e0.S (z % UU n) ≠ [] else ∃ e ∈ E, e.h = h ∧ e.S ≠ [] := by
      constructor
      · rintro ⟨x, hx, h1, h2⟩
        obtain ⟨e, hee, rfl⟩ := setE_mem.1 hx
        by_cases e1 : e.h = z / UU n
        · rw [if_pos e1] at h1 h2
          simp only at h1 h2
          rw [if_pos (by rw [← h1, e1])]
          exact h2
        · rw [if_neg e1] at h1 h2
          rw [if_neg (by rw [← h1]; exact e1)]
          exact ⟨e, hee, h1, h2⟩
      · intro h1
        by_cases e1 : h = z / UU n
        · rw [if_pos e1] at h1
          exact ⟨_, setE_mem.2 ⟨e0, he, rfl⟩, by rw [if_pos heh, e1, ← heh], by rw [if_pos heh]; exact h1⟩
        · rw [if_neg e1] at h1
          obtain ⟨e, hee, h2, h3⟩ := h1
          exact ⟨_, setE_mem.2 ⟨e, hee, rfl⟩, by split <;> exact h2, by rw [if_neg (by rw [h2]; exact e1)]; exact h3⟩
    rw [hx]
    have he0 : e0.S ≠ [] → z / UU n ∈ Hs := fun h1 => (p2 _).2 ⟨e0, he, heh, h1⟩
    by_cases hd : delU e0.S (z % UU n) = []
    · rw [if_pos hd, delU_mem, p2]
      by_cases e1 : h = z / UU n
      · rw [if_pos e1]; simp [e1, hd]
      · rw [if_neg e1]; simp [e1]
    · rw [if_neg hd]
      by_cases e1 : h = z / UU n
      · rw [if_pos e1, e1]
        refine ⟨fun _ => hd, fun _ => he0 fun h1 => hd (by rw [h1]; rfl)⟩
      · rw [if_neg e1, p2]
end Go.Proofs.Ytmhabjjabdambaa
namespace Go.Proofs.Ytmhabjjabdambaa
open Go.ChangeShapes Go.WideShapes Go.ChangeAt Go.RowKit
set_option linter.unusedVariables false
set_option linter.unusedSimpArgs false

theorem nodup_repl {A B B' C : List Nat} {N : Nat} (h : (A ++ B ++ C).Nodup) (hb : B'.Nodup) (hin : ∀ i ∈ B', i ∈ B ∨ N ≤ i) (hlt : ∀ i ∈ A ++ B ++ C, i < N) : (A ++ B' ++ C).Nodup := by
  rw [List.nodup_append, List.nodup_append] at h ⊢
  obtain ⟨⟨h1, h2, h3⟩, h4, h5⟩ := h
  refine ⟨⟨h1, hb, fun a ha c hc => ?_⟩, h4, fun a ha c hc => ?_⟩
  · rcases hin c hc with e | e
    · exact h3 a ha c e
    · have := hlt a (by simp [ha]); omega
  · rcases List.mem_append.1 ha with e | e
    · exact h5 a (by simp [e]) c hc
    · rcases hin a e with e2 | e2
      · exact h5 a (by simp [e2]) c hc
      · have := hlt c (by simp [hc]); omega
theorem setE_split {E : List HE} (hn : (E.map HE.h).Nodup) {e0 : HE} (he : e0 ∈ E) (S : List Int) (F : List Nat) : ∃ E1 E2, E = E1 ++ e0 :: E2 ∧ setE E e0.h S F = E1 ++ ⟨e0.h, e0.b, S, F⟩ :: E2 := by
  obtain ⟨E1, E2, rfl⟩ := List.append_of_mem he
  refine ⟨E1, E2, rfl, ?_⟩
  rw [List.map_append, List.map_cons, List.nodup_append] at hn
  obtain ⟨h1, h2, h3⟩ := hn
  rw [List.nodup_cons] at h2
  have key : ∀ L : List HE, (∀ x ∈ L, x.h ≠ e0.h) → setE L e0.h S F = L := by
    intro L hL
    unfold setE
    have : ∀ x ∈ L, (if x.h = e0.h then (⟨x.h, x.b, S, F⟩ : HE) else x) = id x := fun x hx => if_neg (hL x hx)
    rw [List.map_congr_left this, List.map_id]
  have k1 := key E1 (fun x hx e => h3 x.h (List.mem_map_of_mem hx) e0.h (by simp) e)
  have k2 := key E2 (fun x hx e => h2.1 (by rw [← e]; exact List.mem_map_of_mem hx))
  unfold setE at k1 k2 ⊢
  rw [List.map_append, List.map_cons, k1, k2, if_pos rfl]
/-- A set of a level above the least with its parts. -/
def HQ (ty : TypeId) (n : Nat) (w : World) (b : Nat) (F : List Nat) (an : Bool) (le mo : Int) (m hb : Nat) (Hs : List Int) (Fh : List Nat) (E : List HE) : Prop :=
  BC w b ty (hC (n + 1) an le mo (.map (some m)) (.pointer (some ⟨hb, 0, none⟩))) ∧ PM w m (E.map fun e => (e.h, e.b)) ∧ HR ty n w Hs hb Fh ∧ (∀ e ∈ E, HR ty n w e.S e.b e.F ∧ 0 ≤ e.h ∧ e.h < UU n) ∧ (E.map HE.h).Nodup ∧ F = b :: m :: (Fh ++ E.flatMap HE.F) ∧ F.Nodup
section
variable {ty : TypeId} {n : Nat} {w w' : World} {b m hb : Nat} {F Fh F' : List Nat} {an : Bool} {le mo : Int} {Hs Hs' : List Int} {E : List HE}
theorem HQ.lt (h : HQ ty n w b F an le mo m hb Hs Fh E) : ∀ i ∈ F, i < w.heap.size := by
  obtain ⟨a1, a2, a3, a4, a5, a6, a7⟩ := h
  intro i hi
  subst a6
  rw [List.mem_cons, List.mem_cons, List.mem_append, List.mem_flatMap] at hi
  rcases hi with rfl | rfl | hi | ⟨e, he, hi⟩
  · exact a1.lt
  · exact a2.lt
  · exact a3.lt.2 i hi
  · exact (a4 e he).1.lt.2 i hi
/-- A call that has turned the set of those that have any. -/
theorem HQ.highs (h : HQ ty n w b F an le mo m hb Hs Fh E) (hk : Kf (fun i => i ∈ Fh) w w') (hr : HR ty n w' Hs' hb F') (hin : ∀ i ∈ F', i ∈ Fh ∨ w.heap.size ≤ i) : ∃ F2, HQ ty n w' b F2 an le mo m hb Hs' F' E ∧ (∀ i ∈ F2, i ∈ F ∨ w.heap.size ≤ i) ∧ Kf (fun i => i ∈ F) w w' := by
  have hlt := h.lt
  obtain ⟨a1, a2, a3, a4, a5, a6, a7⟩ := h
  subst a6
  have hd := a7
  rw [show b :: m :: (Fh ++ E.flatMap HE.F) = [b, m] ++ Fh ++ E.flatMap HE.F from by simp] at hd hlt
  have hn2 := nodup_repl hd hr.nodup hin hlt
  rw [List.nodup_append, List.nodup_append] at hd
  obtain ⟨⟨d1, d2, d3⟩, d4, d5⟩ := hd
  have hb0 : b ∉ Fh := fun hi => d3 b (by simp) b hi rfl
  have hm0 : m ∉ Fh := fun hi => d3 m (by simp) m hi rfl
  have he0 : ∀ e ∈ E, ∀ i ∈ e.F, i ∉ Fh := fun e he i hi hF => d5 i (by simp [hF]) i (List.mem_flatMap.2 ⟨e, he, hi⟩) rfl
  refine ⟨b :: m :: (F' ++ E.flatMap HE.F), ⟨a1.kf hk hb0, a2.kf hk hm0, hr, fun e he => ⟨(a4 e he).1.kf hk (he0 e he), (a4 e he).2⟩, a5, rfl, by simpa using hn2⟩, fun i hi => ?_, hk.mono fun i _ hi => by simp [hi]⟩
  rw [List.mem_cons, List.mem_cons, List.mem_append] at hi
  rcases hi with rfl | rfl | hi | hi
  · exact .inl (by simp)
  · exact .inl (by simp)
  · rcases hin i hi with h1 | h1
    · exact .inl (by simp [h1])
    · exact .inr h1
  · exact .inl (by simp [hi])
/-- A call that has turned a part. -/
theorem HQ.part (h : HQ ty n w b F an le mo m hb Hs Fh E) {e0 : HE} (he : e0 ∈ E) (hk : Kf (fun i => i ∈ e0.F) w w') {S' : List Int} (hr : HR ty n w' S' e0.b F') (hin : ∀ i ∈ F', i ∈ e0.F ∨ w.heap.size ≤ i) :
    ∃ F2, HQ ty n w' b F2 an le mo m hb Hs Fh (setE E e0.h S' F') ∧ (∀ i ∈ F2, i ∈ F ∨ w.heap.size ≤ i) ∧ Kf (fun i => i ∈ F) w w' := by
  have hlt := h.lt
  obtain ⟨a1, a2, a3, a4, a5, a6, a7⟩ := h
  obtain ⟨E1, E2, hE, hE'⟩ := setE_split a5 he S' F'
  have hfl : E.flatMap HE.F = E1.flatMap HE.F ++ e0.F ++ E2.flatMap HE.F := by rw [hE]; simp
  have hfl' : (setE E e0.h S' F').flatMap HE.F = E1.flatMap HE.F ++ F' ++ E2.flatMap HE.F := by rw [hE']; simp
  subst a6
  have hd := a7
  rw [hfl, show b :: m :: (Fh ++ (E1.flatMap HE.F ++ e0.F ++ E2.flatMap HE.F)) = (b :: m :: Fh ++ E1.flatMap HE.F) ++ e0.F ++ E2.flatMap HE.F from by simp] at hd hlt
  have hn2 := nodup_repl hd hr.nodup hin hlt
  rw [List.nodup_append, List.nodup_append] at hd
  obtain ⟨⟨d1, d2, d3⟩, d4, d5⟩ := hd
  have hb0 : b ∉ e0.F := fun hi => d3 b (by simp) b hi rfl
  have hm0 : m ∉ e0.F := fun hi => d3 m (by simp) m hi rfl
  have hf0 : ∀ i ∈ Fh, i ∉ e0.F := fun i hi hF => d3 i (by simp [hi]) i hF rfl
  have h10 : ∀ e ∈ E1, ∀ i ∈ e.F, i ∉ e0.F := fun e he i hi hF => d3 i (by rw [List.mem_append, List.mem_flatMap]; exact .inr ⟨e, he, hi⟩) i hF rfl
  have h20 : ∀ e ∈ E2, ∀ i ∈ e.F, i ∉ e0.F := fun e he i hi hF => d5 i (by simp [hF]) i (List.mem_flatMap.2 ⟨e, he, hi⟩) rfl
  have hm : ∀ e, e ∈ E ↔ e ∈ E1 ∨ e = e0 ∨ e ∈ E2 := fun e => by rw [hE]; simp
  refine ⟨b :: m :: (Fh ++ (setE E e0.h S' F').flatMap HE.F), ⟨a1.kf hk hb0, by rw [setE_hb]; exact a2.kf hk hm0, a3.kf hk hf0, fun e he2 => ?_, by rw [setE_h]; exact a5, rfl, by rw [hfl']; simpa using hn2⟩, fun i hi => ?_, hk.mono fun i _ hi => ?_⟩
  · rw [hE', List.mem_append, List.mem_cons] at he2
    rcases he2 with h1 | h1 | h1
    · have := a4 e ((hm e).2 (.inl h1))
      exact ⟨this.1.kf hk (h10 e h1), this.2⟩
    · subst h1
      exact ⟨hr, (a4 e0 he).2⟩
    · have := a4 e ((hm e).2 (.inr (.inr h1)))
      exact ⟨this.1.kf hk (h20 e h1), this.2⟩
  · rw [hfl'] at hi
    rw [hfl]
    simp only [List.mem_cons, List.mem_append] at hi ⊢
    rcases hi with h1 | h1 | h1 | (h1 | h1) | h1
    · exact .inl (.inl h1)
    · exact .inl (.inr (.inl h1))
    · exact .inl (.inr (.inr (.inl h1)))
    · exact .inl (.inr (.inr (.inr (.inl (.inl h1)))))
    · rcases hin i h1 with h2 | h2
      · exact .inl (.inr (.inr (.inr (.inl (.inr h2)))))
      · exact .inr h2
    · exact .inl (.inr (.inr (.inr (.inr h1))))
  · rw [hfl]; simp [hi]
/-- A part more, that holds nothing yet: its block is new, and the map has it. -/
theorem HQ.add (h : HQ ty n w b F an le mo m hb Hs Fh E) {pb : Nat} {x : Int} (hpb : w.heap.size ≤ pb) (hx0 : 0 ≤ x) (hx1 : x < UU n) (hno : ∀ e ∈ E, e.h ≠ x) (hk : Kf (fun i => i = m) w w') (hr : HR ty n w' [] pb [pb]) (hm : PM w' m (E.map (fun e => (e.h, e.b)) ++ [(x, pb)])) :
    HQ ty n w' b (F ++ [pb]) an le mo m hb Hs Fh (E ++ [⟨x, pb, [], [pb]⟩]) := by
  have hlt := h.lt
  obtain ⟨a1, a2, a3, a4, a5, a6, a7⟩ := h
  subst a6
  have hd := a7
  rw [List.nodup_cons, List.nodup_cons, List.nodup_append] at hd
  obtain ⟨d1, d2, d3, d4, d5⟩ := hd
  have hbm : b ≠ m := fun e => d1 (by simp [e])
  have hf : ∀ i ∈ Fh, i ≠ m := fun i hi e => d2 (by rw [← e]; simp [hi])
  have he0 : ∀ e ∈ E, ∀ i ∈ e.F, i ≠ m := fun e he i hi e2 => d2 (by rw [← e2, List.mem_append, List.mem_flatMap]; exact .inr ⟨e, he, hi⟩)
  refine ⟨a1.kf hk hbm, by simpa using hm, a3.kf hk hf, fun e he => ?_, ?_, by simp, ?_⟩
  · rcases List.mem_append.1 he with h1 | h1
    · exact ⟨(a4 e h1).1.kf hk (he0 e h1), (a4 e h1).2⟩
    · rw [List.mem_singleton] at h1
      subst h1
      exact ⟨hr, hx0, hx1⟩
  · rw [List.map_append, List.nodup_append]
    refine ⟨a5, by simp, fun a ha c hc => ?_⟩
    obtain ⟨e, he, rfl⟩ := List.mem_map.1 ha
    simp at hc
    rw [hc]; exact hno e he
  · rw [List.nodup_append]
    refine ⟨a7, by simp, fun a ha c hc => ?_⟩
    rw [List.mem_singleton] at hc
    have := hlt a ha
    omega
end
end Go.Proofs.Ytmhabjjabdambaa
namespace Go.Proofs.Ytmhabjjabdambaa
open Go.ChangeShapes Go.WideShapes Go.ChangeAt Go.RowKit
set_option linter.unusedVariables false
set_option linter.unusedSimpArgs false

theorem wraps_i64 (n : Int) (h0 : 0 ≤ n) (h1 : n < 2 ^ 32) : IntKind.i64.wrap n = n := IntWalk.i64_in _ (by omega)
theorem mask_i64 (i : Nat) (hi : i ≤ 32) (x : Int) (h0 : 0 ≤ x) (h1 : x < 2 ^ 32) : bits .and .i64 x (2 ^ i - 1) = x % 2 ^ i := bits_mask .i64 32 (by decide) wraps_i64 i hi x h0 h1
theorem UU_0 : UU 0 = 2 := rfl
theorem UU_1 : UU 1 = 4 := rfl
theorem UU_2 : UU 2 = 16 := rfl
theorem UU_3 : UU 3 = 256 := rfl
theorem UU_4 : UU 4 = 65536 := rfl
def newC (n : Nat) : List Value := hC n false 0 0 (.map none) (.pointer none)
set_option maxRecDepth 100000 in
theorem hmade_any (x : Int) (w : World) : Calls Try.prog 22 #[.int .i64 x] w (fun e w' => e = .returned (.pointer (some ⟨w.heap.size, 0, none⟩)) ∧ w' = w.alloc (.cells #[.int .i64 x, .bool false, .int .i64 0, .int .i64 0, .map none, .pointer none] 57)) := by
  go_enter Try.func22, Try.ntmps22
  go_wp2
  go_ret
  exact ⟨rfl, rfl⟩
set_option maxRecDepth 100000 in
set_option maxHeartbeats 1000000 in
theorem halves_any (n : Nat) (hn : n < 4) (b : Nat) (x : Int) (w : World) (c0 : w.cell? ⟨b, 0, none⟩ = some (.int .i64 ((2 ^ (n + 1) : Nat) : Int))) (h0 : 0 ≤ x) (h1 : x < UU (n + 1)) :
    Calls Try.prog 30 #[.pointer (some ⟨b, 0, none⟩), .int .i64 x] w (fun e w' => e = .returned (.tuple #[.int .i64 (x / UU n), .int .i64 (x % UU n)]) ∧ ∃ m, w' = w.drewN m) := by
  rcases (show n = 0 ∨ n = 1 ∨ n = 2 ∨ n = 3 by omega) with rfl | rfl | rfl | rfl
  · have c0' : w.cell? ⟨b, 0, none⟩ = some (.int .i64 2) := c0
    rw [UU_1] at h1
    rw [UU_0]
    have hm := mask_i64 1 (by decide) x h0 (by omega)
    rw [show (2 : Int) ^ 1 - 1 = 1 by decide, show (2 : Int) ^ 1 = 2 by decide] at hm
    clear c0
    go_enter Try.func30, Try.ntmps30
    go_wp2_with fail
    go_quiet (fail)
    go_wp2
    go_ret2
    exact ⟨rfl, _, rfl⟩
  · have c0' : w.cell? ⟨b, 0, none⟩ = some (.int .i64 4) := c0
    rw [UU_2] at h1
    rw [UU_1]
    have hm := mask_i64 2 (by decide) x h0 (by omega)
    rw [show (2 : Int) ^ 2 - 1 = 3 by decide, show (2 : Int) ^ 2 = 4 by decide] at hm
    clear c0
    go_enter Try.func30, Try.ntmps30
    go_wp2_with fail
    go_quiet (fail)
    go_wp2
    go_ret2
    exact ⟨rfl, _, rfl⟩
  · have c0' : w.cell? ⟨b, 0, none⟩ = some (.int .i64 8) := c0
    rw [UU_3] at h1
    rw [UU_2]
    have hm := mask_i64 4 (by decide) x h0 (by omega)
    rw [show (2 : Int) ^ 4 - 1 = 15 by decide, show (2 : Int) ^ 4 = 16 by decide] at hm
    clear c0
    go_enter Try.func30, Try.ntmps30
    go_wp2_with fail
    go_quiet (fail)
    go_wp2
    go_ret2
    exact ⟨rfl, _, rfl⟩
  · have c0' : w.cell? ⟨b, 0, none⟩ = some (.int .i64 16) := c0
    rw [UU_4] at h1
    rw [UU_3]
    have hm := mask_i64 8 (by decide) x h0 (by omega)
    rw [show (2 : Int) ^ 8 - 1 = 255 by decide, show (2 : Int) ^ 8 = 256 by decide] at hm
    clear c0
    go_enter Try.func30, Try.ntmps30
    go_wp2_with fail
    go_quiet (fail)
    go_wp2
    go_ret2
    exact ⟨rfl, _, rfl⟩
theorem join_i64 (i : Nat) (hi : i ≤ 8) (h l : Int) (h0 : 0 ≤ h) (h1 : h < 65536) (l0 : 0 ≤ l) (l1 : l < 2 ^ i) : bits .or .i64 (h * 2 ^ i) l = h * 2 ^ i + l := by
  have hp : (2 : Int) ^ i ≤ 256 := by
    have := Nat.pow_le_pow_right (show 0 < 2 by decide) hi
    have h2 : ((2 ^ i : Nat) : Int) ≤ ((2 ^ 8 : Nat) : Int) := by exact_mod_cast this
    simpa using h2
  have hp0 : (0 : Int) < 2 ^ i := Int.pow_pos (by decide)
  have hm : h * 2 ^ i ≤ 65536 * 256 := Int.mul_le_mul (by omega) hp (by omega) (by omega)
  refine bits_join .i64 32 (by decide) wraps_i64 i _ _ (Int.mul_nonneg h0 (by omega)) (Int.mul_emod_left _ _) (by omega) l0 l1 (by omega)
set_option maxRecDepth 100000 in
set_option maxHeartbeats 1000000 in
theorem whole_any (n : Nat) (hn : n < 4) (b : Nat) (h l : Int) (w : World) (c0 : w.cell? ⟨b, 0, none⟩ = some (.int .i64 ((2 ^ (n + 1) : Nat) : Int))) (h0 : 0 ≤ h) (h1 : h < UU n) (l0 : 0 ≤ l) (l1 : l < UU n) :
    Calls Try.prog 43 #[.pointer (some ⟨b, 0, none⟩), .int .i64 h, .int .i64 l] w (fun e w' => e = .returned (.int .i64 (h * UU n + l)) ∧ w = w') := by
  rcases (show n = 0 ∨ n = 1 ∨ n = 2 ∨ n = 3 by omega) with rfl | rfl | rfl | rfl
  · have c0' : w.cell? ⟨b, 0, none⟩ = some (.int .i64 2) := c0
    rw [UU_0] at h1 l1 ⊢
    have hm := join_i64 1 (by decide) h l h0 (by omega) l0 (by rw [show (2 : Int) ^ 1 = 2 by decide]; exact l1)
    rw [show (2 : Int) ^ 1 = 2 by decide] at hm
    have hw : IntKind.i64.wrap (h * 2) = h * 2 := IntWalk.i64_in _ (by omega)
    clear c0
    go_enter Try.func43, Try.ntmps43
    go_wp2
    go_ret
    exact ⟨rfl, rfl⟩
  · have c0' : w.cell? ⟨b, 0, none⟩ = some (.int .i64 4) := c0
    rw [UU_1] at h1 l1 ⊢
    have hm := join_i64 2 (by decide) h l h0 (by omega) l0 (by rw [show (2 : Int) ^ 2 = 4 by decide]; exact l1)
    rw [show (2 : Int) ^ 2 = 4 by decide] at hm
    have hw : IntKind.i64.wrap (h * 4) = h * 4 := IntWalk.i64_in _ (by omega)
    clear c0
    go_enter Try.func43, Try.ntmps43
    go_wp2
    go_ret
    exact ⟨rfl, rfl⟩
  · have c0' : w.cell? ⟨b, 0, none⟩ = some (.int .i64 8) := c0
    rw [UU_2] at h1 l1 ⊢
    have hm := join_i64 4 (by decide) h l h0 (by omega) l0 (by rw [show (2 : Int) ^ 4 = 16 by decide]; exact l1)
    rw [show (2 : Int) ^ 4 = 16 by decide] at hm
    have hw : IntKind.i64.wrap (h * 16) = h * 16 := IntWalk.i64_in _ (by omega)
    clear c0
    go_enter Try.func43, Try.ntmps43
    go_wp2
    go_ret
    exact ⟨rfl, rfl⟩
  · have c0' : w.cell? ⟨b, 0, none⟩ = some (.int .i64 16) := c0
    rw [UU_3] at h1 l1 ⊢
    have hm := join_i64 8 (by decide) h l h0 (by omega) l0 (by rw [show (2 : Int) ^ 8 = 256 by decide]; exact l1)
    rw [show (2 : Int) ^ 8 = 256 by decide] at hm
    have hw : IntKind.i64.wrap (h * 256) = h * 256 := IntWalk.i64_in _ (by omega)
    clear c0
    go_enter Try.func43, Try.ntmps43
    go_wp2
    go_ret
    exact ⟨rfl, rfl⟩
end Go.Proofs.Ytmhabjjabdambaa
namespace Go.Proofs.Ytmhabjjabdambaa
open Go.ChangeShapes Go.WideShapes Go.ChangeAt Go.RowKit
set_option linter.unusedVariables false
set_option linter.unusedSimpArgs false

def RetQ (v : Value) (w : World) (e : Ending) (w' : World) : Prop := e = .returned v ∧ ∃ m, w' = w.drewN m
theorem HR.drewN {ty : TypeId} {n : Nat} {w : World} {S : List Int} {b : Nat} {F : List Nat} (h : HR ty n w S b F) (m : Nat) : HR ty n (w.drewN m) S b F := h.kf (Kf.of (F := fun _ => False) (Kp.refl w).drewN) fun _ _ h => h
theorem HB.no {n : Nat} {S : List Int} {le mo : Int} (h : HB n S false le mo) : S = [] := by
  obtain ⟨_, _, h3, _⟩ := h
  cases S with
  | nil => rfl
  | cons a S => have := h3.2 (by simp); cases this
theorem hptr_zero (w : World) : (zeroValue 52).run Try.prog w = .ok (.pointer none) w := by kernel_rfl
set_option maxRecDepth 100000 in
set_option maxHeartbeats 4000000 in
theorem has_any (n : Nat) : ∀ (hn : n ≤ 4) (S : List Int) (b : Nat) (F : List Nat) (x : Int) (w : World), HR 57 n w S b F → 0 ≤ x → x < UU n → Calls Try.prog 31 #[.pointer (some ⟨b, 0, none⟩), .int .i64 x] w (RetQ (.bool (decide (x ∈ S))) w) := by
  induction n with
  | zero =>
    rintro hn S b F x w ⟨an, le, mo, hb, hc, rfl⟩ h0 h1
    have c0 := hc.cell 0
    have c1 := hc.cell 1
    have c2 := hc.cell 2
    have c3 := hc.cell 3
    simp only [hC, List.getElem?_cons_zero, List.getElem?_cons_succ] at c0 c1 c2 c3
    have c0' : w.cell? ⟨b, 0, none⟩ = some (.int .i64 1) := c0
    cases an with
    | false =>
      have hS := hb.no
      subst hS
      have HD : Hid (decide (x ∈ ([] : List Int)) = false) := hide (by simp)
      clear hb hc c0
      go_enter Try.func31, Try.ntmps31
      go_wp2
      go_ret
      exact ⟨by rw [HD.out]; rfl, 0, rfl⟩
    | true =>
      obtain ⟨b1, b2, b3, b4⟩ := hb
      obtain ⟨q1, q2, q3⟩ := b4 rfl
      rw [UU_0] at h1 b2
      by_cases e1 : x = le
      · have HD : Hid (decide (x ∈ S) = true) := hide (by simp [e1, q1])
        have d1 : (x == le) = true := by simp [e1]
        clear hc c0 b1 b2 b3 b4 q1 q2 q3 e1
        go_enter Try.func31, Try.ntmps31
        go_wp2
        go_ret
        exact ⟨by rw [HD.out]; rfl, 0, rfl⟩
      · have d1 : (x == le) = false := by simpa using e1
        by_cases e2 : x = mo
        · have HD : Hid (decide (x ∈ S) = true) := hide (by simp [e2, q2])
          have d2 : (x == mo) = true := by simp [e2]
          clear hc c0 b1 b2 b3 b4 q1 q2 q3 e1 e2
          go_enter Try.func31, Try.ntmps31
          go_wp2
          go_ret
          exact ⟨by rw [HD.out]; rfl, 0, rfl⟩
        · have d2 : (x == mo) = false := by simpa using e2
          have HD : Hid (decide (x ∈ S) = false) := hide (by
            simp only [decide_eq_false_iff_not]
            intro hx
            have := q3 x hx
            have := b2 mo q2
            have := b2 le q1
            omega)
          clear hc c0 b1 b2 b3 b4 q1 q2 q3 e1 e2
          go_enter Try.func31, Try.ntmps31
          go_wp2
          go_ret
          exact ⟨by rw [HD.out]; rfl, 0, rfl⟩
  | succ n ih =>
    intro hn S b F x w hr h0 h1
    have HRR := hide hr
    obtain ⟨an, le, mo, hb, hcase⟩ := hr
    have HIH := hide (ih (by omega))
    clear ih
    obtain ⟨mv, hv, hc⟩ : ∃ mv hv, BC w b 57 (hC (n + 1) an le mo mv hv) := by
      rcases hcase with ⟨h2, _⟩ | ⟨m, hb', Hs, Fh, E, a1, _⟩
      · exact ⟨_, _, h2⟩
      · exact ⟨_, _, a1⟩
    have c0 := hc.cell 0
    have c1 := hc.cell 1
    have c2 := hc.cell 2
    have c3 := hc.cell 3
    have c4 := hc.cell 4
    simp only [hC, List.getElem?_cons_zero, List.getElem?_cons_succ] at c0 c1 c2 c3 c4
    obtain ⟨bs, hbs⟩ : ∃ bs : Int, bs = ((2 ^ (n + 1) : Nat) : Int) := ⟨_, rfl⟩
    have HHV := hide (fun W (k : W.cell? ⟨b, 0, none⟩ = some (.int .i64 ((2 ^ (n + 1) : Nat) : Int))) => halves_any n (by omega) b x W k h0 h1)
    rw [← hbs] at c0 HHV
    have hb1 : (bs == 1) = false := by
      rw [hbs]
      have := Nat.pow_lt_pow_right (show 1 < 2 by decide) (show 0 < n + 1 by omega)
      exact beq_eq_false_iff_ne.2 (by omega)
    cases an with
    | false =>
      have hS := hb.no
      subst hS
      have HD : Hid (decide (x ∈ ([] : List Int)) = false) := hide (by simp)
      clear hb hc hbs hb1 hcase
      go_enter Try.func31, Try.ntmps31
      go_wp2
      go_ret
      exact ⟨by rw [HD.out]; rfl, 0, rfl⟩
    | true =>
      obtain ⟨b1, b2, b3, b4⟩ := hb
      obtain ⟨q1, q2, q3⟩ := b4 rfl
      by_cases e1 : x = le
      · have HD : Hid (decide (x ∈ S) = true) := hide (by simp [e1, q1])
        have d1 : (x == le) = true := by simp [e1]
        clear hc hbs hb1 b1 b2 b3 b4 q1 q2 q3 e1 hcase
        go_enter Try.func31, Try.ntmps31
        go_wp2
        go_ret
        exact ⟨by rw [HD.out]; rfl, 0, rfl⟩
      · have d1 : (x == le) = false := by simpa using e1
        by_cases e2 : x = mo
        · have HD : Hid (decide (x ∈ S) = true) := hide (by simp [e2, q2])
          have d2 : (x == mo) = true := by simp [e2]
          clear hc hbs hb1 b1 b2 b3 b4 q1 q2 q3 e1 e2 hcase
          go_enter Try.func31, Try.ntmps31
          go_wp2
          go_ret
          exact ⟨by rw [HD.out]; rfl, 0, rfl⟩
        · have d2 : (x == mo) = false := by simpa using e2
          rcases hcase with ⟨h2, _, h4⟩ | ⟨m, hb', Hs, Fh, E, a1, a2, a3, a4, a5, a6, a7, a8⟩
          · have HD : Hid (decide (x ∈ S) = false) := hide (by
              simp only [decide_eq_false_iff_not]
              intro hx
              exact e1 (h4 rfl x hx))
            have z4 := h2.cell 4
            simp only [hC, List.getElem?_cons_zero, List.getElem?_cons_succ] at z4
            have HLK := hide (fun W (y : Int) => lookup_none (P := Try.prog) (w := W) Try.underlying55 Try.underlying3 (hptr_zero W) y)
            clear hc hbs b1 b2 b3 b4 q1 q2 q3 e1 e2 h2 h4 c4
            go_enter Try.func31, Try.ntmps31
            go_wp2_with fail
            with_reducible refine (HHV.out w c0).mono ?_
            rintro e w1 ⟨rfl, m1, rfl⟩
            have hlk := HLK.out (w.drewN m1) (x / UU n)
            go_wp2
            go_ret
            exact ⟨by rw [HD.out]; rfl, m1, rfl⟩
          · have hhas := a8.has h0 h1 e1
            have hsp := half_in (M := UU n) (by have := UU_pos n; omega) h0 (by rw [UU] at h1; exact h1)
            have z4 := a1.cell 4
            simp only [hC, List.getElem?_cons_zero, List.getElem?_cons_succ] at z4
            have HLK := hide (fun k => (a2.kf (w' := w.drewN k) (Kf.of (F := fun _ => False) (Kp.refl w).drewN) (fun h => h)).lookup (P := Try.prog) Try.underlying55 Try.underlying3 (hptr_zero _) (x / UU n))
            obtain ⟨r, hr⟩ : ∃ r, r = lkP (E.map fun e => (e.h, e.b)) (x / UU n) := ⟨_, rfl⟩
            rw [← hr] at HLK
            cases r with
            | none =>
              have HD : Hid (decide (x ∈ S) = false) := hide (by
                simp only [decide_eq_false_iff_not]
                intro hx
                obtain ⟨e, he, e3, _⟩ := hhas.1 hx
                exact lkP_none.1 hr.symm e he e3)
              clear hc hbs b1 b2 b3 b4 q1 q2 q3 e1 e2 a1 a2 a3 a4 a5 a6 a7 a8 c4 hhas hr hsp
              go_enter Try.func31, Try.ntmps31
              go_wp2_with fail
              with_reducible refine (HHV.out w c0).mono ?_
              rintro e w1 ⟨rfl, m1, rfl⟩
              have hlk := HLK.out m1
              simp only [Option.map_none] at hlk
              go_wp2
              go_ret
              exact ⟨by rw [HD.out]; rfl, m1, rfl⟩
            | some pb =>
              obtain ⟨e, he, e3, e4⟩ := (lkP_some a5).1 hr.symm
              have HRE := hide (a4 e he).1
              rw [e4] at HRE
              have HD : Hid (decide (x ∈ S) = decide (x % UU n ∈ e.S)) := hide (by
                rw [decide_eq_decide, hhas]
                constructor
                · rintro ⟨q, hq, f1, f2⟩
                  have : q = e := one_of a5 hq he (by rw [f1, e3])
                  rw [← this]; exact f2
                · intro f; exact ⟨e, he, e3, f⟩)
              have HX := hide hsp
              clear hc hbs b1 b2 b3 b4 q1 q2 q3 e1 e2 a1 a2 a3 a4 a5 a6 a7 a8 c4 hhas hr hsp
              go_enter Try.func31, Try.ntmps31
              go_wp2_with fail
              with_reducible refine (HHV.out w c0).mono ?_
              rintro e w1 ⟨rfl, m1, rfl⟩
              have hlk := HLK.out m1
              simp only [Option.map_some] at hlk
              go_wp2_with fail
              with_reducible refine (HIH.out e.S pb e.F (x % UU n) (w.drewN m1) (HRE.out.drewN m1) HX.out.2.2.1 HX.out.2.2.2.1).mono ?_
              rintro e9 w2 ⟨rfl, m2, rfl⟩
              go_wp2
              go_ret
              exact ⟨by rw [HD.out]; rfl, m1 + m2, by simp [World.drewN]⟩
end Go.Proofs.Ytmhabjjabdambaa
