/-
  A region told slot by slot, more: a step that stores, what an operation waits for, the frame behind a region. No program. Conditions: none.
  A region that reads and stores twice at its end, whatever the order (JS): what its world is. No program. Conditions: none.
  A row of pairs that is sorted in place, in memory: an element loaded, two that change places. Conditions: none.
-/
import Derived.Test.YthbapflabjogkaaHeapOneM24
import Derived.Test.YthbapflabjogkaaHeapOneM11
import Derived.Test.YthbapflabjogkaaHeapOneM23
import Derived.Test.YthbapflabjogkaaHeapOneM6

namespace Go.Proofs.Ythbapflabjogkaa
open Go
set_option linter.unusedVariables false
set_option linter.unusedSimpArgs false

theorem wpOp_skip {w w' : World} {P : Program} {ops : Array Oper} {Q : Exit → Act → World → Prop} {K : Act → World → Prop} {k : Nat} {o : Oper} {a : Act} (ho : ops[k]? = some o) (hw : Region.wanted o (yielded ops a.tmps) = true) (hr : (execOp a.eval o).run P w = .ok .skip w') (h : K (a.put o.dst undef) w') : wpOp P ops Q k K a w := by
  unfold wpOp
  simp only [ho, hw, if_true, Oper.wp, hr, Oper.upon]
  exact .inl h
theorem run_u {w w' : World} {P : Program} {s : Sem Unit} (h : s.run P w = .ok () w') : (do s; pure Next.skip : Sem Next).run P w = .ok .skip w' := by
  simp [h]
theorem after_done {o : Oper} {L : Array Bool} (ha : ∀ e ∈ o.after.toList, Region.binds .any e = true → L.getD e.on false = true) {k : Nat} (h : (o.after.toList.any fun e => Region.binds .any e && (e.on == k)) = true) : L.getD k true = true := by
  rw [List.any_eq_true] at h
  obtain ⟨e, he, h⟩ := h
  rw [Bool.and_eq_true] at h
  have h2 : e.on = k := by simpa using h.2
  have := ha e he h.1
  rw [h2] at this
  simp only [Array.getD_eq_getD_getElem?] at this ⊢
  cases hq : L[k]? with
  | none => rw [hq] at this; simp at this
  | some x => rw [hq] at this; simpa using this
/-- A frame behind a region: what it was, with the region's slots put. -/
theorem frame_puts {D : List Nat} {A A' : Array Value} (hs : A'.size = A.size) (h : ∀ d x, D.contains d = false → A.getD d undef = x → A'.getD d undef = x) : ∃ f : Nat → Value, A' = D.foldl (fun B d => B.setIfInBounds d (f d)) A := by
  refine ⟨fun d => A'.getD d undef, ?_⟩
  have key : ∀ (D : List Nat) (A : Array Value), A'.size = A.size → (∀ d, D.contains d = false → A'.getD d undef = A.getD d undef) → A' = D.foldl (fun B d => B.setIfInBounds d (A'.getD d undef)) A := by
    intro D
    induction D with
    | nil =>
      intro A hs h
      apply Array.ext hs
      intro k h1 h2
      have := h k rfl
      simpa [Array.getD, h1, h2] using this
    | cons d D ih =>
      intro A hs h
      rw [List.foldl_cons]
      refine ih _ (by simp [hs]) fun k hk => ?_
      by_cases e : k = d
      · subst e
        by_cases hlt : k < A.size
        · simp [Array.getD_eq_getD_getElem?, Array.getElem?_setIfInBounds_self_of_lt hlt]
        · simp [Array.getD, hs, hlt]
      · rw [h k (by simp at hk ⊢; exact ⟨e, hk⟩)]
        simp only [Array.getD_eq_getD_getElem?, Array.getElem?_setIfInBounds_ne (Ne.symm e)]
  exact key D A hs fun d hd => h d _ hd rfl
end Go.Proofs.Ythbapflabjogkaa
namespace Go.Proofs.Ythbapflabjogkaa
open Go
set_option linter.unusedVariables false
set_option linter.unusedSimpArgs false

/-- W0: nothing stored yet; W1: behind the first store (operation s1), both loads (d1, d2) are done then; W2: behind the second one (s2). -/
def JS (W0 W1 W2 : World) (s1 s2 d1 d2 : Nat) (L : Array Bool) (w : World) : Prop :=
  (L.getD s1 true = false ∧ L.getD s2 true = false ∧ w = W0) ∨ (L.getD s1 true = true ∧ L.getD s2 true = false ∧ L.getD d1 true = true ∧ L.getD d2 true = true ∧ w = W1) ∨
    (L.getD s1 true = true ∧ L.getD s2 true = true ∧ L.getD d1 true = true ∧ L.getD d2 true = true ∧ w = W2)
section
variable {W0 W1 W2 w : World} {s1 s2 d1 d2 i : Nat} {L : Array Bool}
theorem getD_set_ne (h : i ≠ s1) : (L.setIfInBounds i true).getD s1 true = L.getD s1 true := by
  simp only [Array.getD_eq_getD_getElem?, Array.getElem?_setIfInBounds_ne h]
theorem getD_set_true (h : L.getD s1 true = true) : (L.setIfInBounds i true).getD s1 true = true := by
  by_cases e : i = s1
  · subst e
    simp only [Array.getD_eq_getD_getElem?]
    by_cases hlt : i < L.size
    · simp [Array.getElem?_setIfInBounds_self_of_lt hlt]
    · simp [hlt]
  · rw [getD_set_ne e, h]
theorem getD_set_self : (L.setIfInBounds i true).getD i true = true := by
  simp only [Array.getD_eq_getD_getElem?]
  by_cases hlt : i < L.size
  · simp [Array.getElem?_setIfInBounds_self_of_lt hlt]
  · simp [hlt]
theorem JS.go (h : JS W0 W1 W2 s1 s2 d1 d2 L w) (h1 : i ≠ s1) (h2 : i ≠ s2) : JS W0 W1 W2 s1 s2 d1 d2 (L.setIfInBounds i true) w := by
  unfold JS at h ⊢
  rw [getD_set_ne h1, getD_set_ne h2]
  rcases h with h | ⟨a, b, c, d, e⟩ | ⟨a, b, c, d, e⟩
  · exact .inl h
  · exact .inr (.inl ⟨a, b, getD_set_true c, getD_set_true d, e⟩)
  · exact .inr (.inr ⟨a, b, getD_set_true c, getD_set_true d, e⟩)
theorem JS.ld1 (h : JS W0 W1 W2 s1 s2 d1 d2 L w) (hl : L.getD d1 true = false) : w = W0 := by
  rcases h with h | ⟨a, b, c, d, e⟩ | ⟨a, b, c, d, e⟩
  · exact h.2.2
  · rw [hl] at c; cases c
  · rw [hl] at c; cases c
theorem JS.ld2 (h : JS W0 W1 W2 s1 s2 d1 d2 L w) (hl : L.getD d2 true = false) : w = W0 := by
  rcases h with h | ⟨a, b, c, d, e⟩ | ⟨a, b, c, d, e⟩
  · exact h.2.2
  · rw [hl] at d; cases d
  · rw [hl] at d; cases d
theorem JS.st1 (h : JS W0 W1 W2 s1 s2 d1 d2 L w) (hl : L.getD s1 true = false) (a1 : L.getD d1 true = true) (a2 : L.getD d2 true = true) (hn : s1 ≠ s2) : w = W0 ∧ JS W0 W1 W2 s1 s2 d1 d2 (L.setIfInBounds s1 true) W1 := by
  rcases h with ⟨a, b, e⟩ | ⟨a, b, c, d, e⟩ | ⟨a, b, c, d, e⟩
  · exact ⟨e, .inr (.inl ⟨getD_set_self, (getD_set_ne hn).trans b, getD_set_true a1, getD_set_true a2, rfl⟩)⟩
  · rw [hl] at a; cases a
  · rw [hl] at a; cases a
theorem JS.st2 (h : JS W0 W1 W2 s1 s2 d1 d2 L w) (hl : L.getD s2 true = false) (a1 : L.getD s1 true = true) : w = W1 ∧ JS W0 W1 W2 s1 s2 d1 d2 (L.setIfInBounds s2 true) W2 := by
  rcases h with ⟨a, b, e⟩ | ⟨a, b, c, d, e⟩ | ⟨a, b, c, d, e⟩
  · rw [a1] at a; cases a
  · exact ⟨e, .inr (.inr ⟨getD_set_true a, getD_set_self, getD_set_true c, getD_set_true d, rfl⟩)⟩
  · rw [hl] at b; cases b
theorem JS.start {n : Nat} (h1 : s1 < n) (h2 : s2 < n) : JS W0 W1 W2 s1 s2 d1 d2 (Array.replicate n false) W0 :=
  .inl ⟨by simp [Array.getD, h1], by simp [Array.getD, h2], rfl⟩
theorem JS.done {n : Nat} (h : JS W0 W1 W2 s1 s2 d1 d2 (Array.replicate n true) w) (h1 : s1 < n) (h2 : s2 < n) : w = W2 := by
  rcases h with ⟨a, b, e⟩ | ⟨a, b, c, d, e⟩ | ⟨a, b, c, d, e⟩
  · simp [Array.getD, h1] at a
  · simp [Array.getD, h2] at b
  · exact e
end
end Go.Proofs.Ythbapflabjogkaa
namespace Go.Proofs.Ythbapflabjogkaa
open Go.ChangeShapes Go.WideShapes Go.ChangeAt Go.RowKit
set_option linter.unusedVariables false
set_option linter.unusedSimpArgs false

section
variable {w : World} {B : Nat} {e : TypeId} {g n c : Nat} {l : List IP}
theorem OW.setPair (h : OW w B e ePair (.slice (some ⟨g, 0, none⟩) n c) l) (k : Nat) (hk : k < l.length) (p : IP) :
    OW ((w.setCell ⟨g, k * 2, none⟩ (.int .i64 p.1)).setCell ⟨g, k * 2 + 1, none⟩ (.int .i64 p.2)) B e ePair (.slice (some ⟨g, 0, none⟩) n c) (l.set k p) := by
  obtain ⟨cur, hbk, hB, hnc, hcm, hcl, htk, hn⟩ := BK.of_ow h
  have hes : ePair.size = 2 := rfl
  rw [hes] at hcl htk
  have hn' : n = (l.set k p).length := by simp [hn]
  have hb2 : BK ((w.setCell ⟨g, k * 2, none⟩ (.int .i64 p.1)).setCell ⟨g, k * 2 + 1, none⟩ (.int .i64 p.2)) g e ((cur.set (k * 2) (.int .i64 p.1)).set (k * 2 + 1) (.int .i64 p.2)) := by
    unfold BK at hbk ⊢
    simp only [World.setCell, Array.getElem?_modify, hbk]
    simp
  rw [hn']
  refine BK.ow (E := ePair) hb2 hB (by omega) hcm (by rw [List.length_set, List.length_set, hcl, hes]) ?_
  have hf := flat_set_pair p l k
  rw [← hf, hes, List.take_set, List.take_set]
  simp only [List.length_set]
  rw [← hn, htk]
theorem OW.pairAt (h : OW w B e ePair (.slice (some ⟨g, 0, none⟩) n c) l) (k : Nat) (hk : k < l.length) :
    w.cell? ⟨g, k * 2, none⟩ = some (.int .i64 l[k].1) ∧ w.cell? ⟨g, k * 2 + 1, none⟩ = some (.int .i64 l[k].2) ∧ w.frozen? ⟨g, k * 2, none⟩ = false ∧ w.frozen? ⟨g, k * 2 + 1, none⟩ = false := by
  obtain ⟨cur, hbk, _, _, _, _, _, hn⟩ := BK.of_ow h
  have h2 := h.cellPair k hk
  subst hn
  obtain ⟨b, o, e1, _, c0, c1⟩ := h.rd.pair hk
  injection e1 with e1
  injection e1 with e2 e3
  subst e2 e3
  refine ⟨by rwa [Nat.zero_add] at c0, h2.1, ?_, h2.2⟩
  unfold BK at hbk
  simp [World.frozen?, hbk]
theorem OW.pairAt? (h : OW w B e ePair (.slice (some ⟨g, 0, none⟩) n c) l) {k : Nat} {x : IP} (hk : l[k]? = some x) :
    w.cell? ⟨g, k * 2, none⟩ = some (.int .i64 x.1) ∧ w.cell? ⟨g, k * 2 + 1, none⟩ = some (.int .i64 x.2) ∧ w.frozen? ⟨g, k * 2, none⟩ = false ∧ w.frozen? ⟨g, k * 2 + 1, none⟩ = false := by
  obtain ⟨hlt, rfl⟩ := List.getElem?_eq_some_iff.1 hk
  exact h.pairAt k hlt
/-- The worlds behind the two stores of a swap. -/
def swW1 (w : World) (g i : Nat) (y : IP) : World := (w.setCell ⟨g, i * 2, none⟩ (.int .i64 y.1)).setCell ⟨g, i * 2 + 1, none⟩ (.int .i64 y.2)
theorem OW.sw (h : OW w B e ePair (.slice (some ⟨g, 0, none⟩) n c) l) {i j : Nat} (hi : i < l.length) (hj : j < l.length) (x y : IP) :
    OW (swW1 (swW1 w g i y) g j x) B e ePair (.slice (some ⟨g, 0, none⟩) n c) ((l.set i y).set j x) :=
  (h.setPair i hi y).setPair j (by simpa using hj) x
theorem OW.swap (h : OW w B e ePair (.slice (some ⟨g, 0, none⟩) n c) l) (i j : Nat) (hi : i < l.length) (hj : j < l.length) :
    OW (swW1 (swW1 w g i l[j]) g j l[i]) B e ePair (.slice (some ⟨g, 0, none⟩) n c) (swapL l i j hi hj) :=
  (h.setPair i hi l[j]).setPair j (by simpa using hj) l[i]
theorem Kf.sw {F : Nat → Prop} {a : World} (h : Kf F a w) (hg : F g) (i : Nat) (y : IP) : Kf F a (swW1 w g i y) := (h.set (p := ⟨g, i * 2, none⟩) (.inl hg)).set (p := ⟨g, i * 2 + 1, none⟩) (.inl hg)
end
end Go.Proofs.Ythbapflabjogkaa
