/-
  Plain laws of zipped trees: which keys they hold; that they are the one tree of their keys. No program. Conditions: none.
-/
import Derived.Test.YtfgbbmjnjppfnaaDoorZRun
namespace Go.Proofs.YtfgbbmjnjppfnaaDoor
open Go.ChangeShapes Go.WideShapes Go.ChangeAt Go.RowKit
set_option linter.unusedVariables false
set_option linter.unusedSimpArgs false

theorem ov_iff (a c : IP) : ov a c = true ↔ (c.2 < a.2 ∨ (a.2 = c.2 ∧ a.1 < c.1)) := by simp [ov]
theorem ov_trans {a b c : IP} (h1 : ov a b = true) (h2 : ov b c = true) : ov a c = true := by
  rw [ov_iff] at *; omega
theorem ov_total {a c : IP} (h : ov a c = false) (hne : a.1 ≠ c.1) : ov c a = true := by
  have h' : ¬ (ov a c = true) := by simp [h]
  rw [ov_iff] at h' ⊢; omega
theorem ov_irr {a c : IP} (h1 : ov a c = true) (h2 : ov c a = true) : False := by
  rw [ov_iff] at *; omega
def nd : MT IP → List IP
  | .nil => []
  | .node a l r => nd l ++ a :: nd r
def Hp : MT IP → Prop
  | .nil => True
  | .node a l r => (∀ x ∈ nd l, ov a x = true) ∧ (∀ x ∈ nd r, ov a x = true) ∧ Hp l ∧ Hp r
def UpN (L : List IP) : Prop := L.Pairwise (fun x y => x.1 < y.1)
theorem upN_node {a : IP} {l r : MT IP} (h : UpN (nd (.node a l r))) : UpN (nd l) ∧ UpN (nd r) ∧ (∀ x ∈ nd l, x.1 < a.1) ∧ (∀ x ∈ nd r, a.1 < x.1) ∧ ∀ x ∈ nd l, ∀ y ∈ nd r, x.1 < y.1 := by
  rw [UpN, nd, List.pairwise_append, List.pairwise_cons] at h
  obtain ⟨h1, ⟨h2, h3⟩, h4⟩ := h
  exact ⟨h1, h3, fun x hx => h4 x hx a (by simp), h2, fun x hx y hy => h4 x hx y (by simp [hy])⟩
theorem fl_all {p : IP → Bool} {l : List IP} (h : ∀ x ∈ l, p x = true) : l.filter p = l := List.filter_eq_self.2 h
theorem fl_no {p : IP → Bool} {l : List IP} (h : ∀ x ∈ l, p x = false) : l.filter p = [] := List.filter_eq_nil_iff.2 fun x hx => by simp [h x hx]
theorem nd_unz : ∀ (t : MT IP) (k : Int), UpN (nd t) → nd (unz t k).1 = (nd t).filter (fun x => decide (x.1 < k)) ∧ nd (unz t k).2 = (nd t).filter (fun x => !decide (x.1 < k))
  | .nil, _, _ => ⟨rfl, rfl⟩
  | .node a l r, k, h => by
    obtain ⟨h1, h2, h3, h4, _⟩ := upN_node h
    unfold unz
    split
    · next hk =>
      obtain ⟨e1, e2⟩ := nd_unz r k h2
      have hl : ∀ x ∈ nd l, x.1 < k := fun x hx => by have := h3 x hx; omega
      constructor
      · simp only [nd, List.filter_append, List.filter_cons, e1]
        rw [fl_all (l := nd l) (p := fun x => decide (x.1 < k)) (fun x hx => by simp [hl x hx])]; simp [hk]
      · simp only [nd, List.filter_append, List.filter_cons, e2]
        rw [fl_no (l := nd l) (p := fun x => !decide (x.1 < k)) (fun x hx => by simp [hl x hx])]; simp [hk]
    · next hk =>
      obtain ⟨e1, e2⟩ := nd_unz l k h1
      have hr : ∀ x ∈ nd r, ¬ x.1 < k := fun x hx => by have := h4 x hx; omega
      constructor
      · simp only [nd, List.filter_append, List.filter_cons, e1]
        rw [fl_no (l := nd r) (p := fun x => decide (x.1 < k)) (fun x hx => by simp [hr x hx])]; simp [hk]
      · simp only [nd, List.filter_append, List.filter_cons, e2]
        rw [fl_all (l := nd r) (p := fun x => !decide (x.1 < k)) (fun x hx => by simp [hr x hx])]; simp [hk]
theorem hp_unz : ∀ (t : MT IP) (k : Int), UpN (nd t) → Hp t → Hp (unz t k).1 ∧ Hp (unz t k).2
  | .nil, _, _, _ => ⟨trivial, trivial⟩
  | .node a l r, k, h, ⟨p1, p2, p3, p4⟩ => by
    obtain ⟨h1, h2, _, _, _⟩ := upN_node h
    unfold unz
    split
    · obtain ⟨e1, e2⟩ := nd_unz r k h2
      obtain ⟨i1, i2⟩ := hp_unz r k h2 p4
      exact ⟨⟨p1, fun x hx => p2 x (by simp only [e1, List.mem_filter] at hx; exact hx.1), p3, i1⟩, i2⟩
    · obtain ⟨e1, e2⟩ := nd_unz l k h1
      obtain ⟨i1, i2⟩ := hp_unz l k h1 p3
      exact ⟨i1, fun x hx => p1 x (by simp only [e2, List.mem_filter] at hx; exact hx.1), p2, i2, p4⟩
theorem nd_zip : ∀ (n : Nat) (t u : MT IP), t.size + u.size ≤ n → nd (zipM t u) = nd t ++ nd u
  | _, .nil, u, _ => by rw [zipM]; rfl
  | _, .node a l r, .nil, _ => by rw [zipM_nil]; simp [nd]
  | 0, .node a l r, .node c x y, h => by simp [MT.size] at h
  | n + 1, .node a l r, .node c x y, h => by
    simp only [MT.size] at h
    have h1 := nd_zip n r (.node c x y) (by simp only [MT.size]; omega)
    have h2 := nd_zip n (.node a l r) x (by simp only [MT.size]; omega)
    rw [zipM_node]
    split
    · simp only [nd] at h1 ⊢; rw [h1]; simp
    · simp only [nd] at h2 ⊢; rw [h2]; simp
theorem hp_zip : ∀ (n : Nat) (t u : MT IP), t.size + u.size ≤ n → Hp t → Hp u → (∀ x ∈ nd t, ∀ y ∈ nd u, x.1 < y.1) → Hp (zipM t u)
  | _, .nil, u, _, _, h, _ => by rw [zipM]; exact h
  | _, .node a l r, .nil, _, h, _, _ => by rw [zipM_nil]; exact h
  | 0, .node a l r, .node c x y, h, _, _, _ => by simp [MT.size] at h
  | n + 1, .node a l r, .node c x y, h, ⟨p1, p2, p3, p4⟩, ⟨q1, q2, q3, q4⟩, hlt => by
    simp only [MT.size] at h
    rw [zipM_node]
    have hac : a.1 < c.1 := hlt a (by simp [nd]) c (by simp [nd])
    split
    · next ho =>
      refine ⟨p1, fun z hz => ?_, p3, hp_zip n r (.node c x y) (by simp only [MT.size]; omega) p4 ⟨q1, q2, q3, q4⟩ (fun z hz w hw => hlt z (by simp [nd, hz]) w hw)⟩
      rw [nd_zip _ r (.node c x y) (Nat.le_refl _)] at hz
      rcases List.mem_append.1 hz with hz | hz
      · exact p2 z hz
      · simp only [nd, List.mem_append, List.mem_cons] at hz
        rcases hz with hz | hz | hz
        · exact ov_trans ho (q1 z hz)
        · rw [hz]; exact ho
        · exact ov_trans ho (q2 z hz)
    · next ho =>
      have hca : ov c a = true := ov_total (by simpa using ho) (by omega)
      refine ⟨fun z hz => ?_, q2, hp_zip n (.node a l r) x (by simp only [MT.size]; omega) ⟨p1, p2, p3, p4⟩ q3 (fun z hz w hw => hlt z hz w (by simp [nd, hw])), q4⟩
      rw [nd_zip _ (.node a l r) x (Nat.le_refl _)] at hz
      rcases List.mem_append.1 hz with hz | hz
      · simp only [nd, List.mem_append, List.mem_cons] at hz
        rcases hz with hz | hz | hz
        · exact ov_trans hca (p1 z hz)
        · rw [hz]; exact hca
        · exact ov_trans hca (p2 z hz)
      · exact q1 z hz
def ndIns (L : List IP) (p : IP) : List IP := L.filter (fun x => decide (x.1 < p.1)) ++ p :: L.filter (fun x => decide (p.1 < x.1))
theorem ndIns_mem {L : List IP} {p x : IP} (h : x ∈ ndIns L p) : x = p ∨ x ∈ L := by
  simp only [ndIns, List.mem_append, List.mem_cons, List.mem_filter] at h
  rcases h with h | h | h
  · exact .inr h.1
  · exact .inl h
  · exact .inr h.1
theorem nd_put : ∀ (t : MT IP) (p : IP), UpN (nd t) → Hp t → (∀ x ∈ nd t, x.1 = p.1 → x = p) → nd (putM t p) = ndIns (nd t) p ∧ Hp (putM t p)
  | .nil, p, _, _, _ => ⟨rfl, by simp [putM, Hp, nd]⟩
  | .node a l r, p, h, ⟨p1, p2, p3, p4⟩, hk => by
    obtain ⟨h1, h2, h3, h4, _⟩ := upN_node h
    unfold putM
    split
    · next ho =>
      have hne : ¬ p.1 = a.1 := fun e => by
        have := hk a (by simp [nd]) e.symm
        rw [this] at ho; exact ov_irr ho ho
      rw [if_neg hne]
      split
      · next hlt =>
        obtain ⟨i1, i2⟩ := nd_put l p h1 p3 (fun x hx => hk x (by simp [nd, hx]))
        refine ⟨?_, fun x hx => ?_, p2, i2, p4⟩
        · simp only [nd, ndIns, List.filter_append, List.filter_cons] at i1 ⊢
          rw [i1, fl_no (l := nd r) (p := fun x => decide (x.1 < p.1)) (fun x hx => by have := h4 x hx; simp; omega), fl_all (l := nd r) (p := fun x => decide (p.1 < x.1)) (fun x hx => by have := h4 x hx; simp; omega)]
          simp [hlt, show ¬ a.1 < p.1 by omega]
        · rw [i1] at hx
          rcases ndIns_mem hx with e | hx
          · rw [e]; exact ho
          · exact p1 x hx
      · next hlt =>
        obtain ⟨i1, i2⟩ := nd_put r p h2 p4 (fun x hx => hk x (by simp [nd, hx]))
        refine ⟨?_, p1, fun x hx => ?_, p3, i2⟩
        · simp only [nd, ndIns, List.filter_append, List.filter_cons] at i1 ⊢
          rw [i1, fl_all (l := nd l) (p := fun x => decide (x.1 < p.1)) (fun x hx => by have := h3 x hx; simp; omega), fl_no (l := nd l) (p := fun x => decide (p.1 < x.1)) (fun x hx => by have := h3 x hx; simp; omega)]
          simp [show a.1 < p.1 by omega, show ¬ p.1 < a.1 by omega]
        · rw [i1] at hx
          rcases ndIns_mem hx with e | hx
          · rw [e]; exact ho
          · exact p2 x hx
    · next ho =>
      split
      · next he =>
        have e : a = p := hk a (by simp [nd]) he
        subst e
        refine ⟨?_, p1, p2, p3, p4⟩
        simp only [nd, ndIns, List.filter_append, List.filter_cons]
        rw [fl_all (l := nd l) (p := fun x => decide (x.1 < a.1)) (fun x hx => by have := h3 x hx; simp; omega), fl_no (l := nd l) (p := fun x => decide (a.1 < x.1)) (fun x hx => by have := h3 x hx; simp; omega), fl_no (l := nd r) (p := fun x => decide (x.1 < a.1)) (fun x hx => by have := h4 x hx; simp; omega), fl_all (l := nd r) (p := fun x => decide (a.1 < x.1)) (fun x hx => by have := h4 x hx; simp; omega)]
        simp
      · next he =>
        have hpa : ov p a = true := ov_total (by simpa using ho) he
        have hall : ∀ x ∈ nd (.node a l r), ov p x = true := fun x hx => by
          simp only [nd, List.mem_append, List.mem_cons] at hx
          rcases hx with hx | hx | hx
          · exact ov_trans hpa (p1 x hx)
          · rw [hx]; exact hpa
          · exact ov_trans hpa (p2 x hx)
        have hnk : ∀ x ∈ nd (.node a l r), x.1 ≠ p.1 := fun x hx e => by
          have e2 := hk x hx e
          have h9 := hall x hx
          rw [e2] at h9; exact ov_irr h9 h9
        obtain ⟨e1, e2⟩ := nd_unz (.node a l r) p.1 h
        obtain ⟨i1, i2⟩ := hp_unz (.node a l r) p.1 h ⟨p1, p2, p3, p4⟩
        refine ⟨?_, fun x hx => ?_, fun x hx => ?_, i1, i2⟩
        · rw [nd, e1, e2, ndIns]
          congr 2
          apply List.filter_congr
          intro x hx
          have := hnk x hx
          rw [Bool.eq_iff_iff]; simp; omega
        · rw [e1] at hx; exact hall x (List.mem_filter.1 hx).1
        · rw [e2] at hx; exact hall x (List.mem_filter.1 hx).1
theorem nd_cut : ∀ (t : MT IP) (k : Int), UpN (nd t) → Hp t → nd (cutM t k) = (nd t).filter (fun x => !(x.1 == k)) ∧ Hp (cutM t k)
  | .nil, _, _, _ => ⟨rfl, trivial⟩
  | .node a l r, k, h, ⟨p1, p2, p3, p4⟩ => by
    obtain ⟨h1, h2, h3, h4, h5⟩ := upN_node h
    unfold cutM
    split
    · next hk =>
      obtain ⟨i1, i2⟩ := nd_cut l k h1 p3
      refine ⟨?_, fun x hx => p1 x ?_, p2, i2, p4⟩
      · simp only [nd, List.filter_append, List.filter_cons, i1]
        rw [fl_all (l := nd r) (p := fun x => !(x.1 == k)) (fun x hx => by have := h4 x hx; simp; omega)]
        simp [show ¬ a.1 = k by omega]
      · rw [i1] at hx; exact (List.mem_filter.1 hx).1
    · split
      · next hk =>
        obtain ⟨i1, i2⟩ := nd_cut r k h2 p4
        refine ⟨?_, p1, fun x hx => p2 x ?_, p3, i2⟩
        · simp only [nd, List.filter_append, List.filter_cons, i1]
          rw [fl_all (l := nd l) (p := fun x => !(x.1 == k)) (fun x hx => by have := h3 x hx; simp; omega)]
          simp [show ¬ a.1 = k by omega]
        · rw [i1] at hx; exact (List.mem_filter.1 hx).1
      · next hk1 hk2 =>
        have e : a.1 = k := by omega
        refine ⟨?_, hp_zip _ l r (Nat.le_refl _) p3 p4 h5⟩
        rw [nd_zip _ l r (Nat.le_refl _)]
        simp only [nd, List.filter_append, List.filter_cons]
        rw [fl_all (l := nd l) (p := fun x => !(x.1 == k)) (fun x hx => by have := h3 x hx; simp; omega), fl_all (l := nd r) (p := fun x => !(x.1 == k)) (fun x hx => by have := h4 x hx; simp; omega)]
        simp [e]
theorem split_at {a : IP} : ∀ {l1 r1 l2 r2 : List IP}, l1 ++ a :: r1 = l2 ++ a :: r2 → a ∉ l1 → a ∉ l2 → l1 = l2 ∧ r1 = r2
  | [], r1, [], r2, h, _, _ => by simp at h; exact ⟨rfl, h⟩
  | [], r1, y :: l2, r2, h, _, h2 => by
    simp only [List.nil_append, List.cons_append, List.cons.injEq] at h
    exact absurd (by simp [h.1]) h2
  | x :: l1, r1, [], r2, h, h1, _ => by
    simp only [List.nil_append, List.cons_append, List.cons.injEq] at h
    exact absurd (by simp [h.1]) h1
  | x :: l1, r1, y :: l2, r2, h, h1, h2 => by
    simp only [List.cons_append, List.cons.injEq] at h
    obtain ⟨e1, e2⟩ := split_at h.2 (fun hx => h1 (by simp [hx])) (fun hx => h2 (by simp [hx]))
    exact ⟨by rw [h.1, e1], e2⟩
/-- There is just one. -/
theorem hp_one : ∀ (t u : MT IP), nd t = nd u → Hp t → Hp u → UpN (nd t) → t = u
  | .nil, .nil, _, _, _, _ => rfl
  | .nil, .node c x y, h, _, _, _ => by simp [nd] at h
  | .node a l r, .nil, h, _, _, _ => by simp [nd] at h
  | .node a l r, .node c x y, h, ⟨p1, p2, p3, p4⟩, ⟨q1, q2, q3, q4⟩, hu => by
    have hu2 : UpN (nd (.node c x y)) := by rw [← h]; exact hu
    obtain ⟨u1, u2, u3, u4, _⟩ := upN_node hu
    obtain ⟨v1, v2, v3, v4, _⟩ := upN_node hu2
    have e : a = c := by
      have ha : a ∈ nd (.node c x y) := by rw [← h]; simp [nd]
      have hc : c ∈ nd (.node a l r) := by rw [h]; simp [nd]
      simp only [nd, List.mem_append, List.mem_cons] at ha hc
      rcases ha with ha | ha | ha
      · rcases hc with hc | hc | hc
        · exact absurd (q1 a ha) (fun h9 => ov_irr h9 (p1 c hc))
        · exact hc.symm
        · exact absurd (q1 a ha) (fun h9 => ov_irr h9 (p2 c hc))
      · exact ha
      · rcases hc with hc | hc | hc
        · exact absurd (q2 a ha) (fun h9 => ov_irr h9 (p1 c hc))
        · exact hc.symm
        · exact absurd (q2 a ha) (fun h9 => ov_irr h9 (p2 c hc))
    subst e
    obtain ⟨e1, e2⟩ := split_at (a := a) (show nd l ++ a :: nd r = nd x ++ a :: nd y from h) (fun hx => by have := u3 a hx; omega) (fun hx => by have := v3 a hx; omega)
    rw [hp_one l x e1 p3 q3 u1, hp_one r y e2 p4 q4 u2]
end Go.Proofs.YtfgbbmjnjppfnaaDoor
