/-
  When all deeds are done there is an order of them, each within its time, by which a set answers the same. Conditions: as each theorem says.
  What a step leaves of the other hands; the locks and whose they are. Conditions: as each theorem says.
  Those that look twice: what holds at each time; each step answers as a set does. Conditions: as each theorem says.
  Those that mark: what holds at each time; each step answers as a set does. Conditions: as each theorem says.
  Those that go hand over hand: what holds at each time; each step answers as a set does. Conditions: as each theorem says.
  Whoever steps in rounds ends, if each round costs as much as it has steps. Conditions: as each theorem says.
  The three ways that are sound: what holds is kept by each step; what a step costs. Conditions: as each theorem says.
-/
import Derived.Test.YtoihdnekkgpcoaaG1

namespace Go.Proofs.Ytoihdnekkgpcoaa
set_option linter.unusedVariables false
set_option linter.unusedSimpArgs false

/-- The set behind a deed. -/
def nextP (d : Dd) (A : Int → Prop) : Int → Prop := fun x => if x = d.key ∧ d.kind ≠ 3 then d.kind = 1 else A x
/-- One behind the other: each answers as the set does. -/
def R1 (D : Nat → Nat → Dd) : List (Nat × Nat × Dn) → (Int → Prop) → (Int → Prop) → Prop
  | [], A, B => ∀ k, A k ↔ B k
  | x :: l, A, B => (A (D x.1 x.2.1).key ↔ x.2.2.is = decide ((D x.1 x.2.1).kind ≠ 1)) ∧ R1 D l (nextP (D x.1 x.2.1) A) B
theorem R1.congr {D : Nat → Nat → Dd} : ∀ {l : List (Nat × Nat × Dn)} {A A' B : Int → Prop}, (∀ x, A x ↔ A' x) → R1 D l A B → R1 D l A' B := by
  intro l
  induction l with
  | nil => intro A A' B h r k; rw [← h k]; exact r k
  | cons x l ih =>
    intro A A' B h r
    refine ⟨by rw [← h]; exact r.1, ih (fun y => ?_) r.2⟩
    unfold nextP; split
    · exact Iff.rfl
    · exact h y
theorem R1.app {D : Nat → Nat → Dd} {l2 : List (Nat × Nat × Dn)} {B C : Int → Prop} (r2 : R1 D l2 B C) : ∀ {l : List (Nat × Nat × Dn)} {A : Int → Prop}, R1 D l A B → R1 D (l ++ l2) A C := by
  intro l
  induction l with
  | nil => intro A r; exact r2.congr (fun x => (r x).symm)
  | cons x l ih => intro A r; exact ⟨r.1, ih r.2⟩
/-- All that is told, by hands. -/
def doneL (s : St) (nh : Nat) : List (Nat × Nat × Dn) := (List.range nh).flatMap fun i => (s.told i).mapIdx (fun e r => (i, e, r))
theorem mem_doneL {s : St} {nh : Nat} {x : Nat × Nat × Dn} : x ∈ doneL s nh ↔ x.1 < nh ∧ (s.told x.1)[x.2.1]? = some x.2.2 := by
  unfold doneL
  rw [List.mem_flatMap]
  constructor
  · rintro ⟨i, hi, hx⟩
    rw [List.mem_mapIdx] at hx
    obtain ⟨e, he, rfl⟩ := hx
    exact ⟨List.mem_range.1 hi, List.getElem?_eq_getElem he⟩
  · rintro ⟨h1, h2⟩
    refine ⟨x.1, List.mem_range.2 h1, ?_⟩
    rw [List.mem_mapIdx]
    obtain ⟨he, h3⟩ := List.getElem?_eq_some_iff.1 h2
    exact ⟨x.2.1, he, by rw [h3]⟩
theorem doneL_nodup (s : St) (nh : Nat) : (doneL s nh).Nodup := by
  unfold doneL List.Nodup
  rw [List.pairwise_flatMap]
  constructor
  · intro i _
    rw [List.pairwise_iff_getElem]
    intro a b ha hb hab e
    simp only [List.getElem_mapIdx] at e
    have := congrArg (fun x => x.2.1) e
    simp only at this
    omega
  · rw [List.pairwise_iff_getElem]
    intro a b ha hb hab x hx y hy e
    simp only [List.getElem_range] at hx hy
    rw [List.mem_mapIdx] at hx hy
    obtain ⟨_, _, rfl⟩ := hx
    obtain ⟨_, _, rfl⟩ := hy
    have := congrArg (fun x => x.1) e
    simp only at this
    omega
theorem filter_lt_succ {α : Type} (f : α → Nat) (n : Nat) : ∀ l : List α, (l.filter (fun x => decide (f x < n)) ++ l.filter (fun x => f x == n)).Perm (l.filter (fun x => decide (f x < n + 1))) := by
  intro l
  induction l with
  | nil => exact .refl _
  | cons x l ih =>
    rcases Nat.lt_trichotomy (f x) n with h | h | h
    · have h1 : ¬ f x = n := by omega
      have h2 : f x < n + 1 := by omega
      simp only [List.filter_cons, h, h1, h2, decide_true, if_true, beq_iff_eq, if_false, List.cons_append]
      exact ih.cons x
    · have h1 : ¬ f x < n := by omega
      have h2 : f x < n + 1 := by omega
      simp only [List.filter_cons, h, h1, h2, decide_true, if_true, beq_self_eq_true, decide_false, Bool.false_eq_true, if_false]
      simp only [show ¬ n < n from by omega, show n < n + 1 by omega, decide_false, decide_true, Bool.false_eq_true, if_false, if_true]
      exact List.perm_middle.trans (ih.cons x)
    · have h1 : ¬ f x < n := by omega
      have h2 : ¬ f x < n + 1 := by omega
      have h3 : ¬ f x = n := by omega
      simp only [List.filter_cons, h1, h2, h3, decide_false, Bool.false_eq_true, beq_iff_eq, if_false]
      exact ih
/-- By their places. -/
def byPos {α : Type} (f : α → Nat) (l : List α) (n : Nat) : List α := (List.range n).flatMap (fun q => l.filter (fun x => f x == q))
theorem byPos_succ {α : Type} (f : α → Nat) (l : List α) (n : Nat) : byPos f l (n + 1) = byPos f l n ++ l.filter (fun x => f x == n) := by
  simp [byPos, List.range_succ]
theorem byPos_perm {α : Type} (f : α → Nat) (l : List α) : ∀ n, (byPos f l n).Perm (l.filter (fun x => decide (f x < n))) := by
  intro n
  induction n with
  | zero => simp [byPos]
  | succ n ih =>
    rw [byPos_succ]
    exact (ih.append_right _).trans (filter_lt_succ f n l)
theorem byPos_mem {α : Type} {f : α → Nat} {l : List α} {n : Nat} {x : α} : x ∈ byPos f l n ↔ x ∈ l ∧ f x < n := by
  rw [(byPos_perm f l n).mem_iff, List.mem_filter]
  simp
theorem byPos_sorted {α : Type} (f : α → Nat) (l : List α) : ∀ n, (byPos f l n).Pairwise (fun x y => f x ≤ f y) := by
  intro n
  induction n with
  | zero => simp [byPos]
  | succ n ih =>
    rw [byPos_succ, List.pairwise_append]
    refine ⟨ih, ?_, ?_⟩
    · rw [List.pairwise_iff_getElem]
      intro a b ha hb hab
      have h1 := (List.mem_filter.1 (List.getElem_mem ha)).2
      have h2 := (List.mem_filter.1 (List.getElem_mem hb)).2
      rw [beq_iff_eq] at h1 h2
      omega
    · intro x hx y hy
      have h1 := (byPos_mem.1 hx).2
      have h2 := (List.mem_filter.1 hy).2
      rw [beq_iff_eq] at h2
      omega
theorem nodup_one {α : Type} : ∀ {l : List α}, l.Nodup → (∀ x ∈ l, ∀ y ∈ l, x = y) → l = [] ∨ ∃ x, l = [x] := by
  intro l h1 h2
  rcases l with _ | ⟨x, _ | ⟨y, l⟩⟩
  · exact Or.inl rfl
  · exact Or.inr ⟨x, rfl⟩
  · have := h2 x (by simp) y (by simp)
    subst this
    simp at h1

theorem LI.order {alg nh : Nat} {D : Nat → Nat → Dd} {S : Nat → Int → Prop} {pos : Nat → Nat → Nat} {s : St} (h : LI alg nh D S pos s)
    (hd : ∀ i, i < nh → (s.told i).length = s.deed i) (hk : ∀ i e, i < nh → e < s.deed i → (D i e).kind = 1 ∨ (D i e).kind = 2 ∨ (D i e).kind = 3) :
    ∃ L, List.Perm L (doneL s nh) ∧ R1 D L (S 0) (InS s.m) ∧ L.Pairwise (fun x y => (x.2.2.bgn : Int) ≤ y.2.2.fin) ∧ ∀ x ∈ L, (x.2.2.bgn : Int) ≤ x.2.2.fin := by
  obtain ⟨f, hf⟩ : ∃ f : Nat × Nat × Dn → Nat, f = fun x => pos x.1 x.2.1 := ⟨_, rfl⟩
  have fx : ∀ x, f x = pos x.1 x.2.1 := by intro x; rw [hf]
  have inD : ∀ x, x ∈ doneL s nh → x.1 < nh ∧ x.2.1 < s.deed x.1 ∧ Ok1 S (D x.1 x.2.1) x.2.2 (f x) ∧ (x.2.2.bgn : Int) ≤ x.2.2.fin ∧ f x < 2 * s.now := by
    intro x hx
    obtain ⟨h1, h2⟩ := mem_doneL.1 hx
    have h3 : x.2.1 < s.deed x.1 := by
      obtain ⟨he, _⟩ := List.getElem?_eq_some_iff.1 h2
      rw [hd _ h1] at he; exact he
    obtain ⟨a, b, _⟩ := h.dn x.1 x.2.1 x.2.2 h3 h2
    refine ⟨h1, h3, by rw [fx]; exact a, b, by rw [fx]; exact h.lt _ _ (Or.inl h3)⟩
  refine ⟨byPos f (doneL s nh) (2 * s.now), ?_, ?_, ?_, ?_⟩
  · refine (byPos_perm f _ _).trans ?_
    rw [List.filter_eq_self.2]
    intro x hx
    exact decide_eq_true (inD x hx).2.2.2.2
  · -- the set goes along
    have go : ∀ q, q ≤ 2 * s.now → R1 D (byPos f (doneL s nh) q) (S 0) (S (q / 2)) := by
      intro q
      induction q with
      | zero => intro _ k; exact Iff.rfl
      | succ q ih =>
        intro hq
        rw [byPos_succ]
        refine R1.app ?_ (ih (by omega))
        rcases Nat.mod_two_eq_zero_or_one q with e | e
        · obtain ⟨t, rfl⟩ : ∃ t, q = 2 * t := ⟨q / 2, by omega⟩
          rw [show 2 * t / 2 = t by omega, show (2 * t + 1) / 2 = t by omega]
          have go2 : ∀ l : List (Nat × Nat × Dn), (∀ x ∈ l, x ∈ doneL s nh ∧ f x = 2 * t) → R1 D l (S t) (S t) := by
            intro l
            induction l with
            | nil => intro _ k; exact Iff.rfl
            | cons x l ih2 =>
              intro hl
              obtain ⟨hx, e1⟩ := hl x (by simp)
              obtain ⟨a1, a2, ⟨_, _, a3⟩, _, _⟩ := inD x hx
              rcases a3 with ⟨_, _, t', e2, _⟩ | ⟨b1, t', e2, b2⟩
              · omega
              · have et : t' = t := by omega
                subst et
                refine ⟨b2, (ih2 (fun y hy => hl y (List.mem_cons_of_mem _ hy))).congr (fun y => ?_)⟩
                unfold nextP
                split
                · rename_i hc
                  obtain ⟨rfl, hc⟩ := hc
                  have hi : x.2.2.is = false := by cases hh : x.2.2.is with | false => rfl | true => exact absurd ⟨hh, hc⟩ b1
                  rw [b2, hi]
                  rcases hk _ _ a1 a2 with h1 | h1 | h1
                  · simp [h1]
                  · simp [h1]
                  · exact absurd h1 hc
                · exact Iff.rfl
          exact go2 _ (fun x hx => ⟨(List.mem_filter.1 hx).1, by simpa using (List.mem_filter.1 hx).2⟩)
        · obtain ⟨t, rfl⟩ : ∃ t, q = 2 * t + 1 := ⟨q / 2, by omega⟩
          rw [show (2 * t + 1) / 2 = t by omega, show (2 * t + 1 + 1) / 2 = t + 1 by omega]
          have hF : ∀ x ∈ (doneL s nh).filter (fun x => f x == 2 * t + 1), x ∈ doneL s nh ∧ f x = 2 * t + 1 := fun x hx => ⟨(List.mem_filter.1 hx).1, by simpa using (List.mem_filter.1 hx).2⟩
          rcases nodup_one ((doneL_nodup s nh).filter _) (fun x hx y hy => by
            obtain ⟨x1, x2⟩ := hF x hx
            obtain ⟨y1, y2⟩ := hF y hy
            rw [fx] at x2 y2
            obtain ⟨e1, e2⟩ := h.unq t x.1 x.2.1 y.1 y.2.1 (Or.inl (inD x x1).2.1) (Or.inl (inD y y1).2.1) x2 y2
            have g1 := (mem_doneL.1 x1).2
            have g2 := (mem_doneL.1 y1).2
            rw [e1, e2, g2] at g1
            injection g1 with g1
            exact Prod.ext e1 (Prod.ext e2 g1.symm)) with e0 | ⟨x, e0⟩
          · rw [e0]
            rcases h.acc t (by omega) with a | ⟨i, e', hi, hp, ha⟩
            · intro k; exact (a k).symm
            · exfalso
              have he' : e' < s.deed i := by
                rcases ha with ha | ⟨_, ha⟩
                · exact ha
                · have := (h.pn i ha).1; rw [hd i hi] at this; omega
              have hl : e' < (s.told i).length := by rw [hd i hi]; exact he'
              have : (i, e', (s.told i)[e']) ∈ (doneL s nh).filter (fun x => f x == 2 * t + 1) := by
                rw [List.mem_filter]
                refine ⟨mem_doneL.2 ⟨hi, List.getElem?_eq_getElem hl⟩, ?_⟩
                rw [beq_iff_eq, fx]; exact hp
              rw [e0] at this
              exact absurd this (by simp)
          · rw [e0]
            obtain ⟨x1, x2⟩ := hF x (by rw [e0]; simp)
            obtain ⟨a1, a2, ⟨_, _, a3⟩, _, _⟩ := inD x x1
            rcases a3 with ⟨b1, b2, t', e2, b3, b4⟩ | ⟨_, t', e2, _⟩
            · have et : t' = t := by omega
              subst et
              refine ⟨?_, ?_⟩
              · rw [b3, b1]
                rcases hk _ _ a1 a2 with h1 | h1 | h1
                · simp [h1]
                · simp [h1]
                · exact absurd h1 b2
              · intro k
                rw [b4 k]
                unfold nextP
                by_cases ek : k = (D x.1 x.2.1).key
                · rw [if_pos ⟨ek, b2⟩, if_pos ek]
                · rw [if_neg (fun hh => ek hh.1), if_neg ek]
            · omega
    have h1 := go (2 * s.now) (Nat.le_refl _)
    rw [show 2 * s.now / 2 = s.now by omega] at h1
    have h2 : R1 D [] (S s.now) (InS s.m) := h.cur
    have := R1.app h2 h1
    rwa [List.append_nil] at this
  · refine (byPos_sorted f (doneL s nh) (2 * s.now)).imp_of_mem ?_
    intro x y hx hy hxy
    obtain ⟨_, _, ⟨a1, _, _⟩, _, _⟩ := inD x (byPos_mem.1 hx).1
    obtain ⟨_, _, ⟨_, b2, _⟩, _, _⟩ := inD y (byPos_mem.1 hy).1
    omega
  · intro x hx
    exact (inD x (byPos_mem.1 hx).1).2.2.2.1
end Go.Proofs.Ytoihdnekkgpcoaa
namespace Go.Proofs.Ytoihdnekkgpcoaa
set_option linter.unusedVariables false
set_option linter.unusedSimpArgs false

/-- Was the key of hand j's deed not there, at some time since the deed began? -/
def absn (D : Nat → Nat → Dd) (S : Nat → Int → Prop) (s : St) (j : Nat) : Prop := ∃ t, bgnO s j ≤ t ∧ t ≤ s.now ∧ ¬ S t (D j (s.deed j)).key
/-- What holds of each hand. -/
def HInv (D : Nat → Nat → Dd) (Q : Mm → Hd → Dd → Prop → Prop) (S : Nat → Int → Prop) (s : St) : Prop :=
  ∀ j, Q s.m (s.hd j) (D j (s.deed j)) (absn D S s j) ∧ ((s.hd j).plc ≠ 0 → (s.told j).length = s.deed j + 1)
theorem stp_view {alg nh : Nat} {D : Nat → Nat → Dd} {S : Nat → Int → Prop} {pos : Nat → Nat → Nat} {s : St} (h : LI alg nh D S pos s) (i : Nat) (d : Dd) :
    (stp alg d s i).m = (algS alg s.m (s.hd i) d).1 ∧ (stp alg d s i).now = s.now + 1 ∧ bgnO s i ≤ s.now ∧
    (∀ j, j ≠ i → (stp alg d s i).hd j = s.hd j ∧ (stp alg d s i).deed j = s.deed j ∧ (stp alg d s i).told j = s.told j) ∧
    ((algS alg s.m (s.hd i) d).2.2 = true → (stp alg d s i).hd i = hd0 ∧ (stp alg d s i).deed i = s.deed i + 1) ∧
    ((algS alg s.m (s.hd i) d).2.2 = false → (stp alg d s i).hd i = (algS alg s.m (s.hd i) d).2.1 ∧ (stp alg d s i).deed i = s.deed i ∧ bgnO (stp alg d s i) i = bgnO s i ∧ ((stp alg d s i).told i).length = s.deed i + 1) := by
  have hlB := toldB_len (h.len i)
  obtain ⟨hB, hbn⟩ := toldB_at (h.len i) (h.bg i)
  obtain ⟨r, hr⟩ : ∃ r, r = algS alg s.m (s.hd i) d := ⟨_, rfl⟩
  have ho : stp alg d s i = if r.2.2 then
    { m := r.1, hd := up s.hd i hd0, deed := up s.deed i (s.deed i + 1), told := up s.told i (toldE (toldB s i) (s.deed i) s.now r.2.1.is), now := s.now + 1 }
    else { m := r.1, hd := up s.hd i r.2.1, deed := s.deed, told := up s.told i (toldB s i), now := s.now + 1 } := by rw [hr]; rfl
  rw [← hr, ho]
  cases hov : r.2.2 with
  | true =>
    refine ⟨rfl, rfl, hbn, fun j hj => ⟨up_ne _ _ hj, up_ne _ _ hj, up_ne _ _ hj⟩, fun _ => ⟨up_same _ _ _, up_same _ _ _⟩, fun e => absurd e (by simp)⟩
  | false =>
    refine ⟨rfl, rfl, hbn, fun j hj => ⟨up_ne _ _ hj, rfl, up_ne _ _ hj⟩, fun e => absurd e (by simp), fun _ => ⟨up_same _ _ _, rfl, ?_, ?_⟩⟩
    · simp only [Bool.false_eq_true, if_false]
      rw [bgnO]
      simp only [up_same]
      rw [if_neg (by omega), hB]
    · simp only [Bool.false_eq_true, if_false, up_same]; exact hlB
theorem HInv.step {alg nh : Nat} {D : Nat → Nat → Dd} {Q : Mm → Hd → Dd → Prop → Prop} {S S' : Nat → Int → Prop} {pos : Nat → Nat → Nat} {s : St} (h : LI alg nh D S pos s) (hq : HInv D Q S s) (i : Nat) (r : Mm × Hd × Bool) (hr : r = algS alg s.m (s.hd i) (D i (s.deed i)))
    (hS : ∀ t, t ≤ s.now → ∀ x, S' t x ↔ S t x) (hn : ∀ x, S' (s.now + 1) x ↔ InS r.1 x)
    (h0 : ∀ m d A, Q m hd0 d A) (h00 : ∀ m m' h d A A', h.plc = 0 → Q m h d A → Q m' h d A')
    (ho : ∀ j, j ≠ i → ∀ A A' : Prop, (s.hd j).plc ≠ 0 → (A → A') → (¬ InS r.1 (D j (s.deed j)).key → A') → Q s.m (s.hd j) (D j (s.deed j)) A → Q r.1 (s.hd j) (D j (s.deed j)) A')
    (hs : r.2.2 = false → ∀ A' : Prop, (absn D S s i → A') → (¬ InS s.m (D i (s.deed i)).key → A') → Q r.1 r.2.1 (D i (s.deed i)) A') :
    HInv D Q S' (stp alg (D i (s.deed i)) s i) := by
  obtain ⟨v1, v2, v3, v4, v5, v6⟩ := stp_view h i (D i (s.deed i))
  rw [← hr] at v1 v5 v6
  obtain ⟨s', hs'⟩ : ∃ s', s' = stp alg (D i (s.deed i)) s i := ⟨_, rfl⟩
  rw [← hs'] at v1 v2 v4 v5 v6 ⊢
  intro j
  by_cases hj : j = i
  · subst hj
    cases hov : r.2.2 with
    | true =>
      obtain ⟨w1, w2⟩ := v5 hov
      rw [w1]
      exact ⟨h0 _ _ _, fun e => absurd rfl e⟩
    | false =>
      obtain ⟨w1, w2, w3, w4⟩ := v6 hov
      rw [w1, w2, v1]
      refine ⟨hs hov _ ?_ ?_, fun _ => w4⟩
      · rintro ⟨t, t1, t2, t3⟩
        exact ⟨t, by rw [w3]; exact t1, by omega, by rw [w2, hS t t2]; exact t3⟩
      · intro hx
        exact ⟨s.now, by rw [w3]; exact v3, by omega, by rw [w2, hS _ (Nat.le_refl _), h.cur]; exact hx⟩
  · obtain ⟨w1, w2, w3⟩ := v4 j hj
    rw [w1, w2, w3, v1]
    refine ⟨?_, (hq j).2⟩
    by_cases hp : (s.hd j).plc = 0
    · exact h00 _ _ _ _ _ _ hp (hq j).1
    · have hl := (hq j).2 hp
      have hb : bgnO s' j = bgnO s j := by
        unfold bgnO; rw [w2, w3, if_neg (by omega), if_neg (by omega)]
      have hb2 : bgnO s j < s.now := by
        unfold bgnO
        rw [if_neg (by omega), List.getElem?_eq_getElem (by omega)]
        exact (h.bg j _ (List.getElem?_eq_getElem (by omega))).1
      refine ho j hj _ _ hp ?_ ?_ (hq j).1
      · rintro ⟨t, t1, t2, t3⟩
        exact ⟨t, by rw [hb]; exact t1, by omega, by rw [w2, hS t t2]; exact t3⟩
      · intro hx
        exact ⟨s.now + 1, by rw [hb]; omega, by omega, by rw [w2, hn]; exact hx⟩
/-- Bead x is locked by a hand: by its first bead from place a on, by its second one from place b on. -/
def ow (a b : Nat) (h : Hd) (x : Nat) : Prop := (a ≤ h.plc ∧ x = h.p) ∨ (b ≤ h.plc ∧ x = h.c)
/-- Each lock is that of one hand. -/
structure LkI (a b nh : Nat) (m : Mm) (hd : Nat → Hd) : Prop where
  dis : ∀ i j x, ow a b (hd i) x → ow a b (hd j) x → i = j
  lks : ∀ i x, ow a b (hd i) x → m.lk x = true
  all : ∀ x, m.lk x = true → ∃ i, i < nh ∧ ow a b (hd i) x
theorem LkI.step {a b nh : Nat} {m m' : Mm} {hd : Nat → Hd} (h : LkI a b nh m hd) (i : Nat) (hi : i < nh) (h' : Hd) (h1 : ∀ x, m'.lk x = true ↔ (m.lk x = true ∧ ¬ ow a b (hd i) x) ∨ ow a b h' x) (h2 : ∀ x, ow a b h' x → ow a b (hd i) x ∨ m.lk x = false) : LkI a b nh m' (up hd i h') := by
  have e1 : up hd i h' i = h' := up_same _ _ _
  have e2 : ∀ j, j ≠ i → up hd i h' j = hd j := fun j hj => up_ne _ _ hj
  refine ⟨?_, ?_, ?_⟩
  · intro j k x hj hk
    by_cases ej : j = i
    · by_cases ek : k = i
      · omega
      · subst ej
        rw [e1] at hj; rw [e2 k ek] at hk
        rcases h2 x hj with h3 | h3
        · exact h.dis _ _ x h3 hk
        · rw [h.lks k x hk] at h3; exact absurd h3 (by simp)
    · by_cases ek : k = i
      · subst ek
        rw [e1] at hk; rw [e2 j ej] at hj
        rcases h2 x hk with h3 | h3
        · exact h.dis _ _ x hj h3
        · rw [h.lks j x hj] at h3; exact absurd h3 (by simp)
      · rw [e2 j ej] at hj; rw [e2 k ek] at hk
        exact h.dis _ _ x hj hk
  · intro j x hj
    rw [h1]
    by_cases ej : j = i
    · subst ej; rw [e1] at hj; exact Or.inr hj
    · rw [e2 j ej] at hj
      exact Or.inl ⟨h.lks j x hj, fun hi2 => ej (h.dis _ _ x hj hi2)⟩
  · intro x hx
    rcases (h1 x).1 hx with ⟨h3, h4⟩ | h3
    · obtain ⟨j, hj, ho⟩ := h.all x h3
      have ej : j ≠ i := by rintro rfl; exact h4 ho
      exact ⟨j, hj, by rw [e2 j ej]; exact ho⟩
    · exact ⟨i, hi, by rw [e1]; exact h3⟩
/-- No lock is taken or given. -/
theorem LkI.same {a b nh : Nat} {m m' : Mm} {hd : Nat → Hd} (h : LkI a b nh m hd) (i : Nat) (hi : i < nh) (h' : Hd) (h1 : ∀ x, m'.lk x = true ↔ m.lk x = true) (h2 : ∀ x, ow a b h' x ↔ ow a b (hd i) x) : LkI a b nh m' (up hd i h') := by
  refine h.step i hi h' (fun x => ?_) (fun x hx => Or.inl ((h2 x).1 hx))
  rw [h1, h2]
  constructor
  · intro hx
    by_cases ho : ow a b (hd i) x
    · exact Or.inr ho
    · exact Or.inl ⟨hx, ho⟩
  · rintro (hx | hx)
    · exact hx.1
    · exact h.lks i x hx
/-- A lock is taken. -/
theorem LkI.take {a b nh : Nat} {m m' : Mm} {hd : Nat → Hd} (h : LkI a b nh m hd) (i : Nat) (hi : i < nh) (h' : Hd) (y : Nat) (hy : m.lk y = false) (h1 : m'.lk = up m.lk y true) (h2 : ∀ x, ow a b h' x ↔ ow a b (hd i) x ∨ x = y) : LkI a b nh m' (up hd i h') := by
  refine h.step i hi h' (fun x => ?_) (fun x hx => ?_)
  · rw [h1, h2]
    by_cases e : x = y
    · subst e; simp [up]
    · simp only [up, e, if_false, or_false]
      constructor
      · intro hx
        by_cases ho : ow a b (hd i) x
        · exact Or.inr ho
        · exact Or.inl ⟨hx, ho⟩
      · rintro (hx | hx)
        · exact hx.1
        · exact h.lks i x hx
  · rcases (h2 x).1 hx with h3 | h3
    · exact Or.inl h3
    · exact Or.inr (by rw [h3]; exact hy)
/-- All locks are given back. -/
theorem LkI.give {a b nh : Nat} {m m' : Mm} {hd : Nat → Hd} (h : LkI a b nh m hd) (i : Nat) (hi : i < nh) (h' : Hd) (h0 : ∀ x, ¬ ow a b h' x) (ho : ∀ x, ow a b (hd i) x ↔ x = (hd i).p ∨ x = (hd i).c) (h1 : ∀ x, m'.lk x = true ↔ m.lk x = true ∧ x ≠ (hd i).p ∧ x ≠ (hd i).c) : LkI a b nh m' (up hd i h') := by
  refine h.step i hi h' (fun x => ?_) (fun x hx => absurd hx (h0 x))
  rw [h1, ho]
  constructor
  · rintro ⟨k1, k2, k3⟩; exact Or.inl ⟨k1, fun k => k.elim k2 k3⟩
  · rintro (⟨k1, k2⟩ | k)
    · exact ⟨k1, fun k => k2 (Or.inl k), fun k => k2 (Or.inr k)⟩
    · exact absurd k (h0 x)
theorem lk_free {m : Mm} {p c x : Nat} : (m.free p c).lk x = true ↔ m.lk x = true ∧ x ≠ p ∧ x ≠ c := by
  simp only [Mm.free, Mm.free1, up]
  by_cases e1 : x = c
  · simp [e1]
  · by_cases e2 : x = p
    · simp [e1, e2]
    · simp [e1, e2]
end Go.Proofs.Ytoihdnekkgpcoaa
namespace Go.Proofs.Ytoihdnekkgpcoaa
set_option linter.unusedVariables false
set_option linter.unusedSimpArgs false

theorem Rc.ins_back {m : Mm} (h : MI m) {p c : Nat} {k : Int} (hp : p < m.n) (hn : m.nx p = c) {a b : Nat} (r : Rc (m.ins p c k).nx a b) (hb : b < m.n) : (a < m.n → Rc m.nx a b) ∧ (a = m.n → Rc m.nx c b) := by
  have hpn : m.n ≠ p := by omega
  induction r with
  | refl a => exact ⟨fun _ => .refl _, fun e => by omega⟩
  | step a b r ih =>
    obtain ⟨i1, i2⟩ := ih hb
    constructor
    · intro ha
      by_cases e : a = p
      · subst e
        have e1 : (m.ins a c k).nx a = m.n := by simp [Mm.ins, up]
        refine .step _ _ ?_
        rw [hn]; exact i2 e1
      · have e1 : (m.ins p c k).nx a = m.nx a := by simp [Mm.ins, up, e, show a ≠ m.n by omega]
        rw [e1] at i1
        exact .step _ _ (i1 (h.nl a ha))
    · intro ha
      subst ha
      have e1 : (m.ins p c k).nx m.n = c := by simp [Mm.ins, up, hpn]
      rw [e1] at i1
      exact i1 (by rw [← hn]; exact h.nl p hp)
theorem Rc.drop_back {m : Mm} {p c : Nat} (hn : m.nx p = c) {a b : Nat} (r : Rc (m.drop p c).nx a b) : Rc m.nx a b := by
  induction r with
  | refl a => exact .refl _
  | step a b r ih =>
    by_cases e : a = p
    · subst e
      have e1 : (m.drop a c).nx a = m.nx c := by simp [Mm.drop, up]
      rw [e1] at ih
      refine .step _ _ ?_
      rw [hn]; exact .step _ _ ih
    · have e1 : (m.drop p c).nx a = m.nx a := by simp [Mm.drop, up, e]
      rw [e1] at ih
      exact .step _ _ ih
/-- What left the way is not on it. -/
theorem MI.gone {m : Mm} (h : MI m) {p c : Nat} (hp : p < m.n) (hn : m.nx p = c) (hpk : m.ky p ≠ 10) (mp : m.mr p = false) (mc : m.mr c = true) : ¬ Rc (m.drop p c).nx 0 c := by
  intro r
  have hc : c < m.n := by rw [← hn]; exact h.nl p hp
  have h' := h.drop hp hn hpk mc
  have hck := h.md c hc mc
  have h1 := h.ri p hp hpk
  rw [hn] at h1
  have h2 := h.ri c hc (by omega)
  rcases (h'.rc p hp mp).comp c r with r2 | r2
  · cases r2 with
    | refl => omega
    | step _ _ r2 =>
      have e1 : (m.drop p c).nx p = m.nx c := by simp [Mm.drop, up]
      rw [e1] at r2
      rcases h'.le r2 (h.nl c hc) with e | e
      · rw [← e] at h2; omega
      · have e : m.ky (m.nx c) < m.ky c := e
        omega
  · rcases h'.le r2 hc with e | e
    · rw [e] at h1; omega
    · have e : m.ky c < m.ky p := e
      omega
theorem stp_hd (alg : Nat) (d : Dd) (s : St) (i : Nat) : (stp alg d s i).hd = up s.hd i (if (algS alg s.m (s.hd i) d).2.2 then hd0 else (algS alg s.m (s.hd i) d).2.1) := by
  obtain ⟨r, hr⟩ : ∃ r, r = algS alg s.m (s.hd i) d := ⟨_, rfl⟩
  have ho : stp alg d s i = if r.2.2 then
    { m := r.1, hd := up s.hd i hd0, deed := up s.deed i (s.deed i + 1), told := up s.told i (toldE (toldB s i) (s.deed i) s.now r.2.1.is), now := s.now + 1 }
    else { m := r.1, hd := up s.hd i r.2.1, deed := s.deed, told := up s.told i (toldB s i), now := s.now + 1 } := by rw [hr]; rfl
  rw [← hr, ho]
  cases hov : r.2.2 <;> rfl

/-- What holds of a hand that looks twice. -/
def QLz (m : Mm) (h : Hd) (d : Dd) (A : Prop) : Prop :=
  h.plc ≤ 5 ∧ (h.plc ≠ 0 → h.p < m.n ∧ h.c < m.n ∧ m.ky h.p < d.key) ∧ (h.plc = 1 → A ∨ Wk m h.c d.key) ∧ (2 ≤ h.plc → d.key ≤ m.ky h.c ∧ d.kind ≠ 3) ∧
  (h.plc = 5 → h.is = true ∧ d.kind = 2 ∧ m.ky h.c = d.key ∧ m.mr h.p = false ∧ m.nx h.p = h.c ∧ m.mr h.c = true)
/-- Whoever bears a mark and is on the way is about to be taken off it. -/
def ClI (m : Mm) (hd : Nat → Hd) : Prop := ∀ x, x < m.n → m.mr x = true → Rc m.nx 0 x → ∃ i, (hd i).plc = 5 ∧ (hd i).c = x
structure LzI (nh : Nat) (D : Nat → Nat → Dd) (S : Nat → Int → Prop) (pos : Nat → Nat → Nat) (s : St) : Prop where
  li : LI 2 nh D S pos s
  mi : MI s.m
  hq : HInv D QLz S s
  lk : LkI 3 4 nh s.m s.hd
  cl : ClI s.m s.hd
/-- What a step must show. -/
def LzOut (nh : Nat) (S : Nat → Int → Prop) (s : St) (i : Nat) (d : Dd) (A : Prop) (r : Mm × Hd × Bool) : Prop :=
  Outc 2 S s i d r ∧ MI r.1 ∧
  (r.2.2 = false → ∀ A' : Prop, (A → A') → (¬ InS s.m d.key → A') → QLz r.1 r.2.1 d A') ∧
  (∀ j d' (A A' : Prop), j ≠ i → (A → A') → (¬ InS r.1 d'.key → A') → (s.hd j).plc ≠ 0 → QLz s.m (s.hd j) d' A → QLz r.1 (s.hd j) d' A') ∧
  LkI 3 4 nh r.1 (up s.hd i (if r.2.2 then hd0 else r.2.1)) ∧ ClI r.1 (up s.hd i (if r.2.2 then hd0 else r.2.1))
theorem ow0 (a b : Nat) (h : Hd) (ha : h.plc < a) (hb : h.plc < b) (x : Nat) : ¬ ow a b h x := by unfold ow; omega
theorem QLz.mono {m m' : Mm} (e1 : m'.n = m.n) (e2 : m'.ky = m.ky) (e3 : m'.nx = m.nx) (e4 : m'.mr = m.mr) {h : Hd} {d : Dd} {A A' : Prop} (ha : A → A') (q : QLz m h d A) : QLz m' h d A' := by
  obtain ⟨q1, q2, q3, q4, q5⟩ := q
  refine ⟨q1, ?_, ?_, ?_, ?_⟩
  · rw [e1, e2]; exact q2
  · intro e
    rcases q3 e with a | ⟨x, x1, x2, x3, x4⟩
    · exact Or.inl (ha a)
    · exact Or.inr ⟨x, by rw [e1]; exact x1, by rw [e4]; exact x2, by rw [e2]; exact x3, by rw [e3]; exact x4⟩
  · rw [e2]; exact q4
  · rw [e2, e3, e4]; exact q5
theorem ClI.same {m m' : Mm} {hd : Nat → Hd} (c : ClI m hd) (e1 : m'.n = m.n) (e3 : m'.nx = m.nx) (e4 : m'.mr = m.mr) (i : Nat) (h' : Hd) (hn : (hd i).plc ≠ 5) : ClI m' (up hd i h') := by
  intro x h1 h2 h3
  rw [e1] at h1; rw [e4] at h2; rw [e3] at h3
  obtain ⟨j, k1, k2⟩ := c x h1 h2 h3
  have ej : j ≠ i := by rintro rfl; exact hn k1
  exact ⟨j, by rw [up_ne _ _ ej]; exact k1, by rw [up_ne _ _ ej]; exact k2⟩

theorem lazy_step {nh : Nat} {D : Nat → Nat → Dd} {S : Nat → Int → Prop} {pos : Nat → Nat → Nat} {s : St} (I : LzI nh D S pos s) (i : Nat) (hi : i < nh) (d : Dd) (hd : d = D i (s.deed i)) (hk : 0 ≤ d.key ∧ d.key ≤ 9 ∧ (d.kind = 1 ∨ d.kind = 2 ∨ d.kind = 3)) : LzOut nh S s i d (absn D S s i) (lazyS s.m (s.hd i) d) := by
  obtain ⟨li, mi, hq, lk, cl⟩ := I
  obtain ⟨q, pg⟩ := hq i
  rw [← hd] at q
  have hbn := (toldB_at (li.len i) (li.bg i)).2
  obtain ⟨m, hm⟩ : ∃ m, m = s.m := ⟨_, rfl⟩
  obtain ⟨h, hh⟩ : ∃ h, h = s.hd i := ⟨_, rfl⟩
  rw [← hm, ← hh] at q ⊢
  rw [← hm] at mi lk cl
  have hcur : ∀ x, S s.now x ↔ InS m x := by rw [hm]; exact li.cur
  obtain ⟨A, hA⟩ : ∃ A, A = absn D S s i := ⟨_, rfl⟩
  have hAx : A → ∃ t, bgnO s i ≤ t ∧ t ≤ s.now ∧ ¬ S t d.key := by rw [hA, hd]; exact id
  rw [← hA] at q ⊢
  -- a step that leaves the keys, the way and the marks
  have still : ∀ (m' : Mm) (h' : Hd), m'.n = m.n → m'.ky = m.ky → m'.nx = m.nx → m'.mr = m.mr → h.plc ≠ 5 → h'.plc ≠ 5 → lazyS m h d = (m', h', false) → (∀ A' : Prop, (A → A') → (¬ InS m d.key → A') → QLz m h' d A') → LkI 3 4 nh m' (up s.hd i h') → LzOut nh S s i d A (lazyS m h d) := by
    intro m' h' e1 e2 e3 e4 n1 n2 er hq' hlk
    have eI : ∀ x, InS m' x ↔ InS m x := by intro x; unfold InS; rw [e1, e2, e4]
    rw [er]
    refine ⟨Or.inl ⟨rfl, by rw [← hm]; exact eI, by rw [← hh]; unfold pd; omega, by show ¬ pd 2 h'; unfold pd; omega⟩, ?_, fun _ A' ha hb => (hq' A' ha (by rw [hm]; exact hb)).mono e1 e2 e3 e4 id, ?_, hlk, cl.same e1 e3 e4 i _ (by rw [← hh]; exact n1)⟩
    · exact ⟨by rw [e1]; exact mi.pos, by rw [e2]; exact mi.k0, by rw [e1, e2]; exact mi.kl, by rw [e1, e3]; exact mi.nl, by rw [e1, e2, e3]; exact mi.ri, by rw [e1, e2, e3]; exact mi.tl, by rw [e1, e2, e4]; exact mi.md, by rw [e1, e3, e4]; exact mi.rc⟩
    · intro j d' B B' hj hB _ _ qj
      rw [← hm] at qj
      exact qj.mono e1 e2 e3 e4 hB
  -- one that ends, and leaves the keys, the way and the marks
  have ends : ∀ (m' : Mm) (is : Bool), m'.n = m.n → m'.ky = m.ky → m'.nx = m.nx → m'.mr = m.mr → h.plc ≠ 5 → lazyS m h d = (m', { h with is := is }, true) → ¬ (is = true ∧ d.kind ≠ 3) → (∃ t, bgnO s i ≤ t ∧ t ≤ s.now ∧ (S t d.key ↔ is = decide (d.kind ≠ 1))) → LkI 3 4 nh m' (up s.hd i hd0) → LzOut nh S s i d A (lazyS m h d) := by
    intro m' is e1 e2 e3 e4 n1 er hni ht hlk
    have eI : ∀ x, InS m' x ↔ InS m x := by intro x; unfold InS; rw [e1, e2, e4]
    rw [er]
    refine ⟨Or.inr (Or.inl ⟨rfl, by rw [← hh]; unfold pd; omega, by rw [← hm]; exact eI, hni, ht⟩), ?_, fun e => absurd e (by simp), ?_, hlk, cl.same e1 e3 e4 i _ (by rw [← hh]; exact n1)⟩
    · exact ⟨by rw [e1]; exact mi.pos, by rw [e2]; exact mi.k0, by rw [e1, e2]; exact mi.kl, by rw [e1, e3]; exact mi.nl, by rw [e1, e2, e3]; exact mi.ri, by rw [e1, e2, e3]; exact mi.tl, by rw [e1, e2, e4]; exact mi.md, by rw [e1, e3, e4]; exact mi.rc⟩
    · intro j d' B B' hj hB _ _ qj
      rw [← hm] at qj
      exact qj.mono e1 e2 e3 e4 hB
  obtain ⟨q1, q2, q3, q4, q5⟩ := q
  have low : h.plc < 3 → ∀ x, ¬ ow 3 4 (s.hd i) x := fun e x => by rw [← hh]; exact ow0 3 4 h e (by omega) x
  -- the first lock
  have two : h.plc = 1 ∨ h.plc = 2 → d.key ≤ m.ky h.c → d.kind ≠ 3 → lazyS m h d = lazy2 m h → LzOut nh S s i d A (lazyS m h d) := by
    intro hp hc hk3 er
    obtain ⟨p1, p2, p3⟩ := q2 (by omega)
    by_cases hl : m.lk h.p = true
    · refine still m { h with plc := 2 } rfl rfl rfl rfl (by omega) (by simp) (by rw [er]; unfold lazy2; rw [if_pos hl]) ?_ ?_
      · intro A' _ _
        exact ⟨by simp, fun _ => ⟨p1, p2, p3⟩, fun e => absurd e (by simp), fun _ => ⟨hc, hk3⟩, fun e => absurd e (by simp)⟩
      · refine lk.same i hi _ (fun x => Iff.rfl) (fun x => ?_)
        exact ⟨fun e => absurd e (ow0 3 4 _ (by simp) (by simp) x), fun e => absurd e (low (by omega) x)⟩
    · refine still (m.lock h.p) { h with plc := 3 } rfl rfl rfl rfl (by omega) (by simp) (by rw [er]; unfold lazy2; rw [if_neg hl]) ?_ ?_
      · intro A' _ _
        exact ⟨by simp, fun _ => ⟨p1, p2, p3⟩, fun e => absurd e (by simp), fun _ => ⟨hc, hk3⟩, fun e => absurd e (by simp)⟩
      · refine lk.take i hi _ h.p (by simpa using hl) rfl (fun x => ?_)
        unfold ow; rw [← hh]; simp only []; omega
  have c6 : h.plc = 0 ∨ h.plc = 1 ∨ h.plc = 2 ∨ h.plc = 3 ∨ h.plc = 4 ∨ h.plc = 5 := by omega
  rcases c6 with e | e | e | e | e | e
  · -- begin
    refine still m (h.again m) rfl rfl rfl rfl (by omega) (by simp [Hd.again]) (by unfold lazyS; rw [e]; rfl) ?_ ?_
    · intro A' _ hb
      refine ⟨by simp [Hd.again], fun _ => ⟨mi.pos, mi.nl 0 mi.pos, by show m.ky 0 < _; rw [mi.k0]; omega⟩, fun _ => ?_, fun e => absurd e (by simp [Hd.again]), fun e => absurd e (by simp [Hd.again])⟩
      by_cases hs : InS m d.key
      · exact Or.inr (Wk.start mi hk.1 hs)
      · exact Or.inl (hb hs)
    · refine lk.same i hi _ (fun x => Iff.rfl) (fun x => ?_)
      exact ⟨fun e => absurd e (ow0 3 4 _ (by simp [Hd.again]) (by simp [Hd.again]) x), fun e => absurd e (low (by omega) x)⟩
  · -- look
    obtain ⟨p1, p2, p3⟩ := q2 (by omega)
    by_cases h1 : m.ky h.c < d.key
    · refine still m (h.on m) rfl rfl rfl rfl (by omega) (by simp [Hd.on, e]) (by unfold lazyS; rw [e]; simp [h1]) ?_ ?_
      · intro A' ha hb
        refine ⟨by simp [Hd.on, e], fun _ => ⟨p2, mi.nl _ p2, h1⟩, fun _ => ?_, fun e2 => absurd e2 (by simp [Hd.on, e]), fun e2 => absurd e2 (by simp [Hd.on, e])⟩
        rcases q3 e with a | w
        · exact Or.inl (ha a)
        · exact Or.inr (w.on h1)
      · refine lk.same i hi _ (fun x => Iff.rfl) (fun x => ?_)
        exact ⟨fun e2 => absurd e2 (ow0 3 4 _ (by simp [Hd.on, e]) (by simp [Hd.on, e]) x), fun e2 => absurd e2 (low (by omega) x)⟩
    · by_cases h3 : d.kind = 3
      · refine ends m (decide (m.ky h.c = d.key) && !m.mr h.c) rfl rfl rfl rfl (by omega) (by unfold lazyS; rw [e]; simp [h1, h3]) (fun hc => hc.2 h3) ?_ ?_
        · rw [h3]
          by_cases hf : m.ky h.c = d.key ∧ m.mr h.c = false
          · refine ⟨s.now, hbn, Nat.le_refl _, ?_⟩
            rw [hcur]
            simp only [hf.1, hf.2]
            exact ⟨fun _ => rfl, fun _ => ⟨h.c, p2, hf.2, hf.1⟩⟩
          · have hx : A := by
              rcases q3 e with a | w
              · exact a
              · exact absurd (w.found mi p2 (by omega)) hf
            obtain ⟨t, t1, t2, t3⟩ := hAx hx
            refine ⟨t, t1, t2, ?_⟩
            have : (decide (m.ky h.c = d.key) && !m.mr h.c) = false := by
              cases hmr : m.mr h.c with
              | true => simp
              | false => simp; intro hke; exact hf ⟨hke, hmr⟩
            rw [this]
            exact ⟨fun hh => absurd hh t3, fun hh => absurd hh (by decide)⟩
        · refine lk.same i hi _ (fun x => Iff.rfl) (fun x => ?_)
          exact ⟨fun e2 => absurd e2 (ow0 3 4 _ (by simp [hd0]) (by simp [hd0]) x), fun e2 => absurd e2 (low (by omega) x)⟩
      · exact two (Or.inl e) (by omega) h3 (by unfold lazyS; rw [e]; simp [h1, h3])
  · -- the first lock
    obtain ⟨k1, k2⟩ := q4 (by omega)
    exact two (Or.inr e) k1 k2 (by unfold lazyS; rw [e]; rfl)
  · -- the second lock
    obtain ⟨p1, p2, p3⟩ := q2 (by omega)
    obtain ⟨k1, k2⟩ := q4 (by omega)
    by_cases hl : m.lk h.c = true
    · refine still m h rfl rfl rfl rfl (by omega) (by omega) (by unfold lazyS; rw [e]; simp [hl]) ?_ ?_
      · intro A' _ _
        exact ⟨by omega, fun _ => ⟨p1, p2, p3⟩, fun e => by omega, fun _ => ⟨k1, k2⟩, fun e => by omega⟩
      · exact lk.same i hi _ (fun x => Iff.rfl) (fun x => by rw [← hh])
    · refine still (m.lock h.c) { h with plc := 4 } rfl rfl rfl rfl (by omega) (by simp) (by unfold lazyS; rw [e]; simp [hl]) ?_ ?_
      · intro A' _ _
        exact ⟨by simp, fun _ => ⟨p1, p2, p3⟩, fun e => absurd e (by simp), fun _ => ⟨k1, k2⟩, fun e => absurd e (by simp)⟩
      · refine lk.take i hi _ h.c (by simpa using hl) rfl (fun x => ?_)
        unfold ow; rw [← hh]; simp only []; omega
  · -- check
    obtain ⟨p1, p2, p3⟩ := q2 (by omega)
    obtain ⟨k1, k2⟩ := q4 (by omega)
    have hpc : h.p ≠ h.c := by intro e2; rw [e2] at p3; omega
    have oh : ∀ x, ow 3 4 (s.hd i) x ↔ x = (s.hd i).p ∨ x = (s.hd i).c := by intro x; rw [← hh]; unfold ow; omega
    have og : LkI 3 4 nh (m.free h.p h.c) (up s.hd i hd0) := by
      refine lk.give i hi hd0 (ow0 3 4 _ (by simp [hd0]) (by simp [hd0])) oh (fun x => ?_)
      rw [lk_free, hh]
    by_cases hchk : (m.mr h.p || m.mr h.c || m.nx h.p != h.c) = true
    · refine still (m.free h.p h.c) { h with plc := 0 } rfl rfl rfl rfl (by omega) (by simp) (by unfold lazyS; rw [e]; simp only [hchk, if_true]) ?_ ?_
      · intro A' _ _
        exact ⟨by simp, fun e => absurd rfl e, fun e => absurd e (by simp), fun e => absurd e (by simp), fun e => absurd e (by simp)⟩
      · refine lk.give i hi _ (ow0 3 4 _ (by simp) (by simp)) oh (fun x => ?_)
        rw [lk_free, hh]
    · have hchk2 : m.mr h.p = false ∧ m.mr h.c = false ∧ m.nx h.p = h.c := by
        cases a1 : m.mr h.p <;> cases a2 : m.mr h.c <;> simp_all
      obtain ⟨mp, mc, hn⟩ := hchk2
      have hchk3 : (m.mr h.p || m.mr h.c || m.nx h.p != h.c) = false := by simpa using hchk
      by_cases hk1 : d.kind = 1
      · by_cases hke : m.ky h.c = d.key
        · refine ends (m.free h.p h.c) false rfl rfl rfl rfl (by omega) (by unfold lazyS; rw [e]; simp only [hchk3, hk1, hke, if_true, Bool.false_eq_true, if_false]) (by simp) ⟨s.now, hbn, Nat.le_refl _, ?_⟩ og
          rw [hcur, hk1]
          exact ⟨fun _ => by decide, fun _ => ⟨h.c, p2, mc, hke⟩⟩
        · -- a new bead
          have er : lazyS m h d = ((m.free h.p h.c).ins h.p h.c d.key, { h with is := true }, true) := by unfold lazyS; rw [e]; simp only [hchk3, hk1, hke, if_true, Bool.false_eq_true, if_false]
          have gp := mi.gap p1 mp hn p3 (show d.key < m.ky h.c by omega)
          rw [er]
          refine ⟨Or.inr (Or.inr (Or.inl ⟨rfl, by rw [← hh]; unfold pd; omega, rfl, by omega, ?_, ?_⟩)), ?_, fun e => absurd e (by simp), ?_, ?_, ?_⟩
          · rw [← hm, hk1]; exact ⟨fun hx => absurd hx gp, fun hx => absurd hx (by decide)⟩
          · intro x
            rw [← hm, hk1]
            show InS ((m.free h.p h.c).ins h.p h.c d.key) x ↔ _
            rw [InS.ins, InS.free]
            by_cases ex : x = d.key <;> simp [ex]
          · exact (mi.free h.p h.c).ins p1 mp hn p3 (show d.key < m.ky h.c by omega) hk.1 hk.2.1
          · intro j d' B B' hj hB _ hpj qj
            rw [← hm] at qj
            obtain ⟨r1, r2, r3, r4, r5⟩ := qj
            obtain ⟨s1, s2, s3⟩ := r2 hpj
            have up1 : ∀ (α : Type) (f : Nat → α) x y, y < m.n → up f m.n x y = f y := fun α f x y hy => up_ne _ _ (by omega)
            refine ⟨r1, fun _ => ⟨Nat.lt_succ_of_lt s1, Nat.lt_succ_of_lt s2, ?_⟩, fun e2 => ?_, fun e2 => ?_, fun e2 => ?_⟩
            · show up m.ky m.n d.key _ < _; rw [up1 _ _ _ _ s1]; exact s3
            · rcases r3 e2 with a | w
              · exact Or.inl (hB a)
              · exact Or.inr (Wk.ins (m := m.free h.p h.c) (mi.free _ _) p1 hn s2 w)
            · show _ ≤ up m.ky m.n d.key _ ∧ _; rw [up1 _ _ _ _ s2]; exact r4 e2
            · obtain ⟨w1, w2, w3, w4, w5, w6⟩ := r5 e2
              have hne : (s.hd j).p ≠ h.p := by
                intro e3
                exact hj (lk.dis j i h.p (Or.inl ⟨by omega, e3.symm⟩) (Or.inl ⟨by rw [← hh]; omega, by rw [← hh]⟩))
              refine ⟨w1, w2, ?_, ?_, ?_, ?_⟩
              · show up m.ky m.n d.key _ = _; rw [up1 _ _ _ _ s2]; exact w3
              · show up m.mr m.n false _ = _; rw [up1 _ _ _ _ s1]; exact w4
              · show up (up m.nx m.n h.c) h.p m.n _ = _; rw [up_ne _ _ hne, up1 _ _ _ _ s1]; exact w5
              · show up m.mr m.n false _ = _; rw [up1 _ _ _ _ s2]; exact w6
          · have mn : m.lk m.n = true → ∃ j, j < nh ∧ ow 3 4 (s.hd j) m.n := lk.all m.n
            refine lk.give i hi hd0 (ow0 3 4 _ (by simp [hd0]) (by simp [hd0])) oh (fun x => ?_)
            show up (m.free h.p h.c).lk m.n false x = true ↔ _
            by_cases ex : x = m.n
            · subst ex
              rw [up_same]
              refine ⟨fun hx => absurd hx (by decide), fun hx => ?_⟩
              obtain ⟨j, _, ho⟩ := mn hx.1
              obtain ⟨⟨_, j2, _⟩, _⟩ := hq j
              rw [← hm] at j2
              rcases ho with ⟨o1, o2⟩ | ⟨o1, o2⟩
              · have := (j2 (by omega)).1; omega
              · have := (j2 (by omega)).2.1; omega
            · rw [up_ne _ _ ex, lk_free, hh]
          · intro x x1 x2 x3
            have x1 : x < m.n + 1 := x1
            have ex : x ≠ m.n := by rintro rfl; have x2 : up m.mr m.n false m.n = true := x2; rw [up_same] at x2; exact absurd x2 (by decide)
            have x2 : up m.mr m.n false x = true := x2
            rw [up_ne _ _ ex] at x2
            have x4 := (Rc.ins_back (m := m.free h.p h.c) (mi.free _ _) p1 hn x3 (show x < m.n by omega)).1 mi.pos
            obtain ⟨j, j1, j2⟩ := cl x (by omega) x2 x4
            have ej : j ≠ i := by rintro rfl; rw [← hh] at j1; omega
            exact ⟨j, by rw [up_ne _ _ ej]; exact j1, by rw [up_ne _ _ ej]; exact j2⟩
      · have hk2 : d.kind = 2 := by omega
        by_cases hke : m.ky h.c = d.key
        · -- the mark
          have er : lazyS m h d = (m.mark h.c, { h with plc := 5, is := true }, false) := by unfold lazyS; rw [e]; simp only [hchk3, hk1, hke, if_true, Bool.false_eq_true, if_false]
          rw [er]
          refine ⟨Or.inr (Or.inr (Or.inr (Or.inl ⟨rfl, by rw [← hh]; unfold pd; omega, Or.inl ⟨rfl, rfl⟩, hk2, ?_, ?_⟩))), ?_, ?_, ?_, ?_, ?_⟩
          · rw [← hm]; exact ⟨h.c, p2, mc, hke⟩
          · intro x
            rw [← hm, ← hke]
            show InS (m.mark h.c) x ↔ _
            rw [InS.mark mi p2 mc]
            exact And.comm
          · exact mi.mark (by omega) (by omega)
          · intro _ A' _ _
            refine ⟨Nat.le_refl _, fun _ => ⟨p1, p2, p3⟩, fun e => absurd e (by simp), fun _ => ⟨k1, k2⟩, fun _ => ⟨rfl, hk2, hke, ?_, hn, ?_⟩⟩
            · show up m.mr h.c true h.p = false; rw [up_ne _ _ hpc]; exact mp
            · show up m.mr h.c true h.c = true; rw [up_same]
          · intro j d' B B' hj hB hI hpj qj
            rw [← hm] at qj
            obtain ⟨r1, r2, r3, r4, r5⟩ := qj
            refine ⟨r1, r2, fun e2 => ?_, r4, fun e2 => ?_⟩
            · rcases r3 e2 with a | w
              · exact Or.inl (hB a)
              · by_cases ek : m.ky h.c = d'.key
                · refine Or.inl (hI ?_)
                  show ¬ InS (m.mark h.c) d'.key
                  rw [InS.mark mi p2 mc]
                  exact fun hx => hx.2 ek.symm
                · exact Or.inr (w.mark ek)
            · obtain ⟨w1, w2, w3, w4, w5, w6⟩ := r5 e2
              have hne : (s.hd j).p ≠ h.c := by
                intro e3
                exact hj (lk.dis j i h.c (Or.inl ⟨by omega, e3.symm⟩) (Or.inr ⟨by rw [← hh]; omega, by rw [← hh]⟩))
              refine ⟨w1, w2, w3, ?_, w5, ?_⟩
              · show up m.mr h.c true _ = _; rw [up_ne _ _ hne]; exact w4
              · show up m.mr h.c true _ = _; unfold up; split
                · rfl
                · exact w6
          · refine lk.same i hi _ (fun x => Iff.rfl) (fun x => ?_)
            rw [← hh]; unfold ow; simp only [Bool.false_eq_true, if_false]; omega
          · intro x x1 x2 x3
            by_cases ex : x = h.c
            · exact ⟨i, by rw [up_same]; rfl, by rw [up_same, ex]; rfl⟩
            · have x2 : up m.mr h.c true x = true := x2
              rw [up_ne _ _ ex] at x2
              obtain ⟨j, j1, j2⟩ := cl x x1 x2 x3
              have ej : j ≠ i := by rintro rfl; rw [← hh] at j1; omega
              exact ⟨j, by rw [up_ne _ _ ej]; exact j1, by rw [up_ne _ _ ej]; exact j2⟩
        · refine ends (m.free h.p h.c) false rfl rfl rfl rfl (by omega) (by unfold lazyS; rw [e]; simp only [hchk3, hk1, hke, if_false, Bool.false_eq_true]) (by simp) ⟨s.now, hbn, Nat.le_refl _, ?_⟩ og
          rw [hcur, hk2]
          exact ⟨fun hx => absurd hx (mi.gap p1 mp hn p3 (by omega)), fun hx => absurd hx (by decide)⟩
  · -- off the way
    obtain ⟨p1, p2, p3⟩ := q2 (by omega)
    obtain ⟨w1, w2, w3, w4, w5, w6⟩ := q5 e
    have hpk : m.ky h.p ≠ 10 := by omega
    have er : lazyS m h d = ((m.drop h.p h.c).free h.p h.c, h, true) := by unfold lazyS; rw [e]; rfl
    have oh : ∀ x, ow 3 4 (s.hd i) x ↔ x = (s.hd i).p ∨ x = (s.hd i).c := by intro x; rw [← hh]; unfold ow; omega
    rw [er]
    refine ⟨Or.inr (Or.inr (Or.inr (Or.inr ⟨rfl, by rw [← hh]; exact Or.inl ⟨rfl, e⟩, w1, fun x => by rw [← hm]; exact Iff.rfl⟩))), (mi.drop p1 w5 hpk w6).free _ _, fun e => absurd e (by simp), ?_, ?_, ?_⟩
    · intro j d' B B' hj hB hI hpj qj
      rw [← hm] at qj
      obtain ⟨r1, r2, r3, r4, r5⟩ := qj
      obtain ⟨s1, s2, s3⟩ := r2 hpj
      refine ⟨r1, r2, fun e2 => ?_, r4, fun e2 => ?_⟩
      · rcases r3 e2 with a | w
        · exact Or.inl (hB a)
        · exact Or.inr (Wk.drop mi p1 w5 hpk w6 w)
      · obtain ⟨v1, v2, v3, v4, v5, v6⟩ := r5 e2
        have hne : (s.hd j).p ≠ h.p := by
          intro e3
          exact hj (lk.dis j i h.p (Or.inl ⟨by omega, e3.symm⟩) (Or.inl ⟨by rw [← hh]; omega, by rw [← hh]⟩))
        refine ⟨v1, v2, v3, v4, ?_, v6⟩
        show up m.nx h.p _ _ = _; rw [up_ne _ _ hne]; exact v5
    · refine lk.give i hi hd0 (ow0 3 4 _ (by simp [hd0]) (by simp [hd0])) oh (fun x => ?_)
      show ((m.drop h.p h.c).free h.p h.c).lk x = true ↔ _
      rw [lk_free, hh]; exact Iff.rfl
    · intro x x1 x2 x3
      have x3 : Rc (m.drop h.p h.c).nx 0 x := x3
      have ex : x ≠ h.c := by rintro rfl; exact mi.gone p1 w5 hpk w4 w6 x3
      obtain ⟨j, j1, j2⟩ := cl x x1 x2 (Rc.drop_back w5 x3)
      have ej : j ≠ i := by rintro rfl; rw [← hh] at j2; exact ex j2.symm
      exact ⟨j, by rw [up_ne _ _ ej]; exact j1, by rw [up_ne _ _ ej]; exact j2⟩
end Go.Proofs.Ytoihdnekkgpcoaa
namespace Go.Proofs.Ytoihdnekkgpcoaa
set_option linter.unusedVariables false
set_option linter.unusedSimpArgs false

/-- What holds of a hand that marks. -/
def QMk (m : Mm) (h : Hd) (d : Dd) (A : Prop) : Prop :=
  h.plc ≤ 3 ∧ (h.plc ≠ 0 → h.p < m.n ∧ h.c < m.n ∧ m.ky h.p < d.key) ∧ (h.plc = 1 → A ∨ Wk m h.c d.key) ∧
  (h.plc = 2 → d.kind ≠ 3 ∧ (d.kind = 2 → m.ky h.c = d.key) ∧ (d.kind = 1 → d.key < m.ky h.c)) ∧
  (h.plc = 3 → h.is = true ∧ d.kind = 2 ∧ m.ky h.c = d.key ∧ m.mr h.c = true)
structure MkI (nh : Nat) (D : Nat → Nat → Dd) (S : Nat → Int → Prop) (pos : Nat → Nat → Nat) (s : St) : Prop where
  li : LI 3 nh D S pos s
  mi : MI s.m
  hq : HInv D QMk S s
/-- What a step must show. -/
def MkOut (nh : Nat) (S : Nat → Int → Prop) (s : St) (i : Nat) (d : Dd) (A : Prop) (r : Mm × Hd × Bool) : Prop :=
  Outc 3 S s i d r ∧ MI r.1 ∧
  (r.2.2 = false → ∀ A' : Prop, (A → A') → (¬ InS s.m d.key → A') → QMk r.1 r.2.1 d A') ∧
  (∀ h d' (A A' : Prop), (A → A') → (¬ InS r.1 d'.key → A') → h.plc ≠ 0 → QMk s.m h d' A → QMk r.1 h d' A')
theorem clean_iff {m : Mm} {h : Hd} : clean m h = true ↔ m.mr h.p = false ∧ m.nx h.p = h.c := by
  unfold clean
  cases a : m.mr h.p <;> simp
theorem mark_step {nh : Nat} {D : Nat → Nat → Dd} {S : Nat → Int → Prop} {pos : Nat → Nat → Nat} {s : St} (I : MkI nh D S pos s) (i : Nat) (hi : i < nh) (d : Dd) (hd : d = D i (s.deed i)) (hk : 0 ≤ d.key ∧ d.key ≤ 9 ∧ (d.kind = 1 ∨ d.kind = 2 ∨ d.kind = 3)) : MkOut nh S s i d (absn D S s i) (markS false s.m (s.hd i) d) := by
  obtain ⟨li, mi, hq⟩ := I
  obtain ⟨q, pg⟩ := hq i
  rw [← hd] at q
  have hbn := (toldB_at (li.len i) (li.bg i)).2
  obtain ⟨m, hm⟩ : ∃ m, m = s.m := ⟨_, rfl⟩
  obtain ⟨h, hh⟩ : ∃ h, h = s.hd i := ⟨_, rfl⟩
  rw [← hm, ← hh] at q ⊢
  rw [← hm] at mi
  have hcur : ∀ x, S s.now x ↔ InS m x := by rw [hm]; exact li.cur
  obtain ⟨A, hA⟩ : ∃ A, A = absn D S s i := ⟨_, rfl⟩
  have hAx : A → ∃ t, bgnO s i ≤ t ∧ t ≤ s.now ∧ ¬ S t d.key := by rw [hA, hd]; exact id
  rw [← hA] at q ⊢
  -- a step that leaves the beads
  have still : ∀ (h' : Hd), h.plc ≠ 3 → h'.plc ≠ 3 → markS false m h d = (m, h', false) → (∀ A' : Prop, (A → A') → (¬ InS m d.key → A') → QMk m h' d A') → MkOut nh S s i d A (markS false m h d) := by
    intro h' n1 n2 er hq'
    rw [er]
    refine ⟨Or.inl ⟨rfl, fun x => by rw [← hm], by rw [← hh]; unfold pd; omega, by show ¬ pd 3 h'; unfold pd; omega⟩, mi, fun _ A' ha hb => hq' A' ha (by rw [hm]; exact hb), ?_⟩
    intro h2 d' B B' hB _ _ qj
    rw [← hm] at qj
    obtain ⟨r1, r2, r3, r4⟩ := qj
    refine ⟨r1, r2, fun e => ?_, r4⟩
    rcases r3 e with a | w
    · exact Or.inl (hB a)
    · exact Or.inr w
  have ends : ∀ (is : Bool), h.plc ≠ 3 → markS false m h d = (m, { h with is := is }, true) → ¬ (is = true ∧ d.kind ≠ 3) → (∃ t, bgnO s i ≤ t ∧ t ≤ s.now ∧ (S t d.key ↔ is = decide (d.kind ≠ 1))) → MkOut nh S s i d A (markS false m h d) := by
    intro is n1 er hni ht
    rw [er]
    refine ⟨Or.inr (Or.inl ⟨rfl, by rw [← hh]; unfold pd; omega, fun x => by rw [← hm], hni, ht⟩), mi, fun e => absurd e (by simp), ?_⟩
    intro h2 d' B B' hB _ _ qj
    rw [← hm] at qj
    obtain ⟨r1, r2, r3, r4⟩ := qj
    refine ⟨r1, r2, fun e => ?_, r4⟩
    rcases r3 e with a | w
    · exact Or.inl (hB a)
    · exact Or.inr w
  -- others, when one with a mark leaves the way
  have dropO : ∀ {p c : Nat}, p < m.n → m.nx p = c → m.ky p ≠ 10 → m.mr c = true → ∀ h2 d' (B B' : Prop), (B → B') → QMk s.m h2 d' B → QMk (m.drop p c) h2 d' B' := by
    intro p c a1 a2 a3 a4 h2 d' B B' hB qj
    rw [← hm] at qj
    obtain ⟨r1, r2, r3, r4⟩ := qj
    refine ⟨r1, r2, fun e => ?_, r4⟩
    rcases r3 e with a | w
    · exact Or.inl (hB a)
    · exact Or.inr (Wk.drop mi a1 a2 a3 a4 w)
  obtain ⟨q1, q2, q3, q4, q5⟩ := q
  have c4 : h.plc = 0 ∨ h.plc = 1 ∨ h.plc = 2 ∨ h.plc = 3 := by omega
  have again : h.plc ≠ 3 → markS false m h d = (m, { h with plc := 0 }, false) → MkOut nh S s i d A (markS false m h d) := by
    intro n1 er
    exact still { h with plc := 0 } n1 (by simp) er (fun A' _ _ => ⟨by simp, fun e => absurd rfl e, fun e => absurd e (by simp), fun e => absurd e (by simp), fun e => absurd e (by simp)⟩)
  rcases c4 with e | e | e | e
  · -- begin
    refine still (h.again m) (by omega) (by simp [Hd.again]) (by unfold markS; rw [e]; rfl) ?_
    intro A' _ hb
    refine ⟨by simp [Hd.again], fun _ => ⟨mi.pos, mi.nl 0 mi.pos, by show m.ky 0 < _; rw [mi.k0]; omega⟩, fun _ => ?_, fun e => absurd e (by simp [Hd.again]), fun e => absurd e (by simp [Hd.again])⟩
    by_cases hs : InS m d.key
    · exact Or.inr (Wk.start mi hk.1 hs)
    · exact Or.inl (hb hs)
  · -- look
    obtain ⟨p1, p2, p3⟩ := q2 (by omega)
    by_cases h0 : m.mr h.c = true ∧ d.kind ≠ 3
    · have b0 : (m.mr h.c && d.kind != 3) = true := by simp [h0.1, h0.2]
      by_cases hc : clean m h = true
      · obtain ⟨mp, hn⟩ := clean_iff.1 hc
        have hpk : m.ky h.p ≠ 10 := by omega
        have er : markS false m h d = (m.drop h.p h.c, { h with c := m.nx h.c }, false) := by unfold markS; rw [e]; simp only [b0, hc, if_true]
        rw [er]
        refine ⟨Or.inl ⟨rfl, fun x => by rw [← hm]; exact Iff.rfl, by rw [← hh]; unfold pd; omega, by unfold pd; simp only []; omega⟩, mi.drop p1 hn hpk h0.1, ?_, fun h2 d' B B' hB _ _ qj => dropO p1 hn hpk h0.1 h2 d' B B' hB qj⟩
        intro _ A' ha hb
        refine ⟨by simp [e], fun _ => ⟨p1, mi.nl _ p2, p3⟩, fun _ => ?_, fun e2 => absurd e2 (by simp [e]), fun e2 => absurd e2 (by simp [e])⟩
        rcases q3 e with a | w
        · exact Or.inl (ha a)
        · exact Or.inr (Wk.drop mi p1 hn hpk h0.1 (w.past h0.1))
      · exact again (by omega) (by unfold markS; rw [e]; simp only [b0, hc, if_true, Bool.false_eq_true, if_false])
    · have b0 : (m.mr h.c && d.kind != 3) = false := by
        cases a : m.mr h.c with
        | false => rfl
        | true => simp only [Bool.true_and, bne_eq_false_iff_eq]; exact Classical.byContradiction (fun hx => h0 ⟨a, hx⟩)
      by_cases h1 : m.ky h.c < d.key
      · refine still (h.on m) (by omega) (by simp [Hd.on, e]) (by unfold markS; rw [e]; simp only [b0, h1, if_true, Bool.false_eq_true, if_false]) ?_
        intro A' ha hb
        refine ⟨by simp [Hd.on, e], fun _ => ⟨p2, mi.nl _ p2, h1⟩, fun _ => ?_, fun e2 => absurd e2 (by simp [Hd.on, e]), fun e2 => absurd e2 (by simp [Hd.on, e])⟩
        rcases q3 e with a | w
        · exact Or.inl (ha a)
        · exact Or.inr (w.on h1)
      · by_cases h3 : d.kind = 3
        · refine ends (decide (m.ky h.c = d.key) && !m.mr h.c) (by omega) (by unfold markS; rw [e]; simp [h1, h3]) (fun hc => hc.2 h3) ?_
          rw [h3]
          by_cases hf : m.ky h.c = d.key ∧ m.mr h.c = false
          · refine ⟨s.now, hbn, Nat.le_refl _, ?_⟩
            rw [hcur]
            simp only [hf.1, hf.2]
            exact ⟨fun _ => rfl, fun _ => ⟨h.c, p2, hf.2, hf.1⟩⟩
          · have hx : A := by
              rcases q3 e with a | w
              · exact a
              · exact absurd (w.found mi p2 (by omega)) hf
            obtain ⟨t, t1, t2, t3⟩ := hAx hx
            refine ⟨t, t1, t2, ?_⟩
            have : (decide (m.ky h.c = d.key) && !m.mr h.c) = false := by
              cases hmr : m.mr h.c with
              | true => simp
              | false => simp; intro hke; exact hf ⟨hke, hmr⟩
            rw [this]
            exact ⟨fun hh => absurd hh t3, fun hh => absurd hh (by decide)⟩
        · have mc : m.mr h.c = false := by
            cases a : m.mr h.c with
            | false => rfl
            | true => exact absurd ⟨a, h3⟩ h0
          by_cases h4 : decide (m.ky h.c = d.key) = decide (d.kind = 1)
          · refine ends false (by omega) (by unfold markS; rw [e]; simp only [b0, h1, h3, h4, if_true, Bool.false_eq_true, if_false]) (by simp) ?_
            by_cases hk1 : d.kind = 1
            · have hke : m.ky h.c = d.key := by simpa [hk1] using h4
              refine ⟨s.now, hbn, Nat.le_refl _, ?_⟩
              rw [hcur, hk1]
              exact ⟨fun _ => by decide, fun _ => ⟨h.c, p2, mc, hke⟩⟩
            · have hke : ¬ m.ky h.c = d.key := by simpa [hk1] using h4
              have hx : A := by
                rcases q3 e with a | w
                · exact a
                · exact absurd (w.found mi p2 (by omega)).1 hke
              obtain ⟨t, t1, t2, t3⟩ := hAx hx
              refine ⟨t, t1, t2, ?_⟩
              rw [show d.kind = 2 by omega]
              exact ⟨fun hh => absurd hh t3, fun hh => absurd hh (by decide)⟩
          · refine still { h with plc := 2 } (by omega) (by simp) (by unfold markS; rw [e]; simp only [b0, h1, h3, h4, Bool.false_eq_true, if_false]) ?_
            intro A' _ _
            refine ⟨by simp, fun _ => ⟨p1, p2, p3⟩, fun e => absurd e (by simp), fun _ => ⟨h3, fun hk2 => ?_, fun hk1 => ?_⟩, fun e => absurd e (by simp)⟩
            · refine Classical.byContradiction (fun hx => h4 ?_)
              simp [hx, hk2]
            · have : ¬ m.ky h.c = d.key := fun hx => h4 (by simp [hx, hk1])
              show d.key < m.ky h.c; omega
  · -- the deed
    obtain ⟨p1, p2, p3⟩ := q2 (by omega)
    obtain ⟨k1, k2, k3⟩ := q4 e
    by_cases hk1 : d.kind = 1
    · by_cases hc : clean m h = true
      · obtain ⟨mp, hn⟩ := clean_iff.1 hc
        have hkc := k3 hk1
        have gp := mi.gap p1 mp hn p3 hkc
        have er : markS false m h d = (m.ins h.p h.c d.key, { h with is := true }, true) := by unfold markS; rw [e]; simp only [hk1, hc, Bool.false_or, if_true]
        rw [er]
        refine ⟨Or.inr (Or.inr (Or.inl ⟨rfl, by rw [← hh]; unfold pd; omega, rfl, k1, ?_, ?_⟩)), mi.ins p1 mp hn p3 hkc hk.1 hk.2.1, fun e => absurd e (by simp), ?_⟩
        · rw [← hm, hk1]; exact ⟨fun hx => absurd hx gp, fun hx => absurd hx (by decide)⟩
        · intro x
          rw [← hm, hk1]
          show InS (m.ins h.p h.c d.key) x ↔ _
          rw [InS.ins]
          by_cases ex : x = d.key <;> simp [ex]
        · intro h2 d' B B' hB _ hpj qj
          rw [← hm] at qj
          obtain ⟨r1, r2, r3, r4, r5⟩ := qj
          obtain ⟨s1, s2, s3⟩ := r2 hpj
          have up1 : ∀ (α : Type) (f : Nat → α) x y, y < m.n → up f m.n x y = f y := fun α f x y hy => up_ne _ _ (by omega)
          refine ⟨r1, fun _ => ⟨Nat.lt_succ_of_lt s1, Nat.lt_succ_of_lt s2, ?_⟩, fun e2 => ?_, fun e2 => ?_, fun e2 => ?_⟩
          · show up m.ky m.n d.key _ < _; rw [up1 _ _ _ _ s1]; exact s3
          · rcases r3 e2 with a | w
            · exact Or.inl (hB a)
            · exact Or.inr (Wk.ins mi p1 hn s2 w)
          · show _ ∧ (_ → up m.ky m.n d.key _ = _) ∧ (_ → _ < up m.ky m.n d.key _); rw [up1 _ _ _ _ s2]; exact r4 e2
          · obtain ⟨w1, w2, w3, w4⟩ := r5 e2
            refine ⟨w1, w2, ?_, ?_⟩
            · show up m.ky m.n d.key _ = _; rw [up1 _ _ _ _ s2]; exact w3
            · show up m.mr m.n false _ = _; rw [up1 _ _ _ _ s2]; exact w4
      · exact again (by omega) (by unfold markS; rw [e]; simp only [hk1, hc, Bool.false_or, if_true, Bool.false_eq_true, if_false])
    · have hk2 : d.kind = 2 := by omega
      have hke := k2 hk2
      by_cases mc : m.mr h.c = true
      · exact again (by omega) (by unfold markS; rw [e]; simp only [hk1, mc, if_true, Bool.false_eq_true, if_false])
      · have mc : m.mr h.c = false := by simpa using mc
        have er : markS false m h d = (m.mark h.c, { h with plc := 3, is := true }, false) := by unfold markS; rw [e]; simp only [hk1, mc, Bool.false_eq_true, if_false]
        rw [er]
        refine ⟨Or.inr (Or.inr (Or.inr (Or.inl ⟨rfl, by rw [← hh]; unfold pd; omega, Or.inr ⟨rfl, rfl⟩, hk2, ?_, ?_⟩))), mi.mark (by omega) (by omega), ?_, ?_⟩
        · rw [← hm]; exact ⟨h.c, p2, mc, hke⟩
        · intro x
          rw [← hm, ← hke]
          show InS (m.mark h.c) x ↔ _
          rw [InS.mark mi p2 mc]
          exact And.comm
        · intro _ A' _ _
          refine ⟨Nat.le_refl _, fun _ => ⟨p1, p2, p3⟩, fun e => absurd e (by simp), fun e => absurd e (by simp), fun _ => ⟨rfl, hk2, hke, ?_⟩⟩
          show up m.mr h.c true h.c = true; rw [up_same]
        · intro h2 d' B B' hB hI hpj qj
          rw [← hm] at qj
          obtain ⟨r1, r2, r3, r4, r5⟩ := qj
          refine ⟨r1, r2, fun e2 => ?_, r4, fun e2 => ?_⟩
          · rcases r3 e2 with a | w
            · exact Or.inl (hB a)
            · by_cases ek : m.ky h.c = d'.key
              · refine Or.inl (hI ?_)
                show ¬ InS (m.mark h.c) d'.key
                rw [InS.mark mi p2 mc]
                exact fun hx => hx.2 ek.symm
              · exact Or.inr (w.mark ek)
          · obtain ⟨w1, w2, w3, w4⟩ := r5 e2
            refine ⟨w1, w2, w3, ?_⟩
            show up m.mr h.c true _ = _; unfold up; split
            · rfl
            · exact w4
  · -- off the way
    obtain ⟨p1, p2, p3⟩ := q2 (by omega)
    obtain ⟨w1, w2, w3, w4⟩ := q5 e
    have hpk : m.ky h.p ≠ 10 := by omega
    have er : markS false m h d = (if clean m h then m.drop h.p h.c else m, h, true) := by unfold markS; rw [e]; rfl
    rw [er]
    by_cases hc : clean m h = true
    · obtain ⟨mp, hn⟩ := clean_iff.1 hc
      rw [if_pos hc]
      exact ⟨Or.inr (Or.inr (Or.inr (Or.inr ⟨rfl, by rw [← hh]; exact Or.inr ⟨rfl, e⟩, w1, fun x => by rw [← hm]; exact Iff.rfl⟩))), mi.drop p1 hn hpk w4, fun e => absurd e (by simp), fun h2 d' B B' hB _ _ qj => dropO p1 hn hpk w4 h2 d' B B' hB qj⟩
    · rw [if_neg hc]
      refine ⟨Or.inr (Or.inr (Or.inr (Or.inr ⟨rfl, by rw [← hh]; exact Or.inr ⟨rfl, e⟩, w1, fun x => by rw [← hm]⟩))), mi, fun e => absurd e (by simp), ?_⟩
      intro h2 d' B B' hB _ _ qj
      rw [← hm] at qj
      obtain ⟨r1, r2, r3, r4⟩ := qj
      refine ⟨r1, r2, fun e => ?_, r4⟩
      rcases r3 e with a | w
      · exact Or.inl (hB a)
      · exact Or.inr w
end Go.Proofs.Ytoihdnekkgpcoaa
namespace Go.Proofs.Ytoihdnekkgpcoaa
set_option linter.unusedVariables false
set_option linter.unusedSimpArgs false

/-- What holds of a hand that goes hand over hand. -/
def QLk (m : Mm) (h : Hd) (d : Dd) (A : Prop) : Prop :=
  h.plc ≤ 2 ∧ (h.plc ≠ 0 → h.p < m.n ∧ h.c < m.n ∧ m.ky h.p < d.key ∧ m.mr h.p = false ∧ m.nx h.p = h.c)
/-- Behind one without a mark there is none with one. -/
def NmI (m : Mm) : Prop := ∀ x, x < m.n → m.mr x = false → m.mr (m.nx x) = false
structure LkJ (nh : Nat) (D : Nat → Nat → Dd) (S : Nat → Int → Prop) (pos : Nat → Nat → Nat) (s : St) : Prop where
  li : LI 1 nh D S pos s
  mi : MI s.m
  hq : HInv D QLk S s
  lk : LkI 1 2 nh s.m s.hd
  nm : NmI s.m
/-- What a step must show. -/
def LkOut (nh : Nat) (S : Nat → Int → Prop) (s : St) (i : Nat) (d : Dd) (A : Prop) (r : Mm × Hd × Bool) : Prop :=
  Outc 1 S s i d r ∧ MI r.1 ∧
  (r.2.2 = false → ∀ A' : Prop, QLk r.1 r.2.1 d A') ∧
  (∀ j d' (A A' : Prop), j ≠ i → (s.hd j).plc ≠ 0 → QLk s.m (s.hd j) d' A → QLk r.1 (s.hd j) d' A') ∧
  LkI 1 2 nh r.1 (up s.hd i (if r.2.2 then hd0 else r.2.1)) ∧ NmI r.1
theorem MI.pred {m : Mm} (h : MI m) {p x c : Nat} (hp : p < m.n) (hx : x < m.n) (mp : m.mr p = false) (mx : m.mr x = false) (e1 : m.nx p = c) (e2 : m.nx x = c) (hc : m.ky c ≠ 10) : x = p := by
  have np : m.ky p ≠ 10 := by
    intro e; have := h.tl p hp e; rw [e1] at this; rw [this] at hc; exact hc e
  have nx : m.ky x ≠ 10 := by
    intro e; have := h.tl x hx e; rw [e2] at this; rw [this] at hc; exact hc e
  have k1 := h.ri p hp np
  have k2 := h.ri x hx nx
  rw [e1] at k1; rw [e2] at k2
  have hcn : c < m.n := by rw [← e1]; exact h.nl p hp
  rcases (h.rc p hp mp).comp x (h.rc x hx mx) with r | r
  · cases r with
    | refl => rfl
    | step _ _ r =>
      rw [e1] at r
      rcases h.le r hcn with e | e
      · rw [e] at k2; omega
      · omega
  · cases r with
    | refl => rfl
    | step _ _ r =>
      rw [e2] at r
      rcases h.le r hcn with e | e
      · rw [e] at k1; omega
      · omega
theorem lock_step {nh : Nat} {D : Nat → Nat → Dd} {S : Nat → Int → Prop} {pos : Nat → Nat → Nat} {s : St} (I : LkJ nh D S pos s) (i : Nat) (hi : i < nh) (d : Dd) (hd : d = D i (s.deed i)) (hk : 0 ≤ d.key ∧ d.key ≤ 9 ∧ (d.kind = 1 ∨ d.kind = 2 ∨ d.kind = 3)) : LkOut nh S s i d (absn D S s i) (lockS s.m (s.hd i) d) := by
  obtain ⟨li, mi, hq, lk, nm⟩ := I
  obtain ⟨q, pg⟩ := hq i
  rw [← hd] at q
  have hbn := (toldB_at (li.len i) (li.bg i)).2
  obtain ⟨m, hm⟩ : ∃ m, m = s.m := ⟨_, rfl⟩
  obtain ⟨h, hh⟩ : ∃ h, h = s.hd i := ⟨_, rfl⟩
  rw [← hm, ← hh] at q ⊢
  rw [← hm] at mi lk nm
  have hcur : ∀ x, S s.now x ↔ InS m x := by rw [hm]; exact li.cur
  have npd : ∀ h' : Hd, ¬ pd 1 h' := by intro h'; unfold pd; omega
  obtain ⟨A, hA⟩ : ∃ A, A = absn D S s i := ⟨_, rfl⟩
  rw [← hA] at q ⊢
  have mis : ∀ (m' : Mm), m'.n = m.n → m'.ky = m.ky → m'.nx = m.nx → m'.mr = m.mr → (∀ x, InS m' x ↔ InS m x) ∧ MI m' ∧ NmI m' ∧ ∀ j d' (B B' : Prop), QLk s.m (s.hd j) d' B → QLk m' (s.hd j) d' B' := by
    intro m' e1 e2 e3 e4
    refine ⟨fun x => by unfold InS; rw [e1, e2, e4], ?_, ?_, ?_⟩
    · exact ⟨by rw [e1]; exact mi.pos, by rw [e2]; exact mi.k0, by rw [e1, e2]; exact mi.kl, by rw [e1, e3]; exact mi.nl, by rw [e1, e2, e3]; exact mi.ri, by rw [e1, e2, e3]; exact mi.tl, by rw [e1, e2, e4]; exact mi.md, by rw [e1, e3, e4]; exact mi.rc⟩
    · unfold NmI; rw [e1, e3, e4]; exact nm
    · intro j d' B B' qj
      rw [← hm] at qj
      unfold QLk at qj ⊢
      rw [e1, e2, e3, e4]; exact qj
  -- a step that leaves the keys, the way and the marks
  have still : ∀ (m' : Mm) (h' : Hd), m'.n = m.n → m'.ky = m.ky → m'.nx = m.nx → m'.mr = m.mr → lockS m h d = (m', h', false) → (∀ A' : Prop, QLk m' h' d A') → LkI 1 2 nh m' (up s.hd i h') → LkOut nh S s i d A (lockS m h d) := by
    intro m' h' e1 e2 e3 e4 er hq' hlk
    obtain ⟨x1, x2, x3, x4⟩ := mis m' e1 e2 e3 e4
    rw [er]
    exact ⟨Or.inl ⟨rfl, by rw [← hm]; exact x1, npd _, npd _⟩, x2, fun _ A' => hq' A', fun j d' B B' _ _ qj => x4 j d' B B' qj, hlk, x3⟩
  obtain ⟨q1, q2⟩ := q
  have c3 : h.plc = 0 ∨ h.plc = 1 ∨ h.plc = 2 := by omega
  rcases c3 with e | e | e
  · -- begin
    by_cases hl : m.lk 0 = true
    · refine still m h rfl rfl rfl rfl (by unfold lockS; rw [e]; simp only [hl, if_true]) (fun A' => ⟨q1, q2⟩) (lk.same i hi _ (fun x => Iff.rfl) (fun x => by rw [← hh]))
    · refine still (m.lock 0) (h.again m) rfl rfl rfl rfl (by unfold lockS; rw [e]; simp only [hl, if_false, Bool.false_eq_true]) (fun A' => ⟨by simp [Hd.again], fun _ => ⟨mi.pos, mi.nl 0 mi.pos, by show m.ky 0 < _; rw [mi.k0]; omega, mi.mr0, rfl⟩⟩) ?_
      refine lk.take i hi _ 0 (by simpa using hl) rfl (fun x => ?_)
      unfold ow Hd.again; rw [← hh]; simp only []; omega
  · -- the lock
    obtain ⟨p1, p2, p3, p4, p5⟩ := q2 (by omega)
    by_cases hl : m.lk h.c = true
    · refine still m h rfl rfl rfl rfl (by unfold lockS; rw [e]; simp only [hl, if_true]) (fun A' => ⟨q1, q2⟩) (lk.same i hi _ (fun x => Iff.rfl) (fun x => by rw [← hh]))
    · refine still (m.lock h.c) { h with plc := 2 } rfl rfl rfl rfl (by unfold lockS; rw [e]; simp only [hl, if_false, Bool.false_eq_true]) (fun A' => ⟨Nat.le_refl _, fun _ => ⟨p1, p2, p3, p4, p5⟩⟩) ?_
      refine lk.take i hi _ h.c (by simpa using hl) rfl (fun x => ?_)
      unfold ow; rw [← hh]; simp only []; omega
  · -- look
    obtain ⟨p1, p2, p3, p4, p5⟩ := q2 (by omega)
    have mc : m.mr h.c = false := by have := nm h.p p1 p4; rwa [p5] at this
    have oh : ∀ x, ow 1 2 (s.hd i) x ↔ x = (s.hd i).p ∨ x = (s.hd i).c := by intro x; rw [← hh]; unfold ow; omega
    by_cases h1 : m.ky h.c < d.key
    · have hpc : h.c ≠ h.p := by
        intro e2
        have := mi.ri h.p p1 (by omega)
        rw [p5, e2] at this; omega
      refine still (m.free1 h.p) { h.on m with plc := 1 } rfl rfl rfl rfl (by unfold lockS; rw [e]; simp only [h1, if_true]) (fun A' => ⟨by simp, fun _ => ⟨p2, mi.nl _ p2, h1, mc, rfl⟩⟩) ?_
      refine lk.step i hi _ (fun x => ?_) (fun x hx => Or.inl ?_)
      · show up m.lk h.p false x = true ↔ _
        rw [oh, ← hh]
        have h3 : ow 1 2 { h.on m with plc := 1 } x ↔ x = h.c := by unfold ow Hd.on; simp only []; omega
        rw [h3]
        have hlc : m.lk h.c = true := lk.lks i h.c ((oh _).2 (Or.inr (by rw [hh])))
        by_cases ep : x = h.p
        · subst ep; simp [up, hpc.symm]
        · simp only [up, ep, if_false, false_or]
          by_cases ec : x = h.c
          · subst ec; simp [hlc]
          · simp [ec]
      · rw [oh, ← hh]
        have h3 : ow 1 2 { h.on m with plc := 1 } x ↔ x = h.c := by unfold ow Hd.on; simp only []; omega
        exact Or.inr (h3.1 hx)
    · have og : ∀ m' : Mm, (∀ x, m'.lk x = true ↔ m.lk x = true ∧ x ≠ h.p ∧ x ≠ h.c) → LkI 1 2 nh m' (up s.hd i hd0) := by
        intro m' e5
        refine lk.give i hi hd0 (ow0 1 2 _ (by simp [hd0]) (by simp [hd0])) oh (fun x => ?_)
        rw [e5, hh]
      have ends : ∀ is : Bool, lockS m h d = (m.free h.p h.c, { h with is := is }, true) → ¬ (is = true ∧ d.kind ≠ 3) → (InS m d.key ↔ is = decide (d.kind ≠ 1)) → LkOut nh S s i d A (lockS m h d) := by
        intro is er hni ht
        obtain ⟨x1, x2, x3, x4⟩ := mis (m.free h.p h.c) rfl rfl rfl rfl
        rw [er]
        exact ⟨Or.inr (Or.inl ⟨rfl, npd _, by rw [← hm]; exact x1, hni, s.now, hbn, Nat.le_refl _, by rw [hcur]; exact ht⟩), x2, fun e => absurd e (by simp), fun j d' B B' _ _ qj => x4 j d' B B' qj, og _ (fun x => lk_free), x3⟩
      by_cases hke : m.ky h.c = d.key
      · have hin : InS m d.key := ⟨h.c, p2, mc, hke⟩
        have hlt : ¬ d.key < d.key := by omega
        by_cases hk1 : d.kind = 1
        · refine ends false (by unfold lockS; rw [e]; simp only [h1, hk1, hke, hlt, if_true, if_false]) (by simp) ?_
          rw [hk1]; exact ⟨fun _ => by decide, fun _ => hin⟩
        · by_cases hk2 : d.kind = 2
          · -- away
            have er : lockS m h d = (((m.free h.p h.c).mark h.c).drop h.p h.c, { h with is := true }, true) := by unfold lockS; rw [e]; simp [h1, hk1, hke, hk2, hlt]
            have hpk : m.ky h.p ≠ 10 := by omega
            have mi1 : MI ((m.free h.p h.c).mark h.c) := (mi.free h.p h.c).mark (show 0 ≤ m.ky h.c by omega) (show m.ky h.c ≤ 9 by omega)
            have hmc : ((m.free h.p h.c).mark h.c).mr h.c = true := up_same _ _ _
            rw [er]
            refine ⟨Or.inr (Or.inr (Or.inl ⟨rfl, npd _, rfl, by omega, ?_, ?_⟩)), mi1.drop p1 p5 hpk hmc, fun e => absurd e (by simp), ?_, og _ (fun x => lk_free), ?_⟩
            · rw [← hm]; exact ⟨fun _ => hk2, fun _ => hin⟩
            · intro x
              rw [← hm]
              show InS ((m.free h.p h.c).mark h.c) x ↔ _
              rw [InS.mark (mi.free h.p h.c) p2 mc, InS.free]
              show InS m x ∧ x ≠ m.ky h.c ↔ _
              rw [hke, hk2]
              by_cases ex : x = d.key <;> simp [ex]
            · intro j d' B B' hj hpj qj
              rw [← hm] at qj
              obtain ⟨r1, r2⟩ := qj
              obtain ⟨s1, s2, s3, s4, s5⟩ := r2 hpj
              have oj : ow 1 2 (s.hd j) (s.hd j).p := Or.inl ⟨by omega, rfl⟩
              have n1 : (s.hd j).p ≠ h.p := fun e3 => hj (lk.dis j i _ oj ((oh _).2 (Or.inl (by rw [e3, hh]))))
              have n2 : (s.hd j).p ≠ h.c := fun e3 => hj (lk.dis j i _ oj ((oh _).2 (Or.inr (by rw [e3, hh]))))
              refine ⟨r1, fun _ => ⟨s1, s2, s3, ?_, ?_⟩⟩
              · show up m.mr h.c true _ = _; rw [up_ne _ _ n2]; exact s4
              · show up m.nx h.p _ _ = _; rw [up_ne _ _ n1]; exact s5
            · intro x hx mx
              have mx : up m.mr h.c true x = false := mx
              have exc : x ≠ h.c := by rintro rfl; rw [up_same] at mx; exact absurd mx (by decide)
              rw [up_ne _ _ exc] at mx
              show up m.mr h.c true (up m.nx h.p (m.nx h.c) x) = false
              by_cases ex : x = h.p
              · subst ex
                rw [up_same]
                have n3 : m.nx h.c ≠ h.c := by
                  intro e3
                  have := mi.ri h.c p2 (by omega)
                  rw [e3] at this; omega
                rw [up_ne _ _ n3]
                exact nm h.c p2 mc
              · rw [up_ne _ _ ex]
                have n3 : m.nx x ≠ h.c := fun e3 => ex (mi.pred p1 hx p4 mx p5 e3 (by omega))
                rw [up_ne _ _ n3]
                exact nm x hx mx
          · have hk3 : d.kind = 3 := by omega
            refine ends true (by unfold lockS; rw [e]; simp [h1, hk1, hke, hk2, hk3, hlt]) (fun hc => hc.2 hk3) ?_
            rw [hk3]; exact ⟨fun _ => by decide, fun _ => hin⟩
      · have gp := mi.gap p1 p4 p5 p3 (show d.key < m.ky h.c by omega)
        by_cases hk1 : d.kind = 1
        · -- a new bead
          have er : lockS m h d = ((m.free h.p h.c).ins h.p h.c d.key, { h with is := true }, true) := by unfold lockS; rw [e]; simp only [h1, hk1, hke, if_true, if_false]
          rw [er]
          refine ⟨Or.inr (Or.inr (Or.inl ⟨rfl, npd _, rfl, by omega, ?_, ?_⟩)), (mi.free h.p h.c).ins p1 p4 p5 p3 (show d.key < m.ky h.c by omega) hk.1 hk.2.1, fun e => absurd e (by simp), ?_, og _ (fun x => ?_), ?_⟩
          · rw [← hm, hk1]; exact ⟨fun hx => absurd hx gp, fun hx => absurd hx (by decide)⟩
          · intro x
            rw [← hm, hk1]
            show InS ((m.free h.p h.c).ins h.p h.c d.key) x ↔ _
            rw [InS.ins, InS.free]
            by_cases ex : x = d.key <;> simp [ex]
          · intro j d' B B' hj hpj qj
            rw [← hm] at qj
            obtain ⟨r1, r2⟩ := qj
            obtain ⟨s1, s2, s3, s4, s5⟩ := r2 hpj
            have up1 : ∀ (α : Type) (f : Nat → α) x y, y < m.n → up f m.n x y = f y := fun α f x y hy => up_ne _ _ (by omega)
            have oj : ow 1 2 (s.hd j) (s.hd j).p := Or.inl ⟨by omega, rfl⟩
            have n1 : (s.hd j).p ≠ h.p := fun e3 => hj (lk.dis j i _ oj ((oh _).2 (Or.inl (by rw [e3, hh]))))
            refine ⟨r1, fun _ => ⟨Nat.lt_succ_of_lt s1, Nat.lt_succ_of_lt s2, ?_, ?_, ?_⟩⟩
            · show up m.ky m.n d.key _ < _; rw [up1 _ _ _ _ s1]; exact s3
            · show up m.mr m.n false _ = _; rw [up1 _ _ _ _ s1]; exact s4
            · show up (up m.nx m.n h.c) h.p m.n _ = _; rw [up_ne _ _ n1, up1 _ _ _ _ s1]; exact s5
          · show up (m.free h.p h.c).lk m.n false x = true ↔ _
            by_cases ex : x = m.n
            · subst ex
              rw [up_same]
              refine ⟨fun hx => absurd hx (by decide), fun hx => ?_⟩
              obtain ⟨j, _, ho⟩ := lk.all _ hx.1
              obtain ⟨⟨_, j2⟩, _⟩ := hq j
              rw [← hm] at j2
              rcases ho with ⟨o1, o2⟩ | ⟨o1, o2⟩
              · have := (j2 (by omega)).1; omega
              · have := (j2 (by omega)).2.1; omega
            · rw [up_ne _ _ ex, lk_free]
          · intro x hx mx
            have hx : x < m.n + 1 := hx
            have mx : up m.mr m.n false x = false := mx
            show up m.mr m.n false (up (up m.nx m.n h.c) h.p m.n x) = false
            by_cases ex : x = h.p
            · rw [ex, up_same, up_same]
            · rw [up_ne _ _ ex]
              by_cases en : x = m.n
              · rw [en, up_same]; rw [up_ne _ _ (show h.c ≠ m.n by omega)]; exact mc
              · rw [up_ne _ _ en] at mx ⊢
                have := mi.nl x (by omega)
                rw [up_ne _ _ (show m.nx x ≠ m.n by omega)]
                exact nm x (by omega) mx
        · refine ends false (by unfold lockS; rw [e]; simp only [h1, hk1, hke, if_false]) (by simp) ?_
          exact ⟨fun hx => absurd hx gp, fun hx => by simp [hk1] at hx⟩
end Go.Proofs.Ytoihdnekkgpcoaa
namespace Go.Proofs.Ytoihdnekkgpcoaa
set_option linter.unusedVariables false
set_option linter.unusedSimpArgs false

/-- Deed e of hand i. -/
def dd (P : List (List Dd)) (i e : Nat) : Dd := ((P[i]?.getD [])[e]?).getD ⟨3, 0⟩
/-- How many deeds hand i has. -/
def ndl (P : List (List Dd)) (i : Nat) : Nat := (P[i]?.getD []).length
theorem can_iff {P : List (List Dd)} {s : St} {i : Nat} : can P s i = true ↔ s.deed i < ndl P i := by
  unfold can ndl
  cases h : P[i]? with
  | none => simp
  | some l => simp
theorem can_lt {P : List (List Dd)} {s : St} {i : Nat} (h : can P s i = true) : i < P.length := by
  unfold can at h
  cases e : P[i]? with
  | none => rw [e] at h; exact absurd h (by simp)
  | some l => exact (List.getElem?_eq_some_iff.1 e).1
theorem stpO_can {alg : Nat} {P : List (List Dd)} {s : St} {i : Nat} (h : can P s i = true) : stpO alg P s i = stp alg (dd P i (s.deed i)) s i := by
  unfold stpO dd
  unfold can at h
  cases e : P[i]? with
  | none => rw [e] at h; exact absurd h (by simp)
  | some l =>
    rw [e] at h
    have h : s.deed i < l.length := by simpa using h
    simp only [Option.getD_some]
    rw [List.getElem?_eq_getElem h]
    rfl
theorem stp_now (alg : Nat) (d : Dd) (s : St) (i : Nat) : (stp alg d s i).now = s.now + 1 := by
  unfold stp; simp only []; split <;> rfl
theorem stpO_now {alg : Nat} {P : List (List Dd)} {s : St} {i : Nat} : (stpO alg P s i).now = s.now ∨ (can P s i = true ∧ (stpO alg P s i).now = s.now + 1) := by
  by_cases h : can P s i = true
  · rw [stpO_can h, stp_now]; exact Or.inr ⟨h, rfl⟩
  · rw [stpO_cannot _ _ _ _ (by simpa using h)]; exact Or.inl rfl
/-- Nobody but hand i is moved. -/
theorem stp_other {alg : Nat} {d : Dd} {s : St} {i j : Nat} (hj : j ≠ i) : (stp alg d s i).hd j = s.hd j ∧ (stp alg d s i).deed j = s.deed j ∧ (stp alg d s i).told j = s.told j := by
  unfold stp; simp only []
  split
  · exact ⟨up_ne _ _ hj, up_ne _ _ hj, up_ne _ _ hj⟩
  · exact ⟨up_ne _ _ hj, rfl, up_ne _ _ hj⟩
/-- What must be known of the steps, for rounds that cost as much as they have steps. -/
structure Pot (alg : Nat) (P : List (List Dd)) (I : St → Prop) (F : St → Nat) (bl un : (Nat → Bool) → Hd → Prop) : Prop where
  keep : ∀ s i, I s → can P s i = true → I (stp alg (dd P i (s.deed i)) s i)
  tri : ∀ s i, I s → can P s i = true →
    F (stp alg (dd P i (s.deed i)) s i) + 5 ≤ F s ∨
    (¬ un s.m.lk (s.hd i) ∧ ¬ bl s.m.lk (s.hd i) ∧ (stp alg (dd P i (s.deed i)) s i).m.lk = s.m.lk ∧ F (stp alg (dd P i (s.deed i)) s i) + 1 ≤ F s) ∨
    (¬ un s.m.lk (s.hd i) ∧ bl s.m.lk (s.hd i) ∧ (stp alg (dd P i (s.deed i)) s i).m.lk = s.m.lk ∧ F (stp alg (dd P i (s.deed i)) s i) ≤ F s)
  mx : ∀ s i, I s → can P s i = true → bl s.m.lk (s.hd i) → ∃ u, can P s u = true ∧ un s.m.lk (s.hd u)
variable {alg : Nat} {P : List (List Dd)} {I : St → Prop} {F : St → Nat} {bl un : (Nat → Bool) → Hd → Prop}
theorem Pot.keepO (p : Pot alg P I F bl un) {s : St} (h : I s) (i : Nat) : I (stpO alg P s i) ∧ F (stpO alg P s i) ≤ F s := by
  by_cases hc : can P s i = true
  · rw [stpO_can hc]
    refine ⟨p.keep s i h hc, ?_⟩
    rcases p.tri s i h hc with t | ⟨_, _, _, t⟩ | ⟨_, _, _, t⟩ <;> omega
  · rw [stpO_cannot _ _ _ _ (by simpa using hc)]; exact ⟨h, Nat.le_refl _⟩
theorem Pot.ord (p : Pot alg P I F bl un) : ∀ (o : List Int) (s : St), I s → I (ordS alg P o s) ∧ F (ordS alg P o s) ≤ F s ∧ (ordS alg P o s).now ≤ s.now + o.length := by
  intro o
  induction o with
  | nil => intro s h; exact ⟨h, Nat.le_refl _, Nat.le_refl _⟩
  | cons w o ih =>
    intro s h
    have e : ordS alg P (w :: o) s = ordS alg P o (if 0 ≤ w ∧ w < (P.length : Int) then stpO alg P s w.toNat else s) := rfl
    rw [e]
    split
    · obtain ⟨h1, h2⟩ := p.keepO h w.toNat
      obtain ⟨a, b, c⟩ := ih _ h1
      have := @stpO_now alg P s w.toNat
      refine ⟨a, by omega, ?_⟩
      rw [List.length_cons]; omega
    · obtain ⟨a, b, c⟩ := ih _ h
      refine ⟨a, b, ?_⟩
      rw [List.length_cons]; omega
theorem Pot.round (p : Pot alg P I F bl un) (hl : P.length ≤ 4) {s : St} (h : I s) (hn : s.now + 4 ≤ 4000) : I (rnd alg P s) ∧ F (rnd alg P s) + (rnd alg P s).now ≤ F s + s.now := by
  have go : ∀ k, k ≤ 4 → ∃ x, x = (List.range k).foldl (stpL alg P) s ∧ I x ∧ s.now ≤ x.now ∧ x.now ≤ s.now + k ∧
      (F x + 5 ≤ F s ∨ (x.m.lk = s.m.lk ∧ (∀ j, k ≤ j → x.hd j = s.hd j ∧ x.deed j = s.deed j) ∧ (∀ u, u < k → can P s u = true → ¬ un s.m.lk (s.hd u)) ∧ F x ≤ F s ∧ (F x + x.now ≤ F s + s.now ∨ ∃ i, can P s i = true ∧ bl s.m.lk (s.hd i)))) := by
    intro k
    induction k with
    | zero => intro _; exact ⟨s, rfl, h, Nat.le_refl _, Nat.le_refl _, Or.inr ⟨rfl, fun j _ => ⟨rfl, rfl⟩, fun u hu => absurd hu (by omega), Nat.le_refl _, Or.inl (Nat.le_refl _)⟩⟩
    | succ k ih =>
      intro hk
      obtain ⟨x, ex, ix, n0, n1, hx⟩ := ih (by omega)
      refine ⟨stpL alg P x k, by rw [List.range_succ, List.foldl_append, ← ex]; rfl, ?_⟩
      have el : stpL alg P x k = stpO alg P x k := by unfold stpL; rw [if_pos (by omega)]
      rw [el]
      obtain ⟨i1, i2⟩ := p.keepO ix k
      have hnow := @stpO_now alg P x k
      refine ⟨i1, by omega, by omega, ?_⟩
      rcases hx with hx | ⟨x1, x2, x3, x4, x5⟩
      · exact Or.inl (by omega)
      · obtain ⟨y1, y2⟩ := x2 k (Nat.le_refl _)
        have hcs : can P x k = true ↔ can P s k = true := by rw [can_iff, can_iff, y2]
        by_cases hc : can P x k = true
        · rw [stpO_can hc]
          have oth := fun j (hj : k + 1 ≤ j) => @stp_other alg (dd P k (x.deed k)) x k j (by omega)
          have hj2 : ∀ j, k + 1 ≤ j → (stp alg (dd P k (x.deed k)) x k).hd j = s.hd j ∧ (stp alg (dd P k (x.deed k)) x k).deed j = s.deed j := by
            intro j hj
            obtain ⟨o1, o2, _⟩ := oth j hj
            obtain ⟨z1, z2⟩ := x2 j (by omega)
            exact ⟨by rw [o1, z1], by rw [o2, z2]⟩
          rcases p.tri x k ix hc with t | ⟨t1, t2, t3, t4⟩ | ⟨t1, t2, t3, t4⟩
          · exact Or.inl (by omega)
          · rw [x1, y1] at t1 t2
            refine Or.inr ⟨by rw [t3, x1], hj2, ?_, by omega, ?_⟩
            · intro u hu hcu
              by_cases eu : u = k
              · subst eu; exact t1
              · exact x3 u (by omega) hcu
            · rw [stp_now]
              rcases x5 with x5 | x5
              · exact Or.inl (by omega)
              · exact Or.inr x5
          · rw [x1, y1] at t1 t2
            refine Or.inr ⟨by rw [t3, x1], hj2, ?_, by omega, Or.inr ⟨k, hcs.1 hc, t2⟩⟩
            intro u hu hcu
            by_cases eu : u = k
            · subst eu; exact t1
            · exact x3 u (by omega) hcu
        · rw [stpO_cannot _ _ _ _ (by simpa using hc)]
          refine Or.inr ⟨x1, fun j hj => x2 j (by omega), ?_, x4, x5⟩
          intro u hu hcu
          by_cases eu : u = k
          · subst eu; exact absurd (hcs.2 hcu) hc
          · exact x3 u (by omega) hcu
  obtain ⟨x, ex, ix, n0, n1, hx⟩ := go P.length hl
  have er : rnd alg P s = x := by rw [ex]; rfl
  rw [er]
  refine ⟨ix, ?_⟩
  rcases hx with hx | ⟨x1, x2, x3, x4, x5⟩
  · omega
  · rcases x5 with x5 | ⟨i, c1, c2⟩
    · exact x5
    · obtain ⟨u, u1, u2⟩ := p.mx s i h c1 c2
      exact absurd u2 (x3 u (can_lt u1) u1)
theorem Pot.rounds (p : Pot alg P I F bl un) (hl : P.length ≤ 4) {s : St} (h : I s) (hn : F s + s.now + 4 ≤ 4000) : ∀ k, I (Nat.rec s (fun _ x => rnd alg P x) k) ∧ F (Nat.rec s (fun _ x => rnd alg P x) k) + (Nat.rec (motive := fun _ => St) s (fun _ x => rnd alg P x) k).now ≤ F s + s.now := by
  intro k
  induction k with
  | zero => exact ⟨h, Nat.le_refl _⟩
  | succ k ih =>
    obtain ⟨a, b⟩ := ih
    obtain ⟨c, d⟩ := p.round hl a (by omega)
    exact ⟨c, by show F (rnd alg P _) + (rnd alg P _).now ≤ _; omega⟩
/-- A round that changes nothing: nobody can step, or the time is over. -/
theorem rnd_same (hl : P.length ≤ 4) {s : St} (h : rnd alg P s = s) (hn : s.now < 4000) : ∀ i, can P s i = false := by
  have go : ∀ k, ∃ x, x = (List.range k).foldl (stpL alg P) s ∧ s.now ≤ x.now ∧ (x.now = s.now → x = s ∧ ∀ i, i < k → can P s i = false) := by
    intro k
    induction k with
    | zero => exact ⟨s, rfl, Nat.le_refl _, fun _ => ⟨rfl, fun i hi => absurd hi (by omega)⟩⟩
    | succ k ih =>
      obtain ⟨x, ex, n0, hx⟩ := ih
      refine ⟨stpL alg P x k, by rw [List.range_succ, List.foldl_append, ← ex]; rfl, ?_⟩
      unfold stpL
      split
      · have hnow := @stpO_now alg P x k
        refine ⟨by omega, fun e => ?_⟩
        obtain ⟨e1, e2⟩ := hx (by omega)
        have hc : can P x k = false := by
          cases hc : can P x k with
          | false => rfl
          | true => rw [stpO_can hc, stp_now] at e; omega
        rw [stpO_cannot _ _ _ _ hc]
        refine ⟨e1, fun i hi => ?_⟩
        by_cases ei : i = k
        · subst ei; rw [← e1]; exact hc
        · exact e2 i (by omega)
      · exact ⟨n0, fun e => by omega⟩
  obtain ⟨x, ex, n0, hx⟩ := go P.length
  have er : rnd alg P s = x := by rw [ex]; rfl
  rw [h] at er
  intro i
  by_cases hi : i < P.length
  · exact (hx (by rw [← er])).2 i hi
  · cases hc : can P s i with
    | false => rfl
    | true => exact absurd (can_lt hc) hi
/-- All deeds are done. -/
theorem Pot.all (p : Pot alg P I F bl un) (hl : P.length ≤ 4) {s s' : St} (h : I s) (hn : F s + s.now + 4 ≤ 4000) (hf : FinR alg P s s') : I s' ∧ s'.now < 4000 ∧ ∀ i, can P s' i = false := by
  obtain ⟨k, e1, e2⟩ := hf
  obtain ⟨a, b⟩ := p.rounds hl h hn k
  rw [← e1] at a b
  exact ⟨a, by omega, rnd_same hl e2 (by omega)⟩
/-- A sum over hands. -/
def sumN (f : Nat → Nat) : Nat → Nat
  | 0 => 0
  | n + 1 => sumN f n + f n
theorem sumN_le (f g : Nat → Nat) (B : Nat) (i X : Nat) (hi : g i + X ≤ f i) : ∀ n, (∀ j, j < n → j ≠ i → g j ≤ f j + B) → (i < n → sumN g n + X ≤ sumN f n + B * (n - 1)) ∧ (n ≤ i → sumN g n ≤ sumN f n + B * n) := by
  intro n
  induction n with
  | zero => intro _; exact ⟨fun h => absurd h (by omega), fun _ => Nat.zero_le _⟩
  | succ n ih =>
    intro hj
    obtain ⟨a, b⟩ := ih (fun j h1 h2 => hj j (by omega) h2)
    constructor
    · intro h
      show sumN g n + g n + X ≤ sumN f n + f n + B * n
      by_cases e : i = n
      · subst e
        have := b (Nat.le_refl _)
        omega
      · have h1 := a (by omega)
        have h2 := hj n (by omega) (fun h => e h.symm)
        have h3 : B * n = B * (n - 1) + B := by
          obtain ⟨k, rfl⟩ : ∃ k, n = k + 1 := ⟨n - 1, by omega⟩
          rw [Nat.add_sub_cancel, Nat.mul_add, Nat.mul_one]
        omega
    · intro h
      show sumN g n + g n ≤ sumN f n + f n + B * (n + 1)
      have h1 := b (by omega)
      have h2 := hj n (by omega) (by omega)
      rw [Nat.mul_add, Nat.mul_one]; omega
theorem sumN_const (f : Nat → Nat) (B : Nat) : ∀ n, (∀ j, j < n → f j ≤ B) → sumN f n ≤ B * n := by
  intro n
  induction n with
  | zero => intro _; exact Nat.le_refl _
  | succ n ih =>
    intro h
    have h1 := ih (fun j hj => h j (by omega))
    have h2 := h n (by omega)
    show sumN f n + f n ≤ _
    rw [Nat.mul_add, Nat.mul_one]; omega
end Go.Proofs.Ytoihdnekkgpcoaa
namespace Go.Proofs.Ytoihdnekkgpcoaa
set_option linter.unusedVariables false
set_option linter.unusedSimpArgs false

/-- Deeds within the limits. -/
def okD (d : Dd) : Prop := 0 ≤ d.key ∧ d.key ≤ 9 ∧ (d.kind = 1 ∨ d.kind = 2 ∨ d.kind = 3)
theorem dd_ok {P : List (List Dd)} (h : ∀ l ∈ P, ∀ d ∈ l, okD d) (i e : Nat) : okD (dd P i e) := by
  unfold dd
  cases h1 : P[i]? with
  | none => simp [okD]
  | some l =>
    simp only [Option.getD_some]
    cases h2 : l[e]? with
    | none => simp [okD]
    | some d => exact h l (List.mem_of_getElem? h1) d (List.mem_of_getElem? h2)
variable {nh : Nat} {D : Nat → Nat → Dd} {S : Nat → Int → Prop} {pos : Nat → Nat → Nat} {s : St}
theorem LzI.step (I : LzI nh D S pos s) (i : Nat) (hi : i < nh) (hk : okD (D i (s.deed i))) : ∃ S' pos', LzI nh D S' pos' (stp 2 (D i (s.deed i)) s i) ∧ ∀ t, t ≤ s.now → ∀ x, S' t x ↔ S t x := by
  obtain ⟨o1, o2, o3, o4, o5, o6⟩ := lazy_step I i hi (D i (s.deed i)) rfl hk
  have ea : algS 2 s.m (s.hd i) (D i (s.deed i)) = lazyS s.m (s.hd i) (D i (s.deed i)) := rfl
  obtain ⟨S', pos', li, hS⟩ := I.li.step i hi (by rw [ea]; exact o1)
  have v := stp_view I.li i (D i (s.deed i))
  have hm := v.1; rw [ea] at hm
  have hh := stp_hd 2 (D i (s.deed i)) s i; rw [ea] at hh
  refine ⟨S', pos', ⟨li, by rw [hm]; exact o2, ?_, by rw [hm, hh]; exact o5, by rw [hm, hh]; exact o6⟩, hS⟩
  refine HInv.step I.li I.hq i _ rfl hS ?_ ?_ ?_ ?_ ?_
  · intro x; have := li.cur x; rw [v.2.1, v.1] at this; exact this
  · intro m d A
    exact ⟨by simp [hd0], fun e => absurd rfl e, fun e => absurd e (by simp [hd0]), fun e => absurd e (by simp [hd0]), fun e => absurd e (by simp [hd0])⟩
  · intro m m' h d A A' e q
    exact ⟨by omega, fun e2 => absurd e e2, fun e2 => by omega, fun e2 => by omega, fun e2 => by omega⟩
  · intro j hj A A' hp ha hb q
    exact o4 j _ A A' hj ha hb hp q
  · intro hov A' ha hb
    exact o3 hov A' ha hb
theorem MkI.step (I : MkI nh D S pos s) (i : Nat) (hi : i < nh) (hk : okD (D i (s.deed i))) : ∃ S' pos', MkI nh D S' pos' (stp 3 (D i (s.deed i)) s i) ∧ ∀ t, t ≤ s.now → ∀ x, S' t x ↔ S t x := by
  obtain ⟨o1, o2, o3, o4⟩ := mark_step I i hi (D i (s.deed i)) rfl hk
  have ea : algS 3 s.m (s.hd i) (D i (s.deed i)) = markS false s.m (s.hd i) (D i (s.deed i)) := rfl
  obtain ⟨S', pos', li, hS⟩ := I.li.step i hi (by rw [ea]; exact o1)
  have v := stp_view I.li i (D i (s.deed i))
  have hm := v.1; rw [ea] at hm
  refine ⟨S', pos', ⟨li, by rw [hm]; exact o2, ?_⟩, hS⟩
  refine HInv.step I.li I.hq i _ rfl hS ?_ ?_ ?_ ?_ ?_
  · intro x; have := li.cur x; rw [v.2.1, v.1] at this; exact this
  · intro m d A
    exact ⟨by simp [hd0], fun e => absurd rfl e, fun e => absurd e (by simp [hd0]), fun e => absurd e (by simp [hd0]), fun e => absurd e (by simp [hd0])⟩
  · intro m m' h d A A' e q
    exact ⟨by omega, fun e2 => absurd e e2, fun e2 => by omega, fun e2 => by omega, fun e2 => by omega⟩
  · intro j hj A A' hp ha hb q
    exact o4 _ _ A A' ha hb hp q
  · intro hov A' ha hb
    exact o3 hov A' ha hb
theorem LkJ.step (I : LkJ nh D S pos s) (i : Nat) (hi : i < nh) (hk : okD (D i (s.deed i))) : ∃ S' pos', LkJ nh D S' pos' (stp 1 (D i (s.deed i)) s i) ∧ ∀ t, t ≤ s.now → ∀ x, S' t x ↔ S t x := by
  obtain ⟨o1, o2, o3, o4, o5, o6⟩ := lock_step I i hi (D i (s.deed i)) rfl hk
  have ea : algS 1 s.m (s.hd i) (D i (s.deed i)) = lockS s.m (s.hd i) (D i (s.deed i)) := rfl
  obtain ⟨S', pos', li, hS⟩ := I.li.step i hi (by rw [ea]; exact o1)
  have v := stp_view I.li i (D i (s.deed i))
  have hm := v.1; rw [ea] at hm
  have hh := stp_hd 1 (D i (s.deed i)) s i; rw [ea] at hh
  refine ⟨S', pos', ⟨li, by rw [hm]; exact o2, ?_, by rw [hm, hh]; exact o5, by rw [hm]; exact o6⟩, hS⟩
  refine HInv.step I.li I.hq i _ rfl hS ?_ ?_ ?_ ?_ ?_
  · intro x; have := li.cur x; rw [v.2.1, v.1] at this; exact this
  · intro m d A
    exact ⟨by simp [hd0], fun e => absurd rfl e⟩
  · intro m m' h d A A' e q
    exact ⟨by omega, fun e2 => absurd e e2⟩
  · intro j hj A A' hp ha hb q
    exact o4 j _ A A' hj hp q
  · intro hov A' ha hb
    exact o3 hov A'
/-- Of those that hold a lock one is not kept. -/
theorem LkI.unkept {a b : Nat} (hab : a ≤ b) {m : Mm} {hd : Nat → Hd} (h : LkI a b nh m hd) (hb : ∀ j, a ≤ (hd j).plc → m.ky (hd j).p < m.ky (hd j).c ∧ m.ky (hd j).p ≤ 10) :
    ∀ (N : Nat) j, a ≤ (hd j).plc → 10 - m.ky (hd j).p ≤ (N : Int) → ∃ u, a ≤ (hd u).plc ∧ (b ≤ (hd u).plc ∨ m.lk (hd u).c = false) := by
  intro N
  induction N with
  | zero =>
    intro j hj hN
    obtain ⟨h1, h2⟩ := hb j hj
    by_cases hl : m.lk (hd j).c = false
    · exact ⟨j, hj, Or.inr hl⟩
    · obtain ⟨k, _, ho⟩ := h.all (hd j).c (by simpa using hl)
      rcases ho with ⟨k1, k2⟩ | ⟨k1, k2⟩
      · have := (hb k k1).2; rw [← k2] at this; omega
      · exact ⟨k, by omega, Or.inl k1⟩
  | succ N ih =>
    intro j hj hN
    obtain ⟨h1, h2⟩ := hb j hj
    by_cases hl : m.lk (hd j).c = false
    · exact ⟨j, hj, Or.inr hl⟩
    · obtain ⟨k, _, ho⟩ := h.all (hd j).c (by simpa using hl)
      rcases ho with ⟨k1, k2⟩ | ⟨k1, k2⟩
      · exact ih k k1 (by rw [← k2]; omega)
      · exact ⟨k, by omega, Or.inl k1⟩
end Go.Proofs.Ytoihdnekkgpcoaa
