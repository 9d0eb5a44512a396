/-
  What is left, how often keys came and went, and the search for an order: in plain Lean. Conditions: as each theorem says.
  Who is alone has done its deed soon, and answers what is so. Conditions: as each theorem says.
  What a call leaves that writes one block of its caller's own (Kg). Conditions: none.
  Trees that are written (MT): nodes in blocks of their own, with a list of these blocks; a way down to a link that holds a subtree (ZP); what a call leaves that writes some blocks only (Kf); a variable that holds a slice (OB). Conditions: none.
  A variable that holds a slice which grows (OB): read, appended to. Conditions: none.
  Slices of slices that are read (RDS). Conditions: none.
-/
import Derived.Test.YtoihdnekkgpcoaaG4
import Derived.Test.YtoihdnekkgpcoaaG1

namespace Go.Proofs.Ytoihdnekkgpcoaa
set_option linter.unusedVariables false
set_option linter.unusedSimpArgs false

/-- What is left. -/
def leftM (m : Mm) : List Int := leftF m 12 (m.nx 0)
theorem leftF_more (m : Mm) (h : MI m) : ∀ (f i : Nat), i < m.n → 11 - m.ky i ≤ (f : Int) → leftF m (f + 1) i = leftF m f i := by
  intro f
  induction f with
  | zero => intro i hi hf; have := h.kl i hi; omega
  | succ f ih =>
    intro i hi hf
    by_cases hk : m.ky i = 10
    · simp [leftF, hk]
    · have h1 := h.ri i hi hk
      have := ih (m.nx i) (h.nl i hi) (by omega)
      show (if m.ky i = 10 then [] else (if m.mr i then [] else [m.ky i]) ++ leftF m (f + 1) (m.nx i)) = (if m.ky i = 10 then [] else (if m.mr i then [] else [m.ky i]) ++ leftF m f (m.nx i))
      rw [this]
theorem leftF_spec (m : Mm) (h : MI m) : ∀ (f i : Nat), i < m.n → 11 - m.ky i ≤ (f : Int) → (∀ x, x ∈ leftF m f i ↔ x ≠ 10 ∧ ∃ j, j < m.n ∧ m.mr j = false ∧ m.ky j = x ∧ Rc m.nx i j) ∧ (leftF m f i).Pairwise (· < ·) ∧ ∀ x ∈ leftF m f i, m.ky i ≤ x := by
  intro f
  induction f with
  | zero => intro i hi hf; have := h.kl i hi; omega
  | succ f ih =>
    intro i hi hf
    by_cases hk : m.ky i = 10
    · have e : leftF m (f + 1) i = [] := by simp [leftF, hk]
      rw [e]
      refine ⟨fun x => ⟨fun hx => absurd hx (by simp), ?_⟩, .nil, fun x hx => absurd hx (by simp)⟩
      rintro ⟨hx, j, hj, mj, kj, r⟩
      rcases h.le r hi with e2 | e2
      · rw [e2, hk] at kj; exact absurd kj.symm hx
      · have := h.kl j hj; omega
    · have h1 := h.ri i hi hk
      obtain ⟨a, b, c⟩ := ih (m.nx i) (h.nl i hi) (by omega)
      have e : leftF m (f + 1) i = (if m.mr i then [] else [m.ky i]) ++ leftF m f (m.nx i) := by simp [leftF, hk]
      rw [e]
      have hst : ∀ x, x ≠ 10 ∧ (∃ j, j < m.n ∧ m.mr j = false ∧ m.ky j = x ∧ Rc m.nx i j) ↔ (m.mr i = false ∧ x = m.ky i) ∨ (x ≠ 10 ∧ ∃ j, j < m.n ∧ m.mr j = false ∧ m.ky j = x ∧ Rc m.nx (m.nx i) j) := by
        intro x
        constructor
        · rintro ⟨hx, j, hj, mj, kj, r⟩
          cases r with
          | refl => exact Or.inl ⟨mj, kj.symm⟩
          | step _ _ r => exact Or.inr ⟨hx, j, hj, mj, kj, r⟩
        · rintro (⟨k1, k2⟩ | ⟨hx, j, hj, mj, kj, r⟩)
          · exact ⟨by rw [k2]; exact hk, i, hi, k1, k2.symm, .refl _⟩
          · exact ⟨hx, j, hj, mj, kj, .step _ _ r⟩
      cases hm : m.mr i with
      | true =>
        simp only [if_true, List.nil_append]
        refine ⟨fun x => ?_, b, fun x hx => ?_⟩
        · rw [a x, hst x, hm]; simp
        · have := c x hx; omega
      | false =>
        simp only [Bool.false_eq_true, if_false, List.singleton_append]
        refine ⟨fun x => ?_, ?_, fun x hx => ?_⟩
        · rw [List.mem_cons, a x, hst x, hm]; simp
        · rw [List.pairwise_cons]
          exact ⟨fun y hy => by have := c y hy; omega, b⟩
        · rw [List.mem_cons] at hx
          rcases hx with rfl | hx
          · exact Int.le_refl _
          · have := c x hx; omega
theorem leftM_spec (m : Mm) (h : MI m) : (leftM m).Pairwise (· < ·) ∧ (∀ x ∈ leftM m, 0 ≤ x ∧ x ≤ 9) ∧ ∀ x, 0 ≤ x → x ≤ 9 → (x ∈ leftM m ↔ InS m x) := by
  have h0 := h.ri 0 h.pos (by rw [h.k0]; omega)
  rw [h.k0] at h0
  obtain ⟨a, b, c⟩ := leftF_spec m h 12 (m.nx 0) (h.nl 0 h.pos) (by omega)
  refine ⟨b, fun x hx => ?_, fun x hx1 hx2 => ?_⟩
  · have h1 := c x hx
    obtain ⟨h2, j, hj, _, kj, _⟩ := (a x).1 hx
    have := h.kl j hj
    omega
  · unfold leftM
    rw [a x]
    constructor
    · rintro ⟨_, j, hj, mj, kj, _⟩; exact ⟨j, hj, mj, kj⟩
    · rintro ⟨j, hj, mj, kj⟩
      refine ⟨by omega, j, hj, mj, kj, ?_⟩
      have r := h.rc j hj mj
      cases r with
      | refl => rw [h.k0] at kj; omega
      | step _ _ r => exact r
/-- By how much a deed that was told changes how often key k is there. -/
def chg (D : Nat → Nat → Dd) (k : Int) (x : Nat × Nat × Dn) : Int :=
  if x.2.2.is = true ∧ (D x.1 x.2.1).key = k then (if (D x.1 x.2.1).kind = 1 then 1 else if (D x.1 x.2.1).kind = 2 then -1 else 0) else 0
open Classical in
noncomputable def one (p : Prop) : Int := if p then 1 else 0
theorem one_t {p : Prop} (h : p) : one p = 1 := by unfold one; rw [if_pos h]
theorem one_f {p : Prop} (h : ¬ p) : one p = 0 := by unfold one; rw [if_neg h]
theorem one_iff {p q : Prop} (h : p ↔ q) : one p = one q := by rw [propext h]
theorem R1.sum {D : Nat → Nat → Dd} (hD : ∀ i e, okD (D i e)) (k : Int) : ∀ (L : List (Nat × Nat × Dn)) (A B : Int → Prop), R1 D L A B → one (A k) + (L.map (chg D k)).sum = one (B k) := by
  intro L
  induction L with
  | nil => intro A B r; rw [one_iff (r k)]; simp
  | cons x L ih =>
    intro A B r
    obtain ⟨r1, r2⟩ := r
    have := ih _ _ r2
    rw [List.map_cons, List.sum_cons, ← this]
    have hk := (hD x.1 x.2.1).2.2
    have e : one (A k) + chg D k x = one (nextP (D x.1 x.2.1) A k) := by
      unfold chg
      by_cases hx : k = (D x.1 x.2.1).key
      · subst hx
        by_cases h3 : (D x.1 x.2.1).kind = 3
        · have e1 : nextP (D x.1 x.2.1) A (D x.1 x.2.1).key ↔ A (D x.1 x.2.1).key := by unfold nextP; rw [if_neg (fun h => h.2 h3)]
          rw [one_iff e1, h3]; simp
        · have e1 : nextP (D x.1 x.2.1) A (D x.1 x.2.1).key ↔ (D x.1 x.2.1).kind = 1 := by unfold nextP; rw [if_pos ⟨rfl, h3⟩]
          rw [one_iff e1]
          cases hi : x.2.2.is with
          | true =>
            rcases hk with h1 | h1 | h1
            · rw [one_t h1, one_f (by rw [r1, hi, h1]; decide)]; simp [h1]
            · rw [one_f (p := _ = 1) (by omega), one_t (by rw [r1, hi, h1]; decide)]; simp [h1]
            · exact absurd h1 h3
          | false =>
            rcases hk with h1 | h1 | h1
            · rw [one_t h1, one_t (by rw [r1, hi, h1]; decide)]; simp
            · rw [one_f (p := _ = 1) (by omega), one_f (by rw [r1, hi, h1]; decide)]; simp
            · exact absurd h1 h3
      · have e1 : nextP (D x.1 x.2.1) A k ↔ A k := by unfold nextP; rw [if_neg (fun h => hx h.1)]
        rw [one_iff e1, if_neg (fun h => hx h.2.symm)]; omega
    omega
theorem sum_perm {a b : List Int} (h : a.Perm b) : a.sum = b.sum := by
  induction h with
  | nil => rfl
  | cons x _ ih => simp only [List.sum_cons]; omega
  | swap x y l => simp only [List.sum_cons]; omega
  | trans _ _ ih1 ih2 => omega
theorem one_mem (k : Int) : ∀ l : List Int, l.Pairwise (· < ·) → one (k ∈ l) = (l.map (fun x => if x = k then 1 else 0)).sum := by
  intro l
  induction l with
  | nil => intro _; rw [one_f (by simp)]; rfl
  | cons x l ih =>
    intro hp
    rw [List.pairwise_cons] at hp
    have := ih hp.2
    rw [List.map_cons, List.sum_cons, ← this]
    by_cases hx : x = k
    · subst hx
      have : ¬ x ∈ l := fun h => by have := hp.1 x h; omega
      rw [one_t (by simp), one_f this]; simp
    · rw [if_neg hx]
      have e : k ∈ x :: l ↔ k ∈ l := by simp; intro h; exact absurd h.symm hx
      rw [one_iff e]; omega
/-- As often as it was there and came, less as often as it went, it is left. -/
theorem Sound.count {l : List Int} {P : List (List Dd)} {s : St} (h : OkIn l P) (hs : Sound l P s) (k : Int) (hk : 0 ≤ k ∧ k ≤ 9) :
    (l.map (fun x => if x = k then (1 : Int) else 0)).sum + ((doneL s P.length).map (chg (dd P) k)).sum = ((leftM s.m).map (fun x => if x = k then (1 : Int) else 0)).sum := by
  obtain ⟨mi, _, _, L, a1, a2, _, _⟩ := hs
  have h1 := a2.sum (dd_ok h.deeds) k
  obtain ⟨b1, b2, b3⟩ := leftM_spec s.m mi
  rw [← one_mem k l h.sort, ← one_mem k _ b1, ← sum_perm (a1.map (chg (dd P) k)), ← one_iff (mm0_InS l h.keys k hk), one_iff (b3 k hk.1 hk.2)]
  exact h1
theorem erase_perm {α : Type} : ∀ (l : List α) (k : Nat) (h : k < l.length), l.Perm (l[k] :: l.eraseIdx k) := by
  intro l
  induction l with
  | nil => intro k h; exact absurd h (Nat.not_lt_zero _)
  | cons x l ih =>
    intro k h
    cases k with
    | zero => exact .refl _
    | succ k =>
      have h : k < l.length := Nat.lt_of_succ_lt_succ h
      exact ((ih k h).cons x).trans (.swap _ _ _)
/-- The search for an order: who may be the next one, and answers as the set does. -/
def ordF (D : Nat → Nat → Dd) (left : Int → Bool) : Nat → (Int → Bool) → List (Nat × Nat × Dn) → Bool
  | 0, has, todo => decide (∀ k : Fin 10, has k.val = left k.val)
  | f + 1, has, todo =>
    if todo.isEmpty then decide (∀ k : Fin 10, has k.val = left k.val) else
    (List.range todo.length).any fun k => match todo[k]? with
      | none => false
      | some x => !(todo.any (fun y => decide (y.2.2.fin < x.2.2.bgn))) && (decide (x.2.2.is = (has (D x.1 x.2.1).key != decide ((D x.1 x.2.1).kind = 1)))) &&
          ordF D left f (fun y => if y = (D x.1 x.2.1).key ∧ (D x.1 x.2.1).kind ≠ 3 then decide ((D x.1 x.2.1).kind = 1) else has y) (todo.eraseIdx k)
theorem ordF_of {D : Nat → Nat → Dd} {left : Int → Bool} : ∀ (f : Nat) (L todo : List (Nat × Nat × Dn)) (has : Int → Bool) (A B : Int → Prop), todo.length = f → L.Perm todo → R1 D L A B → (∀ x, A x ↔ has x = true) → (∀ x, 0 ≤ x → x ≤ 9 → (B x ↔ left x = true)) → L.Pairwise (fun x y => (x.2.2.bgn : Int) ≤ y.2.2.fin) → (∀ x ∈ L, (x.2.2.bgn : Int) ≤ x.2.2.fin) → ordF D left f has todo = true := by
  have fin : ∀ (has : Int → Bool) (A B : Int → Prop), R1 D [] A B → (∀ x, A x ↔ has x = true) → (∀ x, 0 ≤ x → x ≤ 9 → (B x ↔ left x = true)) → decide (∀ k : Fin 10, has k.val = left k.val) = true := by
    intro has A B r hA hB
    refine decide_eq_true (fun k => ?_)
    have h1 := hA (k.val : Int)
    have h2 := hB (k.val : Int) (by omega) (by omega)
    rw [r, h2] at h1
    cases e1 : has (k.val : Int) <;> cases e2 : left (k.val : Int) <;> simp_all
  intro f
  induction f with
  | zero =>
    intro L todo has A B hl hp r hA hB _ _
    have : L = [] := List.eq_nil_of_length_eq_zero (by rw [hp.length_eq]; exact hl)
    subst this
    exact fin has A B r hA hB
  | succ f ih =>
    intro L todo has A B hl hp r hA hB hw hs
    cases L with
    | nil => have := hp.length_eq; rw [hl] at this; exact absurd this (by simp)
    | cons x L =>
      have hx : x ∈ todo := hp.subset (by simp)
      obtain ⟨k, hk, ek⟩ := List.getElem_of_mem hx
      have hne : todo.isEmpty = false := by cases todo with | nil => simp at hl | cons a b => rfl
      unfold ordF
      rw [if_neg (by rw [hne]; simp), List.any_eq_true]
      refine ⟨k, List.mem_range.2 hk, ?_⟩
      rw [List.getElem?_eq_getElem hk, ek]
      simp only []
      obtain ⟨r1, r2⟩ := r
      rw [List.pairwise_cons] at hw
      have c1 : todo.any (fun y => decide (y.2.2.fin < x.2.2.bgn)) = false := by
        rw [List.any_eq_false]
        intro y hy
        have hy2 : y ∈ x :: L := hp.symm.subset hy
        rw [List.mem_cons] at hy2
        have : (x.2.2.bgn : Int) ≤ y.2.2.fin := by
          rcases hy2 with rfl | hy2
          · exact hs _ (by simp)
          · exact hw.1 y hy2
        simp; omega
      have c2 : x.2.2.is = (has (D x.1 x.2.1).key != decide ((D x.1 x.2.1).kind = 1)) := by
        rw [hA] at r1
        cases e1 : has (D x.1 x.2.1).key <;> cases e2 : x.2.2.is <;> by_cases e3 : (D x.1 x.2.1).kind = 1 <;> simp_all
      rw [c1, decide_eq_true c2]
      simp only [Bool.not_false, Bool.true_and]
      have hp2 : L.Perm (todo.eraseIdx k) := by
        have h1 : todo.Perm (x :: todo.eraseIdx k) := by
          rw [← ek]
          exact erase_perm todo k hk
        exact (hp.trans h1).cons_inv
      refine ih L (todo.eraseIdx k) _ _ B ?_ hp2 r2 ?_ hB hw.2 (fun y hy => hs y (List.mem_cons_of_mem _ hy))
      · rw [List.length_eraseIdx_of_lt hk]; omega
      · intro y
        unfold nextP
        split
        · simp
        · exact hA y
end Go.Proofs.Ytoihdnekkgpcoaa
namespace Go.Proofs.Ytoihdnekkgpcoaa
set_option linter.unusedVariables false
set_option linter.unusedSimpArgs false

variable {l : List Int}
/-- One hand, one deed: where it is at time t. -/
def SoA (alg : Nat) (l : List Int) (d : Dd) (t : Nat) (m : Mm) (h : Hd) : Prop :=
  m.n = (mm0 l).n ∧ m.ky = (mm0 l).ky ∧ m.nx = (mm0 l).nx ∧
  ((h.plc = 0 ∧ t = 0 ∧ (∀ x, m.mr x = false) ∧ ∀ x, m.lk x = false) ∨
   (h.plc ≠ 0 ∧ h.c = h.p + 1 ∧ h.p ≤ l.length ∧ m.ky h.p < d.key ∧
    ((alg = 1 ∧ (∀ x, m.mr x = false) ∧ ((h.plc = 1 ∧ (∀ x, m.lk x = true → x = h.p) ∧ t ≤ 2 * h.p + 1) ∨ (h.plc = 2 ∧ (∀ x, m.lk x = true → x = h.p ∨ x = h.c) ∧ t ≤ 2 * h.p + 2))) ∨
     (alg = 2 ∧ (((∀ x, m.mr x = false) ∧ h.plc = 1 ∧ (∀ x, m.lk x = false) ∧ t ≤ h.p + 1) ∨
       ((∀ x, m.mr x = false) ∧ h.plc = 3 ∧ (∀ x, m.lk x = true → x = h.p) ∧ d.key ≤ m.ky h.c ∧ d.kind ≠ 3 ∧ t ≤ h.p + 2) ∨
       ((∀ x, m.mr x = false) ∧ h.plc = 4 ∧ d.key ≤ m.ky h.c ∧ d.kind ≠ 3 ∧ t ≤ h.p + 3) ∨
       (h.plc = 5 ∧ t ≤ h.p + 4 ∧ h.is = true ∧ d.kind = 2 ∧ m.ky h.c = d.key))) ∨
     ((alg = 3 ∨ alg = 4) ∧ (((∀ x, m.mr x = false) ∧ h.plc = 1 ∧ t ≤ h.p + 1) ∨
       ((∀ x, m.mr x = false) ∧ h.plc = 2 ∧ d.key ≤ m.ky h.c ∧ d.kind ≠ 3 ∧ decide (m.ky h.c = d.key) ≠ decide (d.kind = 1) ∧ t ≤ h.p + 2) ∨
       (h.plc = 3 ∧ t ≤ h.p + 3 ∧ h.is = true ∧ d.kind = 2 ∧ m.ky h.c = d.key))))))
/-- The answer. -/
def ansD (l : List Int) (d : Dd) : Bool := decide (d.key ∈ l) == decide (d.kind ≠ 1)
theorem mm0_nx {p : Nat} (h : p ≤ l.length) : (mm0 l).nx p = p + 1 := by simp [mm0]; omega
theorem mm0_end {p : Nat} (h : l.length < p) : (mm0 l).ky p = 10 := by
  simp only [mm0]
  rw [if_neg (by omega), dif_neg (by omega)]
theorem solo_in {P : List (List Dd)} (h : OkIn l P) {d : Dd} (hk : okD d) {p : Nat} (hp : p ≤ l.length) (h1 : (mm0 l).ky p < d.key) (h2 : d.key ≤ (mm0 l).ky (p + 1)) : decide (d.key ∈ l) = decide ((mm0 l).ky (p + 1) = d.key) := by
  have mi := mm0_MI l h.keys h.sort
  have hn : (mm0 l).n = l.length + 2 := rfl
  have e := mm0_InS l h.keys d.key ⟨hk.1, hk.2.1⟩
  by_cases hh : (mm0 l).ky (p + 1) = d.key
  · rw [decide_eq_true hh, decide_eq_true (e.1 ⟨p + 1, by omega, rfl, hh⟩)]
  · rw [decide_eq_false hh]
    refine decide_eq_false (fun hm => ?_)
    exact mi.gap (p := p) (c := p + 1) (by omega) rfl (mm0_nx hp) h1 (by omega) (e.2 hm)
theorem solo_step {P : List (List Dd)} (hO : OkIn l P) {d : Dd} (hk : okD d) (alg : Nat) (ha : alg = 1 ∨ alg = 2 ∨ alg = 3 ∨ alg = 4) (t : Nat) (m : Mm) (h : Hd) (q : SoA alg l d t m h) :
    ((algS alg m h d).2.2 = false ∧ SoA alg l d (t + 1) (algS alg m h d).1 (algS alg m h d).2.1) ∨
    ((algS alg m h d).2.2 = true ∧ t < 3 * l.length + 8 ∧ (algS alg m h d).2.1.is = ansD l d) := by
  obtain ⟨e1, e2, e3, q⟩ := q
  have mi := mm0_MI l hO.keys hO.sort
  have hk0 : (mm0 l).ky 0 = -1 := rfl
  have hky := hk.1
  have hky2 := hk.2.1
  -- the answers
  have an : ∀ is : Bool, h.p ≤ l.length → h.c = h.p + 1 → m.ky h.p < d.key → d.key ≤ m.ky h.c → is = (decide (m.ky h.c = d.key) == decide (d.kind ≠ 1)) → is = ansD l d := by
    intro is h1 h2 h3 h4 h5
    rw [e2] at h3 h4 h5
    rw [h2] at h4 h5
    unfold ansD
    rw [solo_in hO hk h1 h3 h4]; exact h5
  -- the next bead
  have nxt : h.p ≤ l.length → h.c = h.p + 1 → m.ky h.c < d.key → h.c ≤ l.length ∧ m.nx h.c = h.c + 1 := by
    intro h1 h2 h3
    have : h.c ≤ l.length := by
      refine Classical.byContradiction (fun hx => ?_)
      rw [e2, mm0_end (by omega)] at h3; omega
    exact ⟨this, by rw [e3]; exact mm0_nx this⟩
  have n0 : m.nx 0 = 0 + 1 := by rw [e3]; exact mm0_nx (Nat.zero_le _)
  rcases q with ⟨q1, q2, q3, q4⟩ | ⟨q1, q2, q3, q4, q⟩
  · -- begin
    left
    rcases ha with rfl | rfl | rfl | rfl
    · have er : algS 1 m h d = (m.lock 0, h.again m, false) := by show lockS m h d = _; unfold lockS; rw [q1]; simp [q4]
      rw [er]
      refine ⟨rfl, e1, e2, e3, Or.inr ⟨by simp [Hd.again], n0, Nat.zero_le _, by show m.ky 0 < _; rw [e2, hk0]; omega, Or.inl ⟨rfl, q3, Or.inl ⟨rfl, ?_, by omega⟩⟩⟩⟩
      intro x hx
      have hx : up m.lk 0 true x = true := hx
      refine Classical.byContradiction (fun e => ?_)
      have e : x ≠ 0 := e
      rw [up_ne _ _ e, q4] at hx; exact absurd hx (by decide)
    · have er : algS 2 m h d = (m, h.again m, false) := by show lazyS m h d = _; unfold lazyS; rw [q1]; rfl
      rw [er]
      exact ⟨rfl, e1, e2, e3, Or.inr ⟨by simp [Hd.again], n0, Nat.zero_le _, by show m.ky 0 < _; rw [e2, hk0]; omega, Or.inr (Or.inl ⟨rfl, Or.inl ⟨q3, rfl, q4, by omega⟩⟩)⟩⟩
    · have er : algS 3 m h d = (m, h.again m, false) := by show markS false m h d = _; unfold markS; rw [q1]; rfl
      rw [er]
      exact ⟨rfl, e1, e2, e3, Or.inr ⟨by simp [Hd.again], n0, Nat.zero_le _, by show m.ky 0 < _; rw [e2, hk0]; omega, Or.inr (Or.inr ⟨Or.inl rfl, Or.inl ⟨q3, rfl, by omega⟩⟩)⟩⟩
    · have er : algS 4 m h d = (m, h.again m, false) := by show markS true m h d = _; unfold markS; rw [q1]; rfl
      rw [er]
      exact ⟨rfl, e1, e2, e3, Or.inr ⟨by simp [Hd.again], n0, Nat.zero_le _, by show m.ky 0 < _; rw [e2, hk0]; omega, Or.inr (Or.inr ⟨Or.inr rfl, Or.inl ⟨q3, rfl, by omega⟩⟩)⟩⟩
  · rcases q with ⟨rfl, q5, q⟩ | ⟨rfl, q⟩ | ⟨ha2, q⟩
    · -- hand over hand
      rcases q with ⟨p1, p2, p3⟩ | ⟨p1, p4, p2⟩
      · left
        have hl : m.lk h.c = false := by
          cases a : m.lk h.c with
          | false => rfl
          | true => have := p2 _ a; omega
        have er : algS 1 m h d = (m.lock h.c, { h with plc := 2 }, false) := by show lockS m h d = _; unfold lockS; rw [p1]; simp [hl]
        rw [er]
        refine ⟨rfl, e1, e2, e3, Or.inr ⟨by simp, q2, q3, q4, Or.inl ⟨rfl, q5, Or.inr ⟨rfl, ?_, by show t + 1 ≤ 2 * h.p + 2; omega⟩⟩⟩⟩
        intro x hx
        have hx : up m.lk h.c true x = true := hx
        by_cases ex : x = h.c
        · exact Or.inr ex
        · rw [up_ne _ _ ex] at hx; exact Or.inl (p2 x hx)
      · by_cases h1 : m.ky h.c < d.key
        · left
          obtain ⟨x1, x2⟩ := nxt q3 q2 h1
          have er : algS 1 m h d = (m.free1 h.p, { h.on m with plc := 1 }, false) := by show lockS m h d = _; unfold lockS; rw [p1]; simp only [h1, if_true]
          rw [er]
          refine ⟨rfl, e1, e2, e3, Or.inr ⟨by simp, x2, x1, h1, Or.inl ⟨rfl, q5, Or.inl ⟨rfl, ?_, by show t + 1 ≤ 2 * h.c + 1; omega⟩⟩⟩⟩
          intro x hx
          have hx : up m.lk h.p false x = true := hx
          show x = h.c
          by_cases ex : x = h.p
          · subst ex; rw [up_same] at hx; exact absurd hx (by decide)
          · rw [up_ne _ _ ex] at hx
            exact (p4 x hx).resolve_left ex
        · right
          have fin : ∀ m' is, algS 1 m h d = (m', { h with is := is }, true) → is = (decide (m.ky h.c = d.key) == decide (d.kind ≠ 1)) → (algS 1 m h d).2.2 = true ∧ t < 3 * l.length + 8 ∧ (algS 1 m h d).2.1.is = ansD l d := by
            intro m' is er hi
            rw [er]
            exact ⟨rfl, by omega, an is q3 q2 q4 (by omega) hi⟩
          by_cases hke : m.ky h.c = d.key
          · have hlt : ¬ d.key < d.key := by omega
            by_cases hk1 : d.kind = 1
            · exact fin (m.free h.p h.c) false (by show lockS m h d = _; unfold lockS; rw [p1]; simp only [h1, hk1, hke, hlt, if_true, if_false]) (by simp [hke, hk1])
            · by_cases hk2 : d.kind = 2
              · exact fin (((m.free h.p h.c).mark h.c).drop h.p h.c) true (by show lockS m h d = _; unfold lockS; rw [p1]; simp [h1, hk1, hke, hk2, hlt]) (by simp [hke, hk1])
              · exact fin (m.free h.p h.c) true (by show lockS m h d = _; unfold lockS; rw [p1]; simp [h1, hk1, hke, hk2, hlt]) (by simp [hke, hk1])
          · by_cases hk1 : d.kind = 1
            · exact fin ((m.free h.p h.c).ins h.p h.c d.key) true (by show lockS m h d = _; unfold lockS; rw [p1]; simp only [h1, hk1, hke, if_true, if_false]) (by simp [hke, hk1])
            · exact fin (m.free h.p h.c) false (by show lockS m h d = _; unfold lockS; rw [p1]; simp only [h1, hk1, hke, if_false]) (by simp [hke, hk1])
    · -- looks twice
      rcases q with ⟨q5, p1, p2, p3⟩ | ⟨q5, p1, p2, p4, p5, p3⟩ | ⟨q5, p1, p4, p5, p3⟩ | ⟨p1, p3, p4, p5, p6⟩
      · by_cases h1 : m.ky h.c < d.key
        · left
          obtain ⟨x1, x2⟩ := nxt q3 q2 h1
          have er : algS 2 m h d = (m, h.on m, false) := by show lazyS m h d = _; unfold lazyS; rw [p1]; simp [h1]
          rw [er]
          exact ⟨rfl, e1, e2, e3, Or.inr ⟨q1, x2, x1, h1, Or.inr (Or.inl ⟨rfl, Or.inl ⟨q5, p1, p2, by show t + 1 ≤ h.c + 1; omega⟩⟩)⟩⟩
        · by_cases hk3 : d.kind = 3
          · right
            have er : algS 2 m h d = (m, { h with is := decide (m.ky h.c = d.key) && !m.mr h.c }, true) := by show lazyS m h d = _; unfold lazyS; rw [p1]; simp [h1, hk3]
            rw [er]
            exact ⟨rfl, by omega, an _ q3 q2 q4 (by omega) (by simp [q5, hk3])⟩
          · left
            have er : algS 2 m h d = (m.lock h.p, { h with plc := 3 }, false) := by show lazyS m h d = _; unfold lazyS; rw [p1]; simp [h1, hk3, lazy2, p2]
            rw [er]
            refine ⟨rfl, e1, e2, e3, Or.inr ⟨by simp, q2, q3, q4, Or.inr (Or.inl ⟨rfl, Or.inr (Or.inl ⟨q5, rfl, ?_, by show d.key ≤ m.ky h.c; omega, hk3, by show t + 1 ≤ h.p + 2; omega⟩)⟩)⟩⟩
            intro x hx
            have hx : up m.lk h.p true x = true := hx
            refine Classical.byContradiction (fun e => ?_)
            have e : x ≠ h.p := e
            rw [up_ne _ _ e, p2] at hx; exact absurd hx (by decide)
      · left
        have hl : m.lk h.c = false := by
          cases a : m.lk h.c with
          | false => rfl
          | true => have := p2 _ a; omega
        have er : algS 2 m h d = (m.lock h.c, { h with plc := 4 }, false) := by show lazyS m h d = _; unfold lazyS; rw [p1]; simp [hl]
        rw [er]
        exact ⟨rfl, e1, e2, e3, Or.inr ⟨by simp, q2, q3, q4, Or.inr (Or.inl ⟨rfl, Or.inr (Or.inr (Or.inl ⟨q5, rfl, p4, p5, by show t + 1 ≤ h.p + 3; omega⟩))⟩)⟩⟩
      · have hn : m.nx h.p = h.c := by rw [e3, mm0_nx q3, q2]
        have hchk : (m.mr h.p || m.mr h.c || m.nx h.p != h.c) = false := by rw [q5, q5, hn]; simp
        have fin : ∀ m' is, algS 2 m h d = (m', { h with is := is }, true) → is = (decide (m.ky h.c = d.key) == decide (d.kind ≠ 1)) → (algS 2 m h d).2.2 = true ∧ t < 3 * l.length + 8 ∧ (algS 2 m h d).2.1.is = ansD l d := by
          intro m' is er hi
          rw [er]
          exact ⟨rfl, by omega, an is q3 q2 q4 p4 hi⟩
        by_cases hk1 : d.kind = 1
        · right
          by_cases hke : m.ky h.c = d.key
          · exact fin (m.free h.p h.c) false (by show lazyS m h d = _; unfold lazyS; rw [p1]; simp only [hchk, hk1, hke, if_true, Bool.false_eq_true, if_false]) (by simp [hke, hk1])
          · exact fin ((m.free h.p h.c).ins h.p h.c d.key) true (by show lazyS m h d = _; unfold lazyS; rw [p1]; simp only [hchk, hk1, hke, if_true, Bool.false_eq_true, if_false]) (by simp [hke, hk1])
        · by_cases hke : m.ky h.c = d.key
          · left
            have er : algS 2 m h d = (m.mark h.c, { h with plc := 5, is := true }, false) := by show lazyS m h d = _; unfold lazyS; rw [p1]; simp only [hchk, hk1, hke, if_true, Bool.false_eq_true, if_false]
            rw [er]
            exact ⟨rfl, e1, e2, e3, Or.inr ⟨by simp, q2, q3, q4, Or.inr (Or.inl ⟨rfl, Or.inr (Or.inr (Or.inr ⟨rfl, by show t + 1 ≤ h.p + 4; omega, rfl, by have := hk.2.2; omega, hke⟩))⟩)⟩⟩
          · right
            exact fin (m.free h.p h.c) false (by show lazyS m h d = _; unfold lazyS; rw [p1]; simp only [hchk, hk1, hke, if_false, Bool.false_eq_true]) (by simp [hke, hk1])
      · right
        have er : algS 2 m h d = ((m.drop h.p h.c).free h.p h.c, h, true) := by show lazyS m h d = _; unfold lazyS; rw [p1]; rfl
        rw [er]
        exact ⟨rfl, by omega, an _ q3 q2 q4 (by omega) (by rw [p4]; simp [p5, p6])⟩
    · -- those that mark
      obtain ⟨nv, hnv⟩ : ∃ nv : Bool, ∀ m h d, algS alg m h d = markS nv m h d := by
        rcases ha2 with rfl | rfl
        · exact ⟨false, fun _ _ _ => rfl⟩
        · exact ⟨true, fun _ _ _ => rfl⟩
      rw [hnv]
      have fin : ∀ m' is, d.key ≤ m.ky h.c → t ≤ h.p + 3 → markS nv m h d = (m', { h with is := is }, true) → is = (decide (m.ky h.c = d.key) == decide (d.kind ≠ 1)) → (markS nv m h d).2.2 = true ∧ t < 3 * l.length + 8 ∧ (markS nv m h d).2.1.is = ansD l d := by
        intro m' is hx ht er hi
        rw [er]
        exact ⟨rfl, by omega, an is q3 q2 q4 hx hi⟩
      rcases q with ⟨q5, p1, p3⟩ | ⟨q5, p1, p4, p5, p6, p3⟩ | ⟨p1, p3, p4, p5, p6⟩
      · by_cases h1 : m.ky h.c < d.key
        · left
          obtain ⟨x1, x2⟩ := nxt q3 q2 h1
          have er : markS nv m h d = (m, h.on m, false) := by unfold markS; rw [p1]; simp [q5, h1]
          rw [er]
          exact ⟨rfl, e1, e2, e3, Or.inr ⟨q1, x2, x1, h1, Or.inr (Or.inr ⟨ha2, Or.inl ⟨q5, p1, by show t + 1 ≤ h.c + 1; omega⟩⟩)⟩⟩
        · by_cases hk3 : d.kind = 3
          · right
            exact fin m (decide (m.ky h.c = d.key) && !m.mr h.c) (by omega) (by omega) (by unfold markS; rw [p1]; simp [h1, hk3]) (by simp [q5, hk3])
          · by_cases h4 : decide (m.ky h.c = d.key) = decide (d.kind = 1)
            · right
              refine fin m false (by omega) (by omega) (by unfold markS; rw [p1]; simp only [q5, h1, hk3, h4, Bool.false_and, if_true, Bool.false_eq_true, if_false]) ?_
              rw [h4]
              by_cases hk1 : d.kind = 1 <;> simp [hk1]
            · left
              have er : markS nv m h d = (m, { h with plc := 2 }, false) := by unfold markS; rw [p1]; simp only [q5, h1, hk3, h4, Bool.false_and, Bool.false_eq_true, if_false]
              rw [er]
              exact ⟨rfl, e1, e2, e3, Or.inr ⟨by simp, q2, q3, q4, Or.inr (Or.inr ⟨ha2, Or.inr (Or.inl ⟨q5, rfl, by show d.key ≤ m.ky h.c; omega, hk3, h4, by show t + 1 ≤ h.p + 2; omega⟩)⟩)⟩⟩
      · have hn : m.nx h.p = h.c := by rw [e3, mm0_nx q3, q2]
        have hc : clean m h = true := clean_iff.2 ⟨q5 _, hn⟩
        by_cases hk1 : d.kind = 1
        · right
          refine fin (m.ins h.p h.c d.key) true p4 (by omega) (by unfold markS; rw [p1]; simp only [hk1, hc, Bool.or_true, if_true]) ?_
          have : ¬ m.ky h.c = d.key := by intro hx; exact p6 (by simp [hx, hk1])
          simp [this, hk1]
        · have hke : m.ky h.c = d.key := by
            refine Classical.byContradiction (fun hx => p6 ?_)
            simp [hx, hk1]
          cases nv with
          | true =>
            right
            exact fin (m.drop h.p h.c) true p4 (by omega) (by unfold markS; rw [p1]; simp only [hk1, if_true, if_false]) (by simp [hke, hk1])
          | false =>
            left
            have er : markS false m h d = (m.mark h.c, { h with plc := 3, is := true }, false) := by unfold markS; rw [p1]; simp only [hk1, q5, Bool.false_eq_true, if_false]
            rw [er]
            exact ⟨rfl, e1, e2, e3, Or.inr ⟨by simp, q2, q3, q4, Or.inr (Or.inr ⟨ha2, Or.inr (Or.inr ⟨rfl, by show t + 1 ≤ h.p + 3; omega, rfl, by have := hk.2.2; omega, hke⟩)⟩)⟩⟩
      · right
        have er : markS nv m h d = (if clean m h then m.drop h.p h.c else m, h, true) := by unfold markS; rw [p1]; rfl
        rw [er]
        exact ⟨rfl, by omega, an _ q3 q2 q4 (by omega) (by rw [p4]; simp [p5, p6])⟩
/-- Alone: while it goes on, and when it is done. -/
def SoI (alg : Nat) (l : List Int) (d : Dd) (s : St) : Prop :=
  (s.deed 0 = 0 ∧ ((s.told 0 = [] ∧ s.now = 0) ∨ s.told 0 = [⟨0, -1, false⟩]) ∧ SoA alg l d s.now s.m (s.hd 0)) ∨
  (s.deed 0 = 1 ∧ ∃ f : Nat, f < 3 * l.length + 8 ∧ s.told 0 = [⟨0, f, ansD l d⟩])
theorem solo_rnd {d : Dd} (hO : OkIn l [[d]]) (hk : okD d) (alg : Nat) (ha : alg = 1 ∨ alg = 2 ∨ alg = 3 ∨ alg = 4) (s : St) (q : SoI alg l d s) : SoI alg l d (rnd alg [[d]] s) ∧ (rnd alg [[d]] s = s → s.now < 4000 → s.deed 0 = 1) := by
  have er : rnd alg [[d]] s = stpL alg [[d]] s 0 := rfl
  rw [er]
  unfold stpL
  split
  · rcases q with ⟨q1, q2, q3⟩ | q
    · have hc : can [[d]] s 0 = true := by rw [can_iff, q1]; exact Nat.zero_lt_one
      have ed : dd [[d]] 0 (s.deed 0) = d := by rw [q1]; rfl
      rw [stpO_can hc, ed]
      have hB : toldB s 0 = [⟨0, -1, false⟩] := by
        unfold toldB
        rcases q2 with ⟨q2, q4⟩ | q2
        · rw [q2, q1, q4]; rfl
        · rw [q2, q1]; rfl
      refine ⟨?_, fun e => ?_⟩
      · unfold stp
        simp only []
        rcases solo_step hO hk alg ha s.now s.m (s.hd 0) q3 with ⟨r1, r2⟩ | ⟨r1, r2, r3⟩
        · rw [r1]
          simp only [Bool.false_eq_true, if_false]
          exact Or.inl ⟨q1, Or.inr (by simp only [up_same]; exact hB), by simp only [up_same]; exact r2⟩
        · rw [r1]
          simp only [if_true]
          refine Or.inr ⟨by simp only [up_same, q1], s.now, r2, ?_⟩
          simp only [up_same, hB, q1, r3]; rfl
      · have := congrArg St.now e
        rw [stp_now] at this; omega
    · have hc : can [[d]] s 0 = false := by
        cases a : can [[d]] s 0 with
        | false => rfl
        | true =>
          rw [can_iff, q.1] at a
          exact absurd a (Nat.lt_irrefl _)
      rw [stpO_cannot _ _ _ _ hc]
      exact ⟨Or.inr q, fun _ _ => q.1⟩
  · exact ⟨q, fun _ h => by omega⟩
theorem solo_all {d : Dd} (hO : OkIn l [[d]]) (hk : okD d) (alg : Nat) (ha : alg = 1 ∨ alg = 2 ∨ alg = 3 ∨ alg = 4) (s : St) (hf : FinR alg [[d]] (st0 l) s) : ∃ f : Nat, f < 3 * l.length + 8 ∧ s.told 0 = [⟨0, f, ansD l d⟩] := by
  obtain ⟨k, e1, e2⟩ := hf
  have q0 : SoI alg l d (st0 l) := Or.inl ⟨rfl, Or.inl ⟨rfl, rfl⟩, rfl, rfl, rfl, Or.inl ⟨rfl, rfl, fun _ => rfl, fun _ => rfl⟩⟩
  have go : ∀ k, SoI alg l d (Nat.rec (motive := fun _ => St) (st0 l) (fun _ x => rnd alg [[d]] x) k) := by
    intro k
    induction k with
    | zero => exact q0
    | succ k ih => exact (solo_rnd hO hk alg ha _ ih).1
  have q := go k
  rw [← e1] at q
  rcases q with ⟨q1, q2, q3⟩ | q
  · exfalso
    -- the time is still short
    have hn : s.now < 4000 := by
      have hl : l.length ≤ 1000 := by
        have : l.length ≤ 10 := by
          have h1 := (leftM_spec (mm0 l) (mm0_MI l hO.keys hO.sort))
          have go : ∀ (l : List Int) (a : Int), (∀ x ∈ l, a ≤ x ∧ x ≤ 9) → l.Pairwise (· < ·) → (l.length : Int) ≤ max 0 (10 - a) := by
            intro l
            induction l with
            | nil => intro a _ _; simp; omega
            | cons x l ih =>
              intro a h hp
              rw [List.pairwise_cons] at hp
              have h1 := h x (by simp)
              have := ih (x + 1) (fun y hy => ⟨by have := hp.1 y hy; omega, (h y (List.mem_cons_of_mem _ hy)).2⟩) hp.2
              rw [List.length_cons]; omega
          have := go l 0 hO.keys hO.sort
          omega
        omega
      rcases solo_step hO hk alg ha s.now s.m (s.hd 0) q3 with ⟨_, _, _, _, r⟩ | ⟨_, r, _⟩
      · rcases r with ⟨_, r, _⟩ | ⟨_, _, r3, _, r⟩
        · omega
        · rcases r with ⟨_, _, r⟩ | ⟨_, r⟩ | ⟨_, r⟩
          · rcases r with ⟨_, _, r⟩ | ⟨_, _, r⟩ <;> omega
          · rcases r with ⟨_, _, _, r⟩ | ⟨_, _, _, _, _, r⟩ | ⟨_, _, _, _, r⟩ | ⟨_, r, _⟩ <;> omega
          · rcases r with ⟨_, _, r⟩ | ⟨_, _, _, _, _, r⟩ | ⟨_, r, _⟩ <;> omega
      · omega
    have := (solo_rnd hO hk alg ha s (Or.inl ⟨q1, q2, q3⟩)).2 e2 hn
    omega
  · exact q.2
end Go.Proofs.Ytoihdnekkgpcoaa
namespace Go.Proofs.Ytoihdnekkgpcoaa
open Go.ChangeShapes Go.WideShapes Go.ChangeAt Go.RowKit
set_option linter.unusedVariables false
set_option linter.unusedSimpArgs false

/-! The block g may be written, all else stands. -/
def Kg (g : Nat) (w w' : World) : Prop := w.grownBy w' (some g)
theorem Kg.refl (g : Nat) (w : World) : Kg g w w := ⟨rfl, rfl, rfl, Nat.le_refl _, fun _ _ _ => rfl⟩
theorem Kg.size {g : Nat} {w w' : World} (h : Kg g w w') : w.heap.size ≤ w'.heap.size := World.grownBy.size h
theorem Kg.trans {g : Nat} {a b c : World} (h : Kg g a b) (k : Kg g b c) : Kg g a c := by
  obtain ⟨h1, h2, h3, h4, h5⟩ := h
  obtain ⟨k1, k2, k3, k4, k5⟩ := k
  exact ⟨k1.trans h1, k2.trans h2, k3.trans h3, Nat.le_trans h4 k4, fun i hi hn => (k5 i (Nat.lt_of_lt_of_le hi h4) hn).trans (h5 i hi hn)⟩
theorem Kg.of {g : Nat} {w w' : World} (h : Kp w w') : Kg g w w' := by
  obtain ⟨h1, h2, h3, h4, h5⟩ := h
  exact ⟨h1, h2, h3, h4, fun i hi _ => h5 i hi⟩
theorem Kg.drewN {g n : Nat} {w w' : World} (h : Kg g w w') : Kg g w (w'.drewN n) := h.trans (Kg.of (Kp.refl w').drewN)
theorem Kg.alloc {g : Nat} {w w' : World} {o : Obj} (h : Kg g w w') : Kg g w (w'.alloc o) := h.trans (Kg.of (Kp.refl w').alloc)
theorem Kg.set1 {g k : Nat} {w : World} {x : Value} : Kg g w (w.setCell ⟨g, k, none⟩ x) :=
  ⟨rfl, rfl, rfl, by simp [World.setCell], fun i hi hn => Below.heap_setCell _ _ _ _ (by rintro rfl; exact hn rfl)⟩
theorem Kg.set {g k : Nat} {w w' : World} {x : Value} (h : Kg g w w') : Kg g w (w'.setCell ⟨g, k, none⟩ x) := h.trans Kg.set1
theorem Kg.kp {g : Nat} {w0 w w' : World} (h : Kg g w w') (h0 : Kp w0 w) (hg : w0.heap.size ≤ g) : Kp w0 w' := Below.grown h0 h h0.size (fun k hk => by injection hk with hk; omega)
theorem Kg.block {g : Nat} {w w' : World} (h : Kg g w w') {i : Nat} (hi : i < w.heap.size) (hn : i ≠ g) : w'.heap[i]? = w.heap[i]? := World.grownBy.block h i hi (fun e => hn (by injection e))
theorem RD.kg {α : Type} {g : Nat} {w w' : World} {E : Enc α} {v : Value} {l : List α} (h : RD w E v l) (hv : 0 < l.length → v.ownBlock ≠ some g) (hk : Kg g w w') : RD w' E v l := by
  obtain ⟨A, c, rfl, h1, h2, hn, h3⟩ := h
  refine ⟨A, c, rfl, h1, h2, hn, fun h0 => ?_⟩
  obtain ⟨b, o, rfl, hb, hc⟩ := h3 h0
  refine ⟨b, o, rfl, Nat.lt_of_lt_of_le hb hk.size, fun k hk' j hj => ?_⟩
  rw [← hc k hk' j hj]
  have hbg : b ≠ g := fun e => hv h0 (by rw [e]; rfl)
  have := hk.block hb hbg
  exact World.cell?_of_block this
theorem AR.kg {α : Type} {g i : Nat} {w w' : World} {E : Enc α} {e : TypeId} {l : List α} (h : AR w i e E l) (hi : i ≠ g) (hk : Kg g w w') : AR w' i e E l := (hk.block h.lt hi).trans h

end Go.Proofs.Ytoihdnekkgpcoaa
namespace Go.Proofs.Ytoihdnekkgpcoaa
open Go.ChangeShapes Go.WideShapes Go.ChangeAt Go.RowKit
set_option linter.unusedVariables false
set_option linter.unusedSimpArgs false

/-! All but these blocks stands. -/
def Kf (F : Nat → Prop) (w w' : World) : Prop := w'.os = w.os ∧ w'.tape = w.tape ∧ w'.output = w.output ∧ w.heap.size ≤ w'.heap.size ∧ ∀ i, i < w.heap.size → ¬ F i → w'.heap[i]? = w.heap[i]?
section
variable {F G : Nat → Prop} {a b c w w' : World}
theorem Kf.refl (F : Nat → Prop) (w : World) : Kf F w w := ⟨rfl, rfl, rfl, Nat.le_refl _, fun _ _ _ => rfl⟩
theorem Kf.size (h : Kf F w w') : w.heap.size ≤ w'.heap.size := h.2.2.2.1
theorem Kf.block (h : Kf F w w') {i : Nat} (hi : i < w.heap.size) (hn : ¬ F i) : w'.heap[i]? = w.heap[i]? := h.2.2.2.2 i hi hn
theorem Kf.mono (h : Kf F w w') (hF : ∀ i, i < w.heap.size → F i → G i) : Kf G w w' := ⟨h.1, h.2.1, h.2.2.1, h.2.2.2.1, fun i hi hn => h.block hi fun hf => hn (hF i hi hf)⟩
theorem Kf.trans (h : Kf F a b) (k : Kf G b c) (hG : ∀ i, i < a.heap.size → G i → F i) : Kf F a c :=
  ⟨k.1.trans h.1, k.2.1.trans h.2.1, k.2.2.1.trans h.2.2.1, Nat.le_trans h.size k.size, fun i hi hn => (k.block (Nat.lt_of_lt_of_le hi h.size) fun hg => hn (hG i hi hg)).trans (h.block hi hn)⟩
theorem Kf.of (h : Kp w w') : Kf F w w' := by
  obtain ⟨h1, h2, h3, h4, h5⟩ := h
  exact ⟨h1, h2, h3, h4, fun i hi _ => h5 i hi⟩
theorem Kf.on (h : Kf F a b) (k : Kp b c) : Kf F a c := h.trans (Kf.of (F := fun _ => False) k) (fun _ _ h => h.elim)
theorem Kf.kp (h : Kf F w w') (k : Kp a w) (hF : ∀ i, F i → a.heap.size ≤ i) : Kp a w' := by
  obtain ⟨h1, h2, h3, h4, h5⟩ := h
  have hz := k.size
  exact Below.trans (b := w) k ⟨h1, h2, h3, h4, fun i hi => h5 i (by omega) (fun hf => by have := hF i hf; omega)⟩
theorem Kf.set {p : Addr} {u : Value} (h : Kf F a b) (hp : F p.block ∨ a.heap.size ≤ p.block) : Kf F a (b.setCell p u) :=
  ⟨h.1, h.2.1, h.2.2.1, Nat.le_trans h.size (by simp [World.setCell]), fun i hi hn => (Below.heap_setCell _ _ _ _ (by rintro rfl; rcases hp with hp | hp; exact hn hp; omega)).trans (h.block hi hn)⟩
theorem Kf.app {v : Value} (h : Kf F a b) (hg : b.grownBy c v.ownBlock) (hv : ∀ k, v.ownBlock = some k → F k ∨ a.heap.size ≤ k) : Kf F a c := by
  obtain ⟨h1, h2, h3, h4, h5⟩ := hg
  refine ⟨h1.trans h.1, h2.trans h.2.1, h3.trans h.2.2.1, Nat.le_trans h.size h4, fun i hi hn => (h5 i (Nat.lt_of_lt_of_le hi h.size) fun e => ?_).trans (h.block hi hn)⟩
  rcases hv i e.symm with h | h
  · exact hn h
  · omega
theorem Kf.cell (h : Kf F w w') {p : Addr} (hn : ¬ F p.block) {u : Value} (hc : w.cell? p = some u) : w'.cell? p = some u :=
  (World.cell?_of_block (h.block (World.block_lt_of_cell? _ _ hc) hn)).trans hc
theorem Kf.frozen (h : Kf F w w') {p : Addr} (hp : p.block < w.heap.size) (hn : ¬ F p.block) : w'.frozen? p = w.frozen? p := World.frozen?_of_block (h.block hp hn)
theorem RD.kf {α : Type} {E : Enc α} {v : Value} {l : List α} (h : RD w E v l) (hk : Kf F w w') (hv : 0 < l.length → ∀ k, v.ownBlock = some k → ¬ F k) : RD w' E v l := by
  obtain ⟨A, c, rfl, h1, h2, hn, h3⟩ := h
  refine ⟨A, c, rfl, h1, h2, hn, fun h0 => ?_⟩
  obtain ⟨b, o, rfl, hb, hc⟩ := h3 h0
  refine ⟨b, o, rfl, Nat.lt_of_lt_of_le hb hk.size, fun k hk' j hj => ?_⟩
  rw [← hc k hk' j hj]
  exact World.cell?_of_block (hk.block hb (hv h0 b rfl))
theorem OW.kf {α : Type} {B : Nat} {e : TypeId} {E : Enc α} {v : Value} {l : List α} (h : OW w B e E v l) (hk : Kf F w w') (hv : ∀ k, v.ownBlock = some k → ¬ F k) : OW w' B e E v l := by
  obtain ⟨h1, h2⟩ := h
  refine ⟨h1, ?_⟩
  rcases h2 with h2 | ⟨g, cap, cur, rfl, hg, hh, r⟩
  · exact .inl h2
  · refine .inr ⟨g, cap, cur, rfl, hg, ?_, r⟩
    rw [hk.block (Array.getElem?_eq_some_iff.1 hh).1 (hv g rfl)]
    exact hh
/-- A block's whole content. -/
def BC (w : World) (b : Nat) (t : TypeId) (cs : List Value) : Prop := w.heap[b]? = some (.cells cs.toArray t (0, 0))
theorem BC.lt {i : Nat} {t : TypeId} {cs : List Value} (h : BC w i t cs) : i < w.heap.size := (Array.getElem?_eq_some_iff.1 h).1
theorem BC.kf {i : Nat} {t : TypeId} {cs : List Value} (h : BC w i t cs) (hk : Kf F w w') (hn : ¬ F i) : BC w' i t cs := (hk.block h.lt hn).trans h
theorem BC.kp {i : Nat} {t : TypeId} {cs : List Value} (h : BC w i t cs) (hk : Kp w w') : BC w' i t cs := (hk.bel.block i h.lt).trans h
theorem BC.new (w : World) (t : TypeId) (cs : List Value) : BC (w.alloc (.cells cs.toArray t)) w.heap.size t cs := heap_alloc_new w _
theorem BC.cell {i : Nat} {t : TypeId} {cs : List Value} (h : BC w i t cs) (j : Nat) : w.cell? ⟨i, j, none⟩ = cs[j]? := by
  rw [cell_of_row w i j _ t (0, 0) h]; simp
theorem BC.frozen {i : Nat} {t : TypeId} {cs : List Value} (h : BC w i t cs) (j : Nat) : w.frozen? ⟨i, j, none⟩ = false := by
  unfold BC at h
  simp [World.frozen?, h]
theorem BC.ne {i j : Nat} {t u : TypeId} {cs ds : List Value} (h : BC w i t cs) (h' : BC w j u ds) (hn : t ≠ u) : i ≠ j := by
  rintro rfl
  unfold BC at h h'
  rw [h] at h'
  injection h' with h'
  injection h' with _ e
  exact hn e
theorem BC.set {i j : Nat} {t : TypeId} {cs : List Value} {u : Value} (h : BC w i t cs) : BC (w.setCell ⟨i, j, none⟩ u) i t (cs.set j u) := by
  unfold BC at h ⊢
  simp [World.setCell, Array.getElem?_modify, h]
theorem BC.far {i : Nat} {t : TypeId} {cs : List Value} {p : Addr} {u : Value} (h : BC w i t cs) (hp : i ≠ p.block) : BC (w.setCell p u) i t cs := (Below.heap_setCell w p u i hp).trans h
theorem OW.bc_ne {α : Type} {B i : Nat} {e t : TypeId} {E : Enc α} {v : Value} {l : List α} {cs : List Value} (h : OW w B e E v l) (h' : BC w i t cs) (hn : e ≠ t) : v.ownBlock ≠ some i := by
  rcases h.2 with ⟨rfl, _⟩ | ⟨g, cap, cur, rfl, hg, hh, r⟩
  · simp [Value.ownBlock]
  · intro e1
    injection e1 with e1
    subst e1
    unfold BC at h'
    rw [hh] at h'
    injection h' with h'
    injection h' with _ e
    exact hn e
end

/-! Trees. -/
inductive MT (α : Type) where
  | nil
  | node (a : α) (l r : MT α)
def MT.size {α : Type} : MT α → Nat
  | .nil => 0
  | .node _ l r => l.size + 1 + r.size
def nodeC {α : Type} (E : Enc α) (a : α) (pl pr : Option Addr) : List Value := E.cells a ++ [.pointer pl, .pointer pr]
section
variable {α : Type} {E : Enc α} {nt : TypeId} {w w' : World}
def MR (w : World) (nt : TypeId) (E : Enc α) : MT α → Option Addr → List Nat → Prop
  | .nil, p, F => p = none ∧ F = []
  | .node a l r, p, F => ∃ b pl pr Fl Fr, p = some ⟨b, 0, none⟩ ∧ F = b :: (Fl ++ Fr) ∧ BC w b nt (nodeC E a pl pr) ∧ b ∉ Fl ∧ b ∉ Fr ∧ (∀ x ∈ Fl, x ∉ Fr) ∧ MR w nt E l pl Fl ∧ MR w nt E r pr Fr
theorem MR.keep {F : List Nat} (hk : ∀ i ∈ F, w'.heap[i]? = w.heap[i]?) : ∀ {t : MT α} {p : Option Addr}, MR w nt E t p F → MR w' nt E t p F := by
  intro t
  induction t generalizing F with
  | nil => intro p h; exact h
  | node a l r ihl ihr =>
    rintro p ⟨b, pl, pr, Fl, Fr, rfl, rfl, hb, h1, h2, h3, hl, hr⟩
    exact ⟨b, pl, pr, Fl, Fr, rfl, rfl, (hk b (by simp)).trans hb, h1, h2, h3, ihl (fun i hi => hk i (by simp [hi])) hl, ihr (fun i hi => hk i (by simp [hi])) hr⟩
theorem MR.bc {t : MT α} {p : Option Addr} {F : List Nat} (h : MR w nt E t p F) : ∀ i ∈ F, ∃ cs, BC w i nt cs := by
  induction t generalizing F p with
  | nil => obtain ⟨rfl, rfl⟩ := h; simp
  | node a l r ihl ihr =>
    obtain ⟨b, pl, pr, Fl, Fr, rfl, rfl, hb, h1, h2, h3, hl, hr⟩ := h
    intro i hi
    rcases List.mem_cons.1 hi with rfl | hi
    · exact ⟨_, hb⟩
    · rcases List.mem_append.1 hi with hi | hi
      · exact ihl hl i hi
      · exact ihr hr i hi
theorem MR.lt {t : MT α} {p : Option Addr} {F : List Nat} (h : MR w nt E t p F) : ∀ i ∈ F, i < w.heap.size := fun i hi => by
  obtain ⟨cs, h⟩ := h.bc i hi
  exact h.lt
theorem MR.kf {G : Nat → Prop} {t : MT α} {p : Option Addr} {F : List Nat} (h : MR w nt E t p F) (hk : Kf G w w') (hn : ∀ i ∈ F, ¬ G i) : MR w' nt E t p F :=
  MR.keep (fun i hi => hk.block (h.lt i hi) (hn i hi)) h
theorem MR.kp {t : MT α} {p : Option Addr} {F : List Nat} (h : MR w nt E t p F) (hk : Kp w w') : MR w' nt E t p F := h.kf (Kf.of (F := fun _ => False) hk) (fun _ _ h => h)
theorem MR.set {t : MT α} {p : Option Addr} {F : List Nat} (h : MR w nt E t p F) {q : Addr} {u : Value} (hn : q.block ∉ F) : MR (w.setCell q u) nt E t p F :=
  MR.keep (fun i hi => Below.heap_setCell _ _ _ _ (by rintro rfl; exact hn hi)) h
theorem MR.nil : MR w nt E (.nil : MT α) none [] := ⟨rfl, rfl⟩
theorem MR.of_none {t : MT α} {F : List Nat} (h : MR w nt E t none F) : t = .nil ∧ F = [] := by
  cases t with
  | nil => exact ⟨rfl, h.2⟩
  | node a l r => obtain ⟨b, pl, pr, Fl, Fr, h1, _⟩ := h; cases h1
theorem MR.of_some {t : MT α} {F : List Nat} {p : Addr} (h : MR w nt E t (some p) F) : ∃ a l r b pl pr Fl Fr, t = .node a l r ∧ p = ⟨b, 0, none⟩ ∧ F = b :: (Fl ++ Fr) ∧ BC w b nt (nodeC E a pl pr) ∧ b ∉ Fl ∧ b ∉ Fr ∧ (∀ x ∈ Fl, x ∉ Fr) ∧ MR w nt E l pl Fl ∧ MR w nt E r pr Fr := by
  cases t with
  | nil => obtain ⟨h1, _⟩ := h; cases h1
  | node a l r =>
    obtain ⟨b, pl, pr, Fl, Fr, h1, h2, h3, h4, h5, h6, h7, h8⟩ := h
    injection h1 with h1
    exact ⟨a, l, r, b, pl, pr, Fl, Fr, rfl, h1, h2, h3, h4, h5, h6, h7, h8⟩
theorem MR.mk {a : α} {l r : MT α} {b : Nat} {pl pr : Option Addr} {Fl Fr : List Nat} (hb : BC w b nt (nodeC E a pl pr)) (h1 : b ∉ Fl) (h2 : b ∉ Fr) (h3 : ∀ x ∈ Fl, x ∉ Fr) (hl : MR w nt E l pl Fl) (hr : MR w nt E r pr Fr) :
    MR w nt E (.node a l r) (some ⟨b, 0, none⟩) (b :: (Fl ++ Fr)) := ⟨b, pl, pr, Fl, Fr, rfl, rfl, hb, h1, h2, h3, hl, hr⟩
/-- A new leaf. -/
theorem MR.leaf (w : World) (a : α) : MR (w.alloc (.cells (nodeC E a none none).toArray nt)) nt E (.node a .nil .nil) (some ⟨w.heap.size, 0, none⟩) [w.heap.size] :=
  MR.mk (Fl := []) (Fr := []) (BC.new w nt _) (by simp) (by simp) (by simp) MR.nil MR.nil

/-! A way down: a link that holds a subtree, and all that stands round it. -/
structure Fm (α : Type) where
  a : α
  left : Bool
  o : MT α
def Fm.on (f : Fm α) (t : MT α) : MT α := if f.left then .node f.a t f.o else .node f.a f.o t
def plug : List (Fm α) → MT α → MT α
  | [], t => t
  | f :: C, t => plug C (f.on t)
def lk (E : Enc α) (left : Bool) : Nat := if left then E.size else E.size + 1
def fmC (E : Enc α) (f : Fm α) (ph po : Option Addr) : List Value := if f.left then nodeC E f.a ph po else nodeC E f.a po ph
def ZP (w : World) (nt : TypeId) (E : Enc α) (r0 : Addr) : List (Fm α) → Addr → List Nat → Prop
  | [], q, F => q = r0 ∧ F = []
  | f :: C, q, F => ∃ b ph po Fo q' F', q = ⟨b, lk E f.left, none⟩ ∧ BC w b nt (fmC E f ph po) ∧ MR w nt E f.o po Fo ∧ ZP w nt E r0 C q' F' ∧ w.cell? q' = some (.pointer (some ⟨b, 0, none⟩)) ∧ F = b :: (Fo ++ F') ∧ b ∉ Fo ∧ b ∉ F' ∧ ∀ x ∈ Fo, x ∉ F'
variable {r0 q : Addr}
theorem ZP.nil : ZP w nt E r0 ([] : List (Fm α)) r0 [] := ⟨rfl, rfl⟩
theorem ZP.bc {C : List (Fm α)} {F : List Nat} (h : ZP w nt E r0 C q F) : ∀ i ∈ F, ∃ cs, BC w i nt cs := by
  induction C generalizing q F with
  | nil => obtain ⟨rfl, rfl⟩ := h; simp
  | cons f C ih =>
    obtain ⟨b, ph, po, Fo, q', F', rfl, hb, ho, hz, hc, rfl, h1, h2, h3⟩ := h
    intro i hi
    rcases List.mem_cons.1 hi with rfl | hi
    · exact ⟨_, hb⟩
    · rcases List.mem_append.1 hi with hi | hi
      · exact ho.bc i hi
      · exact ih hz i hi
theorem ZP.at_ {C : List (Fm α)} {F : List Nat} (h : ZP w nt E r0 C q F) : q = r0 ∨ q.block ∈ F := by
  cases C with
  | nil => exact .inl h.1
  | cons f C =>
    obtain ⟨b, ph, po, Fo, q', F', rfl, hb, ho, hz, hc, rfl, h1, h2, h3⟩ := h
    exact .inr (by simp)
theorem ZP.keep {C : List (Fm α)} {F : List Nat} (hr : w'.cell? r0 = w.cell? r0) (hk : ∀ i ∈ F, w'.heap[i]? = w.heap[i]?) (h : ZP w nt E r0 C q F) : ZP w' nt E r0 C q F := by
  induction C generalizing q F with
  | nil => exact h
  | cons f C ih =>
    obtain ⟨b, ph, po, Fo, q', F', rfl, hb, ho, hz, hc, rfl, h1, h2, h3⟩ := h
    refine ⟨b, ph, po, Fo, q', F', rfl, (hk b (by simp)).trans hb, MR.keep (fun i hi => hk i (by simp [hi])) ho, ih (fun i hi => hk i (by simp [hi])) hz, ?_, rfl, h1, h2, h3⟩
    rcases hz.at_ with rfl | hq
    · exact hr.trans hc
    · exact (World.cell?_of_block (hk _ (by simp [hq]))).trans hc
theorem ZP.kf {G : Nat → Prop} {C : List (Fm α)} {F : List Nat} (h : ZP w nt E r0 C q F) (hk : Kf G w w') (hr : ¬ G r0.block) (hrl : r0.block < w.heap.size) (hn : ∀ i ∈ F, ¬ G i) : ZP w' nt E r0 C q F :=
  h.keep (World.cell?_of_block (hk.block hrl hr)) fun i hi => by
    obtain ⟨cs, hb⟩ := h.bc i hi
    exact hk.block hb.lt (hn i hi)
theorem ZP.kp {C : List (Fm α)} {F : List Nat} (h : ZP w nt E r0 C q F) (hk : Kp w w') (hrl : r0.block < w.heap.size) : ZP w' nt E r0 C q F := h.kf (Kf.of (F := fun _ => False) hk) (fun h => h) hrl fun _ _ h => h
/-- A store into the link. -/
theorem ZP.store {C : List (Fm α)} {F : List Nat} (h : ZP w nt E r0 C q F) (hr : r0.block ∉ F) (p : Option Addr) : ZP (w.setCell q (.pointer p)) nt E r0 C q F := by
  cases C with
  | nil => exact h
  | cons f C =>
    obtain ⟨b, ph, po, Fo, q', F', rfl, hb, ho, hz, hc, rfl, h1, h2, h3⟩ := h
    simp only [List.mem_cons, List.mem_append, not_or] at hr
    have hne : q' ≠ ⟨b, lk E f.left, none⟩ := by
      rintro rfl
      rcases hz.at_ with h | h
      · exact hr.1 (by rw [← h])
      · exact h2 h
    refine ⟨b, p, po, Fo, q', F', rfl, ?_, ho.set h1, hz.keep (World.cell?_setCell_other _ _ _ _ (fun e => hr.1 (by rw [← e]))) (fun i hi => Below.heap_setCell _ _ _ _ (by rintro rfl; exact h2 hi)), ?_, rfl, h1, h2, h3⟩
    · have h4 := hb.set (j := lk E f.left) (u := .pointer p)
      have hl := E.len f.a
      have e : (fmC E f ph po).set (lk E f.left) (.pointer p) = fmC E f p po := by
        unfold fmC lk nodeC
        cases f.left
        · simp only [Bool.false_eq_true, if_false]
          rw [List.set_append_right _ _ (by omega), hl]; simp
        · simp only [if_true]
          rw [List.set_append_right _ _ (by omega), hl]; simp
      rw [e] at h4
      exact h4
    · rw [World.cell?_setCell_other _ _ _ _ (fun e => hne (by rw [e]))]; exact hc
theorem fmC_link (E : Enc α) (f : Fm α) (ph po : Option Addr) : (fmC E f ph po)[lk E f.left]? = some (.pointer ph) := by
  have hl := E.len f.a
  unfold fmC lk nodeC
  cases f.left
  · simp only [Bool.false_eq_true, if_false]
    rw [List.getElem?_append_right (by omega), hl]; simp
  · simp only [if_true]
    rw [List.getElem?_append_right (by omega), hl]; simp
/-- All of it is one tree. -/
theorem ZP.close {C : List (Fm α)} {F Ft : List Nat} {t : MT α} {p : Option Addr} (h : ZP w nt E r0 C q F) (hc : w.cell? q = some (.pointer p)) (ht : MR w nt E t p Ft) (hd : ∀ x ∈ Ft, x ∉ F) :
    ∃ p0 F0, w.cell? r0 = some (.pointer p0) ∧ MR w nt E (plug C t) p0 F0 ∧ ∀ x, x ∈ F0 ↔ x ∈ Ft ∨ x ∈ F := by
  induction C generalizing q F Ft t p with
  | nil =>
    obtain ⟨rfl, rfl⟩ := h
    exact ⟨p, Ft, hc, ht, fun x => by simp⟩
  | cons f C ih =>
    obtain ⟨b, ph, po, Fo, q', F', rfl, hb, ho, hz, hc', rfl, h1, h2, h3⟩ := h
    have e := hb.cell (lk E f.left)
    rw [hc, fmC_link] at e
    injection e with e
    injection e with e
    subst e
    have hbt : b ∉ Ft := fun h => hd b h (by simp)
    have hto : ∀ x ∈ Ft, x ∉ Fo := fun x hx hx' => hd x hx (by simp [hx'])
    cases hf : f.left with
    | true =>
      have hb' : BC w b nt (nodeC E f.a p po) := by simpa [fmC, hf] using hb
      obtain ⟨p0, F0, g1, g2, g3⟩ := ih hz hc' (MR.mk hb' hbt h1 hto ht ho) (fun x hx hx' => by
        rcases List.mem_cons.1 hx with rfl | hx
        · exact h2 hx'
        · rcases List.mem_append.1 hx with hx | hx
          · exact hd x hx (by simp [hx'])
          · exact h3 x hx hx')
      exact ⟨p0, F0, g1, by simpa [plug, Fm.on, hf] using g2, fun x => by rw [g3 x]; simp only [List.mem_cons, List.mem_append, or_assoc, or_left_comm, or_comm]⟩
    | false =>
      have hb' : BC w b nt (nodeC E f.a po p) := by simpa [fmC, hf] using hb
      obtain ⟨p0, F0, g1, g2, g3⟩ := ih hz hc' (MR.mk hb' h1 hbt (fun x hx hx' => hto x hx' hx) ho ht) (fun x hx hx' => by
        rcases List.mem_cons.1 hx with rfl | hx
        · exact h2 hx'
        · rcases List.mem_append.1 hx with hx | hx
          · exact h3 x hx hx'
          · exact hd x hx (by simp [hx']))
      exact ⟨p0, F0, g1, by simpa [plug, Fm.on, hf] using g2, fun x => by rw [g3 x]; simp only [List.mem_cons, List.mem_append, or_assoc, or_left_comm, or_comm]⟩
/-- One step down. -/
theorem ZP.push {C : List (Fm α)} {F Fl Fr : List Nat} {a : α} {l r : MT α} {b : Nat} {pl pr : Option Addr} (h : ZP w nt E r0 C q F) (hc : w.cell? q = some (.pointer (some ⟨b, 0, none⟩))) (hb : BC w b nt (nodeC E a pl pr)) (hl : MR w nt E l pl Fl) (hr : MR w nt E r pr Fr)
    (h1 : b ∉ Fl) (h2 : b ∉ Fr) (h3 : b ∉ F) (h4 : ∀ x ∈ Fl, x ∉ F) (h5 : ∀ x ∈ Fr, x ∉ F) (left : Bool) :
    ZP w nt E r0 (⟨a, left, if left then r else l⟩ :: C) ⟨b, lk E left, none⟩ (b :: ((if left then Fr else Fl) ++ F)) := by
  cases left with
  | true => exact ⟨b, pl, pr, Fr, q, F, rfl, by simpa [fmC] using hb, hr, h, hc, rfl, h2, h3, h5⟩
  | false => exact ⟨b, pr, pl, Fl, q, F, rfl, by simpa [fmC] using hb, hl, h, hc, rfl, h1, h3, h4⟩
theorem BC.link {b : Nat} {a : α} {pl pr : Option Addr} (hb : BC w b nt (nodeC E a pl pr)) (left : Bool) : w.cell? ⟨b, lk E left, none⟩ = some (.pointer (if left then pl else pr)) := by
  rw [hb.cell]
  have hl := E.len a
  unfold lk nodeC
  cases left
  · simp only [Bool.false_eq_true, if_false]
    rw [List.getElem?_append_right (by omega), hl]; simp
  · simp only [if_true]
    rw [List.getElem?_append_right (by omega), hl]; simp
end

/-! A variable that holds a slice that the call owns. -/
def OB {α : Type} (w : World) (B : Nat) (g : Nat) (st e : TypeId) (E : Enc α) (l : List α) : Prop := ∃ v, BC w g st [v] ∧ OW w B e E v l ∧ v.ownBlock ≠ some g
/-- What a call leaves that appends to the variable g. -/
def KO (g B : Nat) (w w' : World) : Prop := ∃ v v', w.cell? ⟨g, 0, none⟩ = some v ∧ w'.cell? ⟨g, 0, none⟩ = some v' ∧ Kf (fun i => i = g ∨ v.ownBlock = some i) w w' ∧ (v'.ownBlock = v.ownBlock ∨ Hi w.heap.size v')
theorem KO.trans {g B : Nat} {a b c : World} (h : KO g B a b) (k : KO g B b c) : KO g B a c := by
  obtain ⟨v, v', h1, h2, h3, h4⟩ := h
  obtain ⟨u, u', k1, k2, k3, k4⟩ := k
  rw [h2] at k1
  injection k1 with k1
  subst k1
  have hz := h3.size
  refine ⟨v, u', h1, k2, h3.trans k3 (fun i hi hg => ?_), ?_⟩
  · rcases hg with hg | hg
    · exact .inl hg
    · rcases h4 with h4 | h4
      · exact .inr (by rw [← h4]; exact hg)
      · have := h4 i hg; omega
  · rcases k4 with k4 | k4
    · rcases h4 with h4 | h4
      · exact .inl (k4.trans h4)
      · exact .inr (fun i hi => h4 i (by rw [← k4]; exact hi))
    · exact .inr (k4.mono hz)
theorem KO.refl {g B : Nat} {w : World} {v : Value} (h : w.cell? ⟨g, 0, none⟩ = some v) : KO g B w w := ⟨v, v, h, h, Kf.refl _ _, .inl rfl⟩
theorem OB.lt {α : Type} {w : World} {B g : Nat} {st e : TypeId} {E : Enc α} {l : List α} (h : OB w B g st e E l) : g < w.heap.size := by
  obtain ⟨v, h, _⟩ := h
  exact h.lt
theorem MR.ko {α β : Type} {w w' : World} {B g : Nat} {nt st e : TypeId} {E : Enc α} {E' : Enc β} {l : List β} {t : MT α} {p : Option Addr} {F : List Nat} (h : MR w nt E t p F) (ho : OB w B g st e E' l) (hk : KO g B w w') (h1 : st ≠ nt) (h2 : e ≠ nt) : MR w' nt E t p F := by
  obtain ⟨v, hb, hv, hn⟩ := ho
  obtain ⟨v1, v2, k1, k2, k3, k4⟩ := hk
  have e1 : some v1 = some v := k1.symm.trans (hb.cell 0)
  injection e1 with e1
  subst e1
  refine h.kf k3 fun i hi hg => ?_
  obtain ⟨cs, hc⟩ := h.bc i hi
  rcases hg with rfl | hg
  · exact hb.ne hc h1 rfl
  · exact hv.bc_ne hc h2 hg
theorem KO.kp {g B : Nat} {a w w' : World} (h : KO g B w w') (k : Kp a w) (hg : a.heap.size ≤ g) (hv : ∀ v, w.cell? ⟨g, 0, none⟩ = some v → Hi a.heap.size v) : Kp a w' := by
  obtain ⟨v, v', h1, h2, h3, h4⟩ := h
  exact h3.kp k fun i hi => by
    rcases hi with rfl | hi
    · exact hg
    · exact hv v h1 i hi
end Go.Proofs.Ytoihdnekkgpcoaa
namespace Go.Proofs.Ytoihdnekkgpcoaa
open Go.ChangeShapes Go.WideShapes Go.ChangeAt Go.RowKit
set_option linter.unusedVariables false
set_option linter.unusedSimpArgs false

/-- Only the row of v may have been written. Behind a name. -/
def KV (v : Value) (w w' : World) : Prop := Kf (fun i => v.ownBlock = some i) w w'
section
variable {v : Value} {w W W' : World}
theorem KV.refl (v : Value) (w : World) : KV v w w := Kf.refl _ _
theorem KV.size (h : KV v w W) : w.heap.size ≤ W.heap.size := Kf.size h
theorem KV.drew (h : KV v w W) : KV v w W.drew := Kf.on h (Kp.refl W).drew
theorem KV.drewN {n : Nat} (h : KV v w W) : KV v w (W.drewN n) := Kf.on h (Kp.refl W).drewN
theorem KV.alloc {o : Obj} (h : KV v w W) : KV v w (W.alloc o) := Kf.on h (Kp.refl W).alloc
theorem KV.app (hg : W.grownBy W' v.ownBlock) (h : KV v w W) : KV v w W' := Kf.app h hg fun _ hk => .inl hk
theorem KV.call (hb : Kp W W') (h : KV v w W) : KV v w W' := Kf.on h hb
theorem KV.cell {p : Addr} {u : Value} (h : KV v w W) (hn : v.ownBlock ≠ some p.block) (hc : w.cell? p = some u) : W.cell? p = some u := Kf.cell h hn hc
theorem KV.frozen {p : Addr} (h : KV v w W) (hp : p.block < w.heap.size) (hn : v.ownBlock ≠ some p.block) : W.frozen? p = w.frozen? p := Kf.frozen h hp hn
end
section
variable {α : Type} {w w3 : World} {B g : Nat} {st e : TypeId} {E : Enc α} {l l' : List α} {v v3 : Value}
theorem ob_app (hb : BC w g st [v]) (ho : OW w B e E v l) (hn : v.ownBlock ≠ some g) (k : KV v w w3) (ho3 : OW w3 B e E v3 l') (hat : v3.ownBlock = v.ownBlock ∨ Hi w.heap.size v3) :
    OB (w3.setCell ⟨g, 0, none⟩ v3) B g st e E l' ∧ KO g B w (w3.setCell ⟨g, 0, none⟩ v3) := by
  have hz := KV.size k
  have hlt := hb.lt
  have hn3 : v3.ownBlock ≠ some g := by
    rcases hat with h | h
    · rw [h]; exact hn
    · intro e; have := h g e; omega
  have hb3 : BC w3 g st [v] := hb.kf k hn
  refine ⟨⟨v3, hb3.set (j := 0) (u := v3), ho3.setCell hn3 v3, hn3⟩, v, v3, hb.cell 0, (hb3.set (j := 0) (u := v3)).cell 0, Kf.set (Kf.mono k fun i _ hi => .inr hi) (.inl (.inl rfl)), hat⟩
theorem RD.slice {β : Type} {E' : Enc β} {u : Value} {m : List β} (h : RD w E' u m) : ∃ A n c, u = .slice A n c := by
  obtain ⟨A, c, rfl, _⟩ := h
  exact ⟨A, _, c, rfl⟩
theorem KO.size {a b : World} (h : KO g B a b) : a.heap.size ≤ b.heap.size := by
  obtain ⟨v, v', h1, h2, h3, h4⟩ := h
  exact Kf.size h3
theorem RD.ko {β : Type} {E' : Enc β} {w' : World} {u : Value} {m : List β} (h : RD w E' u m) (ho : OB w B g st e E l) (hk : KO g B w w') (hu : 0 < m.length → Lo B u) (hg : B ≤ g) : RD w' E' u m := by
  obtain ⟨v, hb, hv, hn⟩ := ho
  obtain ⟨v1, v2, k1, k2, k3, k4⟩ := hk
  have e1 : some v1 = some v := k1.symm.trans (hb.cell 0)
  injection e1 with e1
  subst e1
  refine h.kf k3 fun h0 k hk hF => ?_
  have := hu h0 k hk
  rcases hF with rfl | hF
  · omega
  · have := (hv.lt k hF).1; omega
theorem OB.kp {w' : World} (h : OB w B g st e E l) (hk : Kp w w') : OB w' B g st e E l := by
  obtain ⟨v, hb, hv, hn⟩ := h
  exact ⟨v, hb.kp hk, hv.kp hk, hn⟩
theorem OB.new (w : World) (hB : B ≤ w.heap.size) : OB (w.alloc (.cells #[.slice none 0 0] st)) B w.heap.size st e E ([] : List α) :=
  ⟨.slice none 0 0, BC.new w st [.slice none 0 0], OW.nil, by simp [Value.ownBlock]⟩
theorem KO.on {a b c : World} (h : KO g B a b) (hk : Kp b c) : KO g B a c := by
  obtain ⟨v, v', h1, h2, h3, h4⟩ := h
  exact ⟨v, v', h1, hk.cell h2, h3.on hk, h4⟩
theorem KO.onL {a b c : World} (h : KO g B b c) (hk : Kp a b) (hg : g < a.heap.size) (ho : OB a B g st e E l) : KO g B a c := by
  obtain ⟨v0, hb, hv, hn⟩ := ho
  obtain ⟨v, v', h1, h2, h3, h4⟩ := h
  have e1 : some v = some v0 := h1.symm.trans (hk.cell (hb.cell 0))
  injection e1 with e1
  subst e1
  have hz := hk.size
  refine ⟨v, v', hb.cell 0, h2, (Kf.of (F := fun i => i = g ∨ v.ownBlock = some i) hk).trans h3 (fun i _ h => h), h4.imp id fun h => h.mono hz⟩
theorem OB.kp0 {a w' : World} (h : OB w B g st e E l) (hk : KO g B w w') (h0 : Kp a w) (hB : a.heap.size ≤ B) (hg : B ≤ g) : Kp a w' :=
  hk.kp h0 (by omega) fun v hv => by
    obtain ⟨u, hb, ho, _⟩ := h
    have e1 : some v = some u := hv.symm.trans (hb.cell 0)
    injection e1 with e1
    subst e1
    exact fun k hk => Nat.le_trans hB (ho.lt k hk).1
end
theorem BC.ko {α : Type} {w w' : World} {B g i : Nat} {st e t : TypeId} {E : Enc α} {l : List α} {cs : List Value} (h : BC w i t cs) (ho : OB w B g st e E l) (hk : KO g B w w') (h1 : st ≠ t) (h2 : e ≠ t) : BC w' i t cs := by
  obtain ⟨v, hb, hv, hn⟩ := ho
  obtain ⟨v1, v2, k1, k2, k3, k4⟩ := hk
  have e1 : some v1 = some v := k1.symm.trans (hb.cell 0)
  injection e1 with e1
  subst e1
  refine h.kf k3 fun hg => ?_
  rcases hg with rfl | hg
  · exact hb.ne h h1 rfl
  · exact hv.bc_ne h h2 hg
/-- What a call leaves that appends so much to the variable. -/
def WPost {α : Type} (B g : Nat) (st e : TypeId) (E : Enc α) (r : Value) (l : List α) (w : World) (en : Ending) (w' : World) : Prop := en = .returned r ∧ OB w' B g st e E l ∧ KO g B w w'
end Go.Proofs.Ytoihdnekkgpcoaa
namespace Go.Proofs.Ytoihdnekkgpcoaa
open Go.ChangeShapes Go.WideShapes Go.ChangeAt Go.RowKit
set_option linter.unusedVariables false
set_option linter.unusedSimpArgs false

/-- A slice of slices. -/
def RDS {α : Type} (w : World) (E : Enc α) (v : Value) (ls : List (List α)) : Prop :=
  ∃ A c, v = .slice A ls.length c ∧ ls.length ≤ c ∧ c ≤ maxLen ∧ (0 < ls.length → ∃ b o, A = some ⟨b, o, none⟩ ∧ b < w.heap.size ∧
    ∀ k (h : k < ls.length), ∃ u, w.cell? ⟨b, o + k, none⟩ = some u ∧ RD w E u ls[k])
section
variable {α : Type} {w w' : World} {E : Enc α} {v : Value} {ls : List (List α)}
theorem RDS.shape (h : RDS w E v ls) : ∃ A c, v = .slice A ls.length c ∧ ls.length ≤ c ∧ c ≤ 9223372036854775807 := by
  obtain ⟨A, c, rfl, h1, h2, h3⟩ := h
  exact ⟨A, c, rfl, h1, by unfold maxLen at h2; omega⟩
theorem RDS.at_ {A : Option Addr} {n c : Nat} (h : RDS w E (.slice A n c) ls) {k : Nat} (hk : k < ls.length) :
    ∃ b o u, A = some ⟨b, o, none⟩ ∧ b < w.heap.size ∧ w.cell? ⟨b, o + k, none⟩ = some u ∧ RD w E u ls[k] := by
  obtain ⟨A', c', e, h1, h2, h3⟩ := h
  injection e with e1 e2 e3
  subst e1
  obtain ⟨b, o, rfl, hb, hc⟩ := h3 (by omega)
  obtain ⟨u, h4, h5⟩ := hc k hk
  exact ⟨b, o, u, rfl, hb, h4, h5⟩
theorem RDS.kp (h : RDS w E v ls) (hb : Kp w w') : RDS w' E v ls := by
  obtain ⟨A, c, rfl, h1, h2, h3⟩ := h
  refine ⟨A, c, rfl, h1, h2, fun h0 => ?_⟩
  obtain ⟨b, o, rfl, hb', hc⟩ := h3 h0
  refine ⟨b, o, rfl, Nat.lt_of_lt_of_le hb' hb.size, fun k hk => ?_⟩
  obtain ⟨u, h4, h5⟩ := hc k hk
  exact ⟨u, hb.cell h4, h5.kp hb⟩
end
theorem RDS.new2 {α : Type} {w : World} {E : Enc α} {a b : List α} {va vb : Value} {t : TypeId} {g : Nat} (hg : w.heap.size = g) (ha : RD w E va a) (hb : RD w E vb b) : RDS (w.alloc (.cells #[va, vb] t)) E (.slice (some ⟨g, 0, none⟩) 2 2) [a, b] := by
  subst hg
  have hk : Kp w (w.alloc (.cells #[va, vb] t)) := (Kp.refl w).alloc
  refine ⟨_, _, rfl, Nat.le_refl _, by simp [maxLen], fun _ => ⟨w.heap.size, 0, rfl, by simp, fun k h => ?_⟩⟩
  have hc := fun i => cell_of_row _ _ i _ t (0, 0) (heap_alloc_new w (.cells #[va, vb] t))
  match k, h with
  | 0, _ => exact ⟨va, hc 0, ha.kp hk⟩
  | 1, _ => exact ⟨vb, hc 1, hb.kp hk⟩
theorem RDS.new1 {α : Type} {w : World} {E : Enc α} {a : List α} {va : Value} {t : TypeId} {g : Nat} (hg : w.heap.size = g) (ha : RD w E va a) : RDS (w.alloc (.cells #[va] t)) E (.slice (some ⟨g, 0, none⟩) 1 1) [a] := by
  subst hg
  have hk : Kp w (w.alloc (.cells #[va] t)) := (Kp.refl w).alloc
  refine ⟨_, _, rfl, Nat.le_refl _, by simp [maxLen], fun _ => ⟨w.heap.size, 0, rfl, by simp, fun k h => ?_⟩⟩
  have hc := fun i => cell_of_row _ _ i _ t (0, 0) (heap_alloc_new w (.cells #[va] t))
  match k, h with
  | 0, _ => exact ⟨va, hc 0, ha.kp hk⟩
end Go.Proofs.Ytoihdnekkgpcoaa
