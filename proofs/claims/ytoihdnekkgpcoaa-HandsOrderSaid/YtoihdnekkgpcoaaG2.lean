/-
  What each write keeps of the list: keys rise along the way, all without a mark are on the way from the head. Conditions: as each theorem says.
  An order of all deeds: what is kept by each step, and what follows when all deeds are done. Conditions: as each theorem says.
  When all deeds are done there is an order of them, each within its time, by which a set answers the same. Conditions: as each theorem says.
  What a step leaves of the other hands; the locks and whose they are. Conditions: as each theorem says.
-/
import Derived.Test.YtoihdnekkgpcoaaG1

namespace Go.Proofs.Ytoihdnekkgpcoaa
set_option linter.unusedVariables false
set_option linter.unusedSimpArgs false

/-- Along the way from a to b. -/
inductive Rc (f : Nat → Nat) : Nat → Nat → Prop
  | refl (a : Nat) : Rc f a a
  | step (a b : Nat) (h : Rc f (f a) b) : Rc f a b
theorem Rc.comp {f : Nat → Nat} {a b : Nat} (h : Rc f a b) : ∀ c, Rc f a c → Rc f b c ∨ Rc f c b := by
  induction h with
  | refl a => intro c h; exact Or.inl h
  | step a b h ih =>
    intro c hc
    cases hc with
    | refl => exact Or.inr (.step _ _ h)
    | step _ _ hc => exact ih c hc
theorem Rc.trans {f : Nat → Nat} {a b c : Nat} (h : Rc f a b) (h2 : Rc f b c) : Rc f a c := by
  induction h with
  | refl a => exact h2
  | step a b h ih => exact .step _ _ (ih h2)
/-- The list is sound. -/
structure MI (m : Mm) : Prop where
  pos : 0 < m.n
  k0 : m.ky 0 = -1
  kl : ∀ i, i < m.n → m.ky i ≤ 10
  nl : ∀ i, i < m.n → m.nx i < m.n
  ri : ∀ i, i < m.n → m.ky i ≠ 10 → m.ky i < m.ky (m.nx i)
  tl : ∀ i, i < m.n → m.ky i = 10 → m.nx i = i
  md : ∀ i, i < m.n → m.mr i = true → 0 ≤ m.ky i ∧ m.ky i ≤ 9
  rc : ∀ i, i < m.n → m.mr i = false → Rc m.nx 0 i
theorem MI.lock {m : Mm} (h : MI m) (i : Nat) : MI (m.lock i) := ⟨h.pos, h.k0, h.kl, h.nl, h.ri, h.tl, h.md, h.rc⟩
theorem MI.free1 {m : Mm} (h : MI m) (i : Nat) : MI (m.free1 i) := ⟨h.pos, h.k0, h.kl, h.nl, h.ri, h.tl, h.md, h.rc⟩
theorem MI.free {m : Mm} (h : MI m) (p c : Nat) : MI (m.free p c) := ⟨h.pos, h.k0, h.kl, h.nl, h.ri, h.tl, h.md, h.rc⟩
theorem MI.lt {m : Mm} (h : MI m) {a b : Nat} (hr : Rc m.nx a b) (ha : a < m.n) : b < m.n := by
  induction hr with
  | refl a => exact ha
  | step a b hr ih => exact ih (h.nl a ha)
theorem MI.le {m : Mm} (h : MI m) {a b : Nat} (hr : Rc m.nx a b) (ha : a < m.n) : b = a ∨ m.ky a < m.ky b := by
  induction hr with
  | refl a => exact Or.inl rfl
  | step a b hr ih =>
    have h1 := ih (h.nl a ha)
    by_cases hk : m.ky a = 10
    · rw [h.tl a ha hk] at h1; exact h1
    · have h2 := h.ri a ha hk
      rcases h1 with h1 | h1
      · rw [h1]; exact Or.inr h2
      · exact Or.inr (by omega)
theorem MI.mr0 {m : Mm} (h : MI m) : m.mr 0 = false := by
  cases h0 : m.mr 0 with
  | false => rfl
  | true => have := h.md 0 h.pos h0; rw [h.k0] at this; omega
theorem MI.kg {m : Mm} (h : MI m) {i : Nat} (hi : i < m.n) : -1 ≤ m.ky i := by
  cases hm : m.mr i with
  | true => have := h.md i hi hm; omega
  | false =>
    rcases h.le (h.rc i hi hm) h.pos with e | e
    · rw [e, h.k0]; omega
    · rw [h.k0] at e; omega
/-- The set: the keys without a mark. -/
def InS (m : Mm) (k : Int) : Prop := ∃ i, i < m.n ∧ m.mr i = false ∧ m.ky i = k
theorem MI.one {m : Mm} (h : MI m) {i j : Nat} (hi : i < m.n) (hj : j < m.n) (mi : m.mr i = false) (mj : m.mr j = false) (hk : m.ky i = m.ky j) : i = j := by
  rcases (h.rc i hi mi).comp j (h.rc j hj mj) with r | r
  · rcases h.le r hi with e | e
    · exact e.symm
    · omega
  · rcases h.le r hj with e | e
    · exact e
    · omega
theorem MI.gap {m : Mm} (h : MI m) {p c : Nat} {k : Int} (hp : p < m.n) (mp : m.mr p = false) (hn : m.nx p = c) (h1 : m.ky p < k) (h2 : k < m.ky c) : ¬ InS m k := by
  rintro ⟨i, hi, mi, rfl⟩
  rcases (h.rc p hp mp).comp i (h.rc i hi mi) with r | r
  · cases r with
    | refl => omega
    | step _ _ r =>
      rw [hn] at r
      rcases h.le r (by rw [← hn]; exact h.nl p hp) with e | e
      · rw [e] at h2; omega
      · omega
  · rcases h.le r hi with e | e
    · rw [e] at h1; omega
    · omega

-- a new bead
theorem Rc.ins {m : Mm} (h : MI m) {p c : Nat} {k : Int} (hp : p < m.n) (hn : m.nx p = c) {a b : Nat} (r : Rc m.nx a b) (ha : a < m.n) : Rc (m.ins p c k).nx a b := by
  induction r with
  | refl a => exact .refl a
  | step a b r ih =>
    have h1 := ih (h.nl a ha)
    by_cases e : a = p
    · subst e
      refine .step _ _ ?_
      have e1 : (m.ins a c k).nx a = m.n := by simp [Mm.ins, up]
      rw [e1]
      refine .step _ _ ?_
      have e2 : (m.ins a c k).nx m.n = c := by simp [Mm.ins, up, show m.n ≠ a by omega]
      rw [e2]; rw [hn] at h1; exact h1
    · refine .step _ _ ?_
      have e1 : (m.ins p c k).nx a = m.nx a := by simp [Mm.ins, up, e, show a ≠ m.n by omega]
      rw [e1]; exact h1
theorem MI.ins {m : Mm} (h : MI m) {p c : Nat} {k : Int} (hp : p < m.n) (mp : m.mr p = false) (hn : m.nx p = c) (h1 : m.ky p < k) (h2 : k < m.ky c) (h3 : 0 ≤ k) (h4 : k ≤ 9) : MI (m.ins p c k) := by
  have hc : c < m.n := by rw [← hn]; exact h.nl p hp
  have hpn : p ≠ m.n := by omega
  have hcn : c ≠ m.n := by omega
  refine ⟨Nat.succ_pos _, ?_, ?_, ?_, ?_, ?_, ?_, ?_⟩
  · have := h.pos
    simp [Mm.ins, up, show (0 : Nat) ≠ m.n by omega, h.k0]
  · intro i hi
    have hi : i < m.n + 1 := hi
    by_cases e : i = m.n
    · subst e; simp [Mm.ins, up]; omega
    · simp only [Mm.ins, up, e, if_false]; exact h.kl i (by omega)
  · intro i hi
    have hi : i < m.n + 1 := hi
    show _ < m.n + 1
    simp only [Mm.ins, up]
    split
    · omega
    · split
      · omega
      · have := h.nl i (by omega); omega
  · intro i hi hk
    have hi : i < m.n + 1 := hi
    by_cases e : i = m.n
    · subst e; simp [Mm.ins, up, hpn.symm, hcn]; exact h2
    · by_cases e2 : i = p
      · subst e2; simp [Mm.ins, up, hpn]; exact h1
      · have hk' : m.ky i ≠ 10 := by simpa [Mm.ins, up, e] using hk
        have hl := h.nl i (by omega)
        simp only [Mm.ins, up, e, e2, if_false, show m.nx i ≠ m.n by omega]
        exact h.ri i (by omega) hk'
  · intro i hi hk
    have hi : i < m.n + 1 := hi
    by_cases e : i = m.n
    · subst e; simp [Mm.ins, up] at hk; omega
    · have hk' : m.ky i = 10 := by simpa [Mm.ins, up, e] using hk
      by_cases e2 : i = p
      · subst e2; omega
      · simp only [Mm.ins, up, e, e2, if_false]
        exact h.tl i (by omega) hk'
  · intro i hi hm
    have hi : i < m.n + 1 := hi
    by_cases e : i = m.n
    · subst e; simp [Mm.ins, up] at hm
    · simp only [Mm.ins, up, e, if_false] at hm ⊢
      exact h.md i (by omega) hm
  · intro i hi hm
    have hi : i < m.n + 1 := hi
    by_cases e : i = m.n
    · subst e
      have r := Rc.ins h (k := k) hp hn (h.rc p hp mp) h.pos
      refine r.trans (.step _ _ ?_)
      have e1 : (m.ins p c k).nx p = m.n := by simp [Mm.ins, up]
      rw [e1]; exact .refl _
    · simp only [Mm.ins, up, e, if_false] at hm
      exact Rc.ins h hp hn (h.rc i (by omega) hm) h.pos
theorem InS.ins {m : Mm} (p c : Nat) (k x : Int) : InS (m.ins p c k) x ↔ InS m x ∨ x = k := by
  constructor
  · rintro ⟨i, hi, hm, hk⟩
    have hi : i < m.n + 1 := hi
    by_cases e : i = m.n
    · subst e; simp [Mm.ins, up] at hk; exact Or.inr hk.symm
    · simp only [Mm.ins, up, e, if_false] at hm hk
      exact Or.inl ⟨i, by omega, hm, hk⟩
  · rintro (⟨i, hi, hm, hk⟩ | rfl)
    · exact ⟨i, Nat.lt_succ_of_lt hi, by simp [Mm.ins, up, show i ≠ m.n by omega, hm], by simp [Mm.ins, up, show i ≠ m.n by omega, hk]⟩
    · exact ⟨m.n, Nat.lt_succ_self _, by simp [Mm.ins, up], by simp [Mm.ins, up]⟩
-- a mark
theorem MI.mark {m : Mm} (h : MI m) {c : Nat} (h1 : 0 ≤ m.ky c) (h2 : m.ky c ≤ 9) : MI (m.mark c) := by
  refine ⟨h.pos, h.k0, h.kl, h.nl, h.ri, h.tl, ?_, ?_⟩
  · intro i hi hm
    by_cases e : i = c
    · subst e; exact ⟨h1, h2⟩
    · simp only [Mm.mark, up, e, if_false] at hm
      exact h.md i hi hm
  · intro i hi hm
    by_cases e : i = c
    · subst e; simp [Mm.mark, up] at hm
    · simp only [Mm.mark, up, e, if_false] at hm
      exact h.rc i hi hm
theorem InS.mark {m : Mm} (h : MI m) {c : Nat} (hc : c < m.n) (mc : m.mr c = false) (x : Int) : InS (m.mark c) x ↔ InS m x ∧ x ≠ m.ky c := by
  constructor
  · rintro ⟨i, hi, hm, hk⟩
    by_cases e : i = c
    · subst e; simp [Mm.mark, up] at hm
    · simp only [Mm.mark, up, e, if_false] at hm hk
      refine ⟨⟨i, hi, hm, hk⟩, fun e2 => e (h.one hi hc hm mc (by rw [hk, e2]))⟩
  · rintro ⟨⟨i, hi, hm, hk⟩, hx⟩
    have e : i ≠ c := by rintro rfl; exact hx hk.symm
    exact ⟨i, hi, by simp [Mm.mark, up, e, hm], hk⟩
-- one with a mark leaves the way
theorem Rc.drop {m : Mm} (h : MI m) {p c : Nat} (hp : p < m.n) (hn : m.nx p = c) (hpk : m.ky p ≠ 10) {a b : Nat} (r : Rc m.nx a b) (hb : b ≠ c) : Rc (m.drop p c).nx a b := by
  have hcp : c ≠ p := by
    rintro rfl
    have := h.ri c hp hpk
    rw [hn] at this; omega
  induction r with
  | refl a => exact .refl a
  | step a b r ih =>
    have h1 := ih hb
    refine .step _ _ ?_
    by_cases e : a = p
    · subst e
      have e1 : (m.drop a c).nx a = m.nx c := by simp [Mm.drop, up]
      rw [e1]; rw [hn] at h1
      cases h1 with
      | refl => exact absurd rfl hb
      | step _ _ h1 =>
        have e2 : (m.drop a c).nx c = m.nx c := by simp [Mm.drop, up, hcp]
        rw [e2] at h1; exact h1
    · have e1 : (m.drop p c).nx a = m.nx a := by simp [Mm.drop, up, e]
      rw [e1]; exact h1
theorem MI.drop {m : Mm} (h : MI m) {p c : Nat} (hp : p < m.n) (hn : m.nx p = c) (hpk : m.ky p ≠ 10) (mc : m.mr c = true) : MI (m.drop p c) := by
  have hc : c < m.n := by rw [← hn]; exact h.nl p hp
  have hck := h.md c hc mc
  refine ⟨h.pos, h.k0, h.kl, ?_, ?_, ?_, h.md, ?_⟩
  · intro i hi
    by_cases e : i = p
    · subst e; simp [Mm.drop, up]; exact h.nl c hc
    · simp only [Mm.drop, up, e, if_false]; exact h.nl i hi
  · intro i hi hk
    by_cases e : i = p
    · subst e
      have h1 := h.ri i hp hpk
      have h2 := h.ri c hc (by omega)
      rw [hn] at h1
      simp only [Mm.drop, up, if_true]; omega
    · simp only [Mm.drop, up, e, if_false]; exact h.ri i hi hk
  · intro i hi hk
    by_cases e : i = p
    · subst e; exact absurd hk hpk
    · simp only [Mm.drop, up, e, if_false]; exact h.tl i hi hk
  · intro i hi hm
    have hm : m.mr i = false := hm
    refine Rc.drop h hp hn hpk (h.rc i hi hm) ?_
    intro e
    rw [e, mc] at hm; exact absurd hm (by decide)
theorem InS.drop {m : Mm} (p c : Nat) (x : Int) : InS (m.drop p c) x ↔ InS m x := Iff.rfl
theorem InS.lock {m : Mm} (i : Nat) (x : Int) : InS (m.lock i) x ↔ InS m x := Iff.rfl
theorem InS.free {m : Mm} (p c : Nat) (x : Int) : InS (m.free p c) x ↔ InS m x := Iff.rfl
theorem InS.free1 {m : Mm} (p : Nat) (x : Int) : InS (m.free1 p) x ↔ InS m x := Iff.rfl
/-- From c on the key k is met, without a mark. -/
def Wk (m : Mm) (c : Nat) (k : Int) : Prop := ∃ i, i < m.n ∧ m.mr i = false ∧ m.ky i = k ∧ Rc m.nx c i
theorem Wk.ins {m : Mm} (h : MI m) {p c : Nat} {k : Int} (hp : p < m.n) (hn : m.nx p = c) {a : Nat} {x : Int} (ha : a < m.n) (w : Wk m a x) : Wk (m.ins p c k) a x := by
  obtain ⟨i, hi, hm, hk, r⟩ := w
  exact ⟨i, Nat.lt_succ_of_lt hi, by simp [Mm.ins, up, show i ≠ m.n by omega, hm], by simp [Mm.ins, up, show i ≠ m.n by omega, hk], Rc.ins h hp hn r ha⟩
theorem Wk.mark {m : Mm} {c a : Nat} {x : Int} (hx : m.ky c ≠ x) (w : Wk m a x) : Wk (m.mark c) a x := by
  obtain ⟨i, hi, hm, hk, r⟩ := w
  have e : i ≠ c := by rintro rfl; exact hx hk
  exact ⟨i, hi, by simp [Mm.mark, up, e, hm], hk, r⟩
theorem Wk.drop {m : Mm} (h : MI m) {p c : Nat} (hp : p < m.n) (hn : m.nx p = c) (hpk : m.ky p ≠ 10) (mc : m.mr c = true) {a : Nat} {x : Int} (w : Wk m a x) : Wk (m.drop p c) a x := by
  obtain ⟨i, hi, hm, hk, r⟩ := w
  refine ⟨i, hi, hm, hk, Rc.drop h hp hn hpk r ?_⟩
  rintro rfl
  rw [mc] at hm; exact absurd hm (by decide)
theorem Wk.on {m : Mm} {c : Nat} {k : Int} (w : Wk m c k) (hk : m.ky c < k) : Wk m (m.nx c) k := by
  obtain ⟨i, hi, hm, e, r⟩ := w
  cases r with
  | refl => omega
  | step _ _ r => exact ⟨i, hi, hm, e, r⟩
theorem Wk.past {m : Mm} {c : Nat} {k : Int} (w : Wk m c k) (hc : m.mr c = true) : Wk m (m.nx c) k := by
  obtain ⟨i, hi, hm, e, r⟩ := w
  cases r with
  | refl => rw [hc] at hm; exact absurd hm (by decide)
  | step _ _ r => exact ⟨i, hi, hm, e, r⟩
theorem Wk.start {m : Mm} (h : MI m) {k : Int} (hk : 0 ≤ k) (s : InS m k) : Wk m (m.nx 0) k := by
  obtain ⟨i, hi, hm, e⟩ := s
  have r := h.rc i hi hm
  cases r with
  | refl => rw [h.k0] at e; omega
  | step _ _ r => exact ⟨i, hi, hm, e, r⟩
theorem Wk.found {m : Mm} (h : MI m) {c : Nat} {k : Int} (hc : c < m.n) (w : Wk m c k) (hk : k ≤ m.ky c) : m.ky c = k ∧ m.mr c = false := by
  obtain ⟨i, hi, hm, e, r⟩ := w
  rcases h.le r hc with e2 | e2
  · subst e2; exact ⟨e, hm⟩
  · omega
/-- At the beginning. -/
theorem mm0_MI (l : List Int) (hl : ∀ x ∈ l, 0 ≤ x ∧ x ≤ 9) (hs : l.Pairwise (· < ·)) : MI (mm0 l) := by
  have kx : ∀ i (h : i < l.length), (mm0 l).ky (i + 1) = l[i] := by intro i h; simp [mm0, h]
  have kt : (mm0 l).ky (l.length + 1) = 10 := by simp [mm0]
  have nx : ∀ i, i ≠ l.length + 1 → (mm0 l).nx i = i + 1 := by intro i h; simp [mm0, h]
  have cs : ∀ i, i < l.length + 2 → i = 0 ∨ (∃ j, j < l.length ∧ i = j + 1) ∨ i = l.length + 1 := by
    intro i hi
    rcases i with _ | i
    · exact Or.inl rfl
    · by_cases e : i < l.length
      · exact Or.inr (Or.inl ⟨i, e, rfl⟩)
      · exact Or.inr (Or.inr (by omega))
  refine ⟨Nat.succ_pos _, by simp [mm0], ?_, ?_, ?_, ?_, ?_, ?_⟩
  · intro i hi
    rcases cs i hi with rfl | ⟨j, hj, rfl⟩ | rfl
    · simp [mm0]
    · rw [kx j hj]; have := hl _ (List.getElem_mem hj); omega
    · rw [kt]; omega
  · intro i hi
    have hi : i < l.length + 2 := hi
    show _ < l.length + 2
    simp only [mm0]
    split <;> omega
  · intro i hi hk
    rcases cs i hi with rfl | ⟨j, hj, rfl⟩ | rfl
    · rw [nx 0 (by omega)]
      by_cases e : 0 < l.length
      · rw [kx 0 e]; have := hl _ (List.getElem_mem e); simp [mm0]; omega
      · have e : l.length = 0 := by omega
        simp [mm0, e]
    · rw [nx _ (by omega), kx j hj]
      by_cases e : j + 1 < l.length
      · rw [kx _ e]; exact List.pairwise_iff_getElem.1 hs j (j + 1) hj e (by omega)
      · have e : j + 1 = l.length := by omega
        rw [e, kt]; have := hl _ (List.getElem_mem hj); omega
    · exact absurd kt hk
  · intro i hi hk
    rcases cs i hi with rfl | ⟨j, hj, rfl⟩ | rfl
    · simp [mm0] at hk
    · rw [kx j hj] at hk; have := hl _ (List.getElem_mem hj); omega
    · simp [mm0]
  · intro i hi hm; simp [mm0] at hm
  · intro i hi hm
    have hi : i < l.length + 2 := hi
    have go : ∀ j a, a + j = i → Rc (mm0 l).nx a i := by
      intro j
      induction j with
      | zero => intro a ha; rw [← ha]; exact .refl _
      | succ j ih =>
        intro a ha
        refine .step _ _ ?_
        rw [nx a (by omega)]
        exact ih (a + 1) (by omega)
    exact go i 0 (by omega)
theorem mm0_InS (l : List Int) (hl : ∀ x ∈ l, 0 ≤ x ∧ x ≤ 9) (k : Int) (hk : 0 ≤ k ∧ k ≤ 9) : InS (mm0 l) k ↔ k ∈ l := by
  constructor
  · rintro ⟨i, hi, hm, e⟩
    have hi : i < l.length + 2 := hi
    simp only [mm0] at e
    split at e
    · omega
    · split at e
      · rw [← e]; exact List.getElem_mem _
      · omega
  · intro h
    obtain ⟨i, hi, e⟩ := List.getElem_of_mem h
    exact ⟨i + 1, by show _ < l.length + 2; omega, rfl, by simp [mm0, hi, e]⟩
end Go.Proofs.Ytoihdnekkgpcoaa
namespace Go.Proofs.Ytoihdnekkgpcoaa
set_option linter.unusedVariables false
set_option linter.unusedSimpArgs false

/-- A deed that was told stands at place q of the order: S t is the set at time t. -/
def Ok1 (S : Nat → Int → Prop) (d : Dd) (r : Dn) (q : Nat) : Prop :=
  2 * r.bgn ≤ q ∧ (q : Int) ≤ 2 * r.fin + 1 ∧
  ((r.is = true ∧ d.kind ≠ 3 ∧ ∃ t, q = 2 * t + 1 ∧ (S t d.key ↔ d.kind = 2) ∧ ∀ x, S (t + 1) x ↔ if x = d.key then d.kind = 1 else S t x) ∨
   (¬ (r.is = true ∧ d.kind ≠ 3) ∧ ∃ t, q = 2 * t ∧ (S t d.key ↔ r.is = decide (d.kind ≠ 1))))
theorem Ok1.agree {S S' : Nat → Int → Prop} {n : Nat} (h : ∀ t, t ≤ n → ∀ x, S' t x ↔ S t x) {d : Dd} {r : Dn} {q : Nat} (o : Ok1 S d r q) (hf : r.fin < n) : Ok1 S' d r q := by
  obtain ⟨o1, o2, o3⟩ := o
  refine ⟨o1, o2, ?_⟩
  rcases o3 with ⟨a, b, t, e, c1, c2⟩ | ⟨a, t, e, c1⟩
  · refine Or.inl ⟨a, b, t, e, ?_, ?_⟩
    · rw [h t (by omega)]; exact c1
    · intro x; rw [h (t + 1) (by omega), h t (by omega)]; exact c2 x
  · refine Or.inr ⟨a, t, e, ?_⟩
    rw [h t (by omega)]; exact c1
/-- Is a hand between its mark and the end? -/
def pd (alg : Nat) (h : Hd) : Prop := (alg = 2 ∧ h.plc = 5) ∨ (alg = 3 ∧ h.plc = 3)
/-- When the deed began at which hand i is, or begins. -/
def bgnO (s : St) (i : Nat) : Nat := if (s.told i).length ≤ s.deed i then s.now else match (s.told i)[s.deed i]? with | some r => r.bgn | none => 0
/-- Has deed e of hand i its place? -/
def asg (alg : Nat) (s : St) (i e : Nat) : Prop := e < s.deed i ∨ (e = s.deed i ∧ pd alg (s.hd i))
structure LI (alg nh : Nat) (D : Nat → Nat → Dd) (S : Nat → Int → Prop) (pos : Nat → Nat → Nat) (s : St) : Prop where
  cur : ∀ x, S s.now x ↔ InS s.m x
  len : ∀ i, s.deed i ≤ (s.told i).length ∧ (s.told i).length ≤ s.deed i + 1
  dn : ∀ i e r, e < s.deed i → (s.told i)[e]? = some r → Ok1 S (D i e) r (pos i e) ∧ (r.bgn : Int) ≤ r.fin ∧ r.fin < s.now
  bg : ∀ i r, (s.told i)[s.deed i]? = some r → r.bgn < s.now ∧ r.fin = -1 ∧ r.is = false
  pn : ∀ i, pd alg (s.hd i) → (s.told i).length = s.deed i + 1 ∧ (D i (s.deed i)).kind = 2 ∧ ∃ t, pos i (s.deed i) = 2 * t + 1 ∧ bgnO s i ≤ t ∧ t < s.now ∧ S t (D i (s.deed i)).key ∧ ∀ x, S (t + 1) x ↔ x ≠ (D i (s.deed i)).key ∧ S t x
  acc : ∀ t, t < s.now → (∀ x, S (t + 1) x ↔ S t x) ∨ ∃ i e, i < nh ∧ pos i e = 2 * t + 1 ∧ asg alg s i e
  unq : ∀ t i e i' e', asg alg s i e → asg alg s i' e' → pos i e = 2 * t + 1 → pos i' e' = 2 * t + 1 → i = i' ∧ e = e'
  lt : ∀ i e, asg alg s i e → pos i e < 2 * s.now

/-- What a step of hand i may do to the set. -/
def Outc (alg : Nat) (S : Nat → Int → Prop) (s : St) (i : Nat) (d : Dd) (r : Mm × Hd × Bool) : Prop :=
  (r.2.2 = false ∧ (∀ x, InS r.1 x ↔ InS s.m x) ∧ ¬ pd alg (s.hd i) ∧ ¬ pd alg r.2.1) ∨
  (r.2.2 = true ∧ ¬ pd alg (s.hd i) ∧ (∀ x, InS r.1 x ↔ InS s.m x) ∧ ¬ (r.2.1.is = true ∧ d.kind ≠ 3) ∧ ∃ t, bgnO s i ≤ t ∧ t ≤ s.now ∧ (S t d.key ↔ r.2.1.is = decide (d.kind ≠ 1))) ∨
  (r.2.2 = true ∧ ¬ pd alg (s.hd i) ∧ r.2.1.is = true ∧ d.kind ≠ 3 ∧ (InS s.m d.key ↔ d.kind = 2) ∧ ∀ x, InS r.1 x ↔ if x = d.key then d.kind = 1 else InS s.m x) ∨
  (r.2.2 = false ∧ ¬ pd alg (s.hd i) ∧ pd alg r.2.1 ∧ d.kind = 2 ∧ InS s.m d.key ∧ ∀ x, InS r.1 x ↔ x ≠ d.key ∧ InS s.m x) ∨
  (r.2.2 = true ∧ pd alg (s.hd i) ∧ r.2.1.is = true ∧ ∀ x, InS r.1 x ↔ InS s.m x)

theorem toldB_len {s : St} {i : Nat} (h : s.deed i ≤ (s.told i).length ∧ (s.told i).length ≤ s.deed i + 1) : (toldB s i).length = s.deed i + 1 := by
  unfold toldB; split
  · rw [List.length_append]; simp; omega
  · omega
theorem toldB_lt {s : St} {i e : Nat} (h : s.deed i ≤ (s.told i).length) (he : e < s.deed i) : (toldB s i)[e]? = (s.told i)[e]? := by
  unfold toldB; split
  · rw [List.getElem?_append_left (by omega)]
  · rfl
theorem toldB_at {s : St} {i : Nat} (h : s.deed i ≤ (s.told i).length ∧ (s.told i).length ≤ s.deed i + 1) (hb : ∀ r, (s.told i)[s.deed i]? = some r → r.bgn < s.now ∧ r.fin = -1 ∧ r.is = false) : (toldB s i)[s.deed i]? = some ⟨bgnO s i, -1, false⟩ ∧ bgnO s i ≤ s.now := by
  unfold toldB bgnO
  split
  · rename_i h1
    have e : (s.told i).length = s.deed i := by omega
    rw [List.getElem?_append_right (by omega), e]
    simp
  · rename_i h1
    have hl : s.deed i < (s.told i).length := by omega
    rw [List.getElem?_eq_getElem hl]
    have := hb _ (List.getElem?_eq_getElem hl)
    simp only []
    refine ⟨?_, by omega⟩
    obtain ⟨-, h2, h3⟩ := this
    cases hr : (s.told i)[s.deed i] with
    | mk b f x => rw [hr] at h2 h3; simp only at h2 h3; subst h2; subst h3; rfl

theorem LI.step {alg nh : Nat} {D : Nat → Nat → Dd} {S : Nat → Int → Prop} {pos : Nat → Nat → Nat} {s : St} (h : LI alg nh D S pos s) (i : Nat) (hi : i < nh) (ho : Outc alg S s i (D i (s.deed i)) (algS alg s.m (s.hd i) (D i (s.deed i)))) :
    ∃ S' pos', LI alg nh D S' pos' (stp alg (D i (s.deed i)) s i) ∧ ∀ t, t ≤ s.now → ∀ x, S' t x ↔ S t x := by
  obtain ⟨d, hd⟩ : ∃ d, d = D i (s.deed i) := ⟨_, rfl⟩
  rw [← hd] at ho ⊢
  obtain ⟨r, hr⟩ : ∃ r, r = algS alg s.m (s.hd i) d := ⟨_, rfl⟩
  rw [← hr] at ho
  have hnp : ¬ pd alg hd0 := by unfold pd hd0; simp
  have hlB := toldB_len (h.len i)
  obtain ⟨hB, hbn⟩ := toldB_at (h.len i) (h.bg i)
  -- the history, one longer
  obtain ⟨S', hS'⟩ : ∃ S' : Nat → Int → Prop, S' = fun t x => if t ≤ s.now then S t x else InS r.1 x := ⟨_, rfl⟩
  have hSa : ∀ t, t ≤ s.now → ∀ x, S' t x ↔ S t x := by intro t ht x; rw [hS']; simp [ht]
  have hSn : ∀ x, S' (s.now + 1) x ↔ InS r.1 x := by intro x; rw [hS']; show (if s.now + 1 ≤ s.now then _ else _) ↔ _; rw [if_neg (by omega)]
  clear hS'
  -- one place more, or none
  have key : ∀ (q : Nat) (over : Bool) (is : Bool) (hd' : Hd) , r.2.2 = over → (over = false → hd' = r.2.1) → (over = true → hd' = hd0 ∧ r.2.1.is = is) →
      (∀ x, InS r.1 x ↔ InS s.m x) ∨ (q = 2 * s.now + 1 ∧ (over = true ∨ pd alg hd')) →
      (over = true → Ok1 S' d ⟨bgnO s i, s.now, is⟩ q) →
      (pd alg (s.hd i) → q = pos i (s.deed i)) →
      (pd alg (s.hd i) → over = true) →
      (over = true → q ≤ 2 * s.now + 1) →
      (pd alg hd' → d.kind = 2 ∧ q = 2 * s.now + 1 ∧ S s.now d.key ∧ ∀ x, InS r.1 x ↔ x ≠ d.key ∧ InS s.m x) →
      (pd alg (s.hd i) ∨ q % 2 = 0 ∨ q = 2 * s.now + 1) →
      ∃ S' pos', LI alg nh D S' pos' (stp alg d s i) ∧ ∀ t, t ≤ s.now → ∀ x, S' t x ↔ S t x := by
    intro q over is hd' h1 h2 h3 h4 h5 h6 h7 h8 h9 h10
    refine ⟨S', fun j e => if j = i ∧ e = s.deed i then q else pos j e, ?_, hSa⟩
    -- the state behind the step
    obtain ⟨s', hs'⟩ : ∃ s', s' = stp alg d s i := ⟨_, rfl⟩
    rw [← hs']
    have hm : s'.m = r.1 := by rw [hs']; unfold stp; rw [← hr]; dsimp only; rw [h1]; cases over <;> rfl
    have hhd : s'.hd = up s.hd i hd' := by
      rw [hs']; unfold stp; rw [← hr]; dsimp only; rw [h1]
      cases over with
      | false => rw [h2 rfl]; rfl
      | true => rw [(h3 rfl).1]; rfl
    have hde : s'.deed = up s.deed i (if over then s.deed i + 1 else s.deed i) := by
      rw [hs']; unfold stp; rw [← hr]; dsimp only; rw [h1]
      cases over with
      | false => simp only [Bool.false_eq_true, if_false]; funext j; unfold up; split <;> simp_all
      | true => rfl
    have hto : s'.told = up s.told i (if over then toldE (toldB s i) (s.deed i) s.now is else toldB s i) := by
      rw [hs']; unfold stp; rw [← hr]; dsimp only; rw [h1]
      cases over with
      | false => rfl
      | true => rw [← (h3 rfl).2]; rfl
    have hno : s'.now = s.now + 1 := by rw [hs']; unfold stp; rw [← hr]; dsimp only; rw [h1]; cases over <;> rfl
    clear hs'
    have tdi : s'.told i = if over then toldE (toldB s i) (s.deed i) s.now is else toldB s i := by rw [hto, up_same]
    have tdj : ∀ j, j ≠ i → s'.told j = s.told j := by intro j hj; rw [hto, up_ne _ _ hj]
    have dei : s'.deed i = if over then s.deed i + 1 else s.deed i := by rw [hde, up_same]
    have dej : ∀ j, j ≠ i → s'.deed j = s.deed j := by intro j hj; rw [hde, up_ne _ _ hj]
    have hhi : s'.hd i = hd' := by rw [hhd, up_same]
    have hhj : ∀ j, j ≠ i → s'.hd j = s.hd j := by intro j hj; rw [hhd, up_ne _ _ hj]
    have lni : (s'.told i).length = s.deed i + 1 := by rw [tdi]; cases over <;> simp [toldE, hlB]
    have npo : over = true → ¬ pd alg hd' := by intro e; rw [(h3 e).1]; exact hnp
    -- who has a place now
    have asg1 : ∀ j e, asg alg s' j e → (j = i ∧ e = s.deed i ∧ (over = true ∨ pd alg hd')) ∨ (¬ (j = i ∧ e = s.deed i) ∧ asg alg s j e) := by
      intro j e ha
      by_cases hj : j = i
      · subst hj
        unfold asg at ha ⊢
        rw [dei, hhi] at ha
        cases over with
        | false =>
          simp only [Bool.false_eq_true, if_false] at ha
          rcases ha with ha | ⟨ha, hp⟩
          · exact Or.inr ⟨by omega, Or.inl ha⟩
          · exact Or.inl ⟨rfl, ha, Or.inr hp⟩
        | true =>
          simp only [if_true] at ha
          rcases ha with ha | ⟨ha, hp⟩
          · by_cases e2 : e = s.deed j
            · exact Or.inl ⟨rfl, e2, Or.inl rfl⟩
            · exact Or.inr ⟨fun hh => e2 hh.2, Or.inl (by omega)⟩
          · exact absurd hp (npo rfl)
      · unfold asg at ha ⊢
        rw [dej j hj, hhj j hj] at ha
        exact Or.inr ⟨fun hh => hj hh.1, ha⟩
    have asg2 : ∀ j e, asg alg s j e → asg alg s' j e := by
      intro j e ha
      unfold asg at ha ⊢
      by_cases hj : j = i
      · subst hj
        rw [dei, hhi]
        rcases ha with ha | ⟨ha, hp⟩
        · left; cases over <;> simp <;> omega
        · have := h7 hp; subst this; left; simp; omega
      · rw [dej j hj, hhj j hj]; exact ha
    have qlt : ∀ (t : Nat), q = 2 * t + 1 → (¬ pd alg (s.hd i)) → t = s.now := by
      intro t e hp
      rcases h10 with h10 | h10 | h10
      · exact absurd h10 hp
      · omega
      · omega
    refine ⟨?_, ?_, ?_, ?_, ?_, ?_, ?_, ?_⟩
    · intro x; rw [hno, hm]; exact hSn x
    · intro j
      by_cases hj : j = i
      · subst hj; rw [lni, dei]; cases over <;> simp
      · rw [tdj j hj, dej j hj]; exact h.len j
    · intro j e r0 he hr0
      rw [hno]
      by_cases hj : j = i
      · subst hj
        rw [dei] at he; rw [tdi] at hr0
        by_cases e2 : e = s.deed j
        · subst e2
          cases over with
          | false => simp at he
          | true =>
            simp only [if_true] at hr0
            rw [toldE, List.getElem?_modify, hB] at hr0
            simp at hr0
            subst hr0
            simp only [and_self, if_true]
            rw [← hd]
            exact ⟨h5 rfl, by omega, by omega⟩
        · have he2 : e < s.deed j := by
            clear h1 h2 h3 h4 h5 h6 h7 h8 h9 h10 hde hto tdi dei asg1 asg2 npo hr0
            cases over
            · simpa using he
            · have : e < s.deed j + 1 := by simpa using he
              omega
          have hr1 : (s.told j)[e]? = some r0 := by
            cases over with
            | false => simp only [Bool.false_eq_true, if_false] at hr0; rw [toldB_lt (h.len j).1 he2] at hr0; exact hr0
            | true =>
              simp only [if_true] at hr0
              rw [toldE, List.getElem?_modify, toldB_lt (h.len j).1 he2] at hr0
              simpa [show s.deed j ≠ e from fun hh => e2 hh.symm] using hr0
          obtain ⟨a, b, c⟩ := h.dn j e r0 he2 hr1
          rw [if_neg (fun hh => e2 hh.2)]
          exact ⟨a.agree hSa c, b, by omega⟩
      · rw [dej j hj] at he; rw [tdj j hj] at hr0
        obtain ⟨a, b, c⟩ := h.dn j e r0 he hr0
        rw [if_neg (fun hh => hj hh.1)]
        exact ⟨a.agree hSa c, b, by omega⟩
    · intro j r0 hr0
      rw [hno]
      by_cases hj : j = i
      · subst hj
        rw [dei, tdi] at hr0
        cases over with
        | false =>
          simp only [Bool.false_eq_true, if_false] at hr0
          rw [hB] at hr0
          injection hr0 with hr0; subst hr0
          exact ⟨by simp only []; omega, rfl, rfl⟩
        | true =>
          simp only [if_true] at hr0
          rw [List.getElem?_eq_none_iff.2 (by simp [toldE, hlB])] at hr0
          exact absurd hr0 (by simp)
      · rw [dej j hj, tdj j hj] at hr0
        obtain ⟨a, b, c⟩ := h.bg j r0 hr0
        exact ⟨by omega, b, c⟩
    · intro j hp
      by_cases hj : j = i
      · subst hj
        rw [hhi] at hp
        have ho : over = false := by cases hov : over with | false => rfl | true => exact absurd hp (npo hov)
        subst ho
        obtain ⟨k1, k2, k3, k4⟩ := h9 hp
        have hbe : bgnO s' j = bgnO s j := by
          have e1 : (s'.told j)[s'.deed j]? = some ⟨bgnO s j, -1, false⟩ := by
            rw [tdi, dei]; simp only [Bool.false_eq_true, if_false]; exact hB
          rw [bgnO, if_neg (by rw [lni, dei]; simp), e1]
        rw [lni, dei]
        simp only [Bool.false_eq_true, if_false]
        rw [← hd, hbe]
        refine ⟨trivial, k1, s.now, by simp [k2], hbn, by omega, (hSa _ (Nat.le_refl _) _).2 k3, ?_⟩
        intro x
        rw [hSn x, k4 x, hSa _ (Nat.le_refl _) x, h.cur x]
      · rw [hhj j hj] at hp
        obtain ⟨k1, k2, t, k3, k4, k5, k6, k7⟩ := h.pn j hp
        have hbe : bgnO s' j = bgnO s j := by
          unfold bgnO
          rw [tdj j hj, dej j hj]
          rw [if_neg (by omega), if_neg (by omega)]
        rw [tdj j hj, dej j hj, hbe, hno]
        refine ⟨k1, k2, t, by rw [if_neg (fun hh => hj hh.1)]; exact k3, k4, by omega, (hSa _ (by omega) _).2 k6, ?_⟩
        intro x; rw [hSa _ (by omega), hSa _ (by omega)]; exact k7 x
    · intro t ht
      rw [hno] at ht
      by_cases e : t = s.now
      · subst e
        rcases h4 with h4 | ⟨h4, h4b⟩
        · left; intro x; rw [hSn x, h4 x, hSa _ (Nat.le_refl _) x, h.cur x]
        · right
          refine ⟨i, s.deed i, hi, by simp [h4], ?_⟩
          unfold asg
          rw [dei, hhi]
          rcases h4b with h4b | h4b
          · left; rw [h4b]; simp
          · have ho : over = false := by cases hov : over with | false => rfl | true => exact absurd h4b (npo hov)
            subst ho
            exact Or.inr ⟨by simp, h4b⟩
      · rcases h.acc t (by omega) with a | ⟨j, e2, hj, hp, ha⟩
        · left; intro x; rw [hSa _ (by omega), hSa _ (by omega)]; exact a x
        · right
          refine ⟨j, e2, hj, ?_, asg2 _ _ ha⟩
          by_cases hh : j = i ∧ e2 = s.deed i
          · rw [if_pos hh]
            obtain ⟨rfl, rfl⟩ := hh
            unfold asg at ha
            rcases ha with ha | ⟨_, ha⟩
            · omega
            · rw [h6 ha]; exact hp
          · rw [if_neg hh]; exact hp
    · intro t j e j' e' ha ha' hp hp'
      rcases asg1 j e ha with ⟨rfl, rfl, k⟩ | ⟨k, hb⟩
      · rcases asg1 j' e' ha' with ⟨rfl, rfl, k'⟩ | ⟨k', hb'⟩
        · exact ⟨rfl, rfl⟩
        · exfalso
          simp only [and_self, if_true] at hp
          rw [if_neg k'] at hp'
          by_cases hpe : pd alg (s.hd j)
          · rw [h6 hpe] at hp
            have := h.unq t j (s.deed j) j' e' (Or.inr ⟨rfl, hpe⟩) hb' hp hp'
            exact k' ⟨this.1.symm, this.2.symm⟩
          · have h11 := qlt t hp hpe
            have := h.lt j' e' hb'
            omega
      · rcases asg1 j' e' ha' with ⟨rfl, rfl, k'⟩ | ⟨k', hb'⟩
        · exfalso
          simp only [and_self, if_true] at hp'
          rw [if_neg k] at hp
          by_cases hpe : pd alg (s.hd j')
          · rw [h6 hpe] at hp'
            have := h.unq t j e j' (s.deed j') hb (Or.inr ⟨rfl, hpe⟩) hp hp'
            exact k this
          · have h11 := qlt t hp' hpe
            have := h.lt j e hb
            omega
        · rw [if_neg k] at hp; rw [if_neg k'] at hp'
          exact h.unq t j e j' e' hb hb' hp hp'
    · intro j e ha
      rw [hno]
      rcases asg1 j e ha with ⟨rfl, rfl, k⟩ | ⟨k, hb⟩
      · simp only [and_self, if_true]
        rcases k with k | k
        · have := h8 k; omega
        · have := (h9 k).2.1; omega
      · rw [if_neg k]; have := h.lt j e hb; omega
  -- the five ways
  rcases ho with ⟨o1, o2, o3, o4⟩ | ⟨o1, o2, o3, o4, t, o5, o6, o7⟩ | ⟨o1, o2, o3, o4, o5, o6⟩ | ⟨o1, o2, o3, o4, o5, o6⟩ | ⟨o1, o2, o3, o4⟩
  · exact key 0 false false r.2.1 o1 (fun _ => rfl) (fun e => absurd e (by simp)) (Or.inl o2) (fun e => absurd e (by simp)) (fun e => absurd e o3) (fun e => absurd e o3) (fun e => absurd e (by simp)) (fun e => absurd e o4) (Or.inr (Or.inl rfl))
  · refine key (2 * t) true r.2.1.is hd0 o1 (fun e => absurd e (by simp)) (fun _ => ⟨rfl, rfl⟩) (Or.inl o3) (fun _ => ⟨by simp only []; omega, by simp only []; omega, Or.inr ⟨o4, t, rfl, ?_⟩⟩) (fun e => absurd e o2) (fun e => absurd e o2) (fun _ => by omega) (fun e => absurd e hnp) (Or.inr (Or.inl (by omega)))
    rw [hSa t o6]; exact o7
  · refine key (2 * s.now + 1) true true hd0 o1 (fun e => absurd e (by simp)) (fun _ => ⟨rfl, o3⟩) (Or.inr ⟨rfl, Or.inl rfl⟩) (fun _ => ⟨by simp only []; omega, by simp only []; omega, Or.inl ⟨rfl, o4, s.now, rfl, ?_, ?_⟩⟩) (fun e => absurd e o2) (fun e => absurd e o2) (fun _ => by omega) (fun e => absurd e hnp) (Or.inr (Or.inr rfl))
    · rw [hSa _ (Nat.le_refl _), h.cur]; exact o5
    · intro x; rw [hSn x, o6 x, hSa _ (Nat.le_refl _), h.cur]
  · exact key (2 * s.now + 1) false false r.2.1 o1 (fun _ => rfl) (fun e => absurd e (by simp)) (Or.inr ⟨rfl, Or.inr o3⟩) (fun e => absurd e (by simp)) (fun e => absurd e o2) (fun e => absurd e o2) (fun e => absurd e (by simp)) (fun _ => ⟨o4, rfl, (h.cur _).2 o5, o6⟩) (Or.inr (Or.inr rfl))
  · obtain ⟨k1, k2, t, k3, k4, k5, k6, k7⟩ := h.pn i o2
    rw [← hd] at k2 k6 k7
    refine key (pos i (s.deed i)) true true hd0 o1 (fun e => absurd e (by simp)) (fun _ => ⟨rfl, o3⟩) (Or.inl o4) (fun _ => ⟨by simp only []; omega, by simp only []; omega, Or.inl ⟨rfl, by omega, t, k3, ?_, ?_⟩⟩) (fun _ => rfl) (fun _ => rfl) (fun _ => by omega) (fun e => absurd e hnp) (Or.inl o2)
    · rw [hSa _ (by omega)]; simp [k2, k6]
    · intro x; rw [hSa _ (by omega), hSa _ (by omega), k7 x]
      by_cases e : x = d.key <;> simp [e, k2]
end Go.Proofs.Ytoihdnekkgpcoaa
namespace Go.Proofs.Ytoihdnekkgpcoaa
set_option linter.unusedVariables false
set_option linter.unusedSimpArgs false

/-- The set behind a deed. -/
def nextP (d : Dd) (A : Int → Prop) : Int → Prop := fun x => if x = d.key ∧ d.kind ≠ 3 then d.kind = 1 else A x
/-- One behind the other: each answers as the set does. -/
def R1 (D : Nat → Nat → Dd) : List (Nat × Nat × Dn) → (Int → Prop) → (Int → Prop) → Prop
  | [], A, B => ∀ k, A k ↔ B k
  | x :: l, A, B => (A (D x.1 x.2.1).key ↔ x.2.2.is = decide ((D x.1 x.2.1).kind ≠ 1)) ∧ R1 D l (nextP (D x.1 x.2.1) A) B
theorem R1.congr {D : Nat → Nat → Dd} : ∀ {l : List (Nat × Nat × Dn)} {A A' B : Int → Prop}, (∀ x, A x ↔ A' x) → R1 D l A B → R1 D l A' B := by
  intro l
  induction l with
  | nil => intro A A' B h r k; rw [← h k]; exact r k
  | cons x l ih =>
    intro A A' B h r
    refine ⟨by rw [← h]; exact r.1, ih (fun y => ?_) r.2⟩
    unfold nextP; split
    · exact Iff.rfl
    · exact h y
theorem R1.app {D : Nat → Nat → Dd} {l2 : List (Nat × Nat × Dn)} {B C : Int → Prop} (r2 : R1 D l2 B C) : ∀ {l : List (Nat × Nat × Dn)} {A : Int → Prop}, R1 D l A B → R1 D (l ++ l2) A C := by
  intro l
  induction l with
  | nil => intro A r; exact r2.congr (fun x => (r x).symm)
  | cons x l ih => intro A r; exact ⟨r.1, ih r.2⟩
/-- All that is told, by hands. -/
def doneL (s : St) (nh : Nat) : List (Nat × Nat × Dn) := (List.range nh).flatMap fun i => (s.told i).mapIdx (fun e r => (i, e, r))
theorem mem_doneL {s : St} {nh : Nat} {x : Nat × Nat × Dn} : x ∈ doneL s nh ↔ x.1 < nh ∧ (s.told x.1)[x.2.1]? = some x.2.2 := by
  unfold doneL
  rw [List.mem_flatMap]
  constructor
  · rintro ⟨i, hi, hx⟩
    rw [List.mem_mapIdx] at hx
    obtain ⟨e, he, rfl⟩ := hx
    exact ⟨List.mem_range.1 hi, List.getElem?_eq_getElem he⟩
  · rintro ⟨h1, h2⟩
    refine ⟨x.1, List.mem_range.2 h1, ?_⟩
    rw [List.mem_mapIdx]
    obtain ⟨he, h3⟩ := List.getElem?_eq_some_iff.1 h2
    exact ⟨x.2.1, he, by rw [h3]⟩
theorem doneL_nodup (s : St) (nh : Nat) : (doneL s nh).Nodup := by
  unfold doneL List.Nodup
  rw [List.pairwise_flatMap]
  constructor
  · intro i _
    rw [List.pairwise_iff_getElem]
    intro a b ha hb hab e
    simp only [List.getElem_mapIdx] at e
    have := congrArg (fun x => x.2.1) e
    simp only at this
    omega
  · rw [List.pairwise_iff_getElem]
    intro a b ha hb hab x hx y hy e
    simp only [List.getElem_range] at hx hy
    rw [List.mem_mapIdx] at hx hy
    obtain ⟨_, _, rfl⟩ := hx
    obtain ⟨_, _, rfl⟩ := hy
    have := congrArg (fun x => x.1) e
    simp only at this
    omega
theorem filter_lt_succ {α : Type} (f : α → Nat) (n : Nat) : ∀ l : List α, (l.filter (fun x => decide (f x < n)) ++ l.filter (fun x => f x == n)).Perm (l.filter (fun x => decide (f x < n + 1))) := by
  intro l
  induction l with
  | nil => exact .refl _
  | cons x l ih =>
    rcases Nat.lt_trichotomy (f x) n with h | h | h
    · have h1 : ¬ f x = n := by omega
      have h2 : f x < n + 1 := by omega
      simp only [List.filter_cons, h, h1, h2, decide_true, if_true, beq_iff_eq, if_false, List.cons_append]
      exact ih.cons x
    · have h1 : ¬ f x < n := by omega
      have h2 : f x < n + 1 := by omega
      simp only [List.filter_cons, h, h1, h2, decide_true, if_true, beq_self_eq_true, decide_false, Bool.false_eq_true, if_false]
      simp only [show ¬ n < n from by omega, show n < n + 1 by omega, decide_false, decide_true, Bool.false_eq_true, if_false, if_true]
      exact List.perm_middle.trans (ih.cons x)
    · have h1 : ¬ f x < n := by omega
      have h2 : ¬ f x < n + 1 := by omega
      have h3 : ¬ f x = n := by omega
      simp only [List.filter_cons, h1, h2, h3, decide_false, Bool.false_eq_true, beq_iff_eq, if_false]
      exact ih
/-- By their places. -/
def byPos {α : Type} (f : α → Nat) (l : List α) (n : Nat) : List α := (List.range n).flatMap (fun q => l.filter (fun x => f x == q))
theorem byPos_succ {α : Type} (f : α → Nat) (l : List α) (n : Nat) : byPos f l (n + 1) = byPos f l n ++ l.filter (fun x => f x == n) := by
  simp [byPos, List.range_succ]
theorem byPos_perm {α : Type} (f : α → Nat) (l : List α) : ∀ n, (byPos f l n).Perm (l.filter (fun x => decide (f x < n))) := by
  intro n
  induction n with
  | zero => simp [byPos]
  | succ n ih =>
    rw [byPos_succ]
    exact (ih.append_right _).trans (filter_lt_succ f n l)
theorem byPos_mem {α : Type} {f : α → Nat} {l : List α} {n : Nat} {x : α} : x ∈ byPos f l n ↔ x ∈ l ∧ f x < n := by
  rw [(byPos_perm f l n).mem_iff, List.mem_filter]
  simp
theorem byPos_sorted {α : Type} (f : α → Nat) (l : List α) : ∀ n, (byPos f l n).Pairwise (fun x y => f x ≤ f y) := by
  intro n
  induction n with
  | zero => simp [byPos]
  | succ n ih =>
    rw [byPos_succ, List.pairwise_append]
    refine ⟨ih, ?_, ?_⟩
    · rw [List.pairwise_iff_getElem]
      intro a b ha hb hab
      have h1 := (List.mem_filter.1 (List.getElem_mem ha)).2
      have h2 := (List.mem_filter.1 (List.getElem_mem hb)).2
      rw [beq_iff_eq] at h1 h2
      omega
    · intro x hx y hy
      have h1 := (byPos_mem.1 hx).2
      have h2 := (List.mem_filter.1 hy).2
      rw [beq_iff_eq] at h2
      omega
theorem nodup_one {α : Type} : ∀ {l : List α}, l.Nodup → (∀ x ∈ l, ∀ y ∈ l, x = y) → l = [] ∨ ∃ x, l = [x] := by
  intro l h1 h2
  rcases l with _ | ⟨x, _ | ⟨y, l⟩⟩
  · exact Or.inl rfl
  · exact Or.inr ⟨x, rfl⟩
  · have := h2 x (by simp) y (by simp)
    subst this
    simp at h1

theorem LI.order {alg nh : Nat} {D : Nat → Nat → Dd} {S : Nat → Int → Prop} {pos : Nat → Nat → Nat} {s : St} (h : LI alg nh D S pos s)
    (hd : ∀ i, i < nh → (s.told i).length = s.deed i) (hk : ∀ i e, i < nh → e < s.deed i → (D i e).kind = 1 ∨ (D i e).kind = 2 ∨ (D i e).kind = 3) :
    ∃ L, List.Perm L (doneL s nh) ∧ R1 D L (S 0) (InS s.m) ∧ L.Pairwise (fun x y => (x.2.2.bgn : Int) ≤ y.2.2.fin) ∧ ∀ x ∈ L, (x.2.2.bgn : Int) ≤ x.2.2.fin := by
  obtain ⟨f, hf⟩ : ∃ f : Nat × Nat × Dn → Nat, f = fun x => pos x.1 x.2.1 := ⟨_, rfl⟩
  have fx : ∀ x, f x = pos x.1 x.2.1 := by intro x; rw [hf]
  have inD : ∀ x, x ∈ doneL s nh → x.1 < nh ∧ x.2.1 < s.deed x.1 ∧ Ok1 S (D x.1 x.2.1) x.2.2 (f x) ∧ (x.2.2.bgn : Int) ≤ x.2.2.fin ∧ f x < 2 * s.now := by
    intro x hx
    obtain ⟨h1, h2⟩ := mem_doneL.1 hx
    have h3 : x.2.1 < s.deed x.1 := by
      obtain ⟨he, _⟩ := List.getElem?_eq_some_iff.1 h2
      rw [hd _ h1] at he; exact he
    obtain ⟨a, b, _⟩ := h.dn x.1 x.2.1 x.2.2 h3 h2
    refine ⟨h1, h3, by rw [fx]; exact a, b, by rw [fx]; exact h.lt _ _ (Or.inl h3)⟩
  refine ⟨byPos f (doneL s nh) (2 * s.now), ?_, ?_, ?_, ?_⟩
  · refine (byPos_perm f _ _).trans ?_
    rw [List.filter_eq_self.2]
    intro x hx
    exact decide_eq_true (inD x hx).2.2.2.2
  · -- the set goes along
    have go : ∀ q, q ≤ 2 * s.now → R1 D (byPos f (doneL s nh) q) (S 0) (S (q / 2)) := by
      intro q
      induction q with
      | zero => intro _ k; exact Iff.rfl
      | succ q ih =>
        intro hq
        rw [byPos_succ]
        refine R1.app ?_ (ih (by omega))
        rcases Nat.mod_two_eq_zero_or_one q with e | e
        · obtain ⟨t, rfl⟩ : ∃ t, q = 2 * t := ⟨q / 2, by omega⟩
          rw [show 2 * t / 2 = t by omega, show (2 * t + 1) / 2 = t by omega]
          have go2 : ∀ l : List (Nat × Nat × Dn), (∀ x ∈ l, x ∈ doneL s nh ∧ f x = 2 * t) → R1 D l (S t) (S t) := by
            intro l
            induction l with
            | nil => intro _ k; exact Iff.rfl
            | cons x l ih2 =>
              intro hl
              obtain ⟨hx, e1⟩ := hl x (by simp)
              obtain ⟨a1, a2, ⟨_, _, a3⟩, _, _⟩ := inD x hx
              rcases a3 with ⟨_, _, t', e2, _⟩ | ⟨b1, t', e2, b2⟩
              · omega
              · have et : t' = t := by omega
                subst et
                refine ⟨b2, (ih2 (fun y hy => hl y (List.mem_cons_of_mem _ hy))).congr (fun y => ?_)⟩
                unfold nextP
                split
                · rename_i hc
                  obtain ⟨rfl, hc⟩ := hc
                  have hi : x.2.2.is = false := by cases hh : x.2.2.is with | false => rfl | true => exact absurd ⟨hh, hc⟩ b1
                  rw [b2, hi]
                  rcases hk _ _ a1 a2 with h1 | h1 | h1
                  · simp [h1]
                  · simp [h1]
                  · exact absurd h1 hc
                · exact Iff.rfl
          exact go2 _ (fun x hx => ⟨(List.mem_filter.1 hx).1, by simpa using (List.mem_filter.1 hx).2⟩)
        · obtain ⟨t, rfl⟩ : ∃ t, q = 2 * t + 1 := ⟨q / 2, by omega⟩
          rw [show (2 * t + 1) / 2 = t by omega, show (2 * t + 1 + 1) / 2 = t + 1 by omega]
          have hF : ∀ x ∈ (doneL s nh).filter (fun x => f x == 2 * t + 1), x ∈ doneL s nh ∧ f x = 2 * t + 1 := fun x hx => ⟨(List.mem_filter.1 hx).1, by simpa using (List.mem_filter.1 hx).2⟩
          rcases nodup_one ((doneL_nodup s nh).filter _) (fun x hx y hy => by
            obtain ⟨x1, x2⟩ := hF x hx
            obtain ⟨y1, y2⟩ := hF y hy
            rw [fx] at x2 y2
            obtain ⟨e1, e2⟩ := h.unq t x.1 x.2.1 y.1 y.2.1 (Or.inl (inD x x1).2.1) (Or.inl (inD y y1).2.1) x2 y2
            have g1 := (mem_doneL.1 x1).2
            have g2 := (mem_doneL.1 y1).2
            rw [e1, e2, g2] at g1
            injection g1 with g1
            exact Prod.ext e1 (Prod.ext e2 g1.symm)) with e0 | ⟨x, e0⟩
          · rw [e0]
            rcases h.acc t (by omega) with a | ⟨i, e', hi, hp, ha⟩
            · intro k; exact (a k).symm
            · exfalso
              have he' : e' < s.deed i := by
                rcases ha with ha | ⟨_, ha⟩
                · exact ha
                · have := (h.pn i ha).1; rw [hd i hi] at this; omega
              have hl : e' < (s.told i).length := by rw [hd i hi]; exact he'
              have : (i, e', (s.told i)[e']) ∈ (doneL s nh).filter (fun x => f x == 2 * t + 1) := by
                rw [List.mem_filter]
                refine ⟨mem_doneL.2 ⟨hi, List.getElem?_eq_getElem hl⟩, ?_⟩
                rw [beq_iff_eq, fx]; exact hp
              rw [e0] at this
              exact absurd this (by simp)
          · rw [e0]
            obtain ⟨x1, x2⟩ := hF x (by rw [e0]; simp)
            obtain ⟨a1, a2, ⟨_, _, a3⟩, _, _⟩ := inD x x1
            rcases a3 with ⟨b1, b2, t', e2, b3, b4⟩ | ⟨_, t', e2, _⟩
            · have et : t' = t := by omega
              subst et
              refine ⟨?_, ?_⟩
              · rw [b3, b1]
                rcases hk _ _ a1 a2 with h1 | h1 | h1
                · simp [h1]
                · simp [h1]
                · exact absurd h1 b2
              · intro k
                rw [b4 k]
                unfold nextP
                by_cases ek : k = (D x.1 x.2.1).key
                · rw [if_pos ⟨ek, b2⟩, if_pos ek]
                · rw [if_neg (fun hh => ek hh.1), if_neg ek]
            · omega
    have h1 := go (2 * s.now) (Nat.le_refl _)
    rw [show 2 * s.now / 2 = s.now by omega] at h1
    have h2 : R1 D [] (S s.now) (InS s.m) := h.cur
    have := R1.app h2 h1
    rwa [List.append_nil] at this
  · refine (byPos_sorted f (doneL s nh) (2 * s.now)).imp_of_mem ?_
    intro x y hx hy hxy
    obtain ⟨_, _, ⟨a1, _, _⟩, _, _⟩ := inD x (byPos_mem.1 hx).1
    obtain ⟨_, _, ⟨_, b2, _⟩, _, _⟩ := inD y (byPos_mem.1 hy).1
    omega
  · intro x hx
    exact (inD x (byPos_mem.1 hx).1).2.2.2.1
end Go.Proofs.Ytoihdnekkgpcoaa
namespace Go.Proofs.Ytoihdnekkgpcoaa
set_option linter.unusedVariables false
set_option linter.unusedSimpArgs false

/-- Was the key of hand j's deed not there, at some time since the deed began? -/
def absn (D : Nat → Nat → Dd) (S : Nat → Int → Prop) (s : St) (j : Nat) : Prop := ∃ t, bgnO s j ≤ t ∧ t ≤ s.now ∧ ¬ S t (D j (s.deed j)).key
/-- What holds of each hand. -/
def HInv (D : Nat → Nat → Dd) (Q : Mm → Hd → Dd → Prop → Prop) (S : Nat → Int → Prop) (s : St) : Prop :=
  ∀ j, Q s.m (s.hd j) (D j (s.deed j)) (absn D S s j) ∧ ((s.hd j).plc ≠ 0 → (s.told j).length = s.deed j + 1)
theorem stp_view {alg nh : Nat} {D : Nat → Nat → Dd} {S : Nat → Int → Prop} {pos : Nat → Nat → Nat} {s : St} (h : LI alg nh D S pos s) (i : Nat) (d : Dd) :
    (stp alg d s i).m = (algS alg s.m (s.hd i) d).1 ∧ (stp alg d s i).now = s.now + 1 ∧ bgnO s i ≤ s.now ∧
    (∀ j, j ≠ i → (stp alg d s i).hd j = s.hd j ∧ (stp alg d s i).deed j = s.deed j ∧ (stp alg d s i).told j = s.told j) ∧
    ((algS alg s.m (s.hd i) d).2.2 = true → (stp alg d s i).hd i = hd0 ∧ (stp alg d s i).deed i = s.deed i + 1) ∧
    ((algS alg s.m (s.hd i) d).2.2 = false → (stp alg d s i).hd i = (algS alg s.m (s.hd i) d).2.1 ∧ (stp alg d s i).deed i = s.deed i ∧ bgnO (stp alg d s i) i = bgnO s i ∧ ((stp alg d s i).told i).length = s.deed i + 1) := by
  have hlB := toldB_len (h.len i)
  obtain ⟨hB, hbn⟩ := toldB_at (h.len i) (h.bg i)
  obtain ⟨r, hr⟩ : ∃ r, r = algS alg s.m (s.hd i) d := ⟨_, rfl⟩
  have ho : stp alg d s i = if r.2.2 then
    { m := r.1, hd := up s.hd i hd0, deed := up s.deed i (s.deed i + 1), told := up s.told i (toldE (toldB s i) (s.deed i) s.now r.2.1.is), now := s.now + 1 }
    else { m := r.1, hd := up s.hd i r.2.1, deed := s.deed, told := up s.told i (toldB s i), now := s.now + 1 } := by rw [hr]; rfl
  rw [← hr, ho]
  cases hov : r.2.2 with
  | true =>
    refine ⟨rfl, rfl, hbn, fun j hj => ⟨up_ne _ _ hj, up_ne _ _ hj, up_ne _ _ hj⟩, fun _ => ⟨up_same _ _ _, up_same _ _ _⟩, fun e => absurd e (by simp)⟩
  | false =>
    refine ⟨rfl, rfl, hbn, fun j hj => ⟨up_ne _ _ hj, rfl, up_ne _ _ hj⟩, fun e => absurd e (by simp), fun _ => ⟨up_same _ _ _, rfl, ?_, ?_⟩⟩
    · simp only [Bool.false_eq_true, if_false]
      rw [bgnO]
      simp only [up_same]
      rw [if_neg (by omega), hB]
    · simp only [Bool.false_eq_true, if_false, up_same]; exact hlB
theorem HInv.step {alg nh : Nat} {D : Nat → Nat → Dd} {Q : Mm → Hd → Dd → Prop → Prop} {S S' : Nat → Int → Prop} {pos : Nat → Nat → Nat} {s : St} (h : LI alg nh D S pos s) (hq : HInv D Q S s) (i : Nat) (r : Mm × Hd × Bool) (hr : r = algS alg s.m (s.hd i) (D i (s.deed i)))
    (hS : ∀ t, t ≤ s.now → ∀ x, S' t x ↔ S t x) (hn : ∀ x, S' (s.now + 1) x ↔ InS r.1 x)
    (h0 : ∀ m d A, Q m hd0 d A) (h00 : ∀ m m' h d A A', h.plc = 0 → Q m h d A → Q m' h d A')
    (ho : ∀ j, j ≠ i → ∀ A A' : Prop, (s.hd j).plc ≠ 0 → (A → A') → (¬ InS r.1 (D j (s.deed j)).key → A') → Q s.m (s.hd j) (D j (s.deed j)) A → Q r.1 (s.hd j) (D j (s.deed j)) A')
    (hs : r.2.2 = false → ∀ A' : Prop, (absn D S s i → A') → (¬ InS s.m (D i (s.deed i)).key → A') → Q r.1 r.2.1 (D i (s.deed i)) A') :
    HInv D Q S' (stp alg (D i (s.deed i)) s i) := by
  obtain ⟨v1, v2, v3, v4, v5, v6⟩ := stp_view h i (D i (s.deed i))
  rw [← hr] at v1 v5 v6
  obtain ⟨s', hs'⟩ : ∃ s', s' = stp alg (D i (s.deed i)) s i := ⟨_, rfl⟩
  rw [← hs'] at v1 v2 v4 v5 v6 ⊢
  intro j
  by_cases hj : j = i
  · subst hj
    cases hov : r.2.2 with
    | true =>
      obtain ⟨w1, w2⟩ := v5 hov
      rw [w1]
      exact ⟨h0 _ _ _, fun e => absurd rfl e⟩
    | false =>
      obtain ⟨w1, w2, w3, w4⟩ := v6 hov
      rw [w1, w2, v1]
      refine ⟨hs hov _ ?_ ?_, fun _ => w4⟩
      · rintro ⟨t, t1, t2, t3⟩
        exact ⟨t, by rw [w3]; exact t1, by omega, by rw [w2, hS t t2]; exact t3⟩
      · intro hx
        exact ⟨s.now, by rw [w3]; exact v3, by omega, by rw [w2, hS _ (Nat.le_refl _), h.cur]; exact hx⟩
  · obtain ⟨w1, w2, w3⟩ := v4 j hj
    rw [w1, w2, w3, v1]
    refine ⟨?_, (hq j).2⟩
    by_cases hp : (s.hd j).plc = 0
    · exact h00 _ _ _ _ _ _ hp (hq j).1
    · have hl := (hq j).2 hp
      have hb : bgnO s' j = bgnO s j := by
        unfold bgnO; rw [w2, w3, if_neg (by omega), if_neg (by omega)]
      have hb2 : bgnO s j < s.now := by
        unfold bgnO
        rw [if_neg (by omega), List.getElem?_eq_getElem (by omega)]
        exact (h.bg j _ (List.getElem?_eq_getElem (by omega))).1
      refine ho j hj _ _ hp ?_ ?_ (hq j).1
      · rintro ⟨t, t1, t2, t3⟩
        exact ⟨t, by rw [hb]; exact t1, by omega, by rw [w2, hS t t2]; exact t3⟩
      · intro hx
        exact ⟨s.now + 1, by rw [hb]; omega, by omega, by rw [w2, hn]; exact hx⟩
/-- Bead x is locked by a hand: by its first bead from place a on, by its second one from place b on. -/
def ow (a b : Nat) (h : Hd) (x : Nat) : Prop := (a ≤ h.plc ∧ x = h.p) ∨ (b ≤ h.plc ∧ x = h.c)
/-- Each lock is that of one hand. -/
structure LkI (a b nh : Nat) (m : Mm) (hd : Nat → Hd) : Prop where
  dis : ∀ i j x, ow a b (hd i) x → ow a b (hd j) x → i = j
  lks : ∀ i x, ow a b (hd i) x → m.lk x = true
  all : ∀ x, m.lk x = true → ∃ i, i < nh ∧ ow a b (hd i) x
theorem LkI.step {a b nh : Nat} {m m' : Mm} {hd : Nat → Hd} (h : LkI a b nh m hd) (i : Nat) (hi : i < nh) (h' : Hd) (h1 : ∀ x, m'.lk x = true ↔ (m.lk x = true ∧ ¬ ow a b (hd i) x) ∨ ow a b h' x) (h2 : ∀ x, ow a b h' x → ow a b (hd i) x ∨ m.lk x = false) : LkI a b nh m' (up hd i h') := by
  have e1 : up hd i h' i = h' := up_same _ _ _
  have e2 : ∀ j, j ≠ i → up hd i h' j = hd j := fun j hj => up_ne _ _ hj
  refine ⟨?_, ?_, ?_⟩
  · intro j k x hj hk
    by_cases ej : j = i
    · by_cases ek : k = i
      · omega
      · subst ej
        rw [e1] at hj; rw [e2 k ek] at hk
        rcases h2 x hj with h3 | h3
        · exact h.dis _ _ x h3 hk
        · rw [h.lks k x hk] at h3; exact absurd h3 (by simp)
    · by_cases ek : k = i
      · subst ek
        rw [e1] at hk; rw [e2 j ej] at hj
        rcases h2 x hk with h3 | h3
        · exact h.dis _ _ x hj h3
        · rw [h.lks j x hj] at h3; exact absurd h3 (by simp)
      · rw [e2 j ej] at hj; rw [e2 k ek] at hk
        exact h.dis _ _ x hj hk
  · intro j x hj
    rw [h1]
    by_cases ej : j = i
    · subst ej; rw [e1] at hj; exact Or.inr hj
    · rw [e2 j ej] at hj
      exact Or.inl ⟨h.lks j x hj, fun hi2 => ej (h.dis _ _ x hj hi2)⟩
  · intro x hx
    rcases (h1 x).1 hx with ⟨h3, h4⟩ | h3
    · obtain ⟨j, hj, ho⟩ := h.all x h3
      have ej : j ≠ i := by rintro rfl; exact h4 ho
      exact ⟨j, hj, by rw [e2 j ej]; exact ho⟩
    · exact ⟨i, hi, by rw [e1]; exact h3⟩
/-- No lock is taken or given. -/
theorem LkI.same {a b nh : Nat} {m m' : Mm} {hd : Nat → Hd} (h : LkI a b nh m hd) (i : Nat) (hi : i < nh) (h' : Hd) (h1 : ∀ x, m'.lk x = true ↔ m.lk x = true) (h2 : ∀ x, ow a b h' x ↔ ow a b (hd i) x) : LkI a b nh m' (up hd i h') := by
  refine h.step i hi h' (fun x => ?_) (fun x hx => Or.inl ((h2 x).1 hx))
  rw [h1, h2]
  constructor
  · intro hx
    by_cases ho : ow a b (hd i) x
    · exact Or.inr ho
    · exact Or.inl ⟨hx, ho⟩
  · rintro (hx | hx)
    · exact hx.1
    · exact h.lks i x hx
/-- A lock is taken. -/
theorem LkI.take {a b nh : Nat} {m m' : Mm} {hd : Nat → Hd} (h : LkI a b nh m hd) (i : Nat) (hi : i < nh) (h' : Hd) (y : Nat) (hy : m.lk y = false) (h1 : m'.lk = up m.lk y true) (h2 : ∀ x, ow a b h' x ↔ ow a b (hd i) x ∨ x = y) : LkI a b nh m' (up hd i h') := by
  refine h.step i hi h' (fun x => ?_) (fun x hx => ?_)
  · rw [h1, h2]
    by_cases e : x = y
    · subst e; simp [up]
    · simp only [up, e, if_false, or_false]
      constructor
      · intro hx
        by_cases ho : ow a b (hd i) x
        · exact Or.inr ho
        · exact Or.inl ⟨hx, ho⟩
      · rintro (hx | hx)
        · exact hx.1
        · exact h.lks i x hx
  · rcases (h2 x).1 hx with h3 | h3
    · exact Or.inl h3
    · exact Or.inr (by rw [h3]; exact hy)
/-- All locks are given back. -/
theorem LkI.give {a b nh : Nat} {m m' : Mm} {hd : Nat → Hd} (h : LkI a b nh m hd) (i : Nat) (hi : i < nh) (h' : Hd) (h0 : ∀ x, ¬ ow a b h' x) (ho : ∀ x, ow a b (hd i) x ↔ x = (hd i).p ∨ x = (hd i).c) (h1 : ∀ x, m'.lk x = true ↔ m.lk x = true ∧ x ≠ (hd i).p ∧ x ≠ (hd i).c) : LkI a b nh m' (up hd i h') := by
  refine h.step i hi h' (fun x => ?_) (fun x hx => absurd hx (h0 x))
  rw [h1, ho]
  constructor
  · rintro ⟨k1, k2, k3⟩; exact Or.inl ⟨k1, fun k => k.elim k2 k3⟩
  · rintro (⟨k1, k2⟩ | k)
    · exact ⟨k1, fun k => k2 (Or.inl k), fun k => k2 (Or.inr k)⟩
    · exact absurd k (h0 x)
theorem lk_free {m : Mm} {p c x : Nat} : (m.free p c).lk x = true ↔ m.lk x = true ∧ x ≠ p ∧ x ≠ c := by
  simp only [Mm.free, Mm.free1, up]
  by_cases e1 : x = c
  · simp [e1]
  · by_cases e2 : x = p
    · simp [e1, e2]
    · simp [e1, e2]
end Go.Proofs.Ytoihdnekkgpcoaa
