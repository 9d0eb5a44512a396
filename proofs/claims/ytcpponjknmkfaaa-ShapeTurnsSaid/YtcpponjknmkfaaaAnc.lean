/-
  Plain laws: those that stand above a place; the way up by who stands next above. No program. Conditions: none.
-/
import Derived.Test.YtcpponjknmkfaaaParLaw
namespace Go.Proofs.Ytcpponjknmkfaaa
open Go.ChangeShapes Go.WideShapes Go.ChangeAt Go.RowKit
set_option linter.unusedVariables false
set_option linter.unusedSimpArgs false

/-- Those above, the nearest first. -/
def PT.anc : PT → Nat → List Nat
  | .nil, _ => []
  | .node p l r, k => if k < p then l.anc k ++ [p] else if k = p then [] else r.anc k ++ [p]
theorem PT.anc_len : ∀ (t : PT) (k : Nat), (t.anc k).length ≤ t.size
  | .nil, _ => Nat.le_refl _
  | .node p l r, k => by
    have h1 := PT.anc_len l k
    have h2 := PT.anc_len r k
    simp only [anc, size]
    split
    · simp; omega
    · split
      · simp
      · simp; omega
theorem PT.anc_in : ∀ (t : PT) (off : Nat), t.At off → ∀ k, ∀ a ∈ t.anc k, off ≤ a ∧ a < off + t.size
  | .nil, _, _, k, a, h => by simp [anc] at h
  | .node p l r, off, ⟨h1, h2, h3⟩, k, a, h => by
    simp only [anc] at h
    simp only [size]
    split at h
    · rcases List.mem_append.1 h with h | h
      · have := PT.anc_in l off h2 k a h; omega
      · simp at h; omega
    · split at h
      · simp at h
      · rcases List.mem_append.1 h with h | h
        · have := PT.anc_in r (p + 1) h3 k a h; omega
        · simp at h; omega
theorem PT.anc_not : ∀ (t : PT) (off : Nat), t.At off → ∀ k, k ∉ t.anc k
  | .nil, _, _, k => by simp [anc]
  | .node p l r, off, ⟨h1, h2, h3⟩, k => by
    simp only [anc]
    split
    · rw [List.mem_append, List.mem_singleton]
      rintro (h | h)
      · exact PT.anc_not l off h2 k h
      · omega
    · split
      · simp
      · rw [List.mem_append, List.mem_singleton]
        rintro (h | h)
        · exact PT.anc_not r (p + 1) h3 k h
        · omega
/-- The way up from a place, or from nowhere. -/
inductive Chain (U : List Int) : Int → List Nat → Prop where
  | nil : Chain U (-1) []
  | cons (a : Nat) (s : List Nat) (h : a < U.length) : Chain U U[a] s → Chain U (a : Int) (a :: s)
theorem Chain.ge {U : List Int} {x : Int} {s : List Nat} (h : Chain U x s) : -1 ≤ x := by cases h <;> omega
theorem Chain.neg {U : List Int} {s : List Nat} (h : Chain U (-1) s) : s = [] := by
  cases h with
  | nil => rfl
theorem Chain.at_ {U : List Int} {a : Nat} {s : List Nat} (h : Chain U (a : Int) s) : ∃ (s' : List Nat) (h : a < U.length), s = a :: s' ∧ Chain U U[a] s' := by
  generalize hx : (a : Int) = x at h
  cases h with
  | nil => omega
  | cons b s' hb hc =>
    obtain rfl : a = b := by omega
    exact ⟨s', hb, rfl, hc⟩
/-- So many steps up, counted. -/
def upN (U : List Int) : Nat → Int → Nat
  | 0, _ => 0
  | f + 1, x => if x < 0 then 0 else 1 + upN U f (U.getD x.toNat (-1))
theorem Chain.upN {U : List Int} : ∀ {x : Int} {s : List Nat}, Chain U x s → ∀ f, s.length ≤ f → upN U f x = s.length := by
  intro x s h
  induction h with
  | nil =>
    intro f _
    cases f with
    | zero => rfl
    | succ f => rw [Go.Proofs.Ytcpponjknmkfaaa.upN, if_pos (by omega)]; rfl
  | cons a s ha hc ih =>
    intro f hf
    cases f with
    | zero => simp at hf
    | succ f =>
      simp only [List.length_cons] at hf ⊢
      rw [Go.Proofs.Ytcpponjknmkfaaa.upN, if_neg (by omega), Int.toNat_natCast]
      have : U.getD a (-1) = U[a] := by simp [List.getD_eq_getElem?_getD, List.getElem?_eq_getElem ha]
      rw [this, ih f (by omega)]
      omega
theorem PT.chain (U : List Int) : ∀ (t : PT) (off : Nat) (u0 : Int) (s : List Nat), t.At off → Chain U u0 s → off + t.size ≤ U.length → (∀ i, i < t.size → U[off + i]? = (t.pars u0)[i]?) →
    ∀ k (h : k < U.length), off ≤ k → k < off + t.size → Chain U U[k] (t.anc k ++ s)
  | .nil, off, u0, s, _, _, _, _, k, h, h1, h2 => by simp [PT.size] at h2; omega
  | .node p l r, off, u0, s, ⟨hp, hl, hr⟩, hs, hsz, hu, k, h, h1, h2 => by
    simp only [PT.size] at hsz hu h2
    have hpU : p < U.length := by omega
    have hup : U[p] = u0 := by
      have h3 := hu l.size (by omega)
      rw [PT.pars_node, if_neg (by omega), if_pos rfl, ← hp, List.getElem?_eq_getElem hpU] at h3
      exact Option.some.inj h3
    have hc : Chain U (p : Int) (p :: s) := .cons p s hpU (by rw [hup]; exact hs)
    unfold PT.anc
    by_cases h3 : k < p
    · rw [if_pos h3, List.append_assoc]
      exact PT.chain U l off p (p :: s) hl hc (by omega) (fun i hi => by rw [hu i (by omega), PT.pars_node, if_pos hi]) k h h1 (by omega)
    · rw [if_neg h3]
      by_cases h4 : k = p
      · subst h4
        rw [if_pos rfl, hup]
        exact hs
      · rw [if_neg h4, List.append_assoc]
        refine PT.chain U r (p + 1) p (p :: s) hr hc (by omega) (fun i hi => ?_) k h (by omega) (by omega)
        have h5 := hu (l.size + 1 + i) (by omega)
        rw [PT.pars_node, if_neg (by omega), if_neg (by omega), show l.size + 1 + i - (l.size + 1) = i from by omega, show off + (l.size + 1 + i) = p + 1 + i from by omega] at h5
        exact h5
theorem PT.chain0 (t : PT) (h : t.At 0) (k : Nat) (hk : k < t.size) : Chain (t.pars (-1)) ((t.pars (-1))[k]'(by rw [PT.pars_len]; exact hk)) (t.anc k) := by
  have := PT.chain (t.pars (-1)) t 0 (-1) [] h .nil (by rw [PT.pars_len]; omega) (fun i hi => by rw [Nat.zero_add]) k (by rw [PT.pars_len]; exact hk) (by omega) (by omega)
  rwa [List.append_nil] at this
end Go.Proofs.Ytcpponjknmkfaaa
