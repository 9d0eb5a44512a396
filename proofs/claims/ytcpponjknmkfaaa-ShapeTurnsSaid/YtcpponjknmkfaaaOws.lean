/-
  A slice of slices that the call owns (OWS): appended to, read (RDS). Conditions: none.
-/
import Derived.Test.YtcpponjknmkfaaaRds
namespace Go.Proofs.Ytcpponjknmkfaaa
open Go.ChangeShapes Go.WideShapes Go.ChangeAt Go.RowKit
set_option linter.unusedVariables false
set_option linter.unusedSimpArgs false

abbrev V1 := {v : Value // v.oneCell' = true}
theorem OW.apart {α β : Type} {w : World} {B B' : Nat} {e e' : TypeId} {E : Enc α} {E' : Enc β} {v v' : Value} {l : List α} {l' : List β} (h : OW w B e E v l) (h' : OW w B' e' E' v' l') (hn : e ≠ e') : v.ownBlock = none ∨ v.ownBlock ≠ v'.ownBlock := by
  rcases h.2 with ⟨rfl, _⟩ | ⟨g, cap, cur, rfl, hg, hh, r⟩
  · exact .inl rfl
  · rcases h'.2 with ⟨rfl, _⟩ | ⟨g', cap', cur', rfl, hg', hh', r'⟩
    · right; simp [Value.ownBlock]
    · right
      intro e1
      injection e1 with e1
      subst e1
      rw [hh] at hh'
      injection hh' with hh'
      injection hh' with _ e2
      exact hn e2
theorem slice_one (A : Option Addr) (n c : Nat) : (Value.slice A n c).oneCell' = true := rfl
def OWS {α : Type} (w : World) (B : Nat) (st e : TypeId) (E : Enc α) (v : Value) (ls : List (List α)) : Prop :=
  ∃ vs : List V1, OW w B st eVal v vs ∧ vs.length = ls.length ∧ ∀ k (h : k < vs.length) (h2 : k < ls.length), OW w B e E vs[k].1 ls[k]
section
variable {α : Type} {w w' : World} {B : Nat} {st e : TypeId} {E : Enc α} {v : Value} {ls : List (List α)}
theorem OWS.nil : OWS w B st e E (.slice none 0 0) ([] : List (List α)) := ⟨[], OW.nil, rfl, fun k h => by simp at h⟩
theorem OWS.kp (h : OWS w B st e E v ls) (hk : Kp w w') : OWS w' B st e E v ls := by
  obtain ⟨vs, h1, h2, h3⟩ := h
  exact ⟨vs, h1.kp hk, h2, fun k a b => (h3 k a b).kp hk⟩
theorem OWS.more {B' : Nat} (h : OWS w B st e E v ls) (hB : B' ≤ B) : OWS w B' st e E v ls := by
  obtain ⟨vs, h1, h2, h3⟩ := h
  exact ⟨vs, h1.more hB, h2, fun k a b => (h3 k a b).more hB⟩
theorem OWS.rds (h : OWS w B st e E v ls) (hn : ls.length ≤ maxLen) : RDS w E v ls := by
  obtain ⟨vs, h1, h2, h3⟩ := h
  obtain ⟨A, c, e, a1, a2, a3, a4⟩ := h1.rd
  subst e
  refine ⟨A, c, by rw [h2], by omega, a2, fun h0 => ?_⟩
  obtain ⟨b, o, rfl, hb, hc⟩ := a4 (by omega)
  refine ⟨b, o, rfl, hb, fun k hk => ?_⟩
  have hk2 : k < vs.length := by omega
  refine ⟨vs[k].1, ?_, (h3 k hk2 hk).rd⟩
  have := hc k hk2 0 (by decide)
  simpa [eVal] using this
theorem OWS.len (h : OWS w B st e E v ls) : ∃ vs : List V1, OW w B st eVal v vs ∧ vs.length = ls.length := by
  obtain ⟨vs, h1, h2, _⟩ := h
  exact ⟨vs, h1, h2⟩
/-- One slice more. -/
theorem OWS.app {v' : Value} {u : V1} {l : List α} {vs : List V1} (h1 : OW w B st eVal v vs) (h2 : vs.length = ls.length) (h3 : ∀ k (h : k < vs.length) (h2 : k < ls.length), OW w B e E vs[k].1 ls[k]) (hn : e ≠ st) (hl : OW w B e E u.1 l)
    (ho : OW w' B st eVal v' (vs ++ [u])) (hg : w.grownBy w' v.ownBlock) : OWS w' B st e E v' (ls ++ [l]) := by
  refine ⟨vs ++ [u], ho, by simp [h2], fun k a b => ?_⟩
  by_cases e1 : k < vs.length
  · rw [List.getElem_append_left e1, List.getElem_append_left (by omega)]
    exact (h3 k e1 (by omega)).kept hg ((h3 k e1 (by omega)).apart h1 hn)
  · have hk : k = vs.length := by simp at a; omega
    subst hk
    have e2 : (ls ++ [l])[vs.length] = l := by rw [List.getElem_append_right (by omega)]; simp [h2]
    have e3 : (vs ++ [u])[vs.length] = u := by simp
    rw [e2, e3]
    exact hl.kept hg (hl.apart h1 hn)
end
end Go.Proofs.Ytcpponjknmkfaaa
