/-
  Slices of slices that are read (RDS). Conditions: none.
  A slice of slices that the call owns (OWS): appended to, read (RDS). Conditions: none.
  Rows of keys by their heights. No program. Conditions: none.
-/
import Derived.Test.YtfojphaemfbfnaaDoorSkipRunsM3
import Derived.Test.YtfojphaemfbfnaaDoorSkipRunsM4

namespace Go.Proofs.YtfojphaemfbfnaaDoor
open Go.ChangeShapes Go.WideShapes Go.ChangeAt Go.RowKit
set_option linter.unusedVariables false
set_option linter.unusedSimpArgs false

/-- A slice of slices. -/
def RDS {α : Type} (w : World) (E : Enc α) (v : Value) (ls : List (List α)) : Prop :=
  ∃ A c, v = .slice A ls.length c ∧ ls.length ≤ c ∧ c ≤ maxLen ∧ (0 < ls.length → ∃ b o, A = some ⟨b, o, none⟩ ∧ b < w.heap.size ∧
    ∀ k (h : k < ls.length), ∃ u, w.cell? ⟨b, o + k, none⟩ = some u ∧ RD w E u ls[k])
section
variable {α : Type} {w w' : World} {E : Enc α} {v : Value} {ls : List (List α)}
theorem RDS.shape (h : RDS w E v ls) : ∃ A c, v = .slice A ls.length c ∧ ls.length ≤ c ∧ c ≤ 9223372036854775807 := by
  obtain ⟨A, c, rfl, h1, h2, h3⟩ := h
  exact ⟨A, c, rfl, h1, by unfold maxLen at h2; omega⟩
theorem RDS.at_ {A : Option Addr} {n c : Nat} (h : RDS w E (.slice A n c) ls) {k : Nat} (hk : k < ls.length) :
    ∃ b o u, A = some ⟨b, o, none⟩ ∧ b < w.heap.size ∧ w.cell? ⟨b, o + k, none⟩ = some u ∧ RD w E u ls[k] := by
  obtain ⟨A', c', e, h1, h2, h3⟩ := h
  injection e with e1 e2 e3
  subst e1
  obtain ⟨b, o, rfl, hb, hc⟩ := h3 (by omega)
  obtain ⟨u, h4, h5⟩ := hc k hk
  exact ⟨b, o, u, rfl, hb, h4, h5⟩
theorem RDS.kp (h : RDS w E v ls) (hb : Kp w w') : RDS w' E v ls := by
  obtain ⟨A, c, rfl, h1, h2, h3⟩ := h
  refine ⟨A, c, rfl, h1, h2, fun h0 => ?_⟩
  obtain ⟨b, o, rfl, hb', hc⟩ := h3 h0
  refine ⟨b, o, rfl, Nat.lt_of_lt_of_le hb' hb.size, fun k hk => ?_⟩
  obtain ⟨u, h4, h5⟩ := hc k hk
  exact ⟨u, hb.cell h4, h5.kp hb⟩
end
theorem RDS.new2 {α : Type} {w : World} {E : Enc α} {a b : List α} {va vb : Value} {t : TypeId} {g : Nat} (hg : w.heap.size = g) (ha : RD w E va a) (hb : RD w E vb b) : RDS (w.alloc (.cells #[va, vb] t)) E (.slice (some ⟨g, 0, none⟩) 2 2) [a, b] := by
  subst hg
  have hk : Kp w (w.alloc (.cells #[va, vb] t)) := (Kp.refl w).alloc
  refine ⟨_, _, rfl, Nat.le_refl _, by simp [maxLen], fun _ => ⟨w.heap.size, 0, rfl, by simp, fun k h => ?_⟩⟩
  have hc := fun i => cell_of_row _ _ i _ t (0, 0) (heap_alloc_new w (.cells #[va, vb] t))
  match k, h with
  | 0, _ => exact ⟨va, hc 0, ha.kp hk⟩
  | 1, _ => exact ⟨vb, hc 1, hb.kp hk⟩
theorem RDS.new1 {α : Type} {w : World} {E : Enc α} {a : List α} {va : Value} {t : TypeId} {g : Nat} (hg : w.heap.size = g) (ha : RD w E va a) : RDS (w.alloc (.cells #[va] t)) E (.slice (some ⟨g, 0, none⟩) 1 1) [a] := by
  subst hg
  have hk : Kp w (w.alloc (.cells #[va] t)) := (Kp.refl w).alloc
  refine ⟨_, _, rfl, Nat.le_refl _, by simp [maxLen], fun _ => ⟨w.heap.size, 0, rfl, by simp, fun k h => ?_⟩⟩
  have hc := fun i => cell_of_row _ _ i _ t (0, 0) (heap_alloc_new w (.cells #[va] t))
  match k, h with
  | 0, _ => exact ⟨va, hc 0, ha.kp hk⟩
end Go.Proofs.YtfojphaemfbfnaaDoor
namespace Go.Proofs.YtfojphaemfbfnaaDoor
open Go.ChangeShapes Go.WideShapes Go.ChangeAt Go.RowKit
set_option linter.unusedVariables false
set_option linter.unusedSimpArgs false

abbrev V1 := {v : Value // v.oneCell' = true}
theorem OW.apart {α β : Type} {w : World} {B B' : Nat} {e e' : TypeId} {E : Enc α} {E' : Enc β} {v v' : Value} {l : List α} {l' : List β} (h : OW w B e E v l) (h' : OW w B' e' E' v' l') (hn : e ≠ e') : v.ownBlock = none ∨ v.ownBlock ≠ v'.ownBlock := by
  rcases h.2 with ⟨rfl, _⟩ | ⟨g, cap, cur, rfl, hg, hh, r⟩
  · exact .inl rfl
  · rcases h'.2 with ⟨rfl, _⟩ | ⟨g', cap', cur', rfl, hg', hh', r'⟩
    · right; simp [Value.ownBlock]
    · right
      intro e1
      injection e1 with e1
      subst e1
      rw [hh] at hh'
      injection hh' with hh'
      injection hh' with _ e2
      exact hn e2
theorem slice_one (A : Option Addr) (n c : Nat) : (Value.slice A n c).oneCell' = true := rfl
def OWS {α : Type} (w : World) (B : Nat) (st e : TypeId) (E : Enc α) (v : Value) (ls : List (List α)) : Prop :=
  ∃ vs : List V1, OW w B st eVal v vs ∧ vs.length = ls.length ∧ ∀ k (h : k < vs.length) (h2 : k < ls.length), OW w B e E vs[k].1 ls[k]
section
variable {α : Type} {w w' : World} {B : Nat} {st e : TypeId} {E : Enc α} {v : Value} {ls : List (List α)}
theorem OWS.nil : OWS w B st e E (.slice none 0 0) ([] : List (List α)) := ⟨[], OW.nil, rfl, fun k h => by simp at h⟩
theorem OWS.kp (h : OWS w B st e E v ls) (hk : Kp w w') : OWS w' B st e E v ls := by
  obtain ⟨vs, h1, h2, h3⟩ := h
  exact ⟨vs, h1.kp hk, h2, fun k a b => (h3 k a b).kp hk⟩
theorem OWS.more {B' : Nat} (h : OWS w B st e E v ls) (hB : B' ≤ B) : OWS w B' st e E v ls := by
  obtain ⟨vs, h1, h2, h3⟩ := h
  exact ⟨vs, h1.more hB, h2, fun k a b => (h3 k a b).more hB⟩
theorem OWS.rds (h : OWS w B st e E v ls) (hn : ls.length ≤ maxLen) : RDS w E v ls := by
  obtain ⟨vs, h1, h2, h3⟩ := h
  obtain ⟨A, c, e, a1, a2, a3, a4⟩ := h1.rd
  subst e
  refine ⟨A, c, by rw [h2], by omega, a2, fun h0 => ?_⟩
  obtain ⟨b, o, rfl, hb, hc⟩ := a4 (by omega)
  refine ⟨b, o, rfl, hb, fun k hk => ?_⟩
  have hk2 : k < vs.length := by omega
  refine ⟨vs[k].1, ?_, (h3 k hk2 hk).rd⟩
  have := hc k hk2 0 (by decide)
  simpa [eVal] using this
theorem OWS.len (h : OWS w B st e E v ls) : ∃ vs : List V1, OW w B st eVal v vs ∧ vs.length = ls.length := by
  obtain ⟨vs, h1, h2, _⟩ := h
  exact ⟨vs, h1, h2⟩
/-- One slice more. -/
theorem OWS.app {v' : Value} {u : V1} {l : List α} {vs : List V1} (h1 : OW w B st eVal v vs) (h2 : vs.length = ls.length) (h3 : ∀ k (h : k < vs.length) (h2 : k < ls.length), OW w B e E vs[k].1 ls[k]) (hn : e ≠ st) (hl : OW w B e E u.1 l)
    (ho : OW w' B st eVal v' (vs ++ [u])) (hg : w.grownBy w' v.ownBlock) : OWS w' B st e E v' (ls ++ [l]) := by
  refine ⟨vs ++ [u], ho, by simp [h2], fun k a b => ?_⟩
  by_cases e1 : k < vs.length
  · rw [List.getElem_append_left e1, List.getElem_append_left (by omega)]
    exact (h3 k e1 (by omega)).kept hg ((h3 k e1 (by omega)).apart h1 hn)
  · have hk : k = vs.length := by simp at a; omega
    subst hk
    have e2 : (ls ++ [l])[vs.length] = l := by rw [List.getElem_append_right (by omega)]; simp [h2]
    have e3 : (vs ++ [u])[vs.length] = u := by simp
    rw [e2, e3]
    exact hl.kept hg (hl.apart h1 hn)
end
theorem info_ints : (Tryd.prog.info? 22).map (fun i => (i.zero, i.size, i.bytes)) = some (some (.slice none 0 0), 1, 24) := by kernel_rfl
theorem row_ints : Row Tryd.prog 23 22 eVal 24 := row_of info_ints Tryd.underlying23 rfl rfl (by decide)
end Go.Proofs.YtfojphaemfbfnaaDoor
namespace Go.Proofs.YtfojphaemfbfnaaDoor
open Go.ChangeShapes Go.WideShapes Go.ChangeAt Go.RowKit
set_option linter.unusedVariables false
set_option linter.unusedSimpArgs false

section
variable (H : Int → Int) (ks : List Int)
/-- A row of keys; all rows that have a key. -/
def rowH (r : Nat) : List Int := ks.filter fun k => decide ((r : Int) < H k)
def rowsH (n : Nat) : List (List Int) := ((List.range n).map (rowH H ks)).filter fun l => !l.isEmpty
theorem rowsH_succ (n : Nat) : rowsH H ks (n + 1) = rowsH H ks n ++ if (rowH H ks n).isEmpty then [] else [rowH H ks n] := by
  unfold rowsH
  rw [List.range_succ, List.map_append, List.filter_append]
  cases h : (rowH H ks n).isEmpty <;> simp [List.filter_cons, h]
theorem rowsH_len (n : Nat) : (rowsH H ks n).length ≤ n := by
  unfold rowsH
  refine Nat.le_trans (List.length_filter_le _ _) ?_
  rw [List.length_map, List.length_range]; omega
theorem rowH_len (r : Nat) : (rowH H ks r).length ≤ ks.length := List.length_filter_le _ _
theorem rowH_nest {r q : Nat} (h : rowH H ks r = []) (hq : r ≤ q) : rowH H ks q = [] := by
  unfold rowH at h ⊢
  rw [List.filter_eq_nil_iff] at h ⊢
  intro k hk hc
  refine h k hk ?_
  simp only [decide_eq_true_eq] at hc ⊢
  omega
theorem rowH_top {n : Nat} (h : ∀ k, H k ≤ n) : rowH H ks n = [] := by
  unfold rowH
  rw [List.filter_eq_nil_iff]
  intro k _ hc
  simp only [decide_eq_true_eq] at hc
  have := h k
  omega
theorem rowsH_range : ∀ n, ∃ R, R ≤ n ∧ rowsH H ks n = (List.range R).map (rowH H ks) ∧ (R < n → rowH H ks R = []) ∧ ∀ q, q < R → rowH H ks q ≠ []
  | 0 => ⟨0, Nat.le_refl _, rfl, fun h => by omega, fun q h => by omega⟩
  | n + 1 => by
    obtain ⟨R, h1, h2, h3, h4⟩ := rowsH_range n
    by_cases e : rowH H ks n = []
    · refine ⟨R, by omega, by rw [rowsH_succ, e, h2]; simp, fun h => ?_, h4⟩
      by_cases e2 : R = n
      · rw [e2]; exact e
      · exact h3 (by omega)
    · have hR : R = n := by
        by_cases e2 : R = n
        · exact e2
        · exact absurd (rowH_nest H ks (h3 (by omega)) h1) e
      subst hR
      refine ⟨R + 1, by omega, ?_, fun h => by omega, fun q hq => ?_⟩
      · rw [rowsH_succ, h2, List.range_succ, List.map_append]
        have : (rowH H ks R).isEmpty = false := by
          cases h5 : rowH H ks R with
          | nil => exact absurd h5 e
          | cons a l => rfl
        rw [this]; simp
      · by_cases e2 : q = R
        · rw [e2]; exact e
        · exact h4 q (by omega)
theorem rowsH_is {n r : Nat} (hn : ∀ k, H k ≤ n) (h1 : rowH H ks r = []) (h2 : ∀ q, q < r → rowH H ks q ≠ []) : rowsH H ks n = (List.range r).map (rowH H ks) := by
  obtain ⟨R, g1, g2, g3, g4⟩ := rowsH_range H ks n
  have e : R = r := by
    rcases Nat.lt_trichotomy R r with h | h | h
    · refine absurd ?_ (h2 R h)
      by_cases e : R < n
      · exact g3 e
      · rw [show R = n by omega]; exact rowH_top H ks hn
    · exact h
    · exact absurd h1 (g4 r h)
  rw [g2, e]
theorem rowH_take (r k : Nat) (h : k < ks.length) : rowH H (ks.take (k + 1)) r = rowH H (ks.take k) r ++ if (r : Int) < H ks[k] then [ks[k]] else [] := by
  unfold rowH
  rw [List.take_succ_eq_append_getElem h, List.filter_append]
  congr 1
  by_cases e : (r : Int) < H ks[k] <;> simp [e]
end
def rowK (ks : List Int) (r : Nat) : List Int := rowH hgtF ks r
def rowsN (ks : List Int) (n : Nat) : List (List Int) := rowsH hgtF ks n
theorem rowsN_succ (ks : List Int) (n : Nat) : rowsN ks (n + 1) = rowsN ks n ++ if (rowK ks n).isEmpty then [] else [rowK ks n] := rowsH_succ hgtF ks n
theorem rowsN_len (ks : List Int) (n : Nat) : (rowsN ks n).length ≤ n := rowsH_len hgtF ks n
theorem rowK_len (ks : List Int) (r : Nat) : (rowK ks r).length ≤ ks.length := rowH_len hgtF ks r
theorem hgt_le (k : Int) : hgtF k ≤ (12 : Nat) := (hgtF_in k).2
theorem rowK_12 (ks : List Int) : rowK ks 12 = [] := rowH_top hgtF ks hgt_le
theorem rowsN_is {ks : List Int} {r : Nat} (h1 : rowK ks r = []) (h2 : ∀ q, q < r → rowK ks q ≠ []) : rowsN ks 12 = (List.range r).map (rowK ks) := rowsH_is hgtF ks hgt_le h1 h2
theorem rowsN_range (ks : List Int) : ∃ R, R ≤ 12 ∧ rowsN ks 12 = (List.range R).map (rowK ks) ∧ (∀ q, R ≤ q → rowK ks q = []) ∧ ∀ q, q < R → rowK ks q ≠ [] := by
  obtain ⟨R, h1, h2, h3, h4⟩ := rowsH_range hgtF ks 12
  have h5 : rowK ks R = [] := by
    by_cases e : R < 12
    · exact h3 e
    · rw [show R = 12 by omega]; exact rowK_12 ks
  exact ⟨R, h1, h2, fun q hq => rowH_nest hgtF ks h5 hq, h4⟩
theorem rowK_take (ks : List Int) (r k : Nat) (h : k < ks.length) : rowK (ks.take (k + 1)) r = rowK (ks.take k) r ++ if (r : Int) < hgtF ks[k] then [ks[k]] else [] := rowH_take hgtF ks r k h
theorem rowK_nil (r : Nat) : rowK [] r = [] := rfl
end Go.Proofs.YtfojphaemfbfnaaDoor
