/-
  A store into the second cell of a pair of an owned slice. Conditions: none.
-/
import Derived.Test.YtcpponjknmkfaaaSliceK
namespace Go.Proofs.Ytcpponjknmkfaaa
open Go.ChangeShapes Go.WideShapes Go.ChangeAt Go.RowKit
set_option linter.unusedVariables false
set_option linter.unusedSimpArgs false

theorem OW.setVal {w : World} {B : Nat} {e : TypeId} {g n c : Nat} {l : List IP} (h : OW w B e ePair (.slice (some ⟨g, 0, none⟩) n c) l) (k : Nat) (hk : k < l.length) (x : Int) :
    OW (w.setCell ⟨g, k * 2 + 1, none⟩ (.int .i64 x)) B e ePair (.slice (some ⟨g, 0, none⟩) n c) (l.set k (l[k].1, x)) := by
  obtain ⟨cur, hbk, hB, hnc, hcm, hcl, htk, hn⟩ := BK.of_ow h
  have hes : ePair.size = 2 := rfl
  rw [hes] at hcl htk
  have hn' : n = (l.set k (l[k].1, x)).length := by simp [hn]
  have hb2 : BK (w.setCell ⟨g, k * 2 + 1, none⟩ (.int .i64 x)) g e (cur.set (k * 2 + 1) (.int .i64 x)) := by
    unfold BK at hbk ⊢
    simp only [World.setCell, Array.getElem?_modify, hbk]
    simp
  rw [hn']
  refine BK.ow (E := ePair) hb2 hB (by omega) hcm (by rw [List.length_set, hcl, hes]) ?_
  have hf := flat_set_pair (l[k].1, x) l k
  rw [← hf, hes, List.take_set]
  simp only [List.length_set]
  rw [← hn, htk]
  congr 1
  symm
  apply List.ext_getElem?
  intro j
  by_cases hj : j = k * 2
  · subst hj
    have h1 := flat_at ePair l k hk 0 (by decide)
    rw [hes, Nat.add_zero] at h1
    rw [List.getElem?_set_self (by rw [flat_len, hes]; omega), h1]
    rfl
  · rw [List.getElem?_set_ne (by omega)]

theorem OW.cellPair {w : World} {B : Nat} {e : TypeId} {g n c : Nat} {l : List IP} (h : OW w B e ePair (.slice (some ⟨g, 0, none⟩) n c) l) (k : Nat) (hk : k < l.length) :
    w.cell? ⟨g, k * 2 + 1, none⟩ = some (.int .i64 l[k].2) ∧ w.frozen? ⟨g, k * 2 + 1, none⟩ = false := by
  obtain ⟨cur, hbk, _, _, _, _, _, hn⟩ := BK.of_ow h
  subst hn
  obtain ⟨b, o, e1, _, _, c1⟩ := h.rd.pair hk
  injection e1 with e1
  injection e1 with e2 e3
  subst e2 e3
  refine ⟨by rwa [Nat.zero_add] at c1, ?_⟩
  unfold BK at hbk
  simp [World.frozen?, hbk]

end Go.Proofs.Ytcpponjknmkfaaa
