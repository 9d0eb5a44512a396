/-
  A row of pairs that is sorted in place, in memory: an element loaded, two that change places. Conditions: none.
-/
import Derived.Test.YtcpponjknmkfaaaSetVal
import Derived.Test.YtcpponjknmkfaaaStSeg
import Derived.Test.YtcpponjknmkfaaaMTree
import Derived.Test.YtcpponjknmkfaaaRegSwap
namespace Go.Proofs.Ytcpponjknmkfaaa
open Go.ChangeShapes Go.WideShapes Go.ChangeAt Go.RowKit
set_option linter.unusedVariables false
set_option linter.unusedSimpArgs false

section
variable {w : World} {B : Nat} {e : TypeId} {g n c : Nat} {l : List IP}
theorem OW.setPair (h : OW w B e ePair (.slice (some ⟨g, 0, none⟩) n c) l) (k : Nat) (hk : k < l.length) (p : IP) :
    OW ((w.setCell ⟨g, k * 2, none⟩ (.int .i64 p.1)).setCell ⟨g, k * 2 + 1, none⟩ (.int .i64 p.2)) B e ePair (.slice (some ⟨g, 0, none⟩) n c) (l.set k p) := by
  obtain ⟨cur, hbk, hB, hnc, hcm, hcl, htk, hn⟩ := BK.of_ow h
  have hes : ePair.size = 2 := rfl
  rw [hes] at hcl htk
  have hn' : n = (l.set k p).length := by simp [hn]
  have hb2 : BK ((w.setCell ⟨g, k * 2, none⟩ (.int .i64 p.1)).setCell ⟨g, k * 2 + 1, none⟩ (.int .i64 p.2)) g e ((cur.set (k * 2) (.int .i64 p.1)).set (k * 2 + 1) (.int .i64 p.2)) := by
    unfold BK at hbk ⊢
    simp only [World.setCell, Array.getElem?_modify, hbk]
    simp
  rw [hn']
  refine BK.ow (E := ePair) hb2 hB (by omega) hcm (by rw [List.length_set, List.length_set, hcl, hes]) ?_
  have hf := flat_set_pair p l k
  rw [← hf, hes, List.take_set, List.take_set]
  simp only [List.length_set]
  rw [← hn, htk]
theorem OW.pairAt (h : OW w B e ePair (.slice (some ⟨g, 0, none⟩) n c) l) (k : Nat) (hk : k < l.length) :
    w.cell? ⟨g, k * 2, none⟩ = some (.int .i64 l[k].1) ∧ w.cell? ⟨g, k * 2 + 1, none⟩ = some (.int .i64 l[k].2) ∧ w.frozen? ⟨g, k * 2, none⟩ = false ∧ w.frozen? ⟨g, k * 2 + 1, none⟩ = false := by
  obtain ⟨cur, hbk, _, _, _, _, _, hn⟩ := BK.of_ow h
  have h2 := h.cellPair k hk
  subst hn
  obtain ⟨b, o, e1, _, c0, c1⟩ := h.rd.pair hk
  injection e1 with e1
  injection e1 with e2 e3
  subst e2 e3
  refine ⟨by rwa [Nat.zero_add] at c0, h2.1, ?_, h2.2⟩
  unfold BK at hbk
  simp [World.frozen?, hbk]
theorem OW.pairAt? (h : OW w B e ePair (.slice (some ⟨g, 0, none⟩) n c) l) {k : Nat} {x : IP} (hk : l[k]? = some x) :
    w.cell? ⟨g, k * 2, none⟩ = some (.int .i64 x.1) ∧ w.cell? ⟨g, k * 2 + 1, none⟩ = some (.int .i64 x.2) ∧ w.frozen? ⟨g, k * 2, none⟩ = false ∧ w.frozen? ⟨g, k * 2 + 1, none⟩ = false := by
  obtain ⟨hlt, rfl⟩ := List.getElem?_eq_some_iff.1 hk
  exact h.pairAt k hlt
/-- The worlds behind the two stores of a swap. -/
def swW1 (w : World) (g i : Nat) (y : IP) : World := (w.setCell ⟨g, i * 2, none⟩ (.int .i64 y.1)).setCell ⟨g, i * 2 + 1, none⟩ (.int .i64 y.2)
theorem OW.sw (h : OW w B e ePair (.slice (some ⟨g, 0, none⟩) n c) l) {i j : Nat} (hi : i < l.length) (hj : j < l.length) (x y : IP) :
    OW (swW1 (swW1 w g i y) g j x) B e ePair (.slice (some ⟨g, 0, none⟩) n c) ((l.set i y).set j x) :=
  (h.setPair i hi y).setPair j (by simpa using hj) x
theorem OW.swap (h : OW w B e ePair (.slice (some ⟨g, 0, none⟩) n c) l) (i j : Nat) (hi : i < l.length) (hj : j < l.length) :
    OW (swW1 (swW1 w g i l[j]) g j l[i]) B e ePair (.slice (some ⟨g, 0, none⟩) n c) (swapL l i j hi hj) :=
  (h.setPair i hi l[j]).setPair j (by simpa using hj) l[i]
theorem Kf.sw {F : Nat → Prop} {a : World} (h : Kf F a w) (hg : F g) (i : Nat) (y : IP) : Kf F a (swW1 w g i y) := (h.set (p := ⟨g, i * 2, none⟩) (.inl hg)).set (p := ⟨g, i * 2 + 1, none⟩) (.inl hg)
end
end Go.Proofs.Ytcpponjknmkfaaa
