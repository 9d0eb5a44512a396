/-
  Plain laws: what Do answers, kind by kind. No program. Conditions: of each.
-/
import Derived.Test.YtfgbbmjnjppfnaaDoorPlainLives
namespace Go.Proofs.YtfgbbmjnjppfnaaDoor
open Go.ChangeShapes Go.WideShapes Go.ChangeAt Go.RowKit
set_option linter.unusedVariables false
set_option linter.unusedSimpArgs false

def getL (l : List IP) (key : Int) : An := if hasKey l key then ⟨0, 0, gv l (below l key), true⟩ else ⟨0, 0, 0, false⟩
def cutL (l : List IP) (key : Int) : List IP × An := if hasKey l key then (l.take (below l key) ++ l.drop (below l key + 1), ⟨0, 0, gv l (below l key), true⟩) else (l, ⟨0, 0, 0, false⟩)
def nextL (l : List IP) (key : Int) : An := toldL l (if hasKey l key then (below l key : Int) + 1 else below l key)
section
variable {l : List IP} (key val : Int)
theorem doA_bad (kind : Int) (h : mapRight l ≠ 0) : doA l kind key val = ([], ⟨mapRight l, 0, 0, false⟩) := by rw [doA, if_neg h]
theorem doA_arg (kind : Int) (h : mapRight l = 0) (h5 : kind ≤ 5) (hk : ¬ (0 ≤ key ∧ key ≤ 1000000)) : doA l kind key val = (l, ⟨1, 0, 0, false⟩) := by rw [doA, if_pos h, doL, if_pos (.inr ⟨h5, hk⟩)]
theorem doA_put (h : mapRight l = 0) (hk : 0 ≤ key ∧ key ≤ 1000000) : doA l 1 key val = putL l key val := by rw [doA, if_pos h, doL, if_neg (by omega)]; rfl
theorem doA_get (h : mapRight l = 0) (hk : 0 ≤ key ∧ key ≤ 1000000) : doA l 2 key val = (l, getL l key) := by rw [doA, if_pos h, doL, if_neg (by omega)]; rfl
theorem doA_cut (h : mapRight l = 0) (hk : 0 ≤ key ∧ key ≤ 1000000) : doA l 3 key val = cutL l key := by rw [doA, if_pos h, doL, if_neg (by omega)]; rfl
theorem doA_next (h : mapRight l = 0) (hk : 0 ≤ key ∧ key ≤ 1000000) : doA l 4 key val = (l, nextL l key) := by rw [doA, if_pos h, doL, if_neg (by omega)]; rfl
theorem doA_prev (h : mapRight l = 0) (hk : 0 ≤ key ∧ key ≤ 1000000) : doA l 5 key val = (l, toldL l ((below l key : Int) - 1)) := by rw [doA, if_pos h, doL, if_neg (by omega)]; rfl
theorem doA_count (h : mapRight l = 0) : doA l 6 key val = (l, ⟨0, 0, below l key, true⟩) := by rw [doA, if_pos h, doL, if_neg (by omega)]; rfl
theorem doA_nth (h : mapRight l = 0) : doA l 7 key val = (l, toldL l key) := by rw [doA, if_pos h, doL, if_neg (by omega)]; rfl
end
theorem rise_of {l : List IP} (h : mapRight l = 0) : Rise l := fun i j hi hj hij => mapRight_rise l h i j hi hj hij
theorem below_at {l : List IP} (h : Rise l) (k : Nat) (hk : k < l.length) : below l l[k].1 = k := by
  have h1 := below_cut l h l[k].1
  rcases Nat.lt_trichotomy (below l l[k].1) k with h2 | h2 | h2
  · have h3 := h1 (below l l[k].1) (by omega)
    have := h (below l l[k].1) k (by omega) hk h2
    omega
  · exact h2
  · have := (h1 k hk).1 h2; omega
theorem below_mono {l : List IP} {a b : Int} (h : a ≤ b) : below l a ≤ below l b := by
  unfold below
  induction l with
  | nil => simp
  | cons p t ih =>
    simp only [List.filter_cons]
    by_cases h1 : p.1 < a
    · rw [if_pos (by simpa using h1), if_pos (by simp; omega)]; simpa using ih
    · rw [if_neg (by simpa using h1)]
      split
      · simp; omega
      · exact ih
theorem do_to (l : List IP) (kind key val : Int) (R : List IP × An) (hR : doA l kind key val = R) (v : Value) (w : World) (hr : RD w ePair v l) :
    Calls Tryd.prog 63 #[v, .agg #[.int .i64 kind, .int .i64 key, .int .i64 val]] w (DoPost R w) := by
  subst hR
  exact do_any l kind key val v w hr
end Go.Proofs.YtfgbbmjnjppfnaaDoor
