/-
  shape.Check, shape.Order (but for way 3), shape.Sum: what they answer. Conditions: the list reads as l (RD).
-/
import Derived.Test.YtpmhpogkpkhbfaaWalk
import Derived.Test.YtpmhpogkpkhbfaaShapeOf
import Derived.Test.YtpmhpogkpkhbfaaParLaw
namespace Go.Proofs.Ytpmhpogkpkhbfaa
open Go.ChangeShapes Go.WideShapes Go.ChangeAt Go.RowKit
set_option linter.unusedVariables false
set_option linter.unusedSimpArgs false

theorem PT.deps_lt : ∀ (t : PT) (d : Int), ∀ e ∈ t.deps d, e < d + t.size
  | .nil, d, e, h => by simp [deps] at h
  | .node p l r, d, e, h => by
    simp only [deps, List.mem_append, List.mem_singleton] at h
    simp only [size]
    rcases h with (h | rfl) | h
    · have := deps_lt l (d + 1) e h; omega
    · omega
    · have := deps_lt r (d + 1) e h; omega
theorem gv_bound (l : List IP) (h : (parOf l).2 = 0) (k : Nat) (hk : k < l.length) : 0 ≤ l[k].2 ∧ l[k].2 < 200 := by
  obtain ⟨h1, h2, t, ht, _⟩ := parOf_len l h
  obtain ⟨h3, h4, h5⟩ := ptR_to l 0 l.length 0 t (by omega) ht
  have h6 := h5 k (by omega)
  rw [Nat.zero_add, gv_eq l k hk] at h6
  have h7 := List.mem_of_getElem? h6.symm
  have := PT.deps_ge t 0 _ h7
  have := PT.deps_lt t 0 _ h7
  omega
set_option maxHeartbeats 1000000 in
theorem shapeCheck_any (l : List IP) (v : Value) (w : World) (hr : RD w ePair v l) : Calls Try.prog 28 #[v] w (Ret (.int .i64 (parOf l).2) w) := by
  have HR := hide hr
  have HRD := hide (fun W v h => read_any l v W h)
  obtain ⟨P, hP⟩ : ∃ P, P = parOf l := ⟨_, rfl⟩
  rw [← hP] at HRD ⊢
  obtain ⟨a, r⟩ := P
  clear hr hP
  go_enter Try.func28, Try.ntmps28
  go_wp2_with fail
  with_reducible refine (HRD.out _ _ HR.out).mono ?_
  rintro e w1 ⟨v1, rfl, hr1, hb1⟩
  obtain ⟨A1, c1, rfl, _, _⟩ := hr1.shape
  clear hr1
  go_wp2
  go_ret
  exact ⟨rfl, hb1⟩
def mostL (l : List IP) : Int := l.foldl (fun m p => max m p.2) (-1)
def allL (l : List IP) : Int := (l.map Prod.snd).sum
def sumOf (l : List IP) : Int × Int × Int := if (parOf l).2 ≠ 0 then (0, 0, (parOf l).2) else (mostL l, allL l, 0)
theorem mostL_snoc (l : List IP) (k : Nat) (h : k < l.length) : mostL (l.take (k + 1)) = max (mostL (l.take k)) l[k].2 := by
  rw [List.take_succ_eq_append_getElem h, mostL, List.foldl_append]; rfl
theorem allL_snoc (l : List IP) (k : Nat) (h : k < l.length) : allL (l.take (k + 1)) = allL (l.take k) + l[k].2 := by
  rw [List.take_succ_eq_append_getElem h, allL, List.map_append, List.sum_append]; simp [allL]
def SmRel (l : List IP) (w : World) (mv av iv : Value) (wr : World) : Prop :=
  ∃ k : Nat, k ≤ l.length ∧ iv = .int .i64 k ∧ mv = .int .i64 (mostL (l.take k)) ∧ av = .int .i64 (allL (l.take k)) ∧ 0 ≤ allL (l.take k) ∧ allL (l.take k) ≤ 200 * (k : Int) ∧ Kp w wr
end Go.Proofs.Ytpmhpogkpkhbfaa
