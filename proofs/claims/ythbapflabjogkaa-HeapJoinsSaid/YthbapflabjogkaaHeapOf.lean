/-
  heap.Check, heap.Of: what they answer. Conditions: the list reads as l (RD).
-/
import Derived.Test.YthbapflabjogkaaHeapLaw
namespace Go.Proofs.Ythbapflabjogkaa
open Go.ChangeShapes Go.WideShapes Go.ChangeAt Go.RowKit
set_option linter.unusedVariables false
set_option linter.unusedSimpArgs false

theorem heap_zip (l : List IP) (off : Nat) (d : Int) : (heapTree l).spots d = List.zipWith (fun (p : IP) (e : Int) => ((p.1, e) : IP)) l ((ptree l off).deps d) := by
  by_cases h : l = []
  · subst h; rw [heapTree_nil, ptree_nil]; rfl
  · have hl := top_lt l h
    rw [heapTree_cons l h, ptree_cons l off h, T.spots, PT.deps, heap_zip (l.take (top l)) off (d + 1), heap_zip (l.drop (top l + 1)) (off + top l + 1) (d + 1)]
    have e : l = l.take (top l) ++ ([l[top l]] ++ l.drop (top l + 1)) := by simp
    conv => rhs; arg 2; rw [e]
    rw [List.append_assoc, List.append_assoc, List.zipWith_append (by rw [PT.deps_len, ptree_size]), List.zipWith_append (by rfl)]
    rfl
termination_by l.length
decreasing_by
  · simp; omega
  · simp; omega
theorem PT.deps_le : ∀ (t : PT) (d : Int), ∀ e ∈ t.deps d, e < d + t.size
  | .nil, _, e, h => by simp [deps] at h
  | .node p l r, d, e, h => by
    simp only [deps, List.mem_append, List.mem_singleton] at h
    simp only [size]
    rcases h with (h | rfl) | h
    · have := deps_le l (d + 1) e h; omega
    · omega
    · have := deps_le r (d + 1) e h; omega
def hD (l : List IP) (k : Nat) : Int := ((ptree l 0).deps 0).getD k 0
theorem hD_ok (l : List IP) (hn : l.length ≤ 1000) (k : Nat) (hk : k < l.length) : Dp (builtL l) (k : Int) (hD l k) ∧ hD l k ≤ 1000000 := by
  have hs : k < (ptree l 0).size := by rw [ptree_size]; exact hk
  have hdl : k < ((ptree l 0).deps 0).length := by rw [PT.deps_len]; exact hs
  have e : hD l k = ((ptree l 0).deps 0)[k] := by simp [hD, List.getD_eq_getElem?_getD, List.getElem?_eq_getElem hdl]
  constructor
  · have h := dp_of (builtL l) (ptree l 0) 0 (-1) 0 (ptree_at l 0) (Dp.base _ (by omega)) (by rw [builtL_eq, PT.pars_len]; omega) (fun i hi => by rw [builtL_eq, Nat.zero_add]) k hs
    rw [Nat.zero_add] at h
    rw [e]; exact h
  · have := PT.deps_le (ptree l 0) 0 _ (List.getElem_mem hdl)
    rw [ptree_size] at this
    rw [e]; omega
theorem dl_eq (l : List IP) : dl l (hD l) = (heapTree l).spots 0 := by
  rw [heap_zip l 0 0]
  have hdl : ((ptree l 0).deps 0).length = l.length := by rw [PT.deps_len, ptree_size]
  apply List.ext_getElem
  · simp [dl_len, hdl]
  · intro k h1 h2
    rw [dl_len] at h1
    rw [dl_at l _ k h1, List.getElem_zipWith]
    simp [hD, List.getD_eq_getElem?_getD, List.getElem?_eq_getElem (show k < ((ptree l 0).deps 0).length by omega)]

def heapOf (l : List IP) : List IP × Int := if mapRight l = 0 then ((heapTree l).spots 0, 0) else ([], mapRight l)

theorem hcheck_any (l : List IP) (v : Value) (w : World) (hr : RD w ePair v l) : Calls Try.prog 11 #[v] w (Ret (.int .i64 (mapRight l)) w) := by
  have HR := hide hr
  clear hr
  go_enter Try.func11, Try.ntmps11
  go_wp2_with (go_at_call 28; refine (check_any l _ _ HR.out).mono ?_; rintro e w' ⟨rfl, hb⟩)
  go_ret
  exact ⟨rfl, hb⟩
set_option maxHeartbeats 1000000 in
theorem heapOf_any (l : List IP) (v : Value) (w : World) (hr : RD w ePair v l) : Calls Try.prog 8 #[v] w (Ret2 ePair (heapOf l) w) := by
  have HR := hide hr
  clear hr
  by_cases h0 : mapRight l = 0
  · have hlen := mapRight_len l h0
    have hres : Hid (heapOf l = ((heapTree l).spots 0, 0)) := hide (by rw [heapOf, if_pos h0])
    have hb0 : (mapRight l != 0) = false := by simp [h0]
    have H0 := hide h0
    clear h0
    go_enter Try.func8, Try.ntmps8
    go_wp2_with (go_at_call 11; refine (hcheck_any l _ _ HR.out).mono ?_; rintro e w1 ⟨rfl, hb1⟩)
    refine (built_any l _ _ (HR.out.below hb1) (by omega)).mono ?_
    rintro e w2 ⟨g, rfl, hg, ha, hb2⟩
    have hbl : (builtL l).length = l.length := bRun_len l _
    have HA := hide ha
    have HBL := hide hbl
    clear ha hbl
    go_wp2_with fail
    refine (hspots_any l (builtL l) (hD l) _ _ _ ((HR.out.below hb1).below hb2) (HA.out.rd (by rw [HBL.out]; unfold maxLen; omega)) (by omega) HBL.out (fun k hk => hD_ok l (by omega) k hk)).mono ?_
    rintro e w3 ⟨g3, rfl, hg3, ha3, hb3⟩
    have HA3 := hide ha3
    clear ha3
    go_wp2
    go_ret2
    refine ⟨_, by rw [hres.out]; rfl, ?_, (Kp.trans hb1 (Kp.trans hb2 hb3)).bel⟩
    rw [hres.out, ← dl_eq]
    exact HA3.out.rd (by rw [dl_len]; unfold maxLen; omega)
  · have hb0 : (mapRight l != 0) = true := by simp [h0]
    have hres : Hid (heapOf l = ([], mapRight l)) := hide (by rw [heapOf, if_neg h0])
    clear h0
    go_enter Try.func8, Try.ntmps8
    go_wp2_with (go_at_call 11; refine (hcheck_any l _ _ HR.out).mono ?_; rintro e w1 ⟨rfl, hb1⟩)
    go_ret2
    exact ⟨_, by rw [hres.out]; rfl, by rw [hres.out]; exact RD.nil, hb1⟩
end Go.Proofs.Ythbapflabjogkaa
