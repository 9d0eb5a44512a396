/-
  Plain laws: keys put one by one, the last one cut: what grow.Run makes of it. No program. Conditions: none.
-/
import Derived.Test.YtnallpdmdhbidaaGTree
namespace Go.Proofs.Ytnallpdmdhbidaa
open Go.ChangeShapes Go.WideShapes Go.ChangeAt Go.RowKit
set_option linter.unusedVariables false
set_option linter.unusedSimpArgs false

def putO (k : Int) : O3 := (1, k, 0)
def lastOps (keys : List Int) (key : Int) : List O3 := (keys ++ [key]).map putO ++ [(3, key, 0)]
theorem delTop_nil : delTop .nil .nil = .nil := rfl
theorem del_ins (k : Int) : ∀ T : MT IP, k ∉ kM T → del (ins T (k, 0)) k = T
  | .nil, _ => by simp [ins, del, delTop]
  | .node a l r, h => by
    rw [kM_node] at h
    simp only [List.mem_append, List.mem_singleton, not_or] at h
    obtain ⟨⟨h1, h2⟩, h3⟩ := h
    rw [ins]
    by_cases hlt : k < a.1
    · rw [if_pos hlt, del, if_pos hlt, del_ins k l h1]
    · rw [if_neg hlt, if_pos (show a.1 < k by omega), del, if_neg hlt, if_pos (show a.1 < k by omega), del_ins k r h3]
theorem putL_facts (l : List IP) (key val : Int) (h : l.length < 200) : (putL l key val).2.err = 0 ∧ (putL l key val).1.length ≤ l.length + 1 := by
  unfold putL
  split
  · exact ⟨rfl, by simp⟩
  · rw [if_neg (by omega)]
    exact ⟨rfl, by simp; omega⟩
theorem growS_put (T : MT IP) (k : Int) (a : An) (h : a.err = 0) : growS T (putO k) a = ins T (k, 0) := by simp [growS, putO, h]
theorem growS_cut (T : MT IP) (k : Int) (a : An) (h : a.err = 0) : growS T (3, k, 0) a = del T k := by simp [growS, h]
theorem last_grow (K : List Int) (key : Int) (hK : K.length ≤ 150) (hin : ∀ x ∈ K, 0 ≤ x ∧ x ≤ 1000000) (hkey : 0 ≤ key ∧ key ≤ 1000000) :
    growT (opsZ (K.map putO ++ [(3, key, 0)])) = del (ofT K) key := by
  obtain ⟨ops, hops⟩ : ∃ o, o = K.map putO ++ [((3, key, 0) : O3)] := ⟨_, rfl⟩
  have hol : ops.length = K.length + 1 := by rw [hops]; simp
  have hal := runL_len ops ops.length (Nat.le_refl _)
  rw [List.take_length] at hal
  have hzl : (opsZ ops).length = ops.length := by rw [opsZ, List.length_zip, hal]; omega
  have hz : ∀ k (h : k < ops.length), (opsZ ops)[k]'(by omega) = (ops[k], (runL ops).2[k]'(by omega)) := fun k h => by simp [opsZ]
  have ha : ∀ k (h : k < ops.length), (runL ops).2[k]'(by omega) = (doA (runL (ops.take k)).1 ops[k].1 ops[k].2.1 ops[k].2.2).2 := fun k h => by
    have h1 := runL_ans ops k h ops.length h (Nat.le_refl _)
    simp only [List.take_length] at h1
    exact h1 (by omega)
  have ho : ∀ k (h : k < K.length), ops[k]'(by omega) = putO K[k] := fun k h => by
    simp only [hops]
    rw [List.getElem_append_left (by simpa using h)]; simp
  have main : ∀ k, k ≤ K.length → growT ((opsZ ops).take k) = ofT (K.take k) ∧ (runL (ops.take k)).1.length ≤ k := by
    intro k
    induction k with
    | zero => intro _; exact ⟨rfl, by simp [runL]⟩
    | succ k ih =>
      intro hk
      obtain ⟨h1, h2⟩ := ih (by omega)
      have hr := runL_right ops k (by omega)
      have hki := hin K[k] (List.getElem_mem (by omega))
      have hd : doA (runL (ops.take k)).1 1 K[k] 0 = putL (runL (ops.take k)).1 K[k] 0 := doA_put _ _ hr hki
      obtain ⟨p1, p2⟩ := putL_facts (runL (ops.take k)).1 K[k] 0 (by omega)
      have hak := ha k (by omega)
      rw [ho k (by omega)] at hak
      simp only [putO] at hak
      rw [hd] at hak
      refine ⟨?_, ?_⟩
      · rw [growT_snoc _ k (by omega), hz k (by omega), ho k (by omega), hak, h1]
        rw [growS_put _ _ _ p1, ofT_snoc K k (by omega)]
      · rw [runL_take ops k (by omega), runS, ho k (by omega)]
        simp only [putO]
        rw [hd]; omega
  obtain ⟨h1, h2⟩ := main K.length (Nat.le_refl _)
  rw [List.take_length] at h1
  have hlt : K.length < ops.length := by omega
  have hoK : ops[K.length]'hlt = (3, key, 0) := by simp [hops]
  have hcut : (cutL (runL (ops.take K.length)).1 key).2.err = 0 := by unfold cutL; split <;> rfl
  have hr := runL_right ops K.length (by omega)
  have hak := ha K.length hlt
  rw [hoK] at hak
  simp only at hak
  rw [doA_cut key 0 hr hkey] at hak
  rw [← hops]
  have e : opsZ ops = (opsZ ops).take (K.length + 1) := by rw [List.take_of_length_le (by omega)]
  rw [e, growT_snoc _ K.length (by omega), hz K.length hlt, hoK, hak, h1]
  rw [growS_cut _ _ _ hcut]
theorem last_law (keys : List Int) (key : Int) (hl : keys.length ≤ 100) (h1 : rightG keys = 0) (h2 : rightG (keys ++ [key]) = 0) :
    growRun (lastOps keys key) = ((ofT keys).spotsBy Prod.fst 0, (runL (lastOps keys key)).2, 0) := by
  obtain ⟨_, g2, g3⟩ := rightG_ok _ h2
  obtain ⟨_, _, g4⟩ := rightG_ok _ h1
  have hin : ∀ x ∈ keys ++ [key], 0 ≤ x ∧ x ≤ 1000000 := fun x hx => g2 x hx
  rw [growRun, if_neg (by simp [lastOps]; omega), lastOps, last_grow _ key (by simp; omega) hin (hin key (by simp))]
  have e : ofT (keys ++ [key]) = ins (ofT keys) (key, 0) := by rw [ofT, List.foldl_append]; rfl
  have hno : key ∉ kM (ofT keys) := by
    obtain ⟨_, _, _, _, h5⟩ := ofT_facts keys.length keys (Nat.le_refl _) g4
    intro h
    have := (h5 key).1 h
    rw [List.nodup_append] at g3
    exact g3.2.2 key this key (by simp) rfl
  rw [e, del_ins key _ hno]
end Go.Proofs.Ytnallpdmdhbidaa
