/-
  Plain laws: op by op the tree has just the keys of the list. No program. Conditions: none.
-/
import Derived.Test.YtnallpdmdhbidaaGLaw
import Derived.Test.YtnallpdmdhbidaaAnswered
namespace Go.Proofs.Ytnallpdmdhbidaa
open Go.ChangeShapes Go.WideShapes Go.ChangeAt Go.RowKit
set_option linter.unusedVariables false
set_option linter.unusedSimpArgs false

def ksIns (ks : List Int) (k : Int) : List Int := ks.filter (fun x => decide (x < k)) ++ [k] ++ ks.filter (fun x => decide (k < x))
def ksDel (ks : List Int) (k : Int) : List Int := ks.filter fun x => !(x == k)
def kM (T : MT IP) : List Int := keysM Prod.fst T
theorem kM_node (a : IP) (l r : MT IP) : kM (.node a l r) = kM l ++ [a.1] ++ kM r := rfl
def Up (ks : List Int) : Prop := ks.Pairwise (fun a b => a < b)
theorem up_node {a : IP} {l r : MT IP} (h : Up (kM (.node a l r))) : Up (kM l) ∧ Up (kM r) ∧ (∀ x ∈ kM l, x < a.1) ∧ ∀ x ∈ kM r, a.1 < x := by
  rw [kM_node] at h
  unfold Up at h
  rw [List.pairwise_append, List.pairwise_append] at h
  obtain ⟨⟨h1, _, h2⟩, h3, h4⟩ := h
  exact ⟨h1, h3, fun x hx => h2 x hx a.1 (by simp), fun x hx => h4 a.1 (by simp) x hx⟩
theorem filter_all {p : Int → Bool} {l : List Int} (h : ∀ x ∈ l, p x = true) : l.filter p = l := List.filter_eq_self.2 h
theorem filter_no {p : Int → Bool} {l : List Int} (h : ∀ x ∈ l, p x = false) : l.filter p = [] := List.filter_eq_nil_iff.2 fun x hx => by simp [h x hx]
theorem kM_ins : ∀ (T : MT IP) (p : IP), Up (kM T) → kM (ins T p) = ksIns (kM T) p.1
  | .nil, p, _ => rfl
  | .node a l r, p, h => by
    obtain ⟨h1, h2, h3, h4⟩ := up_node h
    have ihl := kM_ins l p h1
    have ihr := kM_ins r p h2
    rw [ins, kM_node a l r]
    unfold ksIns at ihl ihr ⊢
    by_cases hlt : p.1 < a.1
    · rw [if_pos hlt, kM_node, ihl]
      have e1 : (kM r).filter (fun x => decide (x < p.1)) = [] := filter_no fun x hx => by have := h4 x hx; simp; omega
      have e2 : (kM r).filter (fun x => decide (p.1 < x)) = kM r := filter_all fun x hx => by have := h4 x hx; simp; omega
      simp [List.filter_append, List.filter_cons, e1, e2, hlt, show ¬ a.1 < p.1 by omega]
    · rw [if_neg hlt]
      by_cases hgt : a.1 < p.1
      · rw [if_pos hgt, kM_node, ihr]
        have e1 : (kM l).filter (fun x => decide (x < p.1)) = kM l := filter_all fun x hx => by have := h3 x hx; simp; omega
        have e2 : (kM l).filter (fun x => decide (p.1 < x)) = [] := filter_no fun x hx => by have := h3 x hx; simp; omega
        simp [List.filter_append, List.filter_cons, e1, e2, hlt, hgt]
      · rw [if_neg hgt, kM_node]
        have he : a.1 = p.1 := by omega
        have e1 : (kM l).filter (fun x => decide (x < p.1)) = kM l := filter_all fun x hx => by have := h3 x hx; simp; omega
        have e2 : (kM l).filter (fun x => decide (p.1 < x)) = [] := filter_no fun x hx => by have := h3 x hx; simp; omega
        have e3 : (kM r).filter (fun x => decide (x < p.1)) = [] := filter_no fun x hx => by have := h4 x hx; simp; omega
        have e4 : (kM r).filter (fun x => decide (p.1 < x)) = kM r := filter_all fun x hx => by have := h4 x hx; simp; omega
        simp [List.filter_append, List.filter_cons, e1, e2, e3, e4, he]
theorem kM_delMin : ∀ (a : IP) (l r : MT IP), kM (.node a l r) = (minA (.node a l r)).1 :: kM (delMin (.node a l r))
  | a, .nil, r => by simp [kM_node, minA, delMin]; rfl
  | a, .node b x y, r => by
    have ih := kM_delMin b x y
    rw [kM_node a, ih, minA, delMin, kM_node]
    simp
theorem kM_delTop (l r : MT IP) : kM (delTop l r) = kM l ++ kM r := by
  cases l with
  | nil => rfl
  | node a x y =>
    cases r with
    | nil => simp [delTop]; rfl
    | node b u v => rw [delTop_nn, kM_node (minA _), kM_delMin b u v]; simp
theorem kM_del : ∀ (T : MT IP) (k : Int), Up (kM T) → kM (del T k) = ksDel (kM T) k
  | .nil, k, _ => rfl
  | .node a l r, k, h => by
    obtain ⟨h1, h2, h3, h4⟩ := up_node h
    have ihl := kM_del l k h1
    have ihr := kM_del r k h2
    rw [del, kM_node a l r]
    unfold ksDel at ihl ihr ⊢
    by_cases hlt : k < a.1
    · rw [if_pos hlt, kM_node, ihl]
      have e1 : (kM r).filter (fun x => !(x == k)) = kM r := filter_all fun x hx => by have := h4 x hx; simp; omega
      simp [List.filter_append, List.filter_cons, e1, show ¬ a.1 = k by omega]
    · rw [if_neg hlt]
      by_cases hgt : a.1 < k
      · rw [if_pos hgt, kM_node, ihr]
        have e1 : (kM l).filter (fun x => !(x == k)) = kM l := filter_all fun x hx => by have := h3 x hx; simp; omega
        simp [List.filter_append, List.filter_cons, e1, show ¬ a.1 = k by omega]
      · rw [if_neg hgt, kM_delTop]
        have he : a.1 = k := by omega
        have e1 : (kM l).filter (fun x => !(x == k)) = kM l := filter_all fun x hx => by have := h3 x hx; simp; omega
        have e2 : (kM r).filter (fun x => !(x == k)) = kM r := filter_all fun x hx => by have := h4 x hx; simp; omega
        simp [List.filter_append, List.filter_cons, e1, e2, he]
theorem up_ins {ks : List Int} (h : Up ks) (k : Int) : Up (ksIns ks k) := by
  unfold Up ksIns at *
  rw [List.pairwise_append, List.pairwise_append]
  refine ⟨⟨h.filter _, by simp, fun x hx y hy => ?_⟩, h.filter _, fun x hx y hy => ?_⟩
  · simp at hx hy; omega
  · simp only [List.mem_append, List.mem_filter, List.mem_singleton, decide_eq_true_eq] at hx hy
    rcases hx with ⟨_, hx⟩ | hx <;> omega
theorem up_del {ks : List Int} (h : Up ks) (k : Int) : Up (ksDel ks k) := h.filter _
/-- One op: what it does to the keys of the list. -/
theorem doA_keys (l : List IP) (kind key val : Int) (h : mapRight l = 0) :
    (doA l kind key val).1.map Prod.fst = if (doA l kind key val).2.err ≠ 0 then l.map Prod.fst else if kind = 1 then ksIns (l.map Prod.fst) key else if kind = 3 then ksDel (l.map Prod.fst) key else l.map Prod.fst := by
  have hr := rise_of h
  rw [doA, if_pos h, doL]
  by_cases hb : ¬ (1 ≤ kind ∧ kind ≤ 7) ∨ (kind ≤ 5 ∧ ¬ (0 ≤ key ∧ key ≤ 1000000))
  · rw [if_pos hb]; simp
  · rw [if_neg hb]
    obtain ⟨T, M, D, hl, htd, hT, hD, hM⟩ := td_of l hr key
    have eT1 : (T.map Prod.fst).filter (fun x => decide (x < key)) = T.map Prod.fst := filter_all fun x hx => by obtain ⟨p, hp, rfl⟩ := List.mem_map.1 hx; have := htd.lt p hp; simp; omega
    have eT2 : (T.map Prod.fst).filter (fun x => decide (key < x)) = [] := filter_no fun x hx => by obtain ⟨p, hp, rfl⟩ := List.mem_map.1 hx; have := htd.lt p hp; simp; omega
    have eD1 : (D.map Prod.fst).filter (fun x => decide (x < key)) = [] := filter_no fun x hx => by obtain ⟨p, hp, rfl⟩ := List.mem_map.1 hx; have := htd.gt p hp; simp; omega
    have eD2 : (D.map Prod.fst).filter (fun x => decide (key < x)) = D.map Prod.fst := filter_all fun x hx => by obtain ⟨p, hp, rfl⟩ := List.mem_map.1 hx; have := htd.gt p hp; simp; omega
    have eT3 : (T.map Prod.fst).filter (fun x => !(x == key)) = T.map Prod.fst := filter_all fun x hx => by obtain ⟨p, hp, rfl⟩ := List.mem_map.1 hx; have := htd.lt p hp; simp; omega
    have eD3 : (D.map Prod.fst).filter (fun x => !(x == key)) = D.map Prod.fst := filter_all fun x hx => by obtain ⟨p, hp, rfl⟩ := List.mem_map.1 hx; have := htd.gt p hp; simp; omega
    by_cases k1 : kind = 1
    · rw [if_pos k1]
      rcases hM with rfl | ⟨u, rfl⟩
      · rw [List.append_nil] at hl
        rw [hl, htd.put_no]
        by_cases h2 : (T ++ D).length = 200
        · rw [if_pos h2]; simp
        · rw [if_neg h2]
          simp only [ne_eq, not_true_eq_false, if_false]
          rw [if_pos k1]
          simp [ksIns, List.filter_append, eT1, eT2, eD1, eD2]
      · rw [hl, htd.put_one]
        simp only [ne_eq, not_true_eq_false, if_false]
        rw [if_pos k1]
        simp [ksIns, List.filter_append, List.filter_cons, eT1, eT2, eD1, eD2]
    · rw [if_neg k1]
      by_cases k2 : kind = 2
      · rw [if_pos k2]
        have h3 : ¬ kind = 3 := by omega
        simp only
        rw [if_neg k1, if_neg h3]
        split <;> rfl
      · rw [if_neg k2]
        by_cases k3 : kind = 3
        · rw [if_pos k3]
          have hc : (if hasKey l key = true then (l.take (below l key) ++ l.drop (below l key + 1), (⟨0, 0, gv l (below l key), true⟩ : An)) else (l, ⟨0, 0, 0, false⟩)) = cutL l key := rfl
          rw [hc]
          rcases hM with rfl | ⟨u, rfl⟩
          · rw [List.append_nil] at hl
            rw [hl, htd.cut_no]
            simp only [ne_eq, not_true_eq_false, if_false]
            rw [if_neg k1, if_pos k3]
            simp [ksDel, List.filter_append, eT3, eD3]
          · rw [hl, htd.cut_one]
            simp only [ne_eq, not_true_eq_false, if_false]
            rw [if_neg k1, if_pos k3]
            simp [ksDel, List.filter_append, List.filter_cons, eT3, eD3]
        · rw [if_neg k3]
          have hno : ∀ a : An, (if a.err ≠ 0 then l.map Prod.fst else if kind = 1 then ksIns (l.map Prod.fst) key else if kind = 3 then ksDel (l.map Prod.fst) key else l.map Prod.fst) = l.map Prod.fst := fun a => by
            rw [if_neg k1, if_neg k3]; split <;> rfl
          by_cases k4 : kind = 4
          · rw [if_pos k4]; exact (hno _).symm
          · rw [if_neg k4]
            by_cases k5 : kind = 5
            · rw [if_pos k5]; exact (hno _).symm
            · rw [if_neg k5]
              by_cases k6 : kind = 6
              · rw [if_pos k6]; exact (hno _).symm
              · rw [if_neg k6]; exact (hno _).symm
theorem kM_growS (T : MT IP) (o : O3) (a : An) (h : Up (kM T)) : kM (growS T o a) = if a.err ≠ 0 then kM T else if o.1 = 1 then ksIns (kM T) o.2.1 else if o.1 = 3 then ksDel (kM T) o.2.1 else kM T := by
  unfold growS
  split
  · rfl
  · split
    · exact kM_ins T _ h
    · split
      · exact kM_del T _ h
      · rfl
theorem runL_ans (ops : List O3) (k : Nat) (hk : k < ops.length) : ∀ m, k < m → m ≤ ops.length → ∀ h : k < (runL (ops.take m)).2.length, (runL (ops.take m)).2[k] = (doA (runL (ops.take k)).1 ops[k].1 ops[k].2.1 ops[k].2.2).2 := by
  intro m
  induction m with
  | zero => intro h; omega
  | succ m ih =>
    intro h1 h2 h
    have hl := runL_len ops m (by omega)
    have e : (runL (ops.take (m + 1))).2 = (runL (ops.take m)).2 ++ [(doA (runL (ops.take m)).1 ops[m].1 ops[m].2.1 ops[m].2.2).2] := by rw [runL_take ops m (by omega)]; rfl
    rcases Nat.lt_or_ge k m with h3 | h3
    · have := ih h3 (by omega) (by omega)
      simp only [e]
      rw [List.getElem_append_left (by omega)]
      exact this
    · have : k = m := by omega
      subst this
      simp only [e]
      rw [List.getElem_append_right (by omega)]
      simp [hl]
/-- Op by op: the keys of the tree are the keys of the list, and they rise. -/
theorem grow_keys (ops : List O3) : ∀ k, k ≤ ops.length → kM (growT ((opsZ ops).take k)) = (runL (ops.take k)).1.map Prod.fst ∧ Up (kM (growT ((opsZ ops).take k))) := by
  have hal := runL_len ops ops.length (Nat.le_refl _)
  rw [List.take_length] at hal
  have hzl : (opsZ ops).length = ops.length := by rw [opsZ, List.length_zip, hal]; omega
  intro k
  induction k with
  | zero => intro _; exact ⟨rfl, .nil⟩
  | succ k ih =>
    intro hk
    obtain ⟨h1, h2⟩ := ih (by omega)
    have hz : (opsZ ops)[k]'(by omega) = (ops[k], (runL ops).2[k]'(by omega)) := by simp [opsZ]
    have ha := runL_ans ops k (by omega) ops.length (by omega) (Nat.le_refl _)
    simp only [List.take_length] at ha
    have ha' := ha (by omega)
    have hr := runL_right ops k (by omega)
    have hd := doA_keys (runL (ops.take k)).1 ops[k].1 ops[k].2.1 ops[k].2.2 hr
    have hs := kM_growS (growT ((opsZ ops).take k)) ops[k] ((runL ops).2[k]'(by omega)) h2
    have e1 : kM (growT ((opsZ ops).take (k + 1))) = (runL (ops.take (k + 1))).1.map Prod.fst := by
      rw [growT_snoc _ k (by omega), hz]
      simp only
      rw [hs, runL_take ops k (by omega), runS]
      simp only
      rw [hd, ha', h1]
    refine ⟨e1, ?_⟩
    rw [growT_snoc _ k (by omega), hz]
    simp only
    rw [hs]
    split
    · exact h2
    · split
      · exact up_ins h2 _
      · split
        · exact up_del h2 _
        · exact h2
theorem grow_right (ops : List O3) : (parOf ((growT (opsZ ops)).spotsBy Prod.fst 0)).2 = 0 ∧ ((growT (opsZ ops)).spotsBy Prod.fst 0).map Prod.fst = (runL ops).1.map Prod.fst := by
  have hal := runL_len ops ops.length (Nat.le_refl _)
  rw [List.take_length] at hal
  have hzl : (opsZ ops).length = ops.length := by rw [opsZ, List.length_zip, hal]; omega
  have h := grow_keys ops ops.length (Nat.le_refl _)
  have hr := runL_right ops ops.length (Nat.le_refl _)
  rw [List.take_of_length_le (show (opsZ ops).length ≤ ops.length by omega)] at h
  rw [List.take_length] at h hr
  obtain ⟨h1, h2⟩ := h
  obtain ⟨r1, r2, r3⟩ := (mapRight_iff _).1 hr
  refine ⟨?_, by rw [spotsBy_keys]; exact h1⟩
  rw [spotsBy_right Prod.fst _ ?_ h2 ?_]
  · rw [← keysM_len Prod.fst]
    have : (kM (growT (opsZ ops))).length ≤ 200 := by rw [h1]; simpa using r1
    exact this
  · intro x hx
    have hx' : x ∈ kM (growT (opsZ ops)) := hx
    rw [h1] at hx'
    obtain ⟨p, hp, rfl⟩ := List.mem_map.1 hx'
    exact r3 p hp
end Go.Proofs.Ytnallpdmdhbidaa
