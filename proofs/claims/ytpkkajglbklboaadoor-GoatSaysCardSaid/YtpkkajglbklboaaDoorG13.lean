/-
  Plain laws: op by op the tree has just the keys of the list. No program. Conditions: none.
  The tree that is built anew where it is too deep: plain words and laws. No program. Conditions: none.
  Laws of the tree that is built anew: its keys, how deep it is, how much was built. No program. Conditions: none.
-/
import Derived.Test.YtpkkajglbklboaaDoorG8
import Derived.Test.YtpkkajglbklboaaDoorG12

namespace Go.Proofs.YtpkkajglbklboaaDoor
open Go.ChangeShapes Go.WideShapes Go.ChangeAt Go.RowKit
set_option linter.unusedVariables false
set_option linter.unusedSimpArgs false

def ksIns (ks : List Int) (k : Int) : List Int := ks.filter (fun x => decide (x < k)) ++ [k] ++ ks.filter (fun x => decide (k < x))
def ksDel (ks : List Int) (k : Int) : List Int := ks.filter fun x => !(x == k)
def kM (T : MT IP) : List Int := keysM Prod.fst T
theorem kM_node (a : IP) (l r : MT IP) : kM (.node a l r) = kM l ++ [a.1] ++ kM r := rfl
def Up (ks : List Int) : Prop := ks.Pairwise (fun a b => a < b)
theorem up_node {a : IP} {l r : MT IP} (h : Up (kM (.node a l r))) : Up (kM l) ∧ Up (kM r) ∧ (∀ x ∈ kM l, x < a.1) ∧ ∀ x ∈ kM r, a.1 < x := by
  rw [kM_node] at h
  unfold Up at h
  rw [List.pairwise_append, List.pairwise_append] at h
  obtain ⟨⟨h1, _, h2⟩, h3, h4⟩ := h
  exact ⟨h1, h3, fun x hx => h2 x hx a.1 (by simp), fun x hx => h4 a.1 (by simp) x hx⟩
theorem filter_all {p : Int → Bool} {l : List Int} (h : ∀ x ∈ l, p x = true) : l.filter p = l := List.filter_eq_self.2 h
theorem filter_no {p : Int → Bool} {l : List Int} (h : ∀ x ∈ l, p x = false) : l.filter p = [] := List.filter_eq_nil_iff.2 fun x hx => by simp [h x hx]
theorem kM_ins : ∀ (T : MT IP) (p : IP), Up (kM T) → kM (ins T p) = ksIns (kM T) p.1
  | .nil, p, _ => rfl
  | .node a l r, p, h => by
    obtain ⟨h1, h2, h3, h4⟩ := up_node h
    have ihl := kM_ins l p h1
    have ihr := kM_ins r p h2
    rw [ins, kM_node a l r]
    unfold ksIns at ihl ihr ⊢
    by_cases hlt : p.1 < a.1
    · rw [if_pos hlt, kM_node, ihl]
      have e1 : (kM r).filter (fun x => decide (x < p.1)) = [] := filter_no fun x hx => by have := h4 x hx; simp; omega
      have e2 : (kM r).filter (fun x => decide (p.1 < x)) = kM r := filter_all fun x hx => by have := h4 x hx; simp; omega
      simp [List.filter_append, List.filter_cons, e1, e2, hlt, show ¬ a.1 < p.1 by omega]
    · rw [if_neg hlt]
      by_cases hgt : a.1 < p.1
      · rw [if_pos hgt, kM_node, ihr]
        have e1 : (kM l).filter (fun x => decide (x < p.1)) = kM l := filter_all fun x hx => by have := h3 x hx; simp; omega
        have e2 : (kM l).filter (fun x => decide (p.1 < x)) = [] := filter_no fun x hx => by have := h3 x hx; simp; omega
        simp [List.filter_append, List.filter_cons, e1, e2, hlt, hgt]
      · rw [if_neg hgt, kM_node]
        have he : a.1 = p.1 := by omega
        have e1 : (kM l).filter (fun x => decide (x < p.1)) = kM l := filter_all fun x hx => by have := h3 x hx; simp; omega
        have e2 : (kM l).filter (fun x => decide (p.1 < x)) = [] := filter_no fun x hx => by have := h3 x hx; simp; omega
        have e3 : (kM r).filter (fun x => decide (x < p.1)) = [] := filter_no fun x hx => by have := h4 x hx; simp; omega
        have e4 : (kM r).filter (fun x => decide (p.1 < x)) = kM r := filter_all fun x hx => by have := h4 x hx; simp; omega
        simp [List.filter_append, List.filter_cons, e1, e2, e3, e4, he]
theorem kM_delMin : ∀ (a : IP) (l r : MT IP), kM (.node a l r) = (minA (.node a l r)).1 :: kM (delMin (.node a l r))
  | a, .nil, r => by simp [kM_node, minA, delMin]; rfl
  | a, .node b x y, r => by
    have ih := kM_delMin b x y
    rw [kM_node a, ih, minA, delMin, kM_node]
    simp
theorem kM_delTop (l r : MT IP) : kM (delTop l r) = kM l ++ kM r := by
  cases l with
  | nil => rfl
  | node a x y =>
    cases r with
    | nil => simp [delTop]; rfl
    | node b u v => rw [delTop_nn, kM_node (minA _), kM_delMin b u v]; simp
theorem kM_del : ∀ (T : MT IP) (k : Int), Up (kM T) → kM (del T k) = ksDel (kM T) k
  | .nil, k, _ => rfl
  | .node a l r, k, h => by
    obtain ⟨h1, h2, h3, h4⟩ := up_node h
    have ihl := kM_del l k h1
    have ihr := kM_del r k h2
    rw [del, kM_node a l r]
    unfold ksDel at ihl ihr ⊢
    by_cases hlt : k < a.1
    · rw [if_pos hlt, kM_node, ihl]
      have e1 : (kM r).filter (fun x => !(x == k)) = kM r := filter_all fun x hx => by have := h4 x hx; simp; omega
      simp [List.filter_append, List.filter_cons, e1, show ¬ a.1 = k by omega]
    · rw [if_neg hlt]
      by_cases hgt : a.1 < k
      · rw [if_pos hgt, kM_node, ihr]
        have e1 : (kM l).filter (fun x => !(x == k)) = kM l := filter_all fun x hx => by have := h3 x hx; simp; omega
        simp [List.filter_append, List.filter_cons, e1, show ¬ a.1 = k by omega]
      · rw [if_neg hgt, kM_delTop]
        have he : a.1 = k := by omega
        have e1 : (kM l).filter (fun x => !(x == k)) = kM l := filter_all fun x hx => by have := h3 x hx; simp; omega
        have e2 : (kM r).filter (fun x => !(x == k)) = kM r := filter_all fun x hx => by have := h4 x hx; simp; omega
        simp [List.filter_append, List.filter_cons, e1, e2, he]
theorem up_ins {ks : List Int} (h : Up ks) (k : Int) : Up (ksIns ks k) := by
  unfold Up ksIns at *
  rw [List.pairwise_append, List.pairwise_append]
  refine ⟨⟨h.filter _, by simp, fun x hx y hy => ?_⟩, h.filter _, fun x hx y hy => ?_⟩
  · simp at hx hy; omega
  · simp only [List.mem_append, List.mem_filter, List.mem_singleton, decide_eq_true_eq] at hx hy
    rcases hx with ⟨_, hx⟩ | hx <;> omega
theorem up_del {ks : List Int} (h : Up ks) (k : Int) : Up (ksDel ks k) := h.filter _
/-- One op: what it does to the keys of the list. -/
theorem doA_keys (l : List IP) (kind key val : Int) (h : mapRight l = 0) :
    (doA l kind key val).1.map Prod.fst = if (doA l kind key val).2.err ≠ 0 then l.map Prod.fst else if kind = 1 then ksIns (l.map Prod.fst) key else if kind = 3 then ksDel (l.map Prod.fst) key else l.map Prod.fst := by
  have hr := rise_of h
  rw [doA, if_pos h, doL]
  by_cases hb : ¬ (1 ≤ kind ∧ kind ≤ 7) ∨ (kind ≤ 5 ∧ ¬ (0 ≤ key ∧ key ≤ 1000000))
  · rw [if_pos hb]; simp
  · rw [if_neg hb]
    obtain ⟨T, M, D, hl, htd, hT, hD, hM⟩ := td_of l hr key
    have eT1 : (T.map Prod.fst).filter (fun x => decide (x < key)) = T.map Prod.fst := filter_all fun x hx => by obtain ⟨p, hp, rfl⟩ := List.mem_map.1 hx; have := htd.lt p hp; simp; omega
    have eT2 : (T.map Prod.fst).filter (fun x => decide (key < x)) = [] := filter_no fun x hx => by obtain ⟨p, hp, rfl⟩ := List.mem_map.1 hx; have := htd.lt p hp; simp; omega
    have eD1 : (D.map Prod.fst).filter (fun x => decide (x < key)) = [] := filter_no fun x hx => by obtain ⟨p, hp, rfl⟩ := List.mem_map.1 hx; have := htd.gt p hp; simp; omega
    have eD2 : (D.map Prod.fst).filter (fun x => decide (key < x)) = D.map Prod.fst := filter_all fun x hx => by obtain ⟨p, hp, rfl⟩ := List.mem_map.1 hx; have := htd.gt p hp; simp; omega
    have eT3 : (T.map Prod.fst).filter (fun x => !(x == key)) = T.map Prod.fst := filter_all fun x hx => by obtain ⟨p, hp, rfl⟩ := List.mem_map.1 hx; have := htd.lt p hp; simp; omega
    have eD3 : (D.map Prod.fst).filter (fun x => !(x == key)) = D.map Prod.fst := filter_all fun x hx => by obtain ⟨p, hp, rfl⟩ := List.mem_map.1 hx; have := htd.gt p hp; simp; omega
    by_cases k1 : kind = 1
    · rw [if_pos k1]
      rcases hM with rfl | ⟨u, rfl⟩
      · rw [List.append_nil] at hl
        rw [hl, htd.put_no]
        by_cases h2 : (T ++ D).length = 200
        · rw [if_pos h2]; simp
        · rw [if_neg h2]
          simp only [ne_eq, not_true_eq_false, if_false]
          rw [if_pos k1]
          simp [ksIns, List.filter_append, eT1, eT2, eD1, eD2]
      · rw [hl, htd.put_one]
        simp only [ne_eq, not_true_eq_false, if_false]
        rw [if_pos k1]
        simp [ksIns, List.filter_append, List.filter_cons, eT1, eT2, eD1, eD2]
    · rw [if_neg k1]
      by_cases k2 : kind = 2
      · rw [if_pos k2]
        have h3 : ¬ kind = 3 := by omega
        simp only
        rw [if_neg k1, if_neg h3]
        split <;> rfl
      · rw [if_neg k2]
        by_cases k3 : kind = 3
        · rw [if_pos k3]
          have hc : (if hasKey l key = true then (l.take (below l key) ++ l.drop (below l key + 1), (⟨0, 0, gv l (below l key), true⟩ : An)) else (l, ⟨0, 0, 0, false⟩)) = cutL l key := rfl
          rw [hc]
          rcases hM with rfl | ⟨u, rfl⟩
          · rw [List.append_nil] at hl
            rw [hl, htd.cut_no]
            simp only [ne_eq, not_true_eq_false, if_false]
            rw [if_neg k1, if_pos k3]
            simp [ksDel, List.filter_append, eT3, eD3]
          · rw [hl, htd.cut_one]
            simp only [ne_eq, not_true_eq_false, if_false]
            rw [if_neg k1, if_pos k3]
            simp [ksDel, List.filter_append, List.filter_cons, eT3, eD3]
        · rw [if_neg k3]
          have hno : ∀ a : An, (if a.err ≠ 0 then l.map Prod.fst else if kind = 1 then ksIns (l.map Prod.fst) key else if kind = 3 then ksDel (l.map Prod.fst) key else l.map Prod.fst) = l.map Prod.fst := fun a => by
            rw [if_neg k1, if_neg k3]; split <;> rfl
          by_cases k4 : kind = 4
          · rw [if_pos k4]; exact (hno _).symm
          · rw [if_neg k4]
            by_cases k5 : kind = 5
            · rw [if_pos k5]; exact (hno _).symm
            · rw [if_neg k5]
              by_cases k6 : kind = 6
              · rw [if_pos k6]; exact (hno _).symm
              · rw [if_neg k6]; exact (hno _).symm
theorem kM_growS (T : MT IP) (o : O3) (a : An) (h : Up (kM T)) : kM (growS T o a) = if a.err ≠ 0 then kM T else if o.1 = 1 then ksIns (kM T) o.2.1 else if o.1 = 3 then ksDel (kM T) o.2.1 else kM T := by
  unfold growS
  split
  · rfl
  · split
    · exact kM_ins T _ h
    · split
      · exact kM_del T _ h
      · rfl
theorem runL_ans (ops : List O3) (k : Nat) (hk : k < ops.length) : ∀ m, k < m → m ≤ ops.length → ∀ h : k < (runL (ops.take m)).2.length, (runL (ops.take m)).2[k] = (doA (runL (ops.take k)).1 ops[k].1 ops[k].2.1 ops[k].2.2).2 := by
  intro m
  induction m with
  | zero => intro h; omega
  | succ m ih =>
    intro h1 h2 h
    have hl := runL_len ops m (by omega)
    have e : (runL (ops.take (m + 1))).2 = (runL (ops.take m)).2 ++ [(doA (runL (ops.take m)).1 ops[m].1 ops[m].2.1 ops[m].2.2).2] := by rw [runL_take ops m (by omega)]; rfl
    rcases Nat.lt_or_ge k m with h3 | h3
    · have := ih h3 (by omega) (by omega)
      simp only [e]
      rw [List.getElem_append_left (by omega)]
      exact this
    · have : k = m := by omega
      subst this
      simp only [e]
      rw [List.getElem_append_right (by omega)]
      simp [hl]
/-- Op by op: the keys of the tree are the keys of the list, and they rise. -/
theorem grow_keys (ops : List O3) : ∀ k, k ≤ ops.length → kM (growT ((opsZ ops).take k)) = (runL (ops.take k)).1.map Prod.fst ∧ Up (kM (growT ((opsZ ops).take k))) := by
  have hal := runL_len ops ops.length (Nat.le_refl _)
  rw [List.take_length] at hal
  have hzl : (opsZ ops).length = ops.length := by rw [opsZ, List.length_zip, hal]; omega
  intro k
  induction k with
  | zero => intro _; exact ⟨rfl, .nil⟩
  | succ k ih =>
    intro hk
    obtain ⟨h1, h2⟩ := ih (by omega)
    have hz : (opsZ ops)[k]'(by omega) = (ops[k], (runL ops).2[k]'(by omega)) := by simp [opsZ]
    have ha := runL_ans ops k (by omega) ops.length (by omega) (Nat.le_refl _)
    simp only [List.take_length] at ha
    have ha' := ha (by omega)
    have hr := runL_right ops k (by omega)
    have hd := doA_keys (runL (ops.take k)).1 ops[k].1 ops[k].2.1 ops[k].2.2 hr
    have hs := kM_growS (growT ((opsZ ops).take k)) ops[k] ((runL ops).2[k]'(by omega)) h2
    have e1 : kM (growT ((opsZ ops).take (k + 1))) = (runL (ops.take (k + 1))).1.map Prod.fst := by
      rw [growT_snoc _ k (by omega), hz]
      simp only
      rw [hs, runL_take ops k (by omega), runS]
      simp only
      rw [hd, ha', h1]
    refine ⟨e1, ?_⟩
    rw [growT_snoc _ k (by omega), hz]
    simp only
    rw [hs]
    split
    · exact h2
    · split
      · exact up_ins h2 _
      · split
        · exact up_del h2 _
        · exact h2
theorem grow_right (ops : List O3) : (parOf ((growT (opsZ ops)).spotsBy Prod.fst 0)).2 = 0 ∧ ((growT (opsZ ops)).spotsBy Prod.fst 0).map Prod.fst = (runL ops).1.map Prod.fst := by
  have hal := runL_len ops ops.length (Nat.le_refl _)
  rw [List.take_length] at hal
  have hzl : (opsZ ops).length = ops.length := by rw [opsZ, List.length_zip, hal]; omega
  have h := grow_keys ops ops.length (Nat.le_refl _)
  have hr := runL_right ops ops.length (Nat.le_refl _)
  rw [List.take_of_length_le (show (opsZ ops).length ≤ ops.length by omega)] at h
  rw [List.take_length] at h hr
  obtain ⟨h1, h2⟩ := h
  obtain ⟨r1, r2, r3⟩ := (mapRight_iff _).1 hr
  refine ⟨?_, by rw [spotsBy_keys]; exact h1⟩
  rw [spotsBy_right Prod.fst _ ?_ h2 ?_]
  · rw [← keysM_len Prod.fst]
    have : (kM (growT (opsZ ops))).length ≤ 200 := by rw [h1]; simpa using r1
    exact this
  · intro x hx
    have hx' : x ∈ kM (growT (opsZ ops)) := hx
    rw [h1] at hx'
    obtain ⟨p, hp, rfl⟩ := List.mem_map.1 hx'
    exact r3 p hp
end Go.Proofs.YtpkkajglbklboaaDoor
namespace Go.Proofs.YtpkkajglbklboaaDoor
open Go.ChangeShapes Go.WideShapes Go.ChangeAt Go.RowKit
set_option linter.unusedVariables false
set_option linter.unusedSimpArgs false

/-- The even tree of keys. -/
def evenT (l : List Int) : MT IP :=
  if h : l = [] then .nil
  else .node (l[l.length / 2]'(by have := List.length_pos_iff.2 h; omega), 0) (evenT (l.take (l.length / 2))) (evenT (l.drop (l.length / 2 + 1)))
termination_by l.length
decreasing_by
  · have := List.length_pos_iff.2 h; simp; omega
  · have := List.length_pos_iff.2 h; simp; omega
theorem evenT_nil : evenT [] = .nil := by rw [evenT]; simp
theorem evenT_cons (l : List Int) (h : 0 < l.length) : evenT l = .node (l[l.length / 2]'(by omega), 0) (evenT (l.take (l.length / 2))) (evenT (l.drop (l.length / 2 + 1))) := by
  have hn : l ≠ [] := List.length_pos_iff.1 h
  rw [evenT, dif_neg hn]
theorem half_ind {P : List Int → Prop} (h0 : P []) (h1 : ∀ l : List Int, 0 < l.length → P (l.take (l.length / 2)) → P (l.drop (l.length / 2 + 1)) → P l) : ∀ l, P l := by
  intro l
  obtain ⟨n, hn⟩ : ∃ n, n = l.length := ⟨_, rfl⟩
  induction n using Nat.strongRecOn generalizing l with
  | ind n ih =>
    by_cases h : 0 < l.length
    · exact h1 l h (ih (l.take (l.length / 2)).length (by simp; omega) _ rfl) (ih (l.drop (l.length / 2 + 1)).length (by simp; omega) _ rfl)
    · have : l = [] := List.eq_nil_of_length_eq_zero (by omega)
      subst this; exact h0
theorem evenT_keys : ∀ l, kM (evenT l) = l := half_ind (by rw [evenT_nil]; rfl) fun l h i1 i2 => by
  rw [evenT_cons l h, kM_node, i1, i2]
  conv => rhs; rw [← List.take_append_drop (l.length / 2) l, List.drop_eq_getElem_cons (show l.length / 2 < l.length by omega)]
  simp
theorem kM_len (T : MT IP) : (kM T).length = T.size := by unfold kM; rw [keysM_len]
theorem evenT_size (l : List Int) : (evenT l).size = l.length := by rw [← kM_len, evenT_keys]
/-- How many rows. -/
def hT : MT IP → Nat
  | .nil => 0
  | .node _ l r => max (hT l) (hT r) + 1
theorem size_hT : ∀ T : MT IP, T.size + 1 ≤ 2 ^ hT T
  | .nil => by simp [MT.size, hT]
  | .node a l r => by
    have h1 := size_hT l
    have h2 := size_hT r
    have h3 : 2 ^ hT l ≤ 2 ^ (max (hT l) (hT r)) := Nat.pow_le_pow_right (by omega) (by omega)
    have h4 : 2 ^ hT r ≤ 2 ^ (max (hT l) (hT r)) := Nat.pow_le_pow_right (by omega) (by omega)
    simp only [MT.size, hT, Nat.pow_succ]
    omega
theorem evenT_h : ∀ l : List Int, l.length < 2 ^ hT (evenT l) ∧ (0 < l.length → 2 ^ (hT (evenT l) - 1) ≤ l.length) ∧ (l.length = 0 → hT (evenT l) = 0) := half_ind (by rw [evenT_nil]; simp [hT]) fun l h ⟨a1, a2, a3⟩ ⟨b1, b2, b3⟩ => by
  rw [evenT_cons l h]
  simp only [List.length_take, List.length_drop] at a1 a2 a3 b1 b2 b3
  rw [Nat.min_eq_left (by omega)] at a1 a2 a3
  obtain ⟨x, hx⟩ : ∃ x, x = hT (evenT (l.take (l.length / 2))) := ⟨_, rfl⟩
  obtain ⟨y, hy⟩ : ∃ y, y = hT (evenT (l.drop (l.length / 2 + 1))) := ⟨_, rfl⟩
  rw [← hx] at a1 a2 a3
  rw [← hy] at b1 b2 b3
  have hyx : y ≤ x := by
    rcases Nat.lt_or_ge x y with h1 | h1
    · exfalso
      have h2 : 0 < l.length - (l.length / 2 + 1) := by
        rcases Nat.eq_zero_or_pos (l.length - (l.length / 2 + 1)) with h3 | h3
        · have := b3 h3; omega
        · exact h3
      have h3 := b2 h2
      have h4 : 2 ^ x ≤ 2 ^ (y - 1) := Nat.pow_le_pow_right (by omega) (by omega)
      omega
    · exact h1
  simp only [hT]
  rw [← hx, ← hy, Nat.max_eq_left hyx, Nat.pow_succ]
  refine ⟨by omega, fun _ => ?_, fun h1 => by omega⟩
  rw [Nat.add_sub_cancel]
  rcases Nat.eq_zero_or_pos (l.length / 2) with h1 | h1
  · rw [a3 h1]; simp; omega
  · have h2 := a2 h1
    rcases Nat.eq_zero_or_pos x with h3 | h3
    · rw [h3]; simp; omega
    · have : 2 ^ x = 2 ^ (x - 1) * 2 := by rw [← Nat.pow_succ]; congr 1; omega
      omega

/-- How deep a tree of so many may be: the greatest d with (3/2)^d no more. -/
def deepL (n : Nat) : Nat → Nat → Nat
  | 0, d => d
  | f + 1, d => if 0 < n ∧ 3 ^ (d + 1) ≤ n * 2 ^ (d + 1) then deepL n f (d + 1) else d
def deepF (n : Nat) : Nat := deepL n 18 0
theorem pow_gap (n : Nat) (hn : n ≤ 1000) : ∀ k, n * 2 ^ (18 + k) < 3 ^ (18 + k)
  | 0 => by
    have : n * 2 ^ 18 ≤ 1000 * 2 ^ 18 := Nat.mul_le_mul_right _ hn
    have h2 : (1000 : Nat) * 2 ^ 18 < 3 ^ 18 := by decide +kernel
    exact Nat.lt_of_le_of_lt this h2
  | k + 1 => by
    have h := pow_gap n hn k
    rw [← Nat.add_assoc, Nat.pow_succ, Nat.pow_succ, ← Nat.mul_assoc]
    omega
theorem pow_mono (n : Nat) : ∀ d, n * 2 ^ d < 3 ^ d → n * 2 ^ (d + 1) < 3 ^ (d + 1) := fun d h => by
  rw [Nat.pow_succ, Nat.pow_succ, ← Nat.mul_assoc]; omega
theorem pow_mono_le (n : Nat) (d e : Nat) (hde : d ≤ e) (h : n * 2 ^ d < 3 ^ d) : n * 2 ^ e < 3 ^ e := by
  obtain ⟨k, rfl⟩ : ∃ k, e = d + k := ⟨e - d, by omega⟩
  induction k with
  | zero => exact h
  | succ k ih => exact pow_mono n (d + k) (ih (by omega))
theorem deepL_spec (n : Nat) (hp : 0 < n) (hn : n ≤ 1000) : ∀ f d, 18 ≤ f + d → 3 ^ d ≤ n * 2 ^ d → 3 ^ deepL n f d ≤ n * 2 ^ deepL n f d ∧ n * 2 ^ (deepL n f d + 1) < 3 ^ (deepL n f d + 1)
  | 0, d, h, hd => by
    have h1 := pow_gap n hn (d - 18)
    rw [show 18 + (d - 18) = d by omega] at h1
    omega
  | f + 1, d, h, hd => by
    unfold deepL
    by_cases hc : 0 < n ∧ 3 ^ (d + 1) ≤ n * 2 ^ (d + 1)
    · rw [if_pos hc]; exact deepL_spec n hp hn f (d + 1) (by omega) hc.2
    · rw [if_neg hc]
      refine ⟨hd, ?_⟩
      rcases Nat.lt_or_ge (n * 2 ^ (d + 1)) (3 ^ (d + 1)) with h1 | h1
      · exact h1
      · exact absurd ⟨hp, h1⟩ hc
theorem deepL_zero : ∀ f d, deepL 0 f d = d
  | 0, d => rfl
  | f + 1, d => by unfold deepL; rw [if_neg (by omega)]
theorem deepF_zero : deepF 0 = 0 := deepL_zero 18 0
theorem deepF_spec (n : Nat) (hp : 0 < n) (hn : n ≤ 1000) : 3 ^ deepF n ≤ n * 2 ^ deepF n ∧ n * 2 ^ (deepF n + 1) < 3 ^ (deepF n + 1) := deepL_spec n hp hn 18 0 (by omega) (by simp; omega)
/-- It is the greatest such. -/
theorem deepF_ge (n d : Nat) (hp : 0 < n) (hn : n ≤ 1000) (h : 3 ^ d ≤ n * 2 ^ d) : d ≤ deepF n := by
  rcases Nat.lt_or_ge (deepF n) d with h1 | h1
  · have := pow_mono_le n (deepF n + 1) d (by omega) (deepF_spec n hp hn).2
    omega
  · exact h1
theorem deepF_mono (m n : Nat) (hmn : m ≤ n) (hn : n ≤ 1000) : deepF m ≤ deepF n := by
  rcases Nat.eq_zero_or_pos m with h0 | h0
  · subst h0; rw [deepF_zero]; omega
  · refine deepF_ge n _ (by omega) hn (Nat.le_trans (deepF_spec m h0 (by omega)).1 (Nat.mul_le_mul_right _ hmn))
theorem deepF_lt (n : Nat) (hn : n ≤ 1000) : deepF n < 18 := by
  rcases Nat.eq_zero_or_pos n with h0 | h0
  · subst h0; rw [deepF_zero]; omega
  · have h1 := (deepF_spec n h0 hn).1
    rcases Nat.lt_or_ge (deepF n) 18 with h2 | h2
    · exact h2
    · have h3 := pow_gap n hn (deepF n - 18)
      rw [show 18 + (deepF n - 18) = deepF n by omega] at h3
      omega

/-- How many stand above the key's place. -/
def lenT : MT IP → Int → Nat
  | .nil, _ => 0
  | .node a l r, k => if k = a.1 then 0 else if k < a.1 then lenT l k + 1 else lenT r k + 1
def leans (l r : MT IP) : Bool := decide (2 * (l.size + r.size + 1) < 3 * max l.size r.size)
/-- The lowest part on the way to the key that leans, built anew; how many; is there one. -/
def fixT : MT IP → Int → MT IP × Nat × Bool
  | .nil, _ => (.nil, 0, false)
  | .node a l r, k =>
    if k = a.1 then (.node a l r, 0, false)
    else if k < a.1 then
      if (fixT l k).2.2 = true then (.node a (fixT l k).1 r, (fixT l k).2.1, true)
      else if leans l r = true then (evenT (kM (.node a l r)), l.size + r.size + 1, true) else (.node a l r, 0, false)
    else
      if (fixT r k).2.2 = true then (.node a l (fixT r k).1, (fixT r k).2.1, true)
      else if leans l r = true then (evenT (kM (.node a l r)), l.size + r.size + 1, true) else (.node a l r, 0, false)
theorem fixT_keys : ∀ (T : MT IP) (k : Int), kM (fixT T k).1 = kM T
  | .nil, k => rfl
  | .node a l r, k => by
    have h1 := fixT_keys l k
    have h2 := fixT_keys r k
    unfold fixT
    split
    · rfl
    · split
      · split
        · rw [kM_node, kM_node, h1]
        · split
          · rw [evenT_keys]
          · rfl
      · split
        · rw [kM_node, kM_node, h2]
        · split
          · rw [evenT_keys]
          · rfl
theorem fixT_size (T : MT IP) (k : Int) : (fixT T k).1.size = T.size := by rw [← kM_len, fixT_keys, kM_len]
/-- What the yard keeps: the tree, how many, the most, how many were built. -/
structure Gt where
  T : MT IP
  many : Nat
  most : Nat
  built : Nat
def Gt.put (S : Gt) (k : Int) : Gt :=
  if k ∈ kM S.T then S
  else if lenT S.T k ≤ deepF (max S.most (S.many + 1)) then ⟨ins S.T (k, 0), S.many + 1, max S.most (S.many + 1), S.built⟩
  else ⟨(fixT (ins S.T (k, 0)) k).1, S.many + 1, max S.most (S.many + 1), S.built + (fixT (ins S.T (k, 0)) k).2.1⟩
def Gt.cut (S : Gt) (k : Int) : Gt :=
  if k ∉ kM S.T then S
  else if 3 * (S.many - 1) < 2 * S.most then ⟨evenT (kM (del S.T k)), S.many - 1, S.many - 1, S.built + (S.many - 1)⟩
  else ⟨del S.T k, S.many - 1, S.most, S.built⟩
def gtS (S : Gt) (o : O3) (a : An) : Gt := if a.err ≠ 0 then S else if o.1 = 1 then S.put o.2.1 else if o.1 = 3 then S.cut o.2.1 else S
def gtT (z : List (O3 × An)) : Gt := z.foldl (fun S p => gtS S p.1 p.2) ⟨.nil, 0, 0, 0⟩
theorem gtT_snoc (z : List (O3 × An)) (k : Nat) (h : k < z.length) : gtT (z.take (k + 1)) = gtS (gtT (z.take k)) z[k].1 z[k].2 := by
  rw [List.take_succ_eq_append_getElem h, gtT, List.foldl_append]; rfl
end Go.Proofs.YtpkkajglbklboaaDoor
namespace Go.Proofs.YtpkkajglbklboaaDoor
open Go.ChangeShapes Go.WideShapes Go.ChangeAt Go.RowKit
set_option linter.unusedVariables false
set_option linter.unusedSimpArgs false

theorem ins_new_size : ∀ (T : MT IP) (k : Int), Up (kM T) → k ∉ kM T → (ins T (k, 0)).size = T.size + 1
  | .nil, k, _, _ => rfl
  | .node a l r, k, h, hn => by
    obtain ⟨h1, h2, h3, h4⟩ := up_node h
    rw [kM_node] at hn
    simp only [List.mem_append, List.mem_singleton, not_or] at hn
    unfold ins
    split
    · simp only [MT.size, ins_new_size l k h1 hn.1.1]; omega
    · split
      · simp only [MT.size, ins_new_size r k h2 hn.2]; omega
      · rename_i a1 a2; exact absurd (show k = a.1 by simp only at a1 a2; omega) hn.1.2
theorem ins_hT : ∀ (T : MT IP) (k : Int), hT (ins T (k, 0)) ≤ max (hT T) (lenT T k + 1)
  | .nil, k => by simp [ins, hT, lenT]
  | .node a l r, k => by
    have h1 := ins_hT l k
    have h2 := ins_hT r k
    unfold ins lenT
    simp only
    split
    · rw [if_neg (by omega)]; simp only [hT]; omega
    · split
      · rw [if_neg (by omega)]; simp only [hT]; omega
      · simp only [hT]; omega
theorem lenT_hT : ∀ (T : MT IP) (k : Int), lenT T k ≤ hT T
  | .nil, k => by simp [lenT]
  | .node a l r, k => by
    have h1 := lenT_hT l k
    have h2 := lenT_hT r k
    unfold lenT
    simp only [hT]
    split
    · omega
    · split <;> omega
theorem lenT_ins : ∀ (T : MT IP) (k : Int), k ∉ kM T → lenT (ins T (k, 0)) k = lenT T k
  | .nil, k, _ => by simp [ins, lenT]
  | .node a l r, k, hn => by
    rw [kM_node] at hn
    simp only [List.mem_append, List.mem_singleton, not_or] at hn
    unfold ins
    simp only
    split
    · rename_i h
      simp only [lenT, if_neg hn.1.2, if_pos h, lenT_ins l k hn.1.1]
    · rename_i h
      rw [if_pos (by omega)]
      simp only [lenT, if_neg hn.1.2, if_neg h, lenT_ins r k hn.2]
/-- Where none leans the key is not deep. -/
theorem fixT_none : ∀ (T : MT IP) (k : Int), Up (kM T) → k ∈ kM T → (fixT T k).2.2 = false → 3 ^ lenT T k ≤ T.size * 2 ^ lenT T k
  | .nil, k, _, hk, _ => by cases hk
  | .node a l r, k, h, hk, hf => by
    obtain ⟨h1, h2, h3, h4⟩ := up_node h
    rw [kM_node] at hk
    simp only [List.mem_append, List.mem_singleton] at hk
    unfold fixT at hf
    unfold lenT
    by_cases hka : k = a.1
    · rw [if_pos hka]; simp [MT.size]; omega
    · rw [if_neg hka] at hf ⊢
      by_cases hlt : k < a.1
      · rw [if_pos hlt] at hf ⊢
        split at hf
        · simp at hf
        · rename_i hl
          split at hf
          · simp at hf
          · rename_i hb
            have hkl : k ∈ kM l := by
              rcases hk with (hk | hk) | hk
              · exact hk
              · exact absurd hk hka
              · have := h4 k hk; omega
            have ih := fixT_none l k h1 hkl (by simpa using hl)
            simp only [leans, decide_eq_true_eq, Nat.not_lt] at hb
            have hs : 3 * l.size ≤ 2 * (l.size + r.size + 1) := by omega
            simp only [MT.size, Nat.pow_succ]
            have e1 : 3 ^ lenT l k * 3 ≤ (l.size * 2 ^ lenT l k) * 3 := Nat.mul_le_mul_right 3 ih
            have e2 : (3 * l.size) * 2 ^ lenT l k ≤ (2 * (l.size + r.size + 1)) * 2 ^ lenT l k := Nat.mul_le_mul_right _ hs
            have e3 : (l.size * 2 ^ lenT l k) * 3 = (3 * l.size) * 2 ^ lenT l k := by rw [Nat.mul_comm, ← Nat.mul_assoc]
            have e4 : (2 * (l.size + r.size + 1)) * 2 ^ lenT l k = (l.size + 1 + r.size) * (2 ^ lenT l k * 2) := by
              rw [show l.size + r.size + 1 = l.size + 1 + r.size by omega, Nat.mul_comm 2 (l.size + 1 + r.size), Nat.mul_assoc, Nat.mul_comm 2]
            omega
      · rw [if_neg hlt] at hf ⊢
        split at hf
        · simp at hf
        · rename_i hl
          split at hf
          · simp at hf
          · rename_i hb
            have hkr : k ∈ kM r := by
              rcases hk with (hk | hk) | hk
              · have := h3 k hk; omega
              · exact absurd hk hka
              · exact hk
            have ih := fixT_none r k h2 hkr (by simpa using hl)
            simp only [leans, decide_eq_true_eq, Nat.not_lt] at hb
            have hs : 3 * r.size ≤ 2 * (l.size + r.size + 1) := by omega
            simp only [MT.size, Nat.pow_succ]
            have e1 : 3 ^ lenT r k * 3 ≤ (r.size * 2 ^ lenT r k) * 3 := Nat.mul_le_mul_right 3 ih
            have e2 : (3 * r.size) * 2 ^ lenT r k ≤ (2 * (l.size + r.size + 1)) * 2 ^ lenT r k := Nat.mul_le_mul_right _ hs
            have e3 : (r.size * 2 ^ lenT r k) * 3 = (3 * r.size) * 2 ^ lenT r k := by rw [Nat.mul_comm, ← Nat.mul_assoc]
            have e4 : (2 * (l.size + r.size + 1)) * 2 ^ lenT r k = (l.size + 1 + r.size) * (2 ^ lenT r k * 2) := by
              rw [show l.size + r.size + 1 = l.size + 1 + r.size by omega, Nat.mul_comm 2 (l.size + 1 + r.size), Nat.mul_assoc, Nat.mul_comm 2]
            omega
theorem even_le (T : MT IP) (H : Nat) (h : T.size < 2 ^ H) : hT (evenT (kM T)) ≤ H := by
  obtain ⟨_, h2, h3⟩ := evenT_h (kM T)
  rw [kM_len] at h2 h3
  rcases Nat.eq_zero_or_pos T.size with h0 | h0
  · rw [h3 h0]; omega
  · rcases Nat.lt_or_ge H (hT (evenT (kM T))) with h1 | h1
    · have := h2 h0
      have h4 : 2 ^ H ≤ 2 ^ (hT (evenT (kM T)) - 1) := Nat.pow_le_pow_right (by omega) (by omega)
      omega
    · exact h1
/-- A leaf that alone is too deep: built anew nothing is. -/
theorem fixT_low : ∀ (T : MT IP) (k : Int) (H : Nat), Up (kM T) → k ∉ kM T → hT T ≤ H → lenT T k = H → (fixT (ins T (k, 0)) k).2.2 = true → hT (fixT (ins T (k, 0)) k).1 ≤ H
  | .nil, k, H, _, _, _, _, hf => by simp [ins, fixT] at hf
  | .node a l r, k, H, hu, hn, hh, hl, hf => by
    obtain ⟨h1, h2, h3, h4⟩ := up_node hu
    rw [kM_node] at hn
    simp only [List.mem_append, List.mem_singleton, not_or] at hn
    simp only [hT] at hh
    obtain ⟨H', rfl⟩ : ∃ H', H = H' + 1 := ⟨H - 1, by omega⟩
    have sl := size_hT l
    have sr := size_hT r
    have pl : 2 ^ hT l ≤ 2 ^ H' := Nat.pow_le_pow_right (by omega) (by omega)
    have pr : 2 ^ hT r ≤ 2 ^ H' := Nat.pow_le_pow_right (by omega) (by omega)
    by_cases hlt : k < a.1
    · have e : ins (.node a l r) (k, 0) = .node a (ins l (k, 0)) r := by rw [ins, if_pos hlt]
      rw [e] at hf ⊢
      rw [lenT, if_neg hn.1.2, if_pos hlt] at hl
      have hsz := ins_new_size l k h1 hn.1.1
      rw [fixT, if_neg hn.1.2, if_pos hlt] at hf ⊢
      by_cases hfl : (fixT (ins l (k, 0)) k).2.2 = true
      · rw [if_pos hfl]
        have ih := fixT_low l k H' h1 hn.1.1 (by omega) (by omega) hfl
        simp only [hT]; omega
      · rw [if_neg hfl] at hf ⊢
        by_cases hb : leans (ins l (k, 0)) r = true
        · rw [if_pos hb]
          simp only [leans, decide_eq_true_eq] at hb
          refine even_le _ _ ?_
          simp only [MT.size, Nat.pow_succ]
          omega
        · rw [if_neg hb] at hf; simp at hf
    · have hgt : a.1 < k := by have := hn.1.2; omega
      have e : ins (.node a l r) (k, 0) = .node a l (ins r (k, 0)) := by rw [ins, if_neg hlt, if_pos hgt]
      rw [e] at hf ⊢
      rw [lenT, if_neg hn.1.2, if_neg hlt] at hl
      have hsz := ins_new_size r k h2 hn.2
      rw [fixT, if_neg hn.1.2, if_neg hlt] at hf ⊢
      by_cases hfl : (fixT (ins r (k, 0)) k).2.2 = true
      · rw [if_pos hfl]
        have ih := fixT_low r k H' h2 hn.2 (by omega) (by omega) hfl
        simp only [hT]; omega
      · rw [if_neg hfl] at hf ⊢
        by_cases hb : leans l (ins r (k, 0)) = true
        · rw [if_pos hb]
          simp only [leans, decide_eq_true_eq] at hb
          refine even_le _ _ ?_
          simp only [MT.size, Nat.pow_succ]
          omega
        · rw [if_neg hb] at hf; simp at hf
theorem delMin_hT : ∀ T : MT IP, hT (delMin T) ≤ hT T
  | .nil => by simp [delMin]
  | .node a .nil r => by simp [delMin, hT]
  | .node a (.node b x y) r => by
    have := delMin_hT (.node b x y)
    rw [delMin]
    simp only [hT] at this ⊢
    omega
theorem delTop_hT (a : IP) (l r : MT IP) : hT (delTop l r) ≤ hT (.node a l r) := by
  cases l with
  | nil => simp [delTop, hT]
  | node b x y =>
    cases r with
    | nil => simp [delTop, hT]
    | node c u z =>
      have := delMin_hT (.node c u z)
      rw [delTop_nn]
      simp only [hT] at this ⊢
      omega
theorem del_hT : ∀ (T : MT IP) (k : Int), hT (del T k) ≤ hT T
  | .nil, k => by simp [del]
  | .node a l r, k => by
    have h1 := del_hT l k
    have h2 := del_hT r k
    unfold del
    split
    · simp only [hT]; omega
    · split
      · simp only [hT]; omega
      · exact delTop_hT a l r

/-! The potential: by how much more than one both sides differ. -/
def gap (a b : Nat) : Nat := max a b - min a b - 1
def phi : MT IP → Nat
  | .nil => 0
  | .node _ l r => phi l + phi r + gap l.size r.size
theorem evenT_phi : ∀ l, phi (evenT l) = 0 := half_ind (by rw [evenT_nil]; rfl) fun l h i1 i2 => by
  rw [evenT_cons l h]
  simp only [phi, i1, i2, evenT_size, List.length_take, List.length_drop, gap]
  omega
theorem ins_phi : ∀ (T : MT IP) (k : Int), Up (kM T) → k ∉ kM T → phi (ins T (k, 0)) ≤ phi T + lenT T k
  | .nil, k, _, _ => by simp [ins, phi, lenT, gap, MT.size]
  | .node a l r, k, h, hn => by
    obtain ⟨h1, h2, h3, h4⟩ := up_node h
    rw [kM_node] at hn
    simp only [List.mem_append, List.mem_singleton, not_or] at hn
    unfold ins lenT
    simp only
    rw [if_neg hn.1.2]
    split
    · have ih := ins_phi l k h1 hn.1.1
      have hs := ins_new_size l k h1 hn.1.1
      simp only [phi, hs, gap]; omega
    · rw [if_pos (by have := hn.1.2; omega)]
      have ih := ins_phi r k h2 hn.2
      have hs := ins_new_size r k h2 hn.2
      simp only [phi, hs, gap]; omega
theorem fixT_phi : ∀ (T : MT IP) (k : Int), (fixT T k).2.2 = true → (fixT T k).2.1 + 3 * phi (fixT T k).1 ≤ 3 * phi T
  | .nil, k, h => by simp [fixT] at h
  | .node a l r, k, h => by
    have i1 := fixT_phi l k
    have i2 := fixT_phi r k
    have s1 := fixT_size l k
    have s2 := fixT_size r k
    unfold fixT at h ⊢
    split at h
    · simp at h
    · rename_i hka
      rw [if_neg hka]
      split at h
      · rename_i hlt
        rw [if_pos hlt]
        split at h
        · rename_i hf
          rw [if_pos hf]
          have := i1 hf
          simp only [phi, s1]; omega
        · rename_i hf
          rw [if_neg hf]
          split at h
          · rename_i hb
            rw [if_pos hb]
            simp only [leans, decide_eq_true_eq] at hb
            simp only [evenT_phi, phi, gap]; omega
          · simp at h
      · rename_i hlt
        rw [if_neg hlt]
        split at h
        · rename_i hf
          rw [if_pos hf]
          have := i2 hf
          simp only [phi, s2]; omega
        · rename_i hf
          rw [if_neg hf]
          split at h
          · rename_i hb
            rw [if_pos hb]
            simp only [leans, decide_eq_true_eq] at hb
            simp only [evenT_phi, phi, gap]; omega
          · simp at h
theorem fixT_nb : ∀ (T : MT IP) (k : Int), (fixT T k).2.2 = false → (fixT T k).1 = T ∧ (fixT T k).2.1 = 0
  | .nil, k, _ => ⟨rfl, rfl⟩
  | .node a l r, k, h => by
    unfold fixT at h ⊢
    split at h
    · rename_i hka; rw [if_pos hka]; exact ⟨rfl, rfl⟩
    · rename_i hka
      rw [if_neg hka]
      split at h
      · rename_i hlt
        rw [if_pos hlt]
        split at h
        · simp at h
        · rename_i hf
          rw [if_neg hf]
          split at h
          · simp at h
          · rename_i hb; rw [if_neg hb]; exact ⟨rfl, rfl⟩
      · rename_i hlt
        rw [if_neg hlt]
        split at h
        · simp at h
        · rename_i hf
          rw [if_neg hf]
          split at h
          · simp at h
          · rename_i hb; rw [if_neg hb]; exact ⟨rfl, rfl⟩
theorem delMin_sz : ∀ T : MT IP, T ≠ .nil → (delMin T).size + 1 = T.size
  | .nil, h => absurd rfl h
  | .node a .nil r, _ => by simp [delMin, MT.size]; omega
  | .node a (.node b x y) r, _ => by
    have := delMin_sz (.node b x y) (by simp)
    rw [delMin]
    simp only [MT.size] at this ⊢
    omega
theorem delMin_phi : ∀ T : MT IP, phi (delMin T) ≤ phi T + hT T
  | .nil => by simp [delMin]
  | .node a .nil r => by simp only [delMin, phi, hT]; omega
  | .node a (.node b x y) r => by
    have h1 := delMin_phi (.node b x y)
    have h2 := delMin_sz (.node b x y) (by simp)
    rw [delMin]
    have e1 : phi (.node a (delMin (.node b x y)) r) = phi (delMin (.node b x y)) + phi r + gap (delMin (.node b x y)).size r.size := rfl
    have e2 : phi (.node a (.node b x y) r) = phi (.node b x y) + phi r + gap (MT.node b x y).size r.size := rfl
    have e3 : hT (.node a (.node b x y) r) = max (hT (.node b x y)) (hT r) + 1 := rfl
    rw [e1, e2, e3, ← h2]
    unfold gap; omega
theorem delTop_phi (a : IP) (l r : MT IP) : phi (delTop l r) ≤ phi (.node a l r) + hT (.node a l r) := by
  cases l with
  | nil => simp only [delTop, phi]; omega
  | node b x y =>
    cases r with
    | nil => simp only [delTop, phi]; omega
    | node c u z =>
      have h1 := delMin_phi (.node c u z)
      have h2 := delMin_sz (.node c u z) (by simp)
      rw [delTop_nn]
      have e1 : phi (.node (minA (.node c u z)) (.node b x y) (delMin (.node c u z))) = phi (.node b x y) + phi (delMin (.node c u z)) + gap (MT.node b x y).size (delMin (.node c u z)).size := rfl
      have e2 : phi (.node a (.node b x y) (.node c u z)) = phi (.node b x y) + phi (.node c u z) + gap (MT.node b x y).size (MT.node c u z).size := rfl
      have e3 : hT (.node a (.node b x y) (.node c u z)) = max (hT (.node b x y)) (hT (.node c u z)) + 1 := rfl
      rw [e1, e2, e3, ← h2]
      unfold gap; omega
theorem del_sz : ∀ (T : MT IP) (k : Int), Up (kM T) → k ∈ kM T → (del T k).size + 1 = T.size := fun T k h hk => by
  rw [← kM_len, ← kM_len, kM_del T k h]
  unfold ksDel
  obtain ⟨n, hn⟩ : ∃ n, n = kM T := ⟨_, rfl⟩
  rw [← hn] at h hk ⊢
  clear hn
  induction n with
  | nil => cases hk
  | cons x n ih =>
    have hx := List.pairwise_cons.1 h
    by_cases e : x = k
    · subst e
      rw [List.filter_cons_of_neg (by simp), List.filter_eq_self.2 fun y hy => by have := hx.1 y hy; simp; omega]
      simp
    · rw [List.filter_cons_of_pos (by simp [e])]
      have hk' : k ∈ n := (List.mem_cons.1 hk).resolve_left fun h => e h.symm
      have := ih hk' hx.2
      simp only [List.length_cons]; omega
theorem del_phi : ∀ (T : MT IP) (k : Int), Up (kM T) → k ∈ kM T → phi (del T k) ≤ phi T + hT T
  | .nil, k, _, hk => by cases hk
  | .node a l r, k, h, hk => by
    obtain ⟨h1, h2, h3, h4⟩ := up_node h
    rw [kM_node] at hk
    simp only [List.mem_append, List.mem_singleton] at hk
    unfold del
    split
    · rename_i hlt
      have hkl : k ∈ kM l := by
        rcases hk with (hk | hk) | hk
        · exact hk
        · omega
        · have := h4 k hk; omega
      have ih := del_phi l k h1 hkl
      have hs := del_sz l k h1 hkl
      simp only [phi, hT]
      rw [← hs]
      unfold gap; omega
    · split
      · rename_i hlt
        have hkr : k ∈ kM r := by
          rcases hk with (hk | hk) | hk
          · have := h3 k hk; omega
          · omega
          · exact hk
        have ih := del_phi r k h2 hkr
        have hs := del_sz r k h2 hkr
        simp only [phi, hT]
        rw [← hs]
        unfold gap; omega
      · exact delTop_phi a l r

/-! What stays true, op by op. -/
structure GtOk (S : Gt) : Prop where
  up : Up (kM S.T)
  many : S.many = S.T.size
  le : S.many ≤ S.most
  low : hT S.T ≤ deepF S.most + 1
theorem gtOk_new : GtOk ⟨.nil, 0, 0, 0⟩ := ⟨.nil, rfl, Nat.le_refl _, by simp [hT]⟩
theorem GtOk.put {S : Gt} (h : GtOk S) (k : Int) (hm : S.many < 1000) (hmo : S.most ≤ 1000) : GtOk (S.put k) := by
  unfold Gt.put
  by_cases hk : k ∈ kM S.T
  · rw [if_pos hk]; exact h
  · rw [if_neg hk]
    have hup : Up (kM (ins S.T (k, 0))) := by rw [kM_ins _ _ h.up]; exact up_ins h.up k
    have hsz := ins_new_size S.T k h.up hk
    have hms := h.many
    have hle := h.le
    have hmx : max S.most (S.many + 1) ≤ 1000 := by omega
    have hmono := deepF_mono S.most (max S.most (S.many + 1)) (by omega) hmx
    have hlow := h.low
    have hins := ins_hT S.T k
    have hlh := lenT_hT S.T k
    by_cases hd : lenT S.T k ≤ deepF (max S.most (S.many + 1))
    · rw [if_pos hd]
      exact ⟨hup, by simp only; omega, by simp only; omega, by simp only; omega⟩
    · rw [if_neg hd]
      have hlen : lenT S.T k = deepF (max S.most (S.many + 1)) + 1 := by omega
      have hfound : (fixT (ins S.T (k, 0)) k).2.2 = true := by
        cases hf : (fixT (ins S.T (k, 0)) k).2.2 with
        | true => rfl
        | false =>
          have hkm : k ∈ kM (ins S.T (k, 0)) := by rw [kM_ins _ _ h.up]; simp [ksIns]
          have h1 := fixT_none _ k hup hkm hf
          rw [lenT_ins _ _ hk, hlen, hsz] at h1
          have h2 := (deepF_spec (max S.most (S.many + 1)) (by omega) hmx).2
          have h3 : (S.T.size + 1) * 2 ^ (deepF (max S.most (S.many + 1)) + 1) ≤ max S.most (S.many + 1) * 2 ^ (deepF (max S.most (S.many + 1)) + 1) := Nat.mul_le_mul_right _ (by omega)
          omega
      have hlw := fixT_low S.T k _ h.up hk (show hT S.T ≤ deepF (max S.most (S.many + 1)) + 1 by omega) hlen hfound
      exact ⟨by simp only; rw [fixT_keys]; exact hup, by simp only; rw [fixT_size]; omega, by simp only; omega, hlw⟩
theorem GtOk.cut {S : Gt} (h : GtOk S) (k : Int) (hmo : S.most ≤ 1000) : GtOk (S.cut k) := by
  unfold Gt.cut
  by_cases hk : k ∈ kM S.T
  · rw [if_neg (by simpa using hk)]
    have hup : Up (kM (del S.T k)) := by rw [kM_del _ _ h.up]; exact up_del h.up k
    have hsz := del_sz S.T k h.up hk
    have hms := h.many
    have hle := h.le
    have hlow := h.low
    have hdh := del_hT S.T k
    by_cases hd : 3 * (S.many - 1) < 2 * S.most
    · rw [if_pos hd]
      refine ⟨by simp only; rw [evenT_keys]; exact hup, by simp only; rw [evenT_size, kM_len]; omega, Nat.le_refl _, ?_⟩
      simp only
      obtain ⟨_, e2, e3⟩ := evenT_h (kM (del S.T k))
      rw [kM_len] at e2 e3
      have hsm : (del S.T k).size = S.many - 1 := by omega
      rw [hsm] at e2 e3
      rcases Nat.eq_zero_or_pos (S.many - 1) with h0 | h0
      · rw [e3 h0]; omega
      · have h1 := e2 h0
        obtain ⟨x, hx⟩ : ∃ x, x = hT (evenT (kM (del S.T k))) - 1 := ⟨_, rfl⟩
        rw [← hx] at h1
        have h2 : x ≤ deepF (S.many - 1) := by
          refine deepF_ge _ x h0 (by omega) ?_
          have h3 : 3 ^ x ≤ 4 ^ x := Nat.pow_le_pow_left (by omega) x
          have h4 : (4 : Nat) ^ x = 2 ^ x * 2 ^ x := by rw [← Nat.mul_pow]
          have h5 : 2 ^ x * 2 ^ x ≤ (S.many - 1) * 2 ^ x := Nat.mul_le_mul_right _ h1
          omega
        omega
    · rw [if_neg hd]
      exact ⟨hup, by simp only; omega, by simp only; omega, by simp only; omega⟩
  · rw [if_pos hk]; exact h
/-- What an op costs, all told. -/
def pot (S : Gt) : Nat := S.built + 3 * phi S.T + 2 * (S.most - S.many)
theorem GtOk.pot_put {S : Gt} (h : GtOk S) (k : Int) (D : Nat) (hD : deepF S.most ≤ D) : pot (S.put k) ≤ pot S + (if k ∈ kM S.T then 0 else 3 * (D + 1)) := by
  unfold Gt.put
  by_cases hk : k ∈ kM S.T
  · rw [if_pos hk]; omega
  · rw [if_neg hk, if_neg hk]
    have hph := ins_phi S.T k h.up hk
    have hlh := lenT_hT S.T k
    have hlow := h.low
    split
    · simp only [pot]; omega
    · cases hf : (fixT (ins S.T (k, 0)) k).2.2 with
      | true =>
        have := fixT_phi _ k hf
        simp only [pot]; omega
      | false =>
        obtain ⟨e1, e2⟩ := fixT_nb _ k hf
        simp only [pot, e1, e2]; omega
theorem GtOk.pot_cut {S : Gt} (h : GtOk S) (k : Int) (D : Nat) (hD : deepF S.most ≤ D) : pot (S.cut k) ≤ pot S + (if k ∈ kM S.T then 3 * (D + 1) + 2 else 0) := by
  unfold Gt.cut
  by_cases hk : k ∈ kM S.T
  · rw [if_neg (by simpa using hk), if_pos hk]
    have hph := del_phi S.T k h.up hk
    have hlow := h.low
    have hms := h.many
    have hle := h.le
    split
    · simp only [pot, evenT_phi]; omega
    · simp only [pot]; omega
  · rw [if_pos hk, if_neg hk]; omega
end Go.Proofs.YtpkkajglbklboaaDoor
