/-
  Plain laws: run op by op the tree is the one of the keys that are there. No program. Conditions: none.
-/
import Derived.Test.YtfgbbmjnjppfnaaDoorZLaw
import Derived.Test.YtfgbbmjnjppfnaaDoorDoneLaw
namespace Go.Proofs.YtfgbbmjnjppfnaaDoor
open Go.ChangeShapes Go.WideShapes Go.ChangeAt Go.RowKit
set_option linter.unusedVariables false
set_option linter.unusedSimpArgs false

def ksIns (ks : List Int) (k : Int) : List Int := ks.filter (fun x => decide (x < k)) ++ [k] ++ ks.filter (fun x => decide (k < x))
def ksDel (ks : List Int) (k : Int) : List Int := ks.filter fun x => !(x == k)
def Up (ks : List Int) : Prop := ks.Pairwise (fun a b => a < b)
theorem filter_all {p : Int → Bool} {l : List Int} (h : ∀ x ∈ l, p x = true) : l.filter p = l := List.filter_eq_self.2 h
theorem filter_no {p : Int → Bool} {l : List Int} (h : ∀ x ∈ l, p x = false) : l.filter p = [] := List.filter_eq_nil_iff.2 fun x hx => by simp [h x hx]
theorem up_ins {ks : List Int} (h : Up ks) (k : Int) : Up (ksIns ks k) := by
  unfold Up ksIns at *
  rw [List.pairwise_append, List.pairwise_append]
  refine ⟨⟨h.filter _, by simp, fun x hx y hy => ?_⟩, h.filter _, fun x hx y hy => ?_⟩
  · simp at hx hy; omega
  · simp only [List.mem_append, List.mem_filter, List.mem_singleton, decide_eq_true_eq] at hx hy
    rcases hx with ⟨_, hx⟩ | hx <;> omega
theorem up_del {ks : List Int} (h : Up ks) (k : Int) : Up (ksDel ks k) := h.filter _
/-- One op: what it does to the keys of the list. -/
theorem doA_keys (l : List IP) (kind key val : Int) (h : mapRight l = 0) :
    (doA l kind key val).1.map Prod.fst = if (doA l kind key val).2.err ≠ 0 then l.map Prod.fst else if kind = 1 then ksIns (l.map Prod.fst) key else if kind = 3 then ksDel (l.map Prod.fst) key else l.map Prod.fst := by
  have hr := rise_of h
  rw [doA, if_pos h, doL]
  by_cases hb : ¬ (1 ≤ kind ∧ kind ≤ 7) ∨ (kind ≤ 5 ∧ ¬ (0 ≤ key ∧ key ≤ 1000000))
  · rw [if_pos hb]; simp
  · rw [if_neg hb]
    obtain ⟨T, M, D, hl, htd, hT, hD, hM⟩ := td_of l hr key
    have eT1 : (T.map Prod.fst).filter (fun x => decide (x < key)) = T.map Prod.fst := filter_all fun x hx => by obtain ⟨p, hp, rfl⟩ := List.mem_map.1 hx; have := htd.lt p hp; simp; omega
    have eT2 : (T.map Prod.fst).filter (fun x => decide (key < x)) = [] := filter_no fun x hx => by obtain ⟨p, hp, rfl⟩ := List.mem_map.1 hx; have := htd.lt p hp; simp; omega
    have eD1 : (D.map Prod.fst).filter (fun x => decide (x < key)) = [] := filter_no fun x hx => by obtain ⟨p, hp, rfl⟩ := List.mem_map.1 hx; have := htd.gt p hp; simp; omega
    have eD2 : (D.map Prod.fst).filter (fun x => decide (key < x)) = D.map Prod.fst := filter_all fun x hx => by obtain ⟨p, hp, rfl⟩ := List.mem_map.1 hx; have := htd.gt p hp; simp; omega
    have eT3 : (T.map Prod.fst).filter (fun x => !(x == key)) = T.map Prod.fst := filter_all fun x hx => by obtain ⟨p, hp, rfl⟩ := List.mem_map.1 hx; have := htd.lt p hp; simp; omega
    have eD3 : (D.map Prod.fst).filter (fun x => !(x == key)) = D.map Prod.fst := filter_all fun x hx => by obtain ⟨p, hp, rfl⟩ := List.mem_map.1 hx; have := htd.gt p hp; simp; omega
    by_cases k1 : kind = 1
    · rw [if_pos k1]
      rcases hM with rfl | ⟨u, rfl⟩
      · rw [List.append_nil] at hl
        rw [hl, htd.put_no]
        by_cases h2 : (T ++ D).length = 200
        · rw [if_pos h2]; simp
        · rw [if_neg h2]
          simp only [ne_eq, not_true_eq_false, if_false]
          rw [if_pos k1]
          simp [ksIns, List.filter_append, eT1, eT2, eD1, eD2]
      · rw [hl, htd.put_one]
        simp only [ne_eq, not_true_eq_false, if_false]
        rw [if_pos k1]
        simp [ksIns, List.filter_append, List.filter_cons, eT1, eT2, eD1, eD2]
    · rw [if_neg k1]
      by_cases k2 : kind = 2
      · rw [if_pos k2]
        have h3 : ¬ kind = 3 := by omega
        simp only
        rw [if_neg k1, if_neg h3]
        split <;> rfl
      · rw [if_neg k2]
        by_cases k3 : kind = 3
        · rw [if_pos k3]
          have hc : (if hasKey l key = true then (l.take (below l key) ++ l.drop (below l key + 1), (⟨0, 0, gv l (below l key), true⟩ : An)) else (l, ⟨0, 0, 0, false⟩)) = cutL l key := rfl
          rw [hc]
          rcases hM with rfl | ⟨u, rfl⟩
          · rw [List.append_nil] at hl
            rw [hl, htd.cut_no]
            simp only [ne_eq, not_true_eq_false, if_false]
            rw [if_neg k1, if_pos k3]
            simp [ksDel, List.filter_append, eT3, eD3]
          · rw [hl, htd.cut_one]
            simp only [ne_eq, not_true_eq_false, if_false]
            rw [if_neg k1, if_pos k3]
            simp [ksDel, List.filter_append, List.filter_cons, eT3, eD3]
        · rw [if_neg k3]
          have hno : ∀ a : An, (if a.err ≠ 0 then l.map Prod.fst else if kind = 1 then ksIns (l.map Prod.fst) key else if kind = 3 then ksDel (l.map Prod.fst) key else l.map Prod.fst) = l.map Prod.fst := fun a => by
            rw [if_neg k1, if_neg k3]; split <;> rfl
          by_cases k4 : kind = 4
          · rw [if_pos k4]; exact (hno _).symm
          · rw [if_neg k4]
            by_cases k5 : kind = 5
            · rw [if_pos k5]; exact (hno _).symm
            · rw [if_neg k5]
              by_cases k6 : kind = 6
              · rw [if_pos k6]; exact (hno _).symm
              · rw [if_neg k6]; exact (hno _).symm
theorem runL_ans (ops : List O3) (k : Nat) (hk : k < ops.length) : ∀ m, k < m → m ≤ ops.length → ∀ h : k < (runL (ops.take m)).2.length, (runL (ops.take m)).2[k] = (doA (runL (ops.take k)).1 ops[k].1 ops[k].2.1 ops[k].2.2).2 := by
  intro m
  induction m with
  | zero => intro h; omega
  | succ m ih =>
    intro h1 h2 h
    have hl := runL_len ops m (by omega)
    have e : (runL (ops.take (m + 1))).2 = (runL (ops.take m)).2 ++ [(doA (runL (ops.take m)).1 ops[m].1 ops[m].2.1 ops[m].2.2).2] := by rw [runL_take ops m (by omega)]; rfl
    rcases Nat.lt_or_ge k m with h3 | h3
    · have := ih h3 (by omega) (by omega)
      simp only [e]
      rw [List.getElem_append_left (by omega)]
      exact this
    · have : k = m := by omega
      subst this
      simp only [e]
      rw [List.getElem_append_right (by omega)]
      simp [hl]
structure ZI (T : MT IP) (ks : List Int) : Prop where
  nd_ : nd T = ks.map zk
  hp : Hp T
  up : Up ks
theorem zk_up {ks : List Int} (h : Up ks) : UpN (ks.map zk) := by
  rw [UpN, List.pairwise_map]; exact h
theorem ZI.put {T : MT IP} {ks : List Int} (h : ZI T ks) (k : Int) : ZI (putM T (zk k)) (ksIns ks k) := by
  have hu : UpN (nd T) := by rw [h.nd_]; exact zk_up h.up
  obtain ⟨h1, h2⟩ := nd_put T (zk k) hu h.hp (fun x hx e => by
    rw [h.nd_] at hx
    obtain ⟨y, _, rfl⟩ := List.mem_map.1 hx
    have : y = k := e
    rw [this])
  refine ⟨?_, h2, up_ins h.up k⟩
  rw [h1, h.nd_, ndIns, ksIns, List.filter_map, List.filter_map]
  simp [Function.comp_def, zk]
  rfl
theorem ZI.cut {T : MT IP} {ks : List Int} (h : ZI T ks) (k : Int) : ZI (cutM T k) (ksDel ks k) := by
  have hu : UpN (nd T) := by rw [h.nd_]; exact zk_up h.up
  obtain ⟨h1, h2⟩ := nd_cut T k hu h.hp
  refine ⟨?_, h2, up_del h.up k⟩
  rw [h1, h.nd_, ksDel, List.filter_map]
  simp [Function.comp_def, zk]
theorem ZI.one {T U : MT IP} {ks : List Int} (h : ZI T ks) (h' : ZI U ks) : T = U :=
  hp_one T U (by rw [h.nd_, h'.nd_]) h.hp h'.hp (by rw [h.nd_]; exact zk_up h.up)
theorem zip_inv (ops : List O3) : ∀ k, k ≤ ops.length → ZI (zrT ((opsA ops).take k)) ((runL (ops.take k)).1.map Prod.fst) := by
  have hal := runL_len ops ops.length (Nat.le_refl _)
  rw [List.take_length] at hal
  have hzl : (opsA ops).length = ops.length := by rw [opsA, List.length_zip, hal]; omega
  intro k
  induction k with
  | zero => intro _; exact ⟨rfl, trivial, .nil⟩
  | succ k ih =>
    intro hk
    have h1 := ih (by omega)
    have hz : (opsA ops)[k]'(by omega) = (ops[k], (runL ops).2[k]'(by omega)) := by simp [opsA]
    have ha := runL_ans ops k (by omega) ops.length (by omega) (Nat.le_refl _)
    simp only [List.take_length] at ha
    have ha' := ha (by omega)
    have hr := runL_right ops k (by omega)
    have hd := doA_keys (runL (ops.take k)).1 ops[k].1 ops[k].2.1 ops[k].2.2 hr
    rw [zrT_snoc _ k (by omega), hz, runL_take ops k (by omega), runS]
    simp only
    rw [hd, zrS, ha']
    split
    · exact h1
    · split
      · exact h1.put _
      · split
        · exact h1.cut _
        · exact h1
theorem zip_inv_all (ops : List O3) : ZI (zrT (opsA ops)) ((runL ops).1.map Prod.fst) := by
  have h := zip_inv ops ops.length (Nat.le_refl _)
  have hal := runL_len ops ops.length (Nat.le_refl _)
  rw [List.take_length] at hal h
  rwa [List.take_of_length_le (by rw [opsA, List.length_zip, hal]; omega)] at h
theorem runL_snoc (ops : List O3) (x : O3) : runL (ops ++ [x]) = runS (runL ops) x := by
  rw [runL, List.foldl_append]; rfl
theorem runL_mem : ∀ (keys : List Int) (y : Int), y ∈ (runL (keys.map fun k => ((1, k, 0) : O3))).1.map Prod.fst → y ∈ keys := by
  intro keys
  induction hn : keys.length generalizing keys with
  | zero =>
    obtain rfl : keys = [] := List.eq_nil_of_length_eq_zero hn
    intro y hy; simp [runL] at hy
  | succ n ih =>
    intro y hy
    obtain ⟨u, x, rfl⟩ : ∃ u x, keys = u ++ [x] := ⟨keys.take n, keys[n]'(by omega), by rw [← List.take_succ_eq_append_getElem, List.take_of_length_le (by omega)]⟩
    rw [List.map_append, List.map_cons, List.map_nil, runL_snoc, runS] at hy
    simp only at hy
    have hr := runL_right (u.map fun k => ((1, k, 0) : O3)) _ (Nat.le_refl _)
    rw [List.take_length] at hr
    rw [doA_keys _ _ _ _ hr] at hy
    have hu := ih u (by simpa using hn) y
    split at hy
    · exact List.mem_append_left _ (hu hy)
    · simp only [if_true] at hy
      simp only [ksIns, List.mem_append, List.mem_filter, List.mem_singleton] at hy
      rcases hy with (hy | hy) | hy
      · exact List.mem_append_left _ (hu hy.1)
      · rw [hy]; simp
      · exact List.mem_append_left _ (hu hy.1)
theorem ksDel_ins {ks : List Int} (h : Up ks) {k : Int} (hk : k ∉ ks) : ksDel (ksIns ks k) k = ks := by
  rw [ksDel, ksIns, List.filter_append, List.filter_append]
  have e1 : ([k] : List Int).filter (fun x => !(x == k)) = [] := by simp
  have e2 : ∀ l : List Int, k ∉ l → l.filter (fun x => !(x == k)) = l := fun l hl => filter_all fun x hx => by simp; rintro rfl; exact hl hx
  rw [e1, e2 _ (fun h => hk (List.mem_filter.1 h).1), e2 _ (fun h => hk (List.mem_filter.1 h).1), List.append_nil]
  have : ∀ ks : List Int, Up ks → k ∉ ks → ks.filter (fun x => decide (x < k)) ++ ks.filter (fun x => decide (k < x)) = ks := by
    intro ks
    induction ks with
    | nil => intro _ _; rfl
    | cons y t ih =>
      intro hu hn
      rw [Up, List.pairwise_cons] at hu
      have hyk : y ≠ k := fun e => hn (by simp [e])
      have hkt : k ∉ t := fun h => hn (by simp [h])
      rcases Int.lt_trichotomy y k with h1 | h1 | h1
      · rw [List.filter_cons, if_pos (by simpa using h1), List.filter_cons, if_neg (by simp; omega), List.cons_append, ih hu.2 hkt]
      · exact absurd h1 hyk
      · rw [List.filter_cons, if_neg (by simp; omega), List.filter_cons, if_pos (by simpa using h1)]
        rw [filter_no (fun x hx => by have := hu.1 x hx; simp; omega), filter_all (fun x hx => by have := hu.1 x hx; simp; omega)]
        rfl
  exact this ks h hk
theorem cut_err {l l' : List IP} {k v : Int} (h : ¬ (doA l 1 k v).2.err ≠ 0) (hr : mapRight l = 0) (hr2 : mapRight l' = 0) : ¬ (doA l' 3 k v).2.err ≠ 0 := by
  rw [doA, if_pos hr, doL] at h
  rw [doA, if_pos hr2, doL]
  by_cases hb : 0 ≤ k ∧ k ≤ 1000000
  · rw [if_neg (by omega), if_neg (by decide), if_neg (by decide), if_pos rfl]
    split <;> simp
  · rw [if_pos (.inr ⟨by decide, hb⟩)] at h
    simp at h
/-- Put and taken away the tree is as it was. -/
theorem zip_back (keys : List Int) (k v : Int) (hk : k ∉ keys) : zrT (opsA (keys.map (fun k => ((1, k, 0) : O3)) ++ [(1, k, v)] ++ [(3, k, v)])) = zrT (opsA (keys.map fun k => ((1, k, 0) : O3))) := by
  have h1 := zip_inv_all (keys.map (fun k => ((1, k, 0) : O3)) ++ [(1, k, v)] ++ [(3, k, v)])
  have h2 := zip_inv_all (keys.map fun k => ((1, k, 0) : O3))
  refine h1.one ?_
  have hm := runL_mem keys k
  have hr := runL_right (keys.map fun k => ((1, k, 0) : O3)) _ (Nat.le_refl _)
  rw [List.take_length] at hr
  have hr2 := runL_right (keys.map (fun k => ((1, k, 0) : O3)) ++ [(1, k, v)]) _ (Nat.le_refl _)
  rw [List.take_length] at hr2
  rw [runL_snoc, runS] at h1 ⊢
  simp only at h1 ⊢
  obtain ⟨S, hS⟩ : ∃ S, S = runL (keys.map fun k => ((1, k, 0) : O3)) := ⟨_, rfl⟩
  rw [← hS] at hm h2 hr
  have e1 : (runL (keys.map (fun k => ((1, k, 0) : O3)) ++ [(1, k, v)])).1 = (doA S.1 1 k v).1 := by rw [runL_snoc, runS, hS]
  rw [e1] at hr2 ⊢
  rw [doA_keys _ _ _ _ hr2, doA_keys _ _ _ _ hr]
  have hnk : k ∉ S.1.map Prod.fst := fun h => hk (hm h)
  have hdel : ksDel (S.1.map Prod.fst) k = S.1.map Prod.fst := filter_all fun x hx => by simp; rintro rfl; exact hnk hx
  have hdi := ksDel_ins h2.up hnk
  have e3 : ∀ b : Prop, [Decidable b] → (if b then S.1.map Prod.fst else if (3 : Int) = 1 then ksIns (S.1.map Prod.fst) k else if (3 : Int) = 3 then ksDel (S.1.map Prod.fst) k else S.1.map Prod.fst) = S.1.map Prod.fst := fun b _ => by
    split
    · rfl
    · rw [if_neg (by decide), if_pos rfl]; exact hdel
  by_cases he : (doA S.1 1 k v).2.err ≠ 0
  · rw [if_pos he, e3]; exact h2
  · rw [if_neg he, if_pos rfl]
    by_cases he2 : (doA (doA S.1 1 k v).1 3 k v).2.err ≠ 0
    · exfalso
      exact cut_err he hr hr2 he2
    · rw [if_neg he2, if_neg (by decide), if_pos rfl, hdi]; exact h2
end Go.Proofs.YtfgbbmjnjppfnaaDoor
