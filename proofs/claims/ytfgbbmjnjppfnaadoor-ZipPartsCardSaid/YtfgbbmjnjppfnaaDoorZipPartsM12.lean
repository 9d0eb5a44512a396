/-
  Plain laws: what the document says of an op (doneL) and what the program answers (doA) are one, for a right map; a right map stays right. No program. Conditions: none.
  Plain laws: run op by op the tree is the one of the keys that are there. No program. Conditions: none.
  zip.Split, Merge: what they answer. Conditions: the lists read as they are named (RD); the table of math/bits holds what it is laid with (DTb).
-/
import Derived.Test.YtfgbbmjnjppfnaaDoorZipPartsM11
import Derived.Test.YtfgbbmjnjppfnaaDoorZipPartsM9

namespace Go.Proofs.YtfgbbmjnjppfnaaDoor
open Go.ChangeShapes Go.WideShapes Go.ChangeAt Go.RowKit
set_option linter.unusedVariables false
set_option linter.unusedSimpArgs false

section
variable {T D M : List IP} {key : Int}
theorem TD.without (h : TD T D key) (hM : ∀ x ∈ M, x.1 = key) : without (T ++ M ++ D) key = T ++ D := by
  have h1 : T.filter (fun p => !(p.1 == key)) = T := List.filter_eq_self.2 fun x hx => by have := h.lt x hx; simp; omega
  have h2 : M.filter (fun p => !(p.1 == key)) = [] := List.filter_eq_nil_iff.2 fun x hx => by have := hM x hx; simp [this]
  have h3 : D.filter (fun p => !(p.1 == key)) = D := List.filter_eq_self.2 fun x hx => by have := h.gt x hx; simp; omega
  simp [Go.Proofs.YtfgbbmjnjppfnaaDoor.without, List.filter_append, h1, h2, h3]
theorem TD.below1 (h : TD T D key) (hM : ∀ x ∈ M, x.1 = key) : Go.Proofs.YtfgbbmjnjppfnaaDoor.below (T ++ M ++ D) (key + 1) = T.length + M.length := by
  have h1 : T.filter (fun p => decide (p.1 < key + 1)) = T := List.filter_eq_self.2 fun x hx => by have := h.lt x hx; simp; omega
  have h2 : M.filter (fun p => decide (p.1 < key + 1)) = M := List.filter_eq_self.2 fun x hx => by have := hM x hx; simp; omega
  have h3 : D.filter (fun p => decide (p.1 < key + 1)) = [] := List.filter_eq_nil_iff.2 fun x hx => by have := h.gt x hx; simp; omega
  simp [Go.Proofs.YtfgbbmjnjppfnaaDoor.below, List.filter_append, h1, h2, h3]
theorem TD.withL (h : TD T D key) (hM : ∀ x ∈ M, x.1 = key) (v : Int) : withL (T ++ M ++ D) (key, v) = T ++ [(key, v)] ++ D := by
  have h1 := h.without hM
  have h2 := h.below (M := []) (TD.no key)
  rw [List.append_nil] at h2
  rw [Go.Proofs.YtfgbbmjnjppfnaaDoor.withL]
  simp only [h1, h2]
  simp
end
theorem hasR_get (l : List IP) (h : Rise l) (key : Int) : (⟨0, 0, (hasR l key).1, (hasR l key).2⟩ : An) = getL l key := by
  rw [getL_find l h, hasR]
  cases l.find? (fun p => p.1 == key) <;> rfl
theorem hasR_has (l : List IP) (h : Rise l) (key : Int) : (hasR l key).2 = hasKey l key := by
  have h1 := congrArg An.is (hasR_get l h key)
  simp only at h1
  rw [h1, getL]
  cases hasKey l key <;> rfl
theorem done_do (l : List IP) (kind key val : Int) (h : mapRight l = 0) : doneL l kind key val = doA l kind key val := by
  have hr := rise_of h
  rw [doA, if_pos h, doneL, doL]
  by_cases hb : ¬ (1 ≤ kind ∧ kind ≤ 7) ∨ (kind < 6 ∧ ¬ (0 ≤ key ∧ key ≤ 1000000))
  · have hb' : ¬ (1 ≤ kind ∧ kind ≤ 7) ∨ (kind ≤ 5 ∧ ¬ (0 ≤ key ∧ key ≤ 1000000)) := by omega
    rw [if_pos hb, if_pos hb']
  · have hb' : ¬ (¬ (1 ≤ kind ∧ kind ≤ 7) ∨ (kind ≤ 5 ∧ ¬ (0 ≤ key ∧ key ≤ 1000000))) := by omega
    rw [if_neg hb, if_neg hb']
    obtain ⟨T, M, D, hl, htd, hT, hD, hM⟩ := td_of l hr key
    have hMk : ∀ x ∈ M, x.1 = key := by
      rcases hM with rfl | ⟨u, rfl⟩
      · exact TD.no key
      · exact TD.one key u
    have h1 : (if (hasR l key).2 = false ∧ l.length = 200 then (l, (⟨2, 0, 0, false⟩ : An)) else (withL l (key, val), ⟨0, 0, 0, (hasR l key).2⟩)) = putL l key val := by
      rw [hasR_has l hr, hl, htd.withL hMk]
      rcases hM with rfl | ⟨u, rfl⟩
      · have hh := htd.has (M := []) (TD.no key)
        rw [hh, List.append_nil, htd.put_no]
        by_cases h2 : (T ++ D).length = 200
        · rw [if_pos ⟨rfl, h2⟩, if_pos h2]
        · rw [if_neg (fun h => h2 h.2), if_neg h2]; simp
      · have hh := htd.has (M := [(key, u)]) (TD.one key u)
        rw [hh, htd.put_one]
        simp
    have h3 : ((without l key, ⟨0, 0, (hasR l key).1, (hasR l key).2⟩) : List IP × An) = cutL l key := by
      rw [hasR_get l hr, hl, htd.without hMk]
      rcases hM with rfl | ⟨u, rfl⟩
      · rw [List.append_nil, htd.get_no, htd.cut_no]
      · rw [htd.get_one, htd.cut_one]
    have h4 : ((below l (key + 1) : Nat) : Int) = if hasKey l key then (below l key : Int) + 1 else below l key := by
      rw [hl, htd.below1 hMk, htd.has hMk, htd.below hMk]
      rcases hM with rfl | ⟨u, rfl⟩ <;> simp
    have h2 := hasR_get l hr key
    by_cases k1 : kind = 1
    · rw [if_pos k1, if_pos k1, h1]
    · rw [if_neg k1, if_neg k1]
      by_cases k2 : kind = 2
      · rw [if_pos k2, if_pos k2, h2]; rfl
      · rw [if_neg k2, if_neg k2]
        by_cases k3 : kind = 3
        · rw [if_pos k3, if_pos k3, h3]; rfl
        · rw [if_neg k3, if_neg k3]
          by_cases k4 : kind = 4
          · rw [if_pos k4, if_pos k4, h4]
          · rw [if_neg k4, if_neg k4]
theorem doA_right (l : List IP) (kind key val : Int) (h : mapRight l = 0) : mapRight (doA l kind key val).1 = 0 := by
  have hr := rise_of h
  rw [doA, if_pos h, doL]
  by_cases hb : ¬ (1 ≤ kind ∧ kind ≤ 7) ∨ (kind ≤ 5 ∧ ¬ (0 ≤ key ∧ key ≤ 1000000))
  · rw [if_pos hb]; exact h
  · rw [if_neg hb]
    obtain ⟨T, M, D, hl, htd, hT, hD, hM⟩ := td_of l hr key
    obtain ⟨hlen, _, hin⟩ := (mapRight_iff l).1 h
    have hin2 : ∀ x, x ∈ T ∨ x ∈ D → 0 ≤ x.1 ∧ x.1 ≤ 1000000 := fun x hx => hin x (by rw [hl]; simp; rcases hx with h | h <;> simp [h])
    have hlen2 : (T ++ D).length ≤ 200 := by rw [hl] at hlen; simp at hlen ⊢; omega
    by_cases k1 : kind = 1
    · rw [if_pos k1]
      have hmid : ∀ u, (T ++ [(key, u)] ++ D).length ≤ 200 → mapRight (T ++ [(key, u)] ++ D) = 0 := fun u hu => (mapRight_iff _).2 ⟨hu, rise_mid (M := []) htd hT hD u, fun x hx => by
        simp only [List.mem_append, List.mem_singleton] at hx
        rcases hx with (hx | rfl) | hx
        · exact hin2 x (.inl hx)
        · subst k1; simp only; omega
        · exact hin2 x (.inr hx)⟩
      rcases hM with rfl | ⟨u, rfl⟩
      · rw [List.append_nil] at hl
        rw [hl, htd.put_no]
        by_cases h2 : (T ++ D).length = 200
        · rw [if_pos h2, ← hl]; exact h
        · rw [if_neg h2]
          exact hmid val (by simp at hlen2 h2 ⊢; omega)
      · rw [hl, htd.put_one]
        exact hmid val (by rw [hl] at hlen; simp at hlen ⊢; omega)
    · rw [if_neg k1]
      by_cases k2 : kind = 2
      · rw [if_pos k2]; exact h
      · rw [if_neg k2]
        by_cases k3 : kind = 3
        · rw [if_pos k3]
          have : mapRight (cutL l key).1 = 0 := by
            rcases hM with rfl | ⟨u, rfl⟩
            · rw [List.append_nil] at hl
              rw [hl, htd.cut_no, ← hl]; exact h
            · rw [hl, htd.cut_one]
              exact (mapRight_iff _).2 ⟨hlen2, rise_no htd hT hD, fun x hx => hin2 x (List.mem_append.1 hx)⟩
          exact this
        · rw [if_neg k3]
          by_cases k4 : kind = 4
          · rw [if_pos k4]; exact h
          · rw [if_neg k4]
            by_cases k5 : kind = 5
            · rw [if_pos k5]; exact h
            · rw [if_neg k5]
              by_cases k6 : kind = 6
              · rw [if_pos k6]; exact h
              · rw [if_neg k6]; exact h
theorem runL_right (ops : List O3) (k : Nat) (hk : k ≤ ops.length) : mapRight (runL (ops.take k)).1 = 0 := by
  induction k with
  | zero => rfl
  | succ k ih =>
    rw [runL_take ops k (by omega), runS]
    exact doA_right _ _ _ _ (ih (by omega))
end Go.Proofs.YtfgbbmjnjppfnaaDoor
namespace Go.Proofs.YtfgbbmjnjppfnaaDoor
open Go.ChangeShapes Go.WideShapes Go.ChangeAt Go.RowKit
set_option linter.unusedVariables false
set_option linter.unusedSimpArgs false

def ksIns (ks : List Int) (k : Int) : List Int := ks.filter (fun x => decide (x < k)) ++ [k] ++ ks.filter (fun x => decide (k < x))
def ksDel (ks : List Int) (k : Int) : List Int := ks.filter fun x => !(x == k)
def Up (ks : List Int) : Prop := ks.Pairwise (fun a b => a < b)
theorem filter_all {p : Int → Bool} {l : List Int} (h : ∀ x ∈ l, p x = true) : l.filter p = l := List.filter_eq_self.2 h
theorem filter_no {p : Int → Bool} {l : List Int} (h : ∀ x ∈ l, p x = false) : l.filter p = [] := List.filter_eq_nil_iff.2 fun x hx => by simp [h x hx]
theorem up_ins {ks : List Int} (h : Up ks) (k : Int) : Up (ksIns ks k) := by
  unfold Up ksIns at *
  rw [List.pairwise_append, List.pairwise_append]
  refine ⟨⟨h.filter _, by simp, fun x hx y hy => ?_⟩, h.filter _, fun x hx y hy => ?_⟩
  · simp at hx hy; omega
  · simp only [List.mem_append, List.mem_filter, List.mem_singleton, decide_eq_true_eq] at hx hy
    rcases hx with ⟨_, hx⟩ | hx <;> omega
theorem up_del {ks : List Int} (h : Up ks) (k : Int) : Up (ksDel ks k) := h.filter _
/-- One op: what it does to the keys of the list. -/
theorem doA_keys (l : List IP) (kind key val : Int) (h : mapRight l = 0) :
    (doA l kind key val).1.map Prod.fst = if (doA l kind key val).2.err ≠ 0 then l.map Prod.fst else if kind = 1 then ksIns (l.map Prod.fst) key else if kind = 3 then ksDel (l.map Prod.fst) key else l.map Prod.fst := by
  have hr := rise_of h
  rw [doA, if_pos h, doL]
  by_cases hb : ¬ (1 ≤ kind ∧ kind ≤ 7) ∨ (kind ≤ 5 ∧ ¬ (0 ≤ key ∧ key ≤ 1000000))
  · rw [if_pos hb]; simp
  · rw [if_neg hb]
    obtain ⟨T, M, D, hl, htd, hT, hD, hM⟩ := td_of l hr key
    have eT1 : (T.map Prod.fst).filter (fun x => decide (x < key)) = T.map Prod.fst := filter_all fun x hx => by obtain ⟨p, hp, rfl⟩ := List.mem_map.1 hx; have := htd.lt p hp; simp; omega
    have eT2 : (T.map Prod.fst).filter (fun x => decide (key < x)) = [] := filter_no fun x hx => by obtain ⟨p, hp, rfl⟩ := List.mem_map.1 hx; have := htd.lt p hp; simp; omega
    have eD1 : (D.map Prod.fst).filter (fun x => decide (x < key)) = [] := filter_no fun x hx => by obtain ⟨p, hp, rfl⟩ := List.mem_map.1 hx; have := htd.gt p hp; simp; omega
    have eD2 : (D.map Prod.fst).filter (fun x => decide (key < x)) = D.map Prod.fst := filter_all fun x hx => by obtain ⟨p, hp, rfl⟩ := List.mem_map.1 hx; have := htd.gt p hp; simp; omega
    have eT3 : (T.map Prod.fst).filter (fun x => !(x == key)) = T.map Prod.fst := filter_all fun x hx => by obtain ⟨p, hp, rfl⟩ := List.mem_map.1 hx; have := htd.lt p hp; simp; omega
    have eD3 : (D.map Prod.fst).filter (fun x => !(x == key)) = D.map Prod.fst := filter_all fun x hx => by obtain ⟨p, hp, rfl⟩ := List.mem_map.1 hx; have := htd.gt p hp; simp; omega
    by_cases k1 : kind = 1
    · rw [if_pos k1]
      rcases hM with rfl | ⟨u, rfl⟩
      · rw [List.append_nil] at hl
        rw [hl, htd.put_no]
        by_cases h2 : (T ++ D).length = 200
        · rw [if_pos h2]; simp
        · rw [if_neg h2]
          simp only [ne_eq, not_true_eq_false, if_false]
          rw [if_pos k1]
          simp [ksIns, List.filter_append, eT1, eT2, eD1, eD2]
      · rw [hl, htd.put_one]
        simp only [ne_eq, not_true_eq_false, if_false]
        rw [if_pos k1]
        simp [ksIns, List.filter_append, List.filter_cons, eT1, eT2, eD1, eD2]
    · rw [if_neg k1]
      by_cases k2 : kind = 2
      · rw [if_pos k2]
        have h3 : ¬ kind = 3 := by omega
        simp only
        rw [if_neg k1, if_neg h3]
        split <;> rfl
      · rw [if_neg k2]
        by_cases k3 : kind = 3
        · rw [if_pos k3]
          have hc : (if hasKey l key = true then (l.take (below l key) ++ l.drop (below l key + 1), (⟨0, 0, gv l (below l key), true⟩ : An)) else (l, ⟨0, 0, 0, false⟩)) = cutL l key := rfl
          rw [hc]
          rcases hM with rfl | ⟨u, rfl⟩
          · rw [List.append_nil] at hl
            rw [hl, htd.cut_no]
            simp only [ne_eq, not_true_eq_false, if_false]
            rw [if_neg k1, if_pos k3]
            simp [ksDel, List.filter_append, eT3, eD3]
          · rw [hl, htd.cut_one]
            simp only [ne_eq, not_true_eq_false, if_false]
            rw [if_neg k1, if_pos k3]
            simp [ksDel, List.filter_append, List.filter_cons, eT3, eD3]
        · rw [if_neg k3]
          have hno : ∀ a : An, (if a.err ≠ 0 then l.map Prod.fst else if kind = 1 then ksIns (l.map Prod.fst) key else if kind = 3 then ksDel (l.map Prod.fst) key else l.map Prod.fst) = l.map Prod.fst := fun a => by
            rw [if_neg k1, if_neg k3]; split <;> rfl
          by_cases k4 : kind = 4
          · rw [if_pos k4]; exact (hno _).symm
          · rw [if_neg k4]
            by_cases k5 : kind = 5
            · rw [if_pos k5]; exact (hno _).symm
            · rw [if_neg k5]
              by_cases k6 : kind = 6
              · rw [if_pos k6]; exact (hno _).symm
              · rw [if_neg k6]; exact (hno _).symm
theorem runL_ans (ops : List O3) (k : Nat) (hk : k < ops.length) : ∀ m, k < m → m ≤ ops.length → ∀ h : k < (runL (ops.take m)).2.length, (runL (ops.take m)).2[k] = (doA (runL (ops.take k)).1 ops[k].1 ops[k].2.1 ops[k].2.2).2 := by
  intro m
  induction m with
  | zero => intro h; omega
  | succ m ih =>
    intro h1 h2 h
    have hl := runL_len ops m (by omega)
    have e : (runL (ops.take (m + 1))).2 = (runL (ops.take m)).2 ++ [(doA (runL (ops.take m)).1 ops[m].1 ops[m].2.1 ops[m].2.2).2] := by rw [runL_take ops m (by omega)]; rfl
    rcases Nat.lt_or_ge k m with h3 | h3
    · have := ih h3 (by omega) (by omega)
      simp only [e]
      rw [List.getElem_append_left (by omega)]
      exact this
    · have : k = m := by omega
      subst this
      simp only [e]
      rw [List.getElem_append_right (by omega)]
      simp [hl]
structure ZI (T : MT IP) (ks : List Int) : Prop where
  nd_ : nd T = ks.map zk
  hp : Hp T
  up : Up ks
theorem zk_up {ks : List Int} (h : Up ks) : UpN (ks.map zk) := by
  rw [UpN, List.pairwise_map]; exact h
theorem ZI.put {T : MT IP} {ks : List Int} (h : ZI T ks) (k : Int) : ZI (putM T (zk k)) (ksIns ks k) := by
  have hu : UpN (nd T) := by rw [h.nd_]; exact zk_up h.up
  obtain ⟨h1, h2⟩ := nd_put T (zk k) hu h.hp (fun x hx e => by
    rw [h.nd_] at hx
    obtain ⟨y, _, rfl⟩ := List.mem_map.1 hx
    have : y = k := e
    rw [this])
  refine ⟨?_, h2, up_ins h.up k⟩
  rw [h1, h.nd_, ndIns, ksIns, List.filter_map, List.filter_map]
  simp [Function.comp_def, zk]
  rfl
theorem ZI.cut {T : MT IP} {ks : List Int} (h : ZI T ks) (k : Int) : ZI (cutM T k) (ksDel ks k) := by
  have hu : UpN (nd T) := by rw [h.nd_]; exact zk_up h.up
  obtain ⟨h1, h2⟩ := nd_cut T k hu h.hp
  refine ⟨?_, h2, up_del h.up k⟩
  rw [h1, h.nd_, ksDel, List.filter_map]
  simp [Function.comp_def, zk]
theorem ZI.one {T U : MT IP} {ks : List Int} (h : ZI T ks) (h' : ZI U ks) : T = U :=
  hp_one T U (by rw [h.nd_, h'.nd_]) h.hp h'.hp (by rw [h.nd_]; exact zk_up h.up)
theorem zip_inv (ops : List O3) : ∀ k, k ≤ ops.length → ZI (zrT ((opsA ops).take k)) ((runL (ops.take k)).1.map Prod.fst) := by
  have hal := runL_len ops ops.length (Nat.le_refl _)
  rw [List.take_length] at hal
  have hzl : (opsA ops).length = ops.length := by rw [opsA, List.length_zip, hal]; omega
  intro k
  induction k with
  | zero => intro _; exact ⟨rfl, trivial, .nil⟩
  | succ k ih =>
    intro hk
    have h1 := ih (by omega)
    have hz : (opsA ops)[k]'(by omega) = (ops[k], (runL ops).2[k]'(by omega)) := by simp [opsA]
    have ha := runL_ans ops k (by omega) ops.length (by omega) (Nat.le_refl _)
    simp only [List.take_length] at ha
    have ha' := ha (by omega)
    have hr := runL_right ops k (by omega)
    have hd := doA_keys (runL (ops.take k)).1 ops[k].1 ops[k].2.1 ops[k].2.2 hr
    rw [zrT_snoc _ k (by omega), hz, runL_take ops k (by omega), runS]
    simp only
    rw [hd, zrS, ha']
    split
    · exact h1
    · split
      · exact h1.put _
      · split
        · exact h1.cut _
        · exact h1
theorem zip_inv_all (ops : List O3) : ZI (zrT (opsA ops)) ((runL ops).1.map Prod.fst) := by
  have h := zip_inv ops ops.length (Nat.le_refl _)
  have hal := runL_len ops ops.length (Nat.le_refl _)
  rw [List.take_length] at hal h
  rwa [List.take_of_length_le (by rw [opsA, List.length_zip, hal]; omega)] at h
theorem runL_snoc (ops : List O3) (x : O3) : runL (ops ++ [x]) = runS (runL ops) x := by
  rw [runL, List.foldl_append]; rfl
theorem runL_mem : ∀ (keys : List Int) (y : Int), y ∈ (runL (keys.map fun k => ((1, k, 0) : O3))).1.map Prod.fst → y ∈ keys := by
  intro keys
  induction hn : keys.length generalizing keys with
  | zero =>
    obtain rfl : keys = [] := List.eq_nil_of_length_eq_zero hn
    intro y hy; simp [runL] at hy
  | succ n ih =>
    intro y hy
    obtain ⟨u, x, rfl⟩ : ∃ u x, keys = u ++ [x] := ⟨keys.take n, keys[n]'(by omega), by rw [← List.take_succ_eq_append_getElem, List.take_of_length_le (by omega)]⟩
    rw [List.map_append, List.map_cons, List.map_nil, runL_snoc, runS] at hy
    simp only at hy
    have hr := runL_right (u.map fun k => ((1, k, 0) : O3)) _ (Nat.le_refl _)
    rw [List.take_length] at hr
    rw [doA_keys _ _ _ _ hr] at hy
    have hu := ih u (by simpa using hn) y
    split at hy
    · exact List.mem_append_left _ (hu hy)
    · simp only [if_true] at hy
      simp only [ksIns, List.mem_append, List.mem_filter, List.mem_singleton] at hy
      rcases hy with (hy | hy) | hy
      · exact List.mem_append_left _ (hu hy.1)
      · rw [hy]; simp
      · exact List.mem_append_left _ (hu hy.1)
theorem ksDel_ins {ks : List Int} (h : Up ks) {k : Int} (hk : k ∉ ks) : ksDel (ksIns ks k) k = ks := by
  rw [ksDel, ksIns, List.filter_append, List.filter_append]
  have e1 : ([k] : List Int).filter (fun x => !(x == k)) = [] := by simp
  have e2 : ∀ l : List Int, k ∉ l → l.filter (fun x => !(x == k)) = l := fun l hl => filter_all fun x hx => by simp; rintro rfl; exact hl hx
  rw [e1, e2 _ (fun h => hk (List.mem_filter.1 h).1), e2 _ (fun h => hk (List.mem_filter.1 h).1), List.append_nil]
  have : ∀ ks : List Int, Up ks → k ∉ ks → ks.filter (fun x => decide (x < k)) ++ ks.filter (fun x => decide (k < x)) = ks := by
    intro ks
    induction ks with
    | nil => intro _ _; rfl
    | cons y t ih =>
      intro hu hn
      rw [Up, List.pairwise_cons] at hu
      have hyk : y ≠ k := fun e => hn (by simp [e])
      have hkt : k ∉ t := fun h => hn (by simp [h])
      rcases Int.lt_trichotomy y k with h1 | h1 | h1
      · rw [List.filter_cons, if_pos (by simpa using h1), List.filter_cons, if_neg (by simp; omega), List.cons_append, ih hu.2 hkt]
      · exact absurd h1 hyk
      · rw [List.filter_cons, if_neg (by simp; omega), List.filter_cons, if_pos (by simpa using h1)]
        rw [filter_no (fun x hx => by have := hu.1 x hx; simp; omega), filter_all (fun x hx => by have := hu.1 x hx; simp; omega)]
        rfl
  exact this ks h hk
theorem cut_err {l l' : List IP} {k v : Int} (h : ¬ (doA l 1 k v).2.err ≠ 0) (hr : mapRight l = 0) (hr2 : mapRight l' = 0) : ¬ (doA l' 3 k v).2.err ≠ 0 := by
  rw [doA, if_pos hr, doL] at h
  rw [doA, if_pos hr2, doL]
  by_cases hb : 0 ≤ k ∧ k ≤ 1000000
  · rw [if_neg (by omega), if_neg (by decide), if_neg (by decide), if_pos rfl]
    split <;> simp
  · rw [if_pos (.inr ⟨by decide, hb⟩)] at h
    simp at h
/-- Put and taken away the tree is as it was. -/
theorem zip_back (keys : List Int) (k v : Int) (hk : k ∉ keys) : zrT (opsA (keys.map (fun k => ((1, k, 0) : O3)) ++ [(1, k, v)] ++ [(3, k, v)])) = zrT (opsA (keys.map fun k => ((1, k, 0) : O3))) := by
  have h1 := zip_inv_all (keys.map (fun k => ((1, k, 0) : O3)) ++ [(1, k, v)] ++ [(3, k, v)])
  have h2 := zip_inv_all (keys.map fun k => ((1, k, 0) : O3))
  refine h1.one ?_
  have hm := runL_mem keys k
  have hr := runL_right (keys.map fun k => ((1, k, 0) : O3)) _ (Nat.le_refl _)
  rw [List.take_length] at hr
  have hr2 := runL_right (keys.map (fun k => ((1, k, 0) : O3)) ++ [(1, k, v)]) _ (Nat.le_refl _)
  rw [List.take_length] at hr2
  rw [runL_snoc, runS] at h1 ⊢
  simp only at h1 ⊢
  obtain ⟨S, hS⟩ : ∃ S, S = runL (keys.map fun k => ((1, k, 0) : O3)) := ⟨_, rfl⟩
  rw [← hS] at hm h2 hr
  have e1 : (runL (keys.map (fun k => ((1, k, 0) : O3)) ++ [(1, k, v)])).1 = (doA S.1 1 k v).1 := by rw [runL_snoc, runS, hS]
  rw [e1] at hr2 ⊢
  rw [doA_keys _ _ _ _ hr2, doA_keys _ _ _ _ hr]
  have hnk : k ∉ S.1.map Prod.fst := fun h => hk (hm h)
  have hdel : ksDel (S.1.map Prod.fst) k = S.1.map Prod.fst := filter_all fun x hx => by simp; rintro rfl; exact hnk hx
  have hdi := ksDel_ins h2.up hnk
  have e3 : ∀ b : Prop, [Decidable b] → (if b then S.1.map Prod.fst else if (3 : Int) = 1 then ksIns (S.1.map Prod.fst) k else if (3 : Int) = 3 then ksDel (S.1.map Prod.fst) k else S.1.map Prod.fst) = S.1.map Prod.fst := fun b _ => by
    split
    · rfl
    · rw [if_neg (by decide), if_pos rfl]; exact hdel
  by_cases he : (doA S.1 1 k v).2.err ≠ 0
  · rw [if_pos he, e3]; exact h2
  · rw [if_neg he, if_pos rfl]
    by_cases he2 : (doA (doA S.1 1 k v).1 3 k v).2.err ≠ 0
    · exfalso
      exact cut_err he hr hr2 he2
    · rw [if_neg he2, if_neg (by decide), if_pos rfl, hdi]; exact h2
end Go.Proofs.YtfgbbmjnjppfnaaDoor
namespace Go.Proofs.YtfgbbmjnjppfnaaDoor
open Go.ChangeShapes Go.WideShapes Go.ChangeAt Go.RowKit
set_option linter.unusedVariables false
set_option linter.unusedSimpArgs false

theorem mtP_sizeZ (ks : List Int) : ∀ t : PT, (mtP ks t).size = t.size
  | .nil => rfl
  | .node p l r => by simp [mtP, MT.size, PT.size, mtP_sizeZ ks l, mtP_sizeZ ks r]
theorem readZ_size (l : List IP) : (readZ l).1.size ≤ 200 ∧ ((readZ l).2 = 0 → (parOf l).2 = 0 ∧ (readZ l).1.size = l.length ∧ l.length ≤ 200) := by
  unfold readZ
  by_cases h0 : (parOf l).2 = 0
  · obtain ⟨hlen, hmr, t, hpt, hpo⟩ := parOf_len l h0
    obtain ⟨hta, hts, _⟩ := ptR_to l 0 l.length 0 t (by omega) hpt
    rw [if_neg (by simp [h0])]
    split
    · rw [hpt]
      simp only [mtP_sizeZ]
      exact ⟨by omega, fun _ => ⟨h0, by omega, hlen⟩⟩
    · exact ⟨by simp [MT.size], fun h => by simp at h⟩
  · rw [if_pos h0]
    exact ⟨by simp [MT.size], fun h => absurd h h0⟩
def splitZ (l : List IP) (key : Int) : List IP × List IP × Int :=
  if (readZ l).2 ≠ 0 then ([], [], (readZ l).2) else if key < 0 ∨ 1000000 < key then ([], [], 1) else
  ((unz (mapZ (readZ l).1) key).1.spotsBy Prod.fst 0, (unz (mapZ (readZ l).1) key).2.spotsBy Prod.fst 0, 0)
def SpPost (r : List IP × List IP × Int) (w : World) (e : Ending) (w' : World) : Prop := ∃ v u, e = .returned (.tuple #[v, u, .int .i64 r.2.2]) ∧ RD w' ePair v r.1 ∧ RD w' ePair u r.2.1 ∧ Below w.heap.size w w'
set_option maxRecDepth 100000 in
set_option maxHeartbeats 4000000 in
theorem zipSplit_any (l : List IP) (key : Int) (v : Value) (w : World) (hr : RD w ePair v l) (hdb : DTb w) : Calls Tryd.prog 9 #[v, .int .i64 key] w (SpPost (splitZ l key) w) := by
  obtain ⟨A, c, rfl, hc, hm⟩ := hr.shape
  have HRE := hide (zipRead_any l _ w hr hdb)
  unfold ZRPost at HRE
  obtain ⟨hz, _⟩ := readZ_size l
  clear hr hdb
  obtain ⟨⟨T, er⟩, hP⟩ : ∃ P, P = readZ l := ⟨_, rfl⟩
  have hsp : splitZ l key = if er ≠ 0 then ([], [], er) else if key < 0 ∨ 1000000 < key then ([], [], 1) else ((unz (mapZ T) key).1.spotsBy Prod.fst 0, (unz (mapZ T) key).2.spotsBy Prod.fst 0, 0) := by rw [splitZ, ← hP]
  rw [← hP] at HRE hz
  simp only at HRE hz
  have hus := unz_size (mapZ T) key
  rw [mapZ_size] at hus
  clear hP
  by_cases he : er = 0
  · subst he
    by_cases hk : key < 0 ∨ 1000000 < key
    · have H1 : Hid (splitZ l key = ([], [], 1)) := hide (by rw [hsp, if_neg (by simp), if_pos hk])
      clear hsp hus
      go_enter Tryd.func9, Tryd.ntmps9
      go_wp2_with fail
      with_reducible refine HRE.out.mono ?_
      rintro e w1 ⟨p1, F1, rfl, hm1, hF1, kk1⟩
      clear hm1 hF1
      rcases hk with hk | hk
      · have d1 : decide (key < 0) = true := by simp [hk]
        go_wp2
        go_ret3
        exact ⟨_, _, by rw [H1.out]; rfl, by rw [H1.out]; exact RD.nil, by rw [H1.out]; exact RD.nil, kk1.bel⟩
      · have d1 : decide (key < 0) = false := by simp; omega
        have d2 : decide (1000000 < key) = true := by simp [hk]
        go_wp2
        go_ret3
        exact ⟨_, _, by rw [H1.out]; rfl, by rw [H1.out]; exact RD.nil, by rw [H1.out]; exact RD.nil, kk1.bel⟩
    · have H1 : Hid (splitZ l key = ((unz (mapZ T) key).1.spotsBy Prod.fst 0, (unz (mapZ T) key).2.spotsBy Prod.fst 0, 0)) := hide (by rw [hsp, if_neg (by simp), if_neg hk])
      have d1 : decide (key < 0) = false := by simp; omega
      have d2 : decide (1000000 < key) = false := by simp; omega
      have HUZ := hide (fun p F W h => unzipped_any (mapZ T) p F key W h)
      obtain ⟨⟨Ta, Tb⟩, hU⟩ : ∃ P, P = unz (mapZ T) key := ⟨_, rfl⟩
      rw [← hU] at HUZ H1 hus
      simp only at hus H1
      clear hsp hk hU
      go_enter Tryd.func9, Tryd.ntmps9
      go_wp2_with fail
      with_reducible refine HRE.out.mono ?_
      rintro e w1 ⟨p1, F1, rfl, hm1, hF1, kk1⟩
      have HM1 := hide hm1.mapZ
      have HF1 := hide hF1
      clear hm1 hF1
      go_wp2_with fail
      with_reducible refine (HUZ.out _ _ _ HM1.out).mono ?_
      rintro e w2 ⟨pa, pb, Fa, Fb, rfl, ha, hb, _, _, _, hk2⟩
      have kk2 : Kp w w2 := hk2.kp kk1 HF1.out
      have HTA := hide (zipTold_any Ta pa Fa w2 ha (by omega))
      have HTB := hide (fun W (h : Kp w2 W) => zipTold_any Tb pb Fb W (hb.kp h) (by omega))
      clear ha hb hk2
      go_wp2_with fail
      with_reducible refine HTA.out.mono ?_
      rintro e w3 ⟨v3, rfl, hr3, hb3⟩
      have kk3 : Kp w2 w3 := Kp.of hb3
      have HR3 := hide hr3
      clear hr3 hb3
      go_wp2_with fail
      with_reducible refine (HTB.out _ kk3).mono ?_
      rintro e w4 ⟨v4, rfl, hr4, hb4⟩
      have kk4 : Kp w3 w4 := Kp.of hb4
      have HR4 := hide hr4
      clear hr4 hb4
      go_wp2
      go_ret3
      exact ⟨_, _, by rw [H1.out]; rfl, by rw [H1.out]; exact HR3.out.kp kk4, by rw [H1.out]; exact HR4.out, (kk2.trans (kk3.trans kk4)).bel⟩
  · have H1 : Hid (splitZ l key = ([], [], er)) := hide (by rw [hsp, if_pos he])
    have b0 : (er != 0) = true := by simpa using he
    clear hsp he hus
    go_enter Tryd.func9, Tryd.ntmps9
    go_wp2_with fail
    with_reducible refine HRE.out.mono ?_
    rintro e w1 ⟨p1, F1, rfl, hm1, hF1, kk1⟩
    clear hm1 hF1
    go_wp2
    go_ret3
    exact ⟨_, _, by rw [H1.out]; rfl, by rw [H1.out]; exact RD.nil, by rw [H1.out]; exact RD.nil, kk1.bel⟩

def badZ (a b : List IP) : Bool := match a.getLast?, b.head? with
  | some x, some y => decide (y.1 ≤ x.1)
  | _, _ => false
def mergeZ (a b : List IP) : List IP × Int :=
  if (parOf a).2 ≠ 0 then ([], (parOf a).2) else if (parOf b).2 ≠ 0 then ([], (parOf b).2) else
  if (readZ a).2 ≠ 0 ∨ (readZ b).2 ≠ 0 ∨ badZ a b = true then ([], 3) else if 200 < a.length + b.length then ([], 2) else
  ((zipM (mapZ (readZ a).1) (mapZ (readZ b).1)).spotsBy Prod.fst 0, 0)
def MgRel (a b : List IP) (w : World) (iv : Value) (wr : World) : Prop := (iv = .int .i64 0 ∨ (iv = .int .i64 1 ∧ (parOf a).2 = 0) ∨ (iv = .int .i64 2 ∧ (parOf a).2 = 0 ∧ (parOf b).2 = 0)) ∧ Kp w wr
theorem badZ_nil_left (b : List IP) : badZ [] b = false := rfl
theorem badZ_nil_right (a : List IP) : badZ a [] = false := by unfold badZ; cases a.getLast? <;> rfl
theorem badZ_at (a b : List IP) (ha : a.length - 1 < a.length) (hb : 0 < b.length) : badZ a b = decide (b[0].1 ≤ a[a.length - 1].1) := by
  unfold badZ
  rw [List.getLast?_eq_getElem?, List.getElem?_eq_getElem ha, List.head?_eq_getElem?, List.getElem?_eq_getElem hb]
theorem run_ix0 (x y : Value) (w : World) : (Instr.index 79 (.agg #[x, y]) (.int .i64 0)).run Tryd.prog w = .ok x w := by
  simp [Instr.index, run_underlying Tryd.underlying79, asIntOf, go_sem]
theorem run_ix1 (x y : Value) (w : World) : (Instr.index 79 (.agg #[x, y]) (.int .i64 1)).run Tryd.prog w = .ok y w := by
  simp [Instr.index, run_underlying Tryd.underlying79, asIntOf, go_sem]
set_option maxRecDepth 100000 in
set_option maxHeartbeats 8000000 in
theorem zipMerge_any (a b : List IP) (va vb : Value) (w : World) (hra : RD w ePair va a) (hrb : RD w ePair vb b) (hdb : DTb w) : Calls Tryd.prog 10 #[va, vb] w (Ret2 ePair (mergeZ a b) w) := by
  obtain ⟨A, c, rfl, hc, hm⟩ := hra.shape
  obtain ⟨B, d, rfl, hd, hn⟩ := hrb.shape
  have HA := hide hra
  have HB := hide hrb
  have HCA := hide (fun W h => shapeCheck_any a (.slice A a.length c) W h)
  have HCB := hide (fun W h => shapeCheck_any b (.slice B b.length d) W h)
  have HDB := hide hdb
  have hix0 := fun W => run_ix0 (.slice A a.length c) (.slice B b.length d) W
  have hix1 := fun W => run_ix1 (.slice A a.length c) (.slice B b.length d) W
  clear hra hrb hdb
  go_enter Tryd.func10, Tryd.ntmps10
  go_wp2
  go_loopw [16] (MgRel a b w) (fun i _ => 2 - (intOf i).toNat)
  case atStart => exact ⟨.inl rfl, Kp.refl _⟩
  case round =>
    obtain ⟨hi, hkp⟩ := hrel
    have HKP := hide hkp
    rcases hi with rfl | ⟨rfl, hpa⟩ | ⟨rfl, hpa, hpb⟩
    · obtain ⟨e0, he⟩ : ∃ e0, e0 = (parOf a).2 := ⟨_, rfl⟩
      rw [← he] at HCA
      by_cases h0 : e0 = 0
      · subst h0
        have HE := hide he
        clear he
        go_wp2_with fail
        with_reducible refine (HCA.out _ (HA.out.kp hkp)).mono ?_
        rintro e w1 ⟨rfl, hb1⟩
        have kk1 := hkp.trans (Kp.of hb1)
        clear hb1
        go_wp2
        go_roundw
        case rel => exact ⟨.inr (.inl ⟨rfl, HE.out.symm⟩), kk1⟩
        case measure => simp [intOf]
      · have H1 : Hid (mergeZ a b = ([], e0)) := hide (by rw [mergeZ, ← he, if_pos h0])
        have b0 : (e0 != 0) = true := by simpa using h0
        clear he h0
        go_wp2_with fail
        with_reducible refine (HCA.out _ (HA.out.kp hkp)).mono ?_
        rintro e w1 ⟨rfl, hb1⟩
        have kk1 := hkp.trans (Kp.of hb1)
        clear hb1
        go_wp2
        go_ret2
        exact ⟨_, by rw [H1.out]; rfl, by rw [H1.out]; exact RD.nil, kk1.bel⟩
    · obtain ⟨e0, he⟩ : ∃ e0, e0 = (parOf b).2 := ⟨_, rfl⟩
      rw [← he] at HCB
      have HPA := hide hpa
      by_cases h0 : e0 = 0
      · subst h0
        have HE := hide he
        clear he hpa
        go_wp2_with fail
        with_reducible refine (HCB.out _ (HB.out.kp hkp)).mono ?_
        rintro e w1 ⟨rfl, hb1⟩
        have kk1 := hkp.trans (Kp.of hb1)
        clear hb1
        go_wp2
        go_roundw
        case rel => exact ⟨.inr (.inr ⟨rfl, HPA.out, HE.out.symm⟩), kk1⟩
        case measure => simp [intOf]
      · have H1 : Hid (mergeZ a b = ([], e0)) := hide (by rw [mergeZ, if_neg (by simp [hpa]), ← he, if_pos h0])
        have b0 : (e0 != 0) = true := by simpa using h0
        clear he h0 hpa
        go_wp2_with fail
        with_reducible refine (HCB.out _ (HB.out.kp hkp)).mono ?_
        rintro e w1 ⟨rfl, hb1⟩
        have kk1 := hkp.trans (Kp.of hb1)
        clear hb1
        go_wp2
        go_ret2
        exact ⟨_, by rw [H1.out]; rfl, by rw [H1.out]; exact RD.nil, kk1.bel⟩
    · have hla := mapRight_len a (parOf_len a hpa).2.1
      have hlb := mapRight_len b (parOf_len b hpb).2.1
      have hmg : mergeZ a b = if (readZ a).2 ≠ 0 ∨ (readZ b).2 ≠ 0 ∨ badZ a b = true then ([], 3) else if 200 < a.length + b.length then ([], 2) else ((zipM (mapZ (readZ a).1) (mapZ (readZ b).1)).spotsBy Prod.fst 0, 0) := by
        rw [mergeZ, if_neg (by simp [hpa]), if_neg (by simp [hpb])]
      have HRA := hide (fun W (h : Kp w W) => zipRead_any a (.slice A a.length c) W (HA.out.kp h) (HDB.out.kp h))
      have HRB := hide (fun W (h : Kp w W) => zipRead_any b (.slice B b.length d) W (HB.out.kp h) (HDB.out.kp h))
      unfold ZRPost at HRA HRB
      obtain ⟨hza, _⟩ := readZ_size a
      obtain ⟨hzb, _⟩ := readZ_size b
      obtain ⟨⟨TA, ra⟩, hPA⟩ : ∃ P, P = readZ a := ⟨_, rfl⟩
      obtain ⟨⟨TB', rb⟩, hPB⟩ : ∃ P, P = readZ b := ⟨_, rfl⟩
      rw [← hPA] at HRA hza hmg
      rw [← hPB] at HRB hzb hmg
      simp only at HRA HRB hza hzb hmg
      have HMG := hide hmg
      clear hmg hPA hPB hpa hpb
      go_wp2_with fail
      with_reducible refine (HRA.out _ hkp).mono ?_
      rintro e w1 ⟨p1, F1, rfl, hm1, hF1, kk1⟩
      have K1 : Kp w w1 := hkp.trans kk1
      have HM1 := hide hm1.mapZ
      have HF1 := hide hF1
      clear hm1 hF1 kk1
      go_wp2_with fail
      with_reducible refine (HRB.out _ K1).mono ?_
      rintro e w2 ⟨p2, F2, rfl, hm2, hF2, kk2⟩
      have K2 : Kp w w2 := K1.trans kk2
      have HM2 := hide hm2.mapZ
      have HF2 := hide hF2
      have HK2 := hide kk2
      clear hm2 hF2 kk2
      have HLT := hide HM1.out.lt
      by_cases h1 : ra = 0
      · by_cases h2 : rb = 0
        · subst h1 h2
          have b0 : ((0 : Int) != 0) = false := by decide
          have HD12 : Hid (∀ x ∈ F1, x ∉ F2) := hide (fun x h h' => by have := HLT.out x h; have := HF2.out x h'; omega)
          have HZP := hide (fun W (h : Kp w2 W) => zipped_any _ (mapZ TA) (mapZ TB') p1 p2 F1 F2 W (Nat.le_refl _) ((HM1.out.kp HK2.out).kp h) (HM2.out.kp h) HD12.out)
          have hzs := zipM_size _ (mapZ TA) (mapZ TB') (Nat.le_refl _)
          rw [mapZ_size, mapZ_size] at hzs
          have HFK : Hid (∀ W W', Kp w2 W → Kf (fun i => i ∈ F1 ∨ i ∈ F2) W W' → Kp w W') := hide (fun W W' h1 h2 => h2.kp (K2.trans h1) (fun i hi => by
            rcases hi with hi | hi
            · have := HF1.out i hi; have := hkp.size; omega
            · have := HF2.out i hi; have := K1.size; omega))
          have KW0 := Kp.refl w2
          rcases Nat.eq_zero_or_pos a.length with ha | ha
          · obtain rfl : a = [] := List.eq_nil_of_length_eq_zero ha
            have HBZ : Hid (badZ [] b = false) := hide (badZ_nil_left b)
            have d1 : decide ((0 : Int) < (([] : List IP).length : Int)) = false := by simp
            have hwl : IntKind.i64.wrap ((([] : List IP).length : Int) + (b.length : Int)) = (([] : List IP).length : Int) + (b.length : Int) := IntWalk.i64_in _ (by omega)
            have hbig : ¬ 200 < ([] : List IP).length + b.length := by simp <;> omega
            have H1 : Hid (mergeZ ([] : List IP) b = ((zipM (mapZ TA) (mapZ TB')).spotsBy Prod.fst 0, 0)) := hide (by rw [HMG.out, if_neg (by simp [HBZ.out]), if_neg hbig])
            have d9 : decide ((200 : Int) < (([] : List IP).length : Int) + (b.length : Int)) = false := by simp only [decide_eq_false_iff_not]; omega
            clear hbig
            go_wp2_with fail
            go_quiet (fail)
            go_wp2_with fail
            with_reducible refine (HZP.out _ (by (focus ((repeat (first | (with_reducible assumption) | (with_reducible exact Kp.refl _) | (with_reducible apply Kp.drew) | (with_reducible apply Kp.drewN) | ((with_reducible apply Kp.setR); (focus (first | (with_reducible assumption) | (simp; done) | (simp; omega)))) | (with_reducible apply Kp.alloc) | ((with_reducible apply Kp.call); (with_reducible assumption)) | ((with_reducible apply Kp.app); (with_reducible assumption)))); done)))).mono ?_
            rintro e w5 ⟨p5, F5, rfl, hm5, hF5, hk5⟩
            have K5 := HFK.out _ w5 (by (focus ((repeat (first | (with_reducible assumption) | (with_reducible exact Kp.refl _) | (with_reducible apply Kp.drew) | (with_reducible apply Kp.drewN) | ((with_reducible apply Kp.setR); (focus (first | (with_reducible assumption) | (simp; done) | (simp; omega)))) | (with_reducible apply Kp.alloc) | ((with_reducible apply Kp.call); (with_reducible assumption)) | ((with_reducible apply Kp.app); (with_reducible assumption)))); done))) hk5
            have HTO := hide (zipTold_any _ p5 F5 w5 hm5 (by omega))
            clear hm5 hF5 hk5
            go_wp2_with fail
            with_reducible refine HTO.out.mono ?_
            rintro e w6 ⟨v6, rfl, hr6, hb6⟩
            have kk6 : Kp w5 w6 := Kp.of hb6
            have HR6 := hide hr6
            clear hr6 hb6
            go_wp2
            go_ret2
            exact ⟨_, by rw [H1.out]; rfl, by rw [H1.out]; exact HR6.out, (K5.trans kk6).bel⟩
          · have hb3 := ha
            rcases Nat.eq_zero_or_pos b.length with hb | hb
            · obtain rfl : b = [] := List.eq_nil_of_length_eq_zero hb
              have HBZ : Hid (badZ a [] = false) := hide (badZ_nil_right a)
              have d1 : decide ((0 : Int) < (a.length : Int)) = true := by simp <;> omega
              have d2 : decide ((0 : Int) < (([] : List IP).length : Int)) = false := by simp
              have hwl : IntKind.i64.wrap ((a.length : Int) + (([] : List IP).length : Int)) = (a.length : Int) + (([] : List IP).length : Int) := IntWalk.i64_in _ (by omega)
              have hbig : ¬ 200 < a.length + ([] : List IP).length := by simp <;> omega
              have H1 : Hid (mergeZ a ([] : List IP) = ((zipM (mapZ TA) (mapZ TB')).spotsBy Prod.fst 0, 0)) := hide (by rw [HMG.out, if_neg (by simp [HBZ.out]), if_neg hbig])
              have d9 : decide ((200 : Int) < (a.length : Int) + (([] : List IP).length : Int)) = false := by simp only [decide_eq_false_iff_not]; omega
              clear hbig
              go_wp2_with fail
              go_quiet (fail)
              go_wp2_with fail
              with_reducible refine (HZP.out _ (by (focus ((repeat (first | (with_reducible assumption) | (with_reducible exact Kp.refl _) | (with_reducible apply Kp.drew) | (with_reducible apply Kp.drewN) | ((with_reducible apply Kp.setR); (focus (first | (with_reducible assumption) | (simp; done) | (simp; omega)))) | (with_reducible apply Kp.alloc) | ((with_reducible apply Kp.call); (with_reducible assumption)) | ((with_reducible apply Kp.app); (with_reducible assumption)))); done)))).mono ?_
              rintro e w5 ⟨p5, F5, rfl, hm5, hF5, hk5⟩
              have K5 := HFK.out _ w5 (by (focus ((repeat (first | (with_reducible assumption) | (with_reducible exact Kp.refl _) | (with_reducible apply Kp.drew) | (with_reducible apply Kp.drewN) | ((with_reducible apply Kp.setR); (focus (first | (with_reducible assumption) | (simp; done) | (simp; omega)))) | (with_reducible apply Kp.alloc) | ((with_reducible apply Kp.call); (with_reducible assumption)) | ((with_reducible apply Kp.app); (with_reducible assumption)))); done))) hk5
              have HTO := hide (zipTold_any _ p5 F5 w5 hm5 (by omega))
              clear hm5 hF5 hk5
              go_wp2_with fail
              with_reducible refine HTO.out.mono ?_
              rintro e w6 ⟨v6, rfl, hr6, hb6⟩
              have kk6 : Kp w5 w6 := Kp.of hb6
              have HR6 := hide hr6
              clear hr6 hb6
              go_wp2
              go_ret2
              exact ⟨_, by rw [H1.out]; rfl, by rw [H1.out]; exact HR6.out, (K5.trans kk6).bel⟩
            · have hal : a.length - 1 < a.length := by omega
              have hbz := badZ_at a b hal hb
              obtain ⟨ba, oa, rfl, _, xa, _⟩ := (HA.out.kp K2).pair hal
              obtain ⟨bb, ob, rfl, _, xb, _⟩ := (HB.out.kp K2).pair hb
              rw [Nat.zero_mul, Nat.add_zero] at xb
              obtain ⟨ya, hya⟩ : ∃ ya, ya = a[a.length - 1].1 := ⟨_, rfl⟩
              obtain ⟨yb, hyb⟩ : ∃ yb, yb = b[0].1 := ⟨_, rfl⟩
              rw [← hya] at xa hbz
              rw [← hyb] at xb hbz
              obtain ⟨L1, hL1⟩ : ∃ L1 : Nat, L1 = a.length - 1 := ⟨_, rfl⟩
              rw [← hL1] at xa
              have hw1 : IntKind.i64.wrap ((a.length : Int) - 1) = (L1 : Int) := by rw [IntWalk.i64_in _ (by omega)]; omega
              have hL2 : (L1 : Int) < (a.length : Int) := by omega
              have d1 : decide ((0 : Int) < (a.length : Int)) = true := by simp <;> omega
              have d2 : decide ((0 : Int) < (b.length : Int)) = true := by simp <;> omega
              have hb0 : (0 : Int) < (b.length : Int) := by omega
              by_cases hle : yb ≤ ya
              · have H1 : Hid (mergeZ a b = ([], 3)) := hide (by rw [HMG.out, if_pos (.inr (.inr (by rw [hbz]; simp [hle])))])
                have d3 : decide (yb ≤ ya) = true := by simp [hle]
                clear hbz hya hyb hL1 hle
                go_wp2_with fail
                go_quiet (fail)
                go_wp2
                go_ret2
                exact ⟨_, by rw [H1.out]; rfl, by rw [H1.out]; exact RD.nil, Kp.bel (by (focus ((repeat (first | (with_reducible assumption) | (with_reducible exact Kp.refl _) | (with_reducible apply Kp.drew) | (with_reducible apply Kp.drewN) | ((with_reducible apply Kp.setR); (focus (first | (with_reducible assumption) | (simp; done) | (simp; omega)))) | (with_reducible apply Kp.alloc) | ((with_reducible apply Kp.call); (with_reducible assumption)) | ((with_reducible apply Kp.app); (with_reducible assumption)))); done)))⟩
              · have HBZ : Hid (badZ a b = false) := hide (by rw [hbz]; simp; omega)
                have d3 : decide (yb ≤ ya) = false := by simp; omega
                clear hbz hya hyb hL1 hle
                have hwl : IntKind.i64.wrap ((a.length : Int) + (b.length : Int)) = (a.length : Int) + (b.length : Int) := IntWalk.i64_in _ (by omega)
                by_cases hbig : 200 < a.length + b.length
                · have H1 : Hid (mergeZ a b = ([], 2)) := hide (by rw [HMG.out, if_neg (by simp [HBZ.out]), if_pos hbig])
                  have d9 : decide ((200 : Int) < (a.length : Int) + (b.length : Int)) = true := by simp only [decide_eq_true_eq]; omega
                  clear hbig
                  go_wp2_with fail
                  go_quiet (fail)
                  go_wp2
                  go_ret2
                  exact ⟨_, by rw [H1.out]; rfl, by rw [H1.out]; exact RD.nil, Kp.bel (by (focus ((repeat (first | (with_reducible assumption) | (with_reducible exact Kp.refl _) | (with_reducible apply Kp.drew) | (with_reducible apply Kp.drewN) | ((with_reducible apply Kp.setR); (focus (first | (with_reducible assumption) | (simp; done) | (simp; omega)))) | (with_reducible apply Kp.alloc) | ((with_reducible apply Kp.call); (with_reducible assumption)) | ((with_reducible apply Kp.app); (with_reducible assumption)))); done)))⟩
                · have H1 : Hid (mergeZ a b = ((zipM (mapZ TA) (mapZ TB')).spotsBy Prod.fst 0, 0)) := hide (by rw [HMG.out, if_neg (by simp [HBZ.out]), if_neg hbig])
                  have d9 : decide ((200 : Int) < (a.length : Int) + (b.length : Int)) = false := by simp only [decide_eq_false_iff_not]; omega
                  clear hbig
                  go_wp2_with fail
                  go_quiet (fail)
                  go_wp2_with fail
                  with_reducible refine (HZP.out _ (by (focus ((repeat (first | (with_reducible assumption) | (with_reducible exact Kp.refl _) | (with_reducible apply Kp.drew) | (with_reducible apply Kp.drewN) | ((with_reducible apply Kp.setR); (focus (first | (with_reducible assumption) | (simp; done) | (simp; omega)))) | (with_reducible apply Kp.alloc) | ((with_reducible apply Kp.call); (with_reducible assumption)) | ((with_reducible apply Kp.app); (with_reducible assumption)))); done)))).mono ?_
                  rintro e w5 ⟨p5, F5, rfl, hm5, hF5, hk5⟩
                  have K5 := HFK.out _ w5 (by (focus ((repeat (first | (with_reducible assumption) | (with_reducible exact Kp.refl _) | (with_reducible apply Kp.drew) | (with_reducible apply Kp.drewN) | ((with_reducible apply Kp.setR); (focus (first | (with_reducible assumption) | (simp; done) | (simp; omega)))) | (with_reducible apply Kp.alloc) | ((with_reducible apply Kp.call); (with_reducible assumption)) | ((with_reducible apply Kp.app); (with_reducible assumption)))); done))) hk5
                  have HTO := hide (zipTold_any _ p5 F5 w5 hm5 (by omega))
                  clear hm5 hF5 hk5
                  go_wp2_with fail
                  with_reducible refine HTO.out.mono ?_
                  rintro e w6 ⟨v6, rfl, hr6, hb6⟩
                  have kk6 : Kp w5 w6 := Kp.of hb6
                  have HR6 := hide hr6
                  clear hr6 hb6
                  go_wp2
                  go_ret2
                  exact ⟨_, by rw [H1.out]; rfl, by rw [H1.out]; exact HR6.out, (K5.trans kk6).bel⟩
        · have H1 : Hid (mergeZ a b = ([], 3)) := hide (by rw [HMG.out, if_pos (.inr (.inl h2))])
          have b0 : (ra != 0) = false := by simpa using h1
          have b1 : (rb != 0) = true := by simpa using h2
          clear h1 h2
          go_wp2_with fail
          go_quiet (fail)
          go_wp2
          go_ret2
          exact ⟨_, by rw [H1.out]; rfl, by rw [H1.out]; exact RD.nil, Kp.bel (by (focus ((repeat (first | (with_reducible assumption) | (with_reducible exact Kp.refl _) | (with_reducible apply Kp.drew) | (with_reducible apply Kp.drewN) | ((with_reducible apply Kp.setR); (focus (first | (with_reducible assumption) | (simp; done) | (simp; omega)))) | (with_reducible apply Kp.alloc) | ((with_reducible apply Kp.call); (with_reducible assumption)) | ((with_reducible apply Kp.app); (with_reducible assumption)))); done)))⟩
      · have H1 : Hid (mergeZ a b = ([], 3)) := hide (by rw [HMG.out, if_pos (.inl h1)])
        have b0 : (ra != 0) = true := by simpa using h1
        clear h1
        go_wp2_with fail
        go_quiet (fail)
        go_wp2
        go_ret2
        exact ⟨_, by rw [H1.out]; rfl, by rw [H1.out]; exact RD.nil, Kp.bel (by (focus ((repeat (first | (with_reducible assumption) | (with_reducible exact Kp.refl _) | (with_reducible apply Kp.drew) | (with_reducible apply Kp.drewN) | ((with_reducible apply Kp.setR); (focus (first | (with_reducible assumption) | (simp; done) | (simp; omega)))) | (with_reducible apply Kp.alloc) | ((with_reducible apply Kp.call); (with_reducible assumption)) | ((with_reducible apply Kp.app); (with_reducible assumption)))); done)))⟩
end Go.Proofs.YtfgbbmjnjppfnaaDoor
