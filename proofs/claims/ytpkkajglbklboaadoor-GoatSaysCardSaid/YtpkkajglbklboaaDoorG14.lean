/-
  Op by op: the keys, what comes and goes, how deep, how much was built. No program. Conditions: none.
  What goat.Run leaves is a right tree of the keys that are there: the law. No program. Conditions: none.
  goat.even, goat.size, goat.spots: what they answer. Conditions: the list reads as l (RD), the tree as MR says.
  Slices of slices that are read (RDS). Conditions: none.
  slices.Grow of nil, slices.Concat: what they answer. Conditions: the parts read as lists, of fewer than 2^30 elements together.
  slices.Grow of nil, slices.Concat of ints: what they answer. Conditions: the parts read as lists, of fewer than 2^30 elements together.
-/
import Derived.Test.YtpkkajglbklboaaDoorG13
import Derived.Test.YtpkkajglbklboaaDoorG3
import Derived.Test.YtpkkajglbklboaaDoorG1
import Derived.Lib.AppendZeros
import Derived.Lib.SliceRun

namespace Go.Proofs.YtpkkajglbklboaaDoor
open Go.ChangeShapes Go.WideShapes Go.ChangeAt Go.RowKit
set_option linter.unusedVariables false
set_option linter.unusedSimpArgs false

theorem ksIns_in : ∀ (ks : List Int) (k : Int), Up ks → k ∈ ks → ksIns ks k = ks
  | [], k, _, h => by cases h
  | x :: ks, k, h, hk => by
    obtain ⟨h1, h2⟩ := List.pairwise_cons.1 h
    by_cases e : x = k
    · subst e
      unfold ksIns
      have e1 : ks.filter (fun y => decide (y < x)) = [] := List.filter_eq_nil_iff.2 fun y hy => by have := h1 y hy; simp; omega
      have e2 : ks.filter (fun y => decide (x < y)) = ks := List.filter_eq_self.2 fun y hy => by simpa using h1 y hy
      simp [List.filter_cons, e1, e2]
    · have hk' : k ∈ ks := (List.mem_cons.1 hk).resolve_left fun h => e h.symm
      have hxk : x < k := h1 k hk'
      have ih := ksIns_in ks k h2 hk'
      unfold ksIns at ih ⊢
      rw [List.filter_cons_of_pos (by simpa using hxk), List.filter_cons_of_neg (by simp; omega)]
      simpa using ih
theorem ksDel_out (ks : List Int) (k : Int) (h : k ∉ ks) : ksDel ks k = ks := List.filter_eq_self.2 fun y hy => by
  have : y ≠ k := fun e => h (e ▸ hy)
  simpa using this
theorem Gt.kM_put {S : Gt} (h : Up (kM S.T)) (k : Int) : kM (S.put k).T = ksIns (kM S.T) k := by
  unfold Gt.put
  split
  · rename_i hk; rw [ksIns_in _ _ h hk]
  · split
    · exact kM_ins _ _ h
    · simp only; rw [fixT_keys]; exact kM_ins _ _ h
theorem Gt.kM_cut {S : Gt} (h : Up (kM S.T)) (k : Int) : kM (S.cut k).T = ksDel (kM S.T) k := by
  unfold Gt.cut
  split
  · rename_i hk; rw [ksDel_out _ _ hk]
  · split
    · simp only; rw [evenT_keys]; exact kM_del _ _ h
    · exact kM_del _ _ h
theorem kM_gtS (S : Gt) (o : O3) (a : An) (h : Up (kM S.T)) : kM (gtS S o a).T = if a.err ≠ 0 then kM S.T else if o.1 = 1 then ksIns (kM S.T) o.2.1 else if o.1 = 3 then ksDel (kM S.T) o.2.1 else kM S.T := by
  unfold gtS
  split
  · rfl
  · split
    · exact Gt.kM_put h _
    · split
      · exact Gt.kM_cut h _
      · rfl
/-- What comes and goes. -/
structure Ct where
  came : Nat
  went : Nat
  now : Nat
  top : Nat
def ctS (C : Ct) (o : O3) (a : An) : Ct :=
  if a.err ≠ 0 then C
  else if o.1 = 1 ∧ a.is = false then ⟨C.came + 1, C.went, C.now + 1, max C.top (C.now + 1)⟩
  else if o.1 = 3 ∧ a.is = true then ⟨C.came, C.went + 1, C.now - 1, max C.top (C.now - 1)⟩
  else ⟨C.came, C.went, C.now, max C.top C.now⟩
def ctT (z : List (O3 × An)) : Ct := z.foldl (fun C p => ctS C p.1 p.2) ⟨0, 0, 0, 0⟩
theorem ctT_snoc (z : List (O3 × An)) (k : Nat) (h : k < z.length) : ctT (z.take (k + 1)) = ctS (ctT (z.take k)) z[k].1 z[k].2 := by
  rw [List.take_succ_eq_append_getElem h, ctT, List.foldl_append]; rfl
theorem ctS_top (C : Ct) (o : O3) (a : An) : C.top ≤ (ctS C o a).top ∧ C.went ≤ (ctS C o a).went := by
  unfold ctS
  split
  · omega
  · split
    · simp only; omega
    · split <;> (simp only; omega)
theorem has_mem (l : List IP) (k : Int) : hasKey l k = true ↔ k ∈ l.map Prod.fst := by
  unfold hasKey
  rw [List.any_eq_true]
  constructor
  · rintro ⟨x, hx, he⟩
    exact List.mem_map.2 ⟨x, hx, by simpa using he⟩
  · intro h
    obtain ⟨x, hx, he⟩ := List.mem_map.1 h
    exact ⟨x, hx, by simpa using he⟩
/-- Of an op that went well: was the key there; and there is room. -/
theorem op_is (l : List IP) (o : O3) (hr : mapRight l = 0) (he : (doA l o.1 o.2.1 o.2.2).2.err = 0) :
    (o.1 = 1 → ((doA l o.1 o.2.1 o.2.2).2.is = true ↔ o.2.1 ∈ l.map Prod.fst) ∧ (o.2.1 ∉ l.map Prod.fst → l.length < 200)) ∧
    (o.1 = 3 → ((doA l o.1 o.2.1 o.2.2).2.is = true ↔ o.2.1 ∈ l.map Prod.fst)) := by
  obtain ⟨kind, key, val⟩ := o
  simp only at he ⊢
  have hl := mapRight_len l hr
  constructor
  · rintro rfl
    have hk : 0 ≤ key ∧ key ≤ 1000000 := by
      apply Classical.byContradiction
      intro hk
      rw [doA_arg key val 1 hr (by omega) hk] at he
      simp at he
    rw [doA_put key val hr hk] at he ⊢
    unfold putL at he ⊢
    rw [← has_mem]
    by_cases hh : hasKey l key = true
    · rw [if_pos hh]; simp [hh]
    · rw [if_neg hh] at he ⊢
      by_cases h2 : l.length = 200
      · rw [if_pos h2] at he; simp at he
      · rw [if_neg h2]; simp [hh]; omega
  · rintro rfl
    have hk : 0 ≤ key ∧ key ≤ 1000000 := by
      apply Classical.byContradiction
      intro hk
      rw [doA_arg key val 3 hr (by omega) hk] at he
      simp at he
    rw [doA_cut key val hr hk] at he ⊢
    unfold cutL
    rw [← has_mem]
    by_cases hh : hasKey l key = true
    · rw [if_pos hh]; simp [hh]
    · rw [if_neg hh]; simp [hh]
structure GtRun (l : List IP) (S : Gt) (C : Ct) : Prop where
  ok : GtOk S
  keys : kM S.T = l.map Prod.fst
  right : mapRight l = 0
  now : C.now = S.many
  top : S.most ≤ C.top
  top2 : C.top ≤ 200
  cut : C.went = 0 → S.most = S.many ∧ C.top = S.most
  work : ∀ D, deepF C.top ≤ D → pot S ≤ C.came * (3 * (D + 1)) + C.went * (3 * (D + 1) + 2)
theorem gt_step (ops : List O3) : ∀ k, k ≤ ops.length → GtRun (runL (ops.take k)).1 (gtT ((opsZ ops).take k)) (ctT ((opsZ ops).take k)) := by
  have hal := runL_len ops ops.length (Nat.le_refl _)
  rw [List.take_length] at hal
  have hzl : (opsZ ops).length = ops.length := by rw [opsZ, List.length_zip, hal]; omega
  intro k
  induction k with
  | zero => intro _; exact ⟨gtOk_new, rfl, runL_right ops 0 (by omega), rfl, Nat.le_refl _, Nat.zero_le _, fun _ => ⟨rfl, rfl⟩, fun D _ => by simp [gtT, pot, phi]⟩
  | succ k ih =>
    intro hk
    obtain ⟨h1, h2, h3, h4, h5, h6, h7, h8⟩ := ih (by omega)
    have hz : (opsZ ops)[k]'(by omega) = (ops[k], (runL ops).2[k]'(by omega)) := by simp [opsZ]
    have ha := runL_ans ops k (by omega) ops.length (by omega) (Nat.le_refl _)
    simp only [List.take_length] at ha
    have ha' := ha (by omega)
    have hd := doA_keys (runL (ops.take k)).1 ops[k].1 ops[k].2.1 ops[k].2.2 h3
    have hr' := runL_right ops (k + 1) hk
    have hlr : (runL (ops.take k)).1.length ≤ 200 := mapRight_len _ h3
    rw [gtT_snoc _ k (by omega), ctT_snoc _ k (by omega), hz]
    have hkeys : kM (gtS (gtT ((opsZ ops).take k)) ops[k] ((runL ops).2[k]'(by omega))).T = (runL (ops.take (k + 1))).1.map Prod.fst := by
      rw [kM_gtS _ _ _ h1.up, runL_take ops k (by omega), runS]
      simp only
      rw [hd, ha', h2]
    have hoi := op_is (runL (ops.take k)).1 ops[k] h3
    rw [← ha'] at hoi
    obtain ⟨S, hS⟩ : ∃ S, S = gtT ((opsZ ops).take k) := ⟨_, rfl⟩
    obtain ⟨C, hC⟩ : ∃ C, C = ctT ((opsZ ops).take k) := ⟨_, rfl⟩
    obtain ⟨a, haa⟩ : ∃ a, a = (runL ops).2[k]'(by omega) := ⟨_, rfl⟩
    obtain ⟨o, ho⟩ : ∃ o, o = ops[k] := ⟨_, rfl⟩
    obtain ⟨l, hl⟩ : ∃ l, l = (runL (ops.take k)).1 := ⟨_, rfl⟩
    rw [← hS] at h1 h2 h4 h5 h7 h8 hkeys ⊢
    rw [← hC] at h4 h5 h6 h7 h8 ⊢
    rw [← haa, ← ho] at hkeys hoi ⊢
    rw [← hl] at h2 hoi hlr
    have hmany : S.many = l.length := by rw [h1.many, ← kM_len, h2, List.length_map]
    clear hS hC haa ho hl hz ha ha' hd ih h3
    rw [← h2] at hoi
    have hle := h1.le
    by_cases he : a.err = 0
    · obtain ⟨p1, p3⟩ := hoi he
      by_cases ho1 : o.1 = 1
      · obtain ⟨q1, q2⟩ := p1 ho1
        have e1 : gtS S o a = S.put o.2.1 := by unfold gtS; rw [if_neg (by simp [he]), if_pos ho1]
        rw [e1] at hkeys ⊢
        have hok := h1.put o.2.1 (by omega) (by omega)
        by_cases hin : o.2.1 ∈ kM S.T
        · have e2 : S.put o.2.1 = S := by unfold Gt.put; rw [if_pos hin]
          have e3 : ctS C o a = ⟨C.came, C.went, C.now, max C.top C.now⟩ := by
            unfold ctS; rw [if_neg (by simp [he]), if_neg (by simp [q1.2 hin]), if_neg (by omega)]
          have e4 : max C.top C.now = C.top := by omega
          rw [e2] at hkeys hok ⊢
          rw [e3, e4]
          exact ⟨hok, hkeys, hr', h4, h5, h6, h7, h8⟩
        · have hisf : a.is = false := by
            cases hx : a.is with
            | false => rfl
            | true => exact absurd (q1.1 hx) hin
          have e3 : ctS C o a = ⟨C.came + 1, C.went, C.now + 1, max C.top (C.now + 1)⟩ := by
            unfold ctS; rw [if_neg (by simp [he]), if_pos ⟨ho1, hisf⟩]
          have hroom := q2 hin
          have hput : (S.put o.2.1).many = S.many + 1 ∧ (S.put o.2.1).most = max S.most (S.many + 1) := by
            unfold Gt.put; rw [if_neg hin]; split <;> exact ⟨rfl, rfl⟩
          rw [e3]
          refine ⟨hok, hkeys, hr', by rw [hput.1]; simp only; omega, by rw [hput.2]; simp only; omega, by simp only; omega, fun hw => ?_, fun D hD => ?_⟩
          · have := h7 hw
            rw [hput.1, hput.2]; simp only; omega
          · simp only at hD ⊢
            have hD1 : deepF C.top ≤ D := Nat.le_trans (deepF_mono _ _ (by omega) (by omega)) hD
            have hp := h1.pot_put o.2.1 D (Nat.le_trans (deepF_mono _ _ h5 (by omega)) hD1)
            rw [if_neg hin] at hp
            have h9 := h8 D hD1
            rw [Nat.add_mul, Nat.one_mul]
            omega
      · by_cases ho3 : o.1 = 3
        · have q1 := p3 ho3
          have e1 : gtS S o a = S.cut o.2.1 := by unfold gtS; rw [if_neg (by simp [he]), if_neg ho1, if_pos ho3]
          rw [e1] at hkeys ⊢
          have hok := h1.cut o.2.1 (by omega)
          by_cases hin : o.2.1 ∈ kM S.T
          · have e3 : ctS C o a = ⟨C.came, C.went + 1, C.now - 1, max C.top (C.now - 1)⟩ := by
              unfold ctS; rw [if_neg (by simp [he]), if_neg (by omega), if_pos ⟨ho3, q1.2 hin⟩]
            have hcut : (S.cut o.2.1).many = S.many - 1 ∧ (S.cut o.2.1).most ≤ S.most := by
              unfold Gt.cut; rw [if_neg (by simpa using hin)]; split
              · refine ⟨rfl, ?_⟩
                show S.many - 1 ≤ S.most
                omega
              · exact ⟨rfl, Nat.le_refl _⟩
            rw [e3]
            refine ⟨hok, hkeys, hr', by rw [hcut.1]; simp only; omega, by simp only; omega, by simp only; omega, fun hw => by simp only at hw; omega, fun D hD => ?_⟩
            simp only at hD ⊢
            have hD1 : deepF C.top ≤ D := Nat.le_trans (deepF_mono _ _ (by omega) (by omega)) hD
            have hp := h1.pot_cut o.2.1 D (Nat.le_trans (deepF_mono _ _ h5 (by omega)) hD1)
            rw [if_pos hin] at hp
            have h9 := h8 D hD1
            rw [Nat.add_mul, Nat.one_mul]
            omega
          · have e2 : S.cut o.2.1 = S := by unfold Gt.cut; rw [if_pos hin]
            have hisf : ¬ (a.is = true) := fun hx => hin (q1.1 hx)
            have e3 : ctS C o a = ⟨C.came, C.went, C.now, max C.top C.now⟩ := by
              unfold ctS; rw [if_neg (by simp [he]), if_neg (by omega), if_neg (by simp [hisf])]
            have e4 : max C.top C.now = C.top := by omega
            rw [e2] at hkeys hok ⊢
            rw [e3, e4]
            exact ⟨hok, hkeys, hr', h4, h5, h6, h7, h8⟩
        · have e1 : gtS S o a = S := by unfold gtS; rw [if_neg (by simp [he]), if_neg ho1, if_neg ho3]
          have e3 : ctS C o a = ⟨C.came, C.went, C.now, max C.top C.now⟩ := by
            unfold ctS; rw [if_neg (by simp [he]), if_neg (by omega), if_neg (by omega)]
          have e4 : max C.top C.now = C.top := by omega
          rw [e1] at hkeys ⊢
          rw [e3, e4]
          exact ⟨h1, hkeys, hr', h4, h5, h6, h7, h8⟩
    · have e1 : gtS S o a = S := by unfold gtS; rw [if_pos he]
      have e3 : ctS C o a = C := by unfold ctS; rw [if_pos he]
      rw [e1] at hkeys ⊢
      rw [e3]
      exact ⟨h1, hkeys, hr', h4, h5, h6, h7, h8⟩
end Go.Proofs.YtpkkajglbklboaaDoor
namespace Go.Proofs.YtpkkajglbklboaaDoor
open Go.ChangeShapes Go.WideShapes Go.ChangeAt Go.RowKit
set_option linter.unusedVariables false
set_option linter.unusedSimpArgs false

theorem gt_end (ops : List O3) : GtRun (runL ops).1 (gtT (opsZ ops)) (ctT (opsZ ops)) := by
  have h := gt_step ops ops.length (Nat.le_refl _)
  have hal := runL_len ops ops.length (Nat.le_refl _)
  rw [List.take_length] at hal
  have hzl : (opsZ ops).length = ops.length := by rw [opsZ, List.length_zip, hal]; omega
  rw [List.take_length, List.take_of_length_le (show (opsZ ops).length ≤ ops.length by omega)] at h
  exact h
theorem even_right (ks : List Int) (hl : ks.length ≤ 200) (hu : ks.Pairwise (· < ·)) (hk : ∀ x ∈ ks, 0 ≤ x ∧ x ≤ 1000000) : (parOf ((evenT ks).spotsBy Prod.fst 0)).2 = 0 ∧ ((evenT ks).spotsBy Prod.fst 0).map Prod.fst = ks := by
  have e : keysM Prod.fst (evenT ks) = ks := evenT_keys ks
  refine ⟨?_, by rw [spotsBy_keys, e]⟩
  rw [spotsBy_right Prod.fst _ (by rw [evenT_size]; exact hl) (by rw [e]; exact hu) (by rw [e]; exact hk)]
theorem goat_right (ops : List O3) : (parOf ((gtT (opsZ ops)).T.spotsBy Prod.fst 0)).2 = 0 ∧ ((gtT (opsZ ops)).T.spotsBy Prod.fst 0).map Prod.fst = (runL ops).1.map Prod.fst := by
  have h := gt_end ops
  have h1 : keysM Prod.fst (gtT (opsZ ops)).T = (runL ops).1.map Prod.fst := h.keys
  have hl := mapRight_len _ h.right
  refine ⟨?_, by rw [spotsBy_keys, h1]⟩
  rw [spotsBy_right Prod.fst _ (by rw [← keysM_len Prod.fst, h1, List.length_map]; exact hl) h.ok.up ?_]
  rw [h1]
  intro x hx
  obtain ⟨y, hy, rfl⟩ := List.mem_map.1 hx
  exact mapRight_in _ h.right y hy
/-- The deepest row. -/
theorem mostL_app (a b : List IP) : mostL (a ++ b) = b.foldl (fun m p => max m p.2) (mostL a) := by unfold mostL; rw [List.foldl_append]
theorem foldl_max (b : List IP) (x : Int) (hx : -1 ≤ x) : b.foldl (fun m p => max m p.2) x = max x (mostL b) := by
  induction b generalizing x with
  | nil => simp [mostL]; omega
  | cons p b ih =>
    have e : mostL (p :: b) = b.foldl (fun m p => max m p.2) (max (-1) p.2) := rfl
    rw [List.foldl_cons, ih _ (by omega), e, ih _ (by omega)]
    omega
theorem mostL_ge (a : List IP) : -1 ≤ mostL a := by
  have h := foldl_max a (-1) (by omega)
  have e : mostL a = a.foldl (fun m p => max m p.2) (-1) := rfl
  rw [← e] at h
  omega
theorem mostL_append (a b : List IP) : mostL (a ++ b) = max (mostL a) (mostL b) := by rw [mostL_app, foldl_max _ _ (mostL_ge a)]
theorem mostL_hT : ∀ (T : MT IP) (d : Int), 0 ≤ d → (mostL (T.spotsBy Prod.fst d) = -1 ∧ hT T = 0) ∨ (0 < hT T ∧ mostL (T.spotsBy Prod.fst d) = d + (hT T : Int) - 1)
  | .nil, d, _ => .inl ⟨rfl, rfl⟩
  | .node a l r, d, hd => by
    have h1 := mostL_hT l (d + 1) (by omega)
    have h2 := mostL_hT r (d + 1) (by omega)
    have e : mostL [(a.1, d)] = d := by simp [mostL]; omega
    have e2 : mostL ((MT.node a l r).spotsBy Prod.fst d) = max (max (mostL (l.spotsBy Prod.fst (d + 1))) d) (mostL (r.spotsBy Prod.fst (d + 1))) := by
      rw [MT.spotsBy, mostL_append, mostL_append, e]
    have e3 : hT (.node a l r) = max (hT l) (hT r) + 1 := rfl
    rw [e2, e3]
    right
    refine ⟨by omega, ?_⟩
    rcases h1 with ⟨a1, a2⟩ | ⟨a1, a2⟩ <;> rcases h2 with ⟨b1, b2⟩ | ⟨b1, b2⟩ <;> omega
/-- A key that was cut was there. -/
theorem gt_now (ops : List O3) (k : Nat) (hk : k < ops.length) (h2 : k < (runL ops).2.length) (he : ((runL ops).2[k]'h2).err = 0) (ho : ops[k].1 = 3) (hi : ((runL ops).2[k]'h2).is = true) : 1 ≤ (ctT ((opsZ ops).take k)).now := by
  have h := gt_step ops k (by omega)
  have ha := runL_ans ops k hk ops.length hk (Nat.le_refl _)
  simp only [List.take_length] at ha
  have ha' := ha h2
  have hoi := op_is (runL (ops.take k)).1 ops[k] h.right
  rw [← ha'] at hoi
  have h3 := ((hoi he).2 ho).1 hi
  have h4 := h.now
  have h5 := h.ok.many
  have h6 : (kM (gtT ((opsZ ops).take k)).T).length = (gtT ((opsZ ops).take k)).T.size := kM_len _
  rw [h.keys] at h6
  have h7 : 0 < ((runL (ops.take k)).1.map Prod.fst).length := List.length_pos_of_mem h3
  omega
theorem ct_small (ops : List O3) (k : Nat) (hk : k ≤ ops.length) : (ctT ((opsZ ops).take k)).came + (ctT ((opsZ ops).take k)).went ≤ k ∧ (ctT ((opsZ ops).take k)).now ≤ 200 ∧ (ctT ((opsZ ops).take k)).top ≤ 200 := by
  have h := gt_step ops k hk
  have hal := runL_len ops ops.length (Nat.le_refl _)
  rw [List.take_length] at hal
  have hzl : (opsZ ops).length = ops.length := by rw [opsZ, List.length_zip, hal]; omega
  have hc : ∀ k, k ≤ (opsZ ops).length → (ctT ((opsZ ops).take k)).came + (ctT ((opsZ ops).take k)).went ≤ k := by
    intro k
    induction k with
    | zero => intro _; simp [ctT]
    | succ k ih =>
      intro h
      rw [ctT_snoc _ k (by omega)]
      have h1 := ih (by omega)
      obtain ⟨C, hC⟩ : ∃ C, C = ctT ((opsZ ops).take k) := ⟨_, rfl⟩
      rw [← hC] at h1 ⊢
      unfold ctS
      split
      · omega
      · split
        · simp only; omega
        · split <;> (simp only; omega)
  have := hc k (by omega)
  have := h.now; have := h.ok.le; have := h.top; have := h.top2
  omega
end Go.Proofs.YtpkkajglbklboaaDoor
namespace Go.Proofs.YtpkkajglbklboaaDoor
open Go.ChangeShapes Go.WideShapes Go.ChangeAt Go.RowKit
set_option linter.unusedVariables false
set_option linter.unusedSimpArgs false

/-- Of a pair the key alone. -/
def eFst : Enc IP := ⟨1, fun p => [.int .i64 p.1], fun _ => rfl, fun _ u h => by simp at h; subst h; rfl⟩
set_option maxRecDepth 100000 in
set_option maxHeartbeats 4000000 in
theorem gtSize_any (t : MT IP) : ∀ (p : Option Addr) (F : List Nat) (w : World), MR w 95 eFst t p F → t.size ≤ 1000000 → Calls Tryd.prog 46 #[.pointer p] w (Drew (.int .i64 (t.size : Int)) w) := by
  induction t with
  | nil =>
    intro p F w hm hs
    obtain ⟨rfl, rfl⟩ := hm
    go_enter Tryd.func46, Tryd.ntmps46
    go_wp2
    go_ret
    exact ⟨rfl, 0, rfl⟩
  | node a l r ihl ihr =>
    intro p F w hm hs
    obtain ⟨b, pl, pr, Fl, Fr, rfl, rfl, hbc, _, _, _, hml, hmr⟩ := hm
    simp only [MT.size] at hs
    have IHL := hide (fun n => ihl pl Fl (w.drewN n) (hml.kp ((Kp.refl w).drewN)) (by omega))
    have IHR := hide (fun n => ihr pr Fr (w.drewN n) (hmr.kp ((Kp.refl w).drewN)) (by omega))
    have cL : w.cell? ⟨b, 1, none⟩ = some (.pointer pl) := hbc.cell 1
    have cR : w.cell? ⟨b, 2, none⟩ = some (.pointer pr) := hbc.cell 2
    have hw1 : IntKind.i64.wrap ((l.size : Int) + 1) = (l.size : Int) + 1 := IntWalk.i64_in _ (by omega)
    have hw2 : IntKind.i64.wrap ((l.size : Int) + 1 + (r.size : Int)) = ((l.size + 1 + r.size : Nat) : Int) := by rw [IntWalk.i64_in _ (by omega)]; omega
    have hsz : (MT.node a l r).size = l.size + 1 + r.size := rfl
    obtain ⟨N, hN⟩ : ∃ N, N = l.size + 1 + r.size := ⟨_, rfl⟩
    rw [hsz]
    clear hsz
    obtain ⟨nl, hnl⟩ : ∃ nl, nl = l.size := ⟨_, rfl⟩
    obtain ⟨nr, hnr⟩ : ∃ nr, nr = r.size := ⟨_, rfl⟩
    rw [← hN] at hw2 ⊢
    rw [← hnl] at hw1 hw2 IHL
    rw [← hnr] at hw2 IHR
    clear hN hml hmr hbc hs ihl ihr hnl hnr
    go_enter Tryd.func46, Tryd.ntmps46
    go_wp2_with fail
    go_quiet ((first | (go_at_call_of 46 (Value.pointer pl); exact Calls.quiet_of (IHL.out _)) | (go_at_call_of 46 (Value.pointer pr); exact Calls.quiet_of (IHR.out _))))
    go_wp2
    go_ret
    exact ⟨rfl, _, rfl⟩
def EvPost (l : List Int) (w : World) (e : Ending) (w' : World) : Prop := ∃ p F, e = .returned (.pointer p) ∧ MR w' 95 eFst (evenT l) p F ∧ (∀ x ∈ F, w.heap.size ≤ x) ∧ Below w.heap.size w w'
set_option maxRecDepth 100000 in
set_option maxHeartbeats 4000000 in
theorem gtEven_any (n : Nat) : ∀ (l : List Int) (v : Value) (w : World), l.length ≤ n → n ≤ 1000000 → RD w eInt v l → Calls Tryd.prog 36 #[v] w (EvPost l w) := by
  induction n with
  | zero =>
    intro l v w h0 hn hr
    have hl : l = [] := List.eq_nil_of_length_eq_zero (by omega)
    subst hl
    obtain ⟨A, c, rfl, hc, hm⟩ := hr.shape
    go_enter Tryd.func36, Tryd.ntmps36
    go_wp2
    go_ret
    exact ⟨none, [], rfl, by rw [evenT_nil]; exact MR.nil, by simp, (Kp.refl _).bel⟩
  | succ n ih =>
    intro l v w h0 hn hr
    have IH := hide ih
    clear ih
    obtain ⟨A, c, rfl, hc, hm⟩ := hr.shape
    by_cases hl : l.length = 0
    · have hl' : l = [] := List.eq_nil_of_length_eq_zero hl
      subst hl'
      go_enter Tryd.func36, Tryd.ntmps36
      go_wp2
      go_ret
      exact ⟨none, [], rfl, by rw [evenT_nil]; exact MR.nil, by simp, (Kp.refl _).bel⟩
    · have hlb : ((l.length : Int) == 0) = false := beq_eq_false_iff_ne.2 (by omega)
      obtain ⟨m, hm2⟩ : ∃ m, m = l.length / 2 := ⟨_, rfl⟩
      have hml : m < l.length := by omega
      have hq : ((l.length : Int)).tdiv 2 = (m : Int) := by rw [hm2]; rfl
      have hev := evenT_cons l (by omega)
      obtain ⟨K, hK⟩ : ∃ K, K = l[m]'hml := ⟨_, rfl⟩
      have HEV : Hid (evenT l = .node (K, 0) (evenT (l.take m)) (evenT (l.drop (m + 1)))) := hide (by rw [hev, hK]; simp only [hm2])
      obtain ⟨b, o, rfl, hb, c0⟩ := hr.int (k := m) hml
      rw [← hK] at c0
      have HR := hide hr
      have HL := hide hl
      have b1 : (m : Int) < (l.length : Int) := by omega
      have b2 : (m : Int) ≤ (c : Int) := by omega
      have b3 : (0 : Int) ≤ (m : Int) := by omega
      have b4 : (m : Int) + 1 ≤ (l.length : Int) := by omega
      have b5 : (0 : Int) ≤ (m : Int) + 1 := by omega
      have KS : Hid (∀ W', Kp w W' → (W'.cell? ⟨b, o + m, none⟩ = some (.int .i64 K) ∧ Kp w W')) := hide fun W' h => ⟨h.cell c0, h⟩
      obtain ⟨A2, hif⟩ : ∃ A2, (if c = m + 1 then some (⟨b, o, none⟩ : Addr) else some ⟨b, o + (m + 1), none⟩) = A2 := ⟨_, rfl⟩
      have HC1 := hide (fun W (h : Kp w W) => IH.out (l.take m) (.slice (some ⟨b, o, none⟩) m c) W (by simp; omega) (by omega) ((HR.out.kp h).takeS (by omega)))
      have HC2 := hide (fun W (h : Kp w W) => IH.out (l.drop (m + 1)) (.slice A2 (l.length - (m + 1)) (c - (m + 1))) W (by simp; omega) (by omega) ((HR.out.kp h).dropS (by omega) rfl (by simpa [eInt] using hif)))
      have tn : ((m : Int) + 1).toNat = m + 1 := by omega
      have hw : IntKind.i64.wrap ((m : Int) + 1) = (m : Int) + 1 := IntWalk.i64_in _ (by omega)
      have K0 := Kp.refl w
      clear hr hl hm2 hev hK
      go_enter Tryd.func36, Tryd.ntmps36
      go_wp2_with fail
      go_region_held3 (fun w' => w'.cell? ⟨b, o + m, none⟩ = some (.int .i64 K) ∧ Kp w w')
        ((go_split_ands; refine KS.out _ ?_; (focus ((repeat (first | (with_reducible assumption) | (with_reducible exact Kp.refl _) | (with_reducible apply Kp.drew) | (with_reducible apply Kp.drewN) | ((with_reducible apply Kp.setR); (focus (first | (with_reducible assumption) | (simp; done) | (simp; omega)))) | (with_reducible apply Kp.alloc) | ((with_reducible apply Kp.call); (with_reducible assumption)) | ((with_reducible apply Kp.app); (with_reducible assumption)))); done))))
        (first
          | (go_at_call 36; (with_reducible refine (HC1.out _ ?_).mono ?_); (go_split_ands; (focus ((repeat (first | (with_reducible assumption) | (with_reducible exact Kp.refl _) | (with_reducible apply Kp.drew) | (with_reducible apply Kp.drewN) | ((with_reducible apply Kp.setR); (focus (first | (with_reducible assumption) | (simp; done) | (simp; omega)))) | (with_reducible apply Kp.alloc) | ((with_reducible apply Kp.call); (with_reducible assumption)) | ((with_reducible apply Kp.app); (with_reducible assumption)))); done))); rintro e w1 ⟨p1, F1, rfl, ht1, lo1, hb1⟩)
          | (go_at_call 36; (with_reducible refine (HC2.out _ ?_).mono ?_); (go_split_ands; (focus ((repeat (first | (with_reducible assumption) | (with_reducible exact Kp.refl _) | (with_reducible apply Kp.drew) | (with_reducible apply Kp.drewN) | ((with_reducible apply Kp.setR); (focus (first | (with_reducible assumption) | (simp; done) | (simp; omega)))) | (with_reducible apply Kp.alloc) | ((with_reducible apply Kp.call); (with_reducible assumption)) | ((with_reducible apply Kp.app); (with_reducible assumption)))); done))); rintro e w2 ⟨p2, F2, rfl, ht2, lo2, hb2⟩))
      all_goals
        go_wp2
        go_ret
        have s1 := ht1.lt
        have s2 := ht2.lt
        have k1 := Kp.of hb1
        have k2 := Kp.of hb2
        have s3 := k2.size
        have s4 := k1.size
        (try simp at lo1 lo2 s3 s4)
        refine ⟨some ⟨w2.heap.size, 0, none⟩, w2.heap.size :: (F1 ++ F2), rfl, ?_, ?_, Kp.bel (by go_split_ands; (focus ((repeat (first | (with_reducible assumption) | (with_reducible exact Kp.refl _) | (with_reducible apply Kp.drew) | (with_reducible apply Kp.drewN) | ((with_reducible apply Kp.setR); (focus (first | (with_reducible assumption) | (simp; done) | (simp; omega)))) | (with_reducible apply Kp.alloc) | ((with_reducible apply Kp.call); (with_reducible assumption)) | ((with_reducible apply Kp.app); (with_reducible assumption)))); done)))⟩
        · rw [HEV.out]
          refine MR.mk (BC.new w2 95 (nodeC eFst (K, 0) p1 p2)) (fun h => by have := s1 _ h; omega) (fun h => by have := s2 _ h; omega) (fun x h1 h2 => by have := s1 _ h1; have := lo2 _ h2; omega) ((ht1.kp k2).kp ((Kp.refl _).alloc)) (ht2.kp ((Kp.refl _).alloc))
        · intro x hx
          rcases List.mem_cons.1 hx with rfl | hx
          · omega
          · rcases List.mem_append.1 hx with hx | hx
            · have := lo1 x hx; omega
            · have := lo2 x hx; omega
set_option maxRecDepth 100000 in
set_option maxHeartbeats 4000000 in
theorem goat_spots_any (g B : Nat) (hg : B ≤ g) : ∀ (t : MT IP) (p : Option Addr) (F : List Nat) (d : Int) (acc : List IP) (w : World), MR w 95 eFst t p F → 0 ≤ d → d + t.size ≤ 1000000 → acc.length + t.size ≤ 1000000 →
    OB w B g 23 70 ePair acc → B ≤ w.heap.size →
    Calls Tryd.prog 48 #[.pointer p, .int .i64 d, .pointer (some ⟨g, 0, none⟩)] w (WPost B g 23 70 ePair (.tuple #[]) (acc ++ t.spotsBy Prod.fst d) w)
  | .nil, p, F, d, acc, w, hm, h1, h2, h3, ho, hB => by
    obtain ⟨rfl, rfl⟩ := hm
    have HO := hide ho
    clear ho
    go_enter Tryd.func48, Tryd.ntmps48
    go_wp2
    obtain ⟨u, hb, hu, hn⟩ := HO.out
    exact bodyPost_ret (v := .tuple #[]) (by simp [results, Tryd.results48, go_sem]) rfl ⟨rfl, by simpa [MT.spotsBy] using HO.out, KO.refl (hb.cell 0)⟩
  | .node a l r, p, F, d, acc, w, hm, h1, h2, h3, ho, hB => by
    obtain ⟨b, pl, pr, Fl, Fr, rfl, rfl, hbc, _, _, _, hml, hmr⟩ := hm
    simp only [MT.size] at h2 h3
    have hll := MT.spotsBy_len Prod.fst l (d + 1)
    have HI := hide (fun F acc w hm h3 ho hB => goat_spots_any g B hg l pl F (d + 1) acc w hm (by omega) (by omega) h3 ho hB)
    have HJ := hide (fun F acc w hm h3 ho hB => goat_spots_any g B hg r pr F (d + 1) acc w hm (by omega) (by omega) h3 ho hB)
    have HBC := hide hbc
    have HML := hide hml
    have HMR := hide hmr
    have HO := hide ho
    have HBh := hide hB
    have cL : w.cell? ⟨b, 1, none⟩ = some (.pointer pl) := hbc.cell 1
    have hw : IntKind.i64.wrap (d + 1) = d + 1 := IntWalk.i64_in _ (by omega)
    clear hml hmr ho hbc
    go_enter Tryd.func48, Tryd.ntmps48
    go_wp2_with fail
    with_reducible refine (HI.out _ acc _ HML.out (by omega) HO.out HBh.out).mono ?_
    rintro e w5 ⟨rfl, ho5, hk5⟩
    have HO5 := hide ho5
    have HBC5 := hide (HBC.out.ko HO.out hk5 (by decide) (by decide))
    have HMR5 := hide (HMR.out.ko HO.out hk5 (by decide) (by decide))
    have HB5 : Hid (B ≤ w5.heap.size) := hide (Nat.le_trans HBh.out hk5.size)
    have HK5 := hide hk5
    clear ho5 hk5 cL
    obtain ⟨u5, hb5, hu5, hn5⟩ := HO5.out
    have d0 : w5.cell? ⟨b, 0, none⟩ = some (.int .i64 (Prod.fst a)) := HBC5.out.cell 0
    have hblk : u5.ownBlock ≠ some b := hu5.bc_ne HBC5.out (by decide)
    obtain ⟨acc5, hacc⟩ : ∃ x, x = acc ++ l.spotsBy Prod.fst (d + 1) := ⟨_, rfl⟩
    have hal : acc5.length = acc.length + l.size := by rw [hacc, List.length_append, hll]
    have HACC := hide hacc
    rw [← hacc] at hu5
    have HAL := hide hal
    have HM1 : Hid ((acc5.length + [((Prod.fst a, d) : IP)].length) * 16 ≤ 140737488355328) := hide (by simp; omega)
    have HM2 : Hid (acc5.length + [((Prod.fst a, d) : IP)].length ≤ maxLen) := hide (by simp [maxLen]; omega)
    clear hacc hal hll
    have KS : Hid (∀ W', KV u5 w5 W' → (W'.cell? ⟨b, 0, none⟩ = some (.int .i64 (Prod.fst a)) ∧ W'.cell? ⟨g, 0, none⟩ = some u5 ∧ W'.frozen? ⟨g, 0, none⟩ = false ∧ KV u5 w5 W')) := hide fun W' h => ⟨h.cell hblk d0, h.cell hn5 (hb5.cell 0), (h.frozen hb5.lt hn5).trans (hb5.frozen 0), h⟩
    have g0 := hb5.cell 0
    have f0 := hb5.frozen 0
    have L1 : ∀ n o, ((w5.drewN n).alloc o).cell? ⟨g, 0, none⟩ = some u5 := fun n o => ((Kp.refl w5).drewN.alloc).cell g0
    have L2 : ∀ n o', ((w5.drewN n).alloc o').cell? ⟨b, 0, none⟩ = some (.int .i64 (Prod.fst a)) := fun n o' => ((Kp.refl w5).drewN.alloc).cell d0
    have L3 : ∀ o, (w5.drew.alloc o).cell? ⟨g, 0, none⟩ = some u5 := fun o => ((Kp.refl w5).drew.alloc).cell g0
    have L4 : ∀ o', (w5.drew.alloc o').cell? ⟨b, 0, none⟩ = some (.int .i64 (Prod.fst a)) := fun o' => ((Kp.refl w5).drew.alloc).cell d0
    have L5 : ∀ o, ((w5.alloc o).drew).cell? ⟨g, 0, none⟩ = some u5 := fun o => ((Kp.refl w5).alloc.drew).cell g0
    have L6 : ∀ o', ((w5.alloc o').drew).cell? ⟨b, 0, none⟩ = some (.int .i64 (Prod.fst a)) := fun o' => ((Kp.refl w5).alloc.drew).cell d0
    have L7 : ∀ o, (w5.alloc o).cell? ⟨g, 0, none⟩ = some u5 := fun o => ((Kp.refl w5).alloc).cell g0
    have L8 : ∀ o', (w5.alloc o').cell? ⟨b, 0, none⟩ = some (.int .i64 (Prod.fst a)) := fun o' => ((Kp.refl w5).alloc).cell d0
    go_wp2_with fail
    go_region_law (((with_reducible refine step_app (l := acc5) (m := [((Prod.fst a, d) : IP)]) row_spot u5 ?_ (.tmp 19) (.tmp 26) ?_ ?_ ?_ ?_ HM1.out HM2.out (Nat.le_trans HB5.out (KV.size (w := w5) (v := u5) ?_)) ?_); (with_reducible rfl); (with_reducible rfl); rfl; (focus ((repeat (first | (with_reducible assumption) | (with_reducible apply OW.alloc) | (with_reducible apply OW.drew) | (with_reducible apply OW.drewN) | ((with_reducible apply OW.setCellR); (with_reducible assumption)) | ((with_reducible apply OW.belowR); (with_reducible assumption)) | ((with_reducible apply OW.keptR); (with_reducible assumption); (with_reducible assumption)))); done)); (show RD _ _ (.slice (some ⟨_, 0, none⟩) 1 1) _; (focus ((repeat (first | (with_reducible assumption) | exact RD.new1 _ rfl | (refine RD.new1e _ ?_ rfl; simp; done) | (with_reducible apply RD.alloc) | (with_reducible apply RD.drew) | (with_reducible apply RD.drewN) | ((with_reducible apply RD.belowR); (with_reducible assumption)))); done))); (go_split_ands; (focus ((repeat (first | (with_reducible assumption) | (with_reducible exact KV.refl _ _) | (with_reducible apply KV.drew) | (with_reducible apply KV.drewN) | (with_reducible apply KV.alloc) | ((with_reducible apply KV.call); (with_reducible assumption)) | ((with_reducible apply KV.app); (with_reducible assumption)))); done))); intro v3 w3 ho3 hg3 hat3; obtain ⟨_, sc3, sf3, _⟩ := KS.out w3 (by go_split_ands; (focus ((repeat (first | (with_reducible assumption) | (with_reducible exact KV.refl _ _) | (with_reducible apply KV.drew) | (with_reducible apply KV.drewN) | (with_reducible apply KV.alloc) | ((with_reducible apply KV.call); (with_reducible assumption)) | ((with_reducible apply KV.app); (with_reducible assumption)))); done))); obtain ⟨A3, N3, c3, rfl⟩ := ho3.rd.slice))
    all_goals
      have hat9 := hat3.imp id (fun e => show Hi w5.heap.size (Value.slice A3 N3 c3) from fun k hk => by rw [e] at hk; injection hk with hk; subst hk; simp <;> omega)
      obtain ⟨ho4, hk4⟩ := ob_app hb5 hu5 hn5 (show KV u5 w5 w3 by (focus ((repeat (first | (with_reducible assumption) | (with_reducible exact KV.refl _ _) | (with_reducible apply KV.drew) | (with_reducible apply KV.drewN) | (with_reducible apply KV.alloc) | ((with_reducible apply KV.call); (with_reducible assumption)) | ((with_reducible apply KV.app); (with_reducible assumption)))); done))) ho3 hat9
      clear hat9 hat3 hg3 ho3 sc3 sf3 L1 L2 L3 L4 L5 L6 L7 L8 g0 f0
      have HBC6 := hide (HBC5.out.ko HO5.out hk4 (by decide) (by decide))
      have HMR6 := hide (HMR5.out.ko HO5.out hk4 (by decide) (by decide))
      have HZ6 := hide hk4.size
      have HO6 := hide ho4
      have HK6 := hide (HK5.out.trans hk4)
      have cR := HBC6.out.cell 2
      simp only [nodeC, eFst, List.cons_append, List.nil_append, List.getElem?_cons_succ, List.getElem?_cons_zero] at cR
      clear ho4 hk4
      go_wp2_with fail
      with_reducible refine (HJ.out _ (acc5 ++ [((Prod.fst a, d) : IP)]) _ HMR6.out (by simp only [List.length_append, List.length_cons, List.length_nil]; have := HAL.out; omega) HO6.out (Nat.le_trans HB5.out HZ6.out)).mono ?_
      rintro e w7 ⟨rfl, ho7, hk7⟩
      have HO7 := hide ho7
      have HK7 := hide (HK6.out.trans hk7)
      clear ho7 hk7
      go_wp2
      exact bodyPost_ret (v := .tuple #[]) (by simp [results, Tryd.results48, go_sem]) rfl ⟨rfl, by have h := HO7.out; rw [HACC.out] at h; simpa [MT.spotsBy, List.append_assoc] using h, HK7.out⟩
end Go.Proofs.YtpkkajglbklboaaDoor
namespace Go.Proofs.YtpkkajglbklboaaDoor
open Go.ChangeShapes Go.WideShapes Go.ChangeAt Go.RowKit
set_option linter.unusedVariables false
set_option linter.unusedSimpArgs false

/-- A slice of slices. -/
def RDS {α : Type} (w : World) (E : Enc α) (v : Value) (ls : List (List α)) : Prop :=
  ∃ A c, v = .slice A ls.length c ∧ ls.length ≤ c ∧ c ≤ maxLen ∧ (0 < ls.length → ∃ b o, A = some ⟨b, o, none⟩ ∧ b < w.heap.size ∧
    ∀ k (h : k < ls.length), ∃ u, w.cell? ⟨b, o + k, none⟩ = some u ∧ RD w E u ls[k])
section
variable {α : Type} {w w' : World} {E : Enc α} {v : Value} {ls : List (List α)}
theorem RDS.shape (h : RDS w E v ls) : ∃ A c, v = .slice A ls.length c ∧ ls.length ≤ c ∧ c ≤ 9223372036854775807 := by
  obtain ⟨A, c, rfl, h1, h2, h3⟩ := h
  exact ⟨A, c, rfl, h1, by unfold maxLen at h2; omega⟩
theorem RDS.at_ {A : Option Addr} {n c : Nat} (h : RDS w E (.slice A n c) ls) {k : Nat} (hk : k < ls.length) :
    ∃ b o u, A = some ⟨b, o, none⟩ ∧ b < w.heap.size ∧ w.cell? ⟨b, o + k, none⟩ = some u ∧ RD w E u ls[k] := by
  obtain ⟨A', c', e, h1, h2, h3⟩ := h
  injection e with e1 e2 e3
  subst e1
  obtain ⟨b, o, rfl, hb, hc⟩ := h3 (by omega)
  obtain ⟨u, h4, h5⟩ := hc k hk
  exact ⟨b, o, u, rfl, hb, h4, h5⟩
theorem RDS.kp (h : RDS w E v ls) (hb : Kp w w') : RDS w' E v ls := by
  obtain ⟨A, c, rfl, h1, h2, h3⟩ := h
  refine ⟨A, c, rfl, h1, h2, fun h0 => ?_⟩
  obtain ⟨b, o, rfl, hb', hc⟩ := h3 h0
  refine ⟨b, o, rfl, Nat.lt_of_lt_of_le hb' hb.size, fun k hk => ?_⟩
  obtain ⟨u, h4, h5⟩ := hc k hk
  exact ⟨u, hb.cell h4, h5.kp hb⟩
end
theorem RDS.new2 {α : Type} {w : World} {E : Enc α} {a b : List α} {va vb : Value} {t : TypeId} {g : Nat} (hg : w.heap.size = g) (ha : RD w E va a) (hb : RD w E vb b) : RDS (w.alloc (.cells #[va, vb] t)) E (.slice (some ⟨g, 0, none⟩) 2 2) [a, b] := by
  subst hg
  have hk : Kp w (w.alloc (.cells #[va, vb] t)) := (Kp.refl w).alloc
  refine ⟨_, _, rfl, Nat.le_refl _, by simp [maxLen], fun _ => ⟨w.heap.size, 0, rfl, by simp, fun k h => ?_⟩⟩
  have hc := fun i => cell_of_row _ _ i _ t (0, 0) (heap_alloc_new w (.cells #[va, vb] t))
  match k, h with
  | 0, _ => exact ⟨va, hc 0, ha.kp hk⟩
  | 1, _ => exact ⟨vb, hc 1, hb.kp hk⟩
theorem RDS.new1 {α : Type} {w : World} {E : Enc α} {a : List α} {va : Value} {t : TypeId} {g : Nat} (hg : w.heap.size = g) (ha : RD w E va a) : RDS (w.alloc (.cells #[va] t)) E (.slice (some ⟨g, 0, none⟩) 1 1) [a] := by
  subst hg
  have hk : Kp w (w.alloc (.cells #[va] t)) := (Kp.refl w).alloc
  refine ⟨_, _, rfl, Nat.le_refl _, by simp [maxLen], fun _ => ⟨w.heap.size, 0, rfl, by simp, fun k h => ?_⟩⟩
  have hc := fun i => cell_of_row _ _ i _ t (0, 0) (heap_alloc_new w (.cells #[va] t))
  match k, h with
  | 0, _ => exact ⟨va, hc 0, ha.kp hk⟩
end Go.Proofs.YtpkkajglbklboaaDoor
namespace Go.Proofs.YtpkkajglbklboaaDoor
open Go.ChangeShapes Go.WideShapes Go.ChangeAt Go.RowKit
set_option linter.unusedVariables false
set_option linter.unusedSimpArgs false

/-- How many elements the first k parts have. -/
def fl {α : Type} (ls : List (List α)) (k : Nat) : Nat := (ls.take k).flatten.length
theorem fl_succ {α : Type} (ls : List (List α)) (k : Nat) (h : k < ls.length) : fl ls (k + 1) = fl ls k + ls[k].length := by
  unfold fl
  rw [List.take_succ_eq_append_getElem h, List.flatten_append, List.length_append, List.flatten_cons, List.flatten_nil, List.append_nil]
theorem fl_all {α : Type} (ls : List (List α)) : fl ls ls.length = ls.flatten.length := by unfold fl; rw [List.take_length]
theorem fl_le {α : Type} (ls : List (List α)) (k : Nat) : fl ls k ≤ fl ls ls.length := by
  unfold fl
  rw [List.take_length]
  conv => rhs; rw [← List.take_append_drop k ls, List.flatten_append, List.length_append]
  omega

end Go.Proofs.YtpkkajglbklboaaDoor
namespace Go.Proofs.YtpkkajglbklboaaDoor
open Go.ChangeShapes Go.WideShapes Go.ChangeAt Go.RowKit
set_option linter.unusedVariables false
set_option linter.unusedSimpArgs false

theorem RDS.new3 {α : Type} {w : World} {E : Enc α} {a b c : List α} {va vb vc : Value} {t : TypeId} {g : Nat} (hg : w.heap.size = g) (ha : RD w E va a) (hb : RD w E vb b) (hc : RD w E vc c) : RDS (w.alloc (.cells #[va, vb, vc] t)) E (.slice (some ⟨g, 0, none⟩) 3 3) [a, b, c] := by
  subst hg
  have hk : Kp w (w.alloc (.cells #[va, vb, vc] t)) := (Kp.refl w).alloc
  refine ⟨_, _, rfl, Nat.le_refl _, by simp [maxLen], fun _ => ⟨w.heap.size, 0, rfl, by simp, fun k h => ?_⟩⟩
  have hc' := fun i => cell_of_row _ _ i _ t (0, 0) (heap_alloc_new w (.cells #[va, vb, vc] t))
  match k, h with
  | 0, _ => exact ⟨va, hc' 0, ha.kp hk⟩
  | 1, _ => exact ⟨vb, hc' 1, hb.kp hk⟩
  | 2, _ => exact ⟨vc, hc' 2, hc.kp hk⟩
set_option maxRecDepth 100000 in
set_option maxHeartbeats 1000000 in
theorem growI (n : Nat) (hn : n * 8 ≤ 140737488355328) (w : World) : Calls Tryd.prog 81 #[.slice none 0 0, .int .i64 (n : Int)] w (RetOW 3 eInt [] w) := by
  by_cases h0 : n = 0
  · subst h0
    go_enter Tryd.func81, Tryd.ntmps81
    go_wp2
    go_ret
    exact ⟨_, rfl, OW.nil, Below.refl _ _⟩
  · obtain ⟨i, hi, h1, h2, h3⟩ := info_parts info_int
    have hrz := fun ty => Lib.run_append_nil_zeros (P := Tryd.prog) w 36 3 ty 3 i _ .i64 .i64 Tryd.underlying36 Tryd.underlying3 hi h1 n (by omega) (by rw [h2]; decide) (by omega) (by rw [h3]; omega)
    have hG := grownCap_ge w n 0 3
    have hG2 := grownCap_le_maxLen w n 0 3 (by unfold maxLen; omega)
    obtain ⟨G, hGe⟩ : ∃ G, G = grownCap w n 0 3 := ⟨_, rfl⟩
    rw [← hGe] at hG hG2
    simp only [← hGe] at hrz
    obtain ⟨C, hC⟩ : ∃ C, C = Builtin.zeroCells (Value.int .i64 0).cells n ++ Builtin.zeroCells (Value.int .i64 0).cells (G - n) := ⟨_, rfl⟩
    simp only [← hC] at hrz
    have hCs : Hid (C.size = G) := hide (by rw [hC, Array.size_append, size_zeroCells, size_zeroCells]; simp [Value.cells]; omega)
    have HG := hide hG2
    have hGG : G ≤ 9223372036854775807 := by unfold maxLen at hG2; omega
    have hnn : (0 : Int) < (n : Int) := by omega
    clear hGe hC hG2
    go_enter Tryd.func81, Tryd.ntmps81
    go_wp2_with (at_builtin; refine Lib.wpList_append_run _ rfl _ _ _ _ rfl _ _ rfl rfl _ _ (hrz _) ?_)
    all_goals (go_ret; exact ⟨_, rfl, ⟨rfl, .inr ⟨w.heap.size, G, C, rfl, Nat.le_refl _, heap_alloc_new w.drew _, Nat.zero_le _, HG.out, (by rw [hCs.out]; simp [eInt]), by simp⟩⟩, ((Kp.refl w).drew.alloc).bel⟩)

def CSumI (ls : List (List Int)) (w : World) (sv iv : Value) (wr : World) : Prop :=
  ∃ k : Nat, k ≤ ls.length ∧ iv = .int .i64 k ∧ sv = .int .i64 (fl ls k : Nat) ∧ Kp w wr
def CAppI (ls : List (List Int)) (w0 : World) (sv iv : Value) (wr : World) : Prop :=
  ∃ k : Nat, k ≤ ls.length ∧ iv = .int .i64 k ∧ OW wr w0.heap.size 3 eInt sv (ls.take k).flatten ∧ Kp w0 wr
set_option maxRecDepth 100000 in
set_option maxHeartbeats 2000000 in
theorem concatI (ls : List (List Int)) (v : Value) (w : World) (hr : RDS w eInt v ls) (hlen : ls.flatten.length ≤ 1073741824) : Calls Tryd.prog 74 #[v] w (RetOW 3 eInt ls.flatten w) := by
  obtain ⟨A, c, rfl, hc, hm⟩ := hr.shape
  have HR := hide hr
  have HF := hide (fl_le ls)
  have hfa : fl ls ls.length ≤ 1073741824 := by rw [fl_all]; exact hlen
  clear hr
  go_enter Tryd.func74, Tryd.ntmps74
  go_wp2
  go_loopw [3, 11] (CSumI ls w) (fun _ i _ => ls.length - (intOf i).toNat)
  case atStart => exact ⟨0, by omega, rfl, rfl, Kp.refl _⟩
  case round =>
    obtain ⟨k, hk, rfl, rfl, hkp0⟩ := hrel
    by_cases hlt : k < ls.length
    · obtain ⟨b, o, u, rfl, hb, cu, hu⟩ := (HR.out.kp hkp0).at_ hlt
      obtain ⟨A2, c2, rfl, hc2, hm2⟩ := hu.shape
      have hs1 := fl_succ ls k hlt
      have hs2 := HF.out (k + 1)
      have hs3 := HF.out k
      have HS1 := hide hs1
      have b1 : (0 : Int) ≤ (fl ls k : Int) := by omega
      have b2 : (fl ls k : Int) + (ls[k].length : Int) ≤ 1073741824 := by omega
      clear hs1 hs2 hs3 hu
      go_wp2
      go_roundw
      case rel => exact ⟨k + 1, by omega, by go_num, by rw [HS1.out]; go_num, hkp0⟩
      case measure => simp [intOf]; omega
    · have hkl : (ls.take k).flatten = ls.flatten := by rw [List.take_of_length_le (by omega)]
      have hs3 := HF.out k
      have HK := hide hkl
      have HFA := hide hfa
      clear hkl
      go_wp2_with fail
      refine (growI (fl ls k) (by omega) _).mono ?_
      rintro e w1 ⟨v1, rfl, ho1, hb1⟩
      have HO1 := hide ho1
      clear ho1 hs3
      go_wp2
      have hb1' : Kp w w1 := hkp0.trans hb1
      go_loopw [6, 27] (CAppI ls w) (fun _ i _ => ls.length - (intOf i).toNat)
      case atStart => exact ⟨0, by omega, rfl, HO1.out.more hkp0.size, hb1'⟩
      case round =>
        obtain ⟨j, hj, rfl, ho, hkp⟩ := hrel
        have hi := ho.hi
        by_cases hltj : j < ls.length
        · obtain ⟨b, o, u, rfl, hb, cu, hu⟩ := (HR.out.kp hkp).at_ hltj
          have hs1 := fl_succ ls j hltj
          have hs2 := HF.out (j + 1)
          have HM1 : Hid (((ls.take j).flatten.length + ls[j].length) * 8 ≤ 140737488355328) := hide (by have := HFA.out; have h9 : fl ls j = (ls.take j).flatten.length := rfl; omega)
          have HM2 : Hid ((ls.take j).flatten.length + ls[j].length ≤ maxLen) := hide (by have := HFA.out; have h9 : fl ls j = (ls.take j).flatten.length := rfl; unfold maxLen; omega)
          have HF2 : Hid ((ls.take j).flatten ++ ls[j] = (ls.take (j + 1)).flatten) := hide (by rw [List.take_succ_eq_append_getElem hltj, List.flatten_append, List.flatten_cons, List.flatten_nil, List.append_nil])
          obtain ⟨A6, c6, hv6, hc6, hm6⟩ := ho.rd.shape
          have hv6' : u6 = .slice A6 (fl ls j) c6 := hv6
          subst hv6'
          clear hv6
          obtain ⟨A2, c2, rfl, hc2, hm2⟩ := hu.shape
          clear hs1 hs2
          go_wp2_with (at_builtin; (with_reducible refine list_app (B := w.heap.size) (l := (ls.take j).flatten) (m := ls[j]) row_int (.slice A6 (fl ls j) c6) ?_ (.tmp 31) (.tmp 32) ?_ ?_ ?_ ?_ HM1.out HM2.out ?_ ?_); (with_reducible rfl); (with_reducible rfl); rfl; (with_reducible assumption); (show RD _ _ (.slice A2 ls[j].length c2) _; with_reducible assumption); (exact hkp.size); intro v3 w3 ho3 hg3 hat3)
          go_roundw
          case rel => exact ⟨j + 1, by omega, by go_num, by rw [← HF2.out]; exact ho3, (by (focus ((repeat (first | (with_reducible assumption) | (with_reducible exact Kp.refl _) | (with_reducible apply Kp.drew) | (with_reducible apply Kp.drewN) | ((with_reducible apply Kp.setR); (focus (first | (with_reducible assumption) | (simp; done) | (simp; omega)))) | (with_reducible apply Kp.alloc) | ((with_reducible apply Kp.call); (with_reducible assumption)) | ((with_reducible apply Kp.app); (with_reducible assumption)))); done)))⟩
          case measure => simp [intOf]; omega
        · have hjl : (ls.take j).flatten = ls.flatten := by rw [List.take_of_length_le (by omega)]
          have HJ := hide hjl
          clear hjl
          go_wp2
          go_ret
          exact ⟨_, rfl, by rw [← HJ.out]; exact ho, hkp.bel⟩
end Go.Proofs.YtpkkajglbklboaaDoor
