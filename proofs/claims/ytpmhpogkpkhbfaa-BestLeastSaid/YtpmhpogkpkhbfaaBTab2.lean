/-
  best.filled's table, once its rows are made: what its cells hold (Tb), what a store leaves; how far it is filled (Dn); bounds of what is in it. Conditions: none.
-/
import Derived.Test.YtpmhpogkpkhbfaaBTab
import Derived.Test.YtpmhpogkpkhbfaaKLaw2
namespace Go.Proofs.Ytpmhpogkpkhbfaa
open Go.ChangeShapes Go.WideShapes Go.ChangeAt Go.RowKit
set_option linter.unusedVariables false
set_option linter.unusedSimpArgs false

def Tb (w0 : World) (b0 rb c : Nat) (O P : Nat → Nat) (R : Nat → Nat → Nat) (M : Nat → Nat → Nat → Int) (w : World) : Prop :=
  Kp w0 w ∧ w0.heap.size ≤ b0 ∧ BC w rb 56 [.slice none 0 0, .slice none 0 0, .slice none 0 0] ∧ w0.heap.size ≤ rb ∧
  BC w b0 56 [.slice (some ⟨O 0, 0, none⟩) c (P 0), .slice (some ⟨O 1, 0, none⟩) c (P 1), .slice (some ⟨O 2, 0, none⟩) c (P 2)] ∧
  (∀ i, i < 3 → OW w w0.heap.size 22 eVal (.slice (some ⟨O i, 0, none⟩) c (P i)) ((List.range c).map fun r => sl c (R i r))) ∧
  (∀ i, i < 3 → ∀ r, r < c → AR w (R i r) 3 eInt ((List.range c).map (M i r)) ∧ w0.heap.size ≤ R i r) ∧
  (∀ i j r q, i < 3 → j < 3 → r < c → q < c → R i r = R j q → i = j ∧ r = q)
def Mset (M : Nat → Nat → Nat → Int) (i r q : Nat) (x : Int) : Nat → Nat → Nat → Int := fun j s t => if j = i ∧ s = r ∧ t = q then x else M j s t
theorem Mset_at {M : Nat → Nat → Nat → Int} {i r q : Nat} {x : Int} : Mset M i r q x i r q = x := by unfold Mset; rw [if_pos ⟨rfl, rfl, rfl⟩]
theorem Mset_ne {M : Nat → Nat → Nat → Int} {i r q : Nat} {x : Int} {j s t : Nat} (h : ¬ (j = i ∧ s = r ∧ t = q)) : Mset M i r q x j s t = M j s t := by unfold Mset; rw [if_neg h]
section
variable {w w0 : World} {b0 rb c : Nat} {O P : Nat → Nat} {R : Nat → Nat → Nat} {M : Nat → Nat → Nat → Int}
theorem Tb.set (h : Tb w0 b0 rb c O P R M w) {i r q : Nat} (hi : i < 3) (hr : r < c) (x : Int) : Tb w0 b0 rb c O P R (Mset M i r q x) (w.setCell ⟨R i r, q, none⟩ (.int .i64 x)) := by
  obtain ⟨a1, a2, a3, a4, a5, a6, a7, a8⟩ := h
  obtain ⟨hrow, hge⟩ := a7 i hi r hr
  refine ⟨a1.set hge _, a2, a3.far (BC.ne a3 (show BC w (R i r) _ _ from hrow) (by decide)), a4, a5.far (BC.ne a5 (show BC w (R i r) _ _ from hrow) (by decide)), fun j hj => (a6 j hj).setCell (ow_ar_ne (a6 j hj) hrow (by decide)) _, fun j hj s hs => ?_, a8⟩
  obtain ⟨h1, h2⟩ := a7 j hj s hs
  refine ⟨?_, h2⟩
  by_cases e : j = i ∧ s = r
  · obtain ⟨rfl, rfl⟩ := e
    have h3 := h1.set (k := q) x
    have h4 : ((List.range c).map (M j s)).set q x = (List.range c).map (Mset M j s q x j s) := by
      apply List.ext_getElem (by simp)
      intro k k1 k2
      simp only [List.getElem_set, List.getElem_map, List.getElem_range]
      by_cases e2 : q = k
      · subst e2; rw [if_pos rfl, Mset_at]
      · rw [if_neg e2, Mset_ne (fun h => e2 h.2.2.symm)]
    rw [h4] at h3
    exact h3
  · have h3 : AR (w.setCell ⟨R i r, q, none⟩ (.int .i64 x)) (R j s) 3 eInt ((List.range c).map (M j s)) := h1.setCell (fun e2 => e (a8 j i s r hj hi hs hr e2))
    have h4 : (List.range c).map (Mset M i r q x j s) = (List.range c).map (M j s) := by
      apply List.map_congr_left
      intro k _
      exact Mset_ne (fun h => e ⟨h.1, h.2.1⟩)
    rw [h4]
    exact h3
theorem Tb.drew (h : Tb w0 b0 rb c O P R M w) : Tb w0 b0 rb c O P R M w.drew := ⟨h.1.drew, h.2⟩
theorem Tb.drewN (h : Tb w0 b0 rb c O P R M w) (n : Nat) : Tb w0 b0 rb c O P R M (w.drewN n) := ⟨h.1.drewN, h.2⟩
theorem Tb.top (h : Tb w0 b0 rb c O P R M w) : w.cell? ⟨b0, 0, none⟩ = some (.slice (some ⟨O 0, 0, none⟩) c (P 0)) ∧ w.cell? ⟨b0, 1, none⟩ = some (.slice (some ⟨O 1, 0, none⟩) c (P 1)) ∧ w.cell? ⟨b0, 2, none⟩ = some (.slice (some ⟨O 2, 0, none⟩) c (P 2)) := by
  obtain ⟨a1, a2, a3, a4, a5, a6, a7, a8⟩ := h
  exact ⟨a5.cell 0, a5.cell 1, a5.cell 2⟩
theorem Tb.row (h : Tb w0 b0 rb c O P R M w) {i r : Nat} (hi : i < 3) (hr : r < c) : w.cell? ⟨O i, r, none⟩ = some (.slice (some ⟨R i r, 0, none⟩) c c) := by
  obtain ⟨a1, a2, a3, a4, a5, a6, a7, a8⟩ := h
  obtain ⟨A, cc, e, h1, h2, h3, h4⟩ := (a6 i hi).rd
  obtain ⟨b, o, e2, hb, hc⟩ := h4 (by simp; omega)
  injection e with e e3 e4
  rw [e2] at e
  injection e with e
  injection e with e5 e6
  subst e5 e6
  have := hc r (by simp; omega) 0 (by decide)
  simpa [eVal, sl] using this
theorem Tb.cell (h : Tb w0 b0 rb c O P R M w) {i r q : Nat} (hi : i < 3) (hr : r < c) (hq : q < c) : w.cell? ⟨R i r, q, none⟩ = some (.int .i64 (M i r q)) := by
  obtain ⟨a1, a2, a3, a4, a5, a6, a7, a8⟩ := h
  have := (a7 i hi r hr).1.int (k := q) (by simp; omega)
  simpa using this
theorem Tb.frozen (h : Tb w0 b0 rb c O P R M w) {i r : Nat} (hi : i < 3) (hr : r < c) (q : Nat) : w.frozen? ⟨R i r, q, none⟩ = false := (h.2.2.2.2.2.2.1 i hi r hr).1.frozen q
theorem Tb.rds (h : Tb w0 b0 rb c O P R M w) {i : Nat} (hi : i < 3) (hc : c ≤ 21) : RDS w eInt (.slice (some ⟨O i, 0, none⟩) c (P i)) ((List.range c).map fun r => (List.range c).map (M i r)) := by
  have hrow := fun {r : Nat} (hr : r < c) => h.row hi hr
  obtain ⟨a1, a2, a3, a4, a5, a6, a7, a8⟩ := h
  obtain ⟨A, cc, e, h1, h2, h3, h4⟩ := (a6 i hi).rd
  injection e with e e3 e4
  subst e4
  refine ⟨some ⟨O i, 0, none⟩, P i, by simp, by simpa using h1, h2, fun h0 => ⟨O i, 0, rfl, ?_, fun k hk => ?_⟩⟩
  · exact World.block_lt_of_cell? _ _ (hrow (r := 0) (by simpa using h0))
  · have hk' : k < c := by simpa using hk
    have := (a7 i hi k hk').1.rd (by simp [maxLen]; omega)
    refine ⟨_, by simpa using hrow hk', ?_⟩
    simpa using this
end
theorem Tb.rds2 {w w' w0 : World} {b0 rb c : Nat} {O P : Nat → Nat} {R : Nat → Nat → Nat} {M : Nat → Nat → Nat → Int} (h : Tb w0 b0 rb c O P R M w) (hk : Kf (fun o => o = rb) w w') {i : Nat} (hi : i < 3) (hc : c ≤ 21) : RDS w' eInt (.slice (some ⟨O i, 0, none⟩) c (P i)) ((List.range c).map fun r => (List.range c).map (M i r)) := by
  have hrow := fun {r : Nat} (hr : r < c) => h.row hi hr
  obtain ⟨a1, a2, a3, a4, a5, a6, a7, a8⟩ := h
  have hne : O i ≠ rb := fun e => (a6 i hi).bc_ne a3 (by decide) (by rw [← e]; rfl)
  obtain ⟨A, cc, e, h1, h2, h3, h4⟩ := (a6 i hi).rd
  injection e with e e3 e4
  subst e4
  refine ⟨some ⟨O i, 0, none⟩, P i, by simp, by simpa using h1, h2, fun h0 => ⟨O i, 0, rfl, ?_, fun k hk' => ?_⟩⟩
  · exact Nat.lt_of_lt_of_le (World.block_lt_of_cell? _ _ (hrow (r := 0) (by simpa using h0))) hk.size
  · have hk2 : k < c := by simpa using hk'
    have hr := (a7 i hi k hk2).1
    have := (hr.kf hk (BC.ne (show BC w (R i k) _ _ from hr) a3 (by decide))).rd (by simp [maxLen]; omega)
    refine ⟨_, by simpa using hk.cell (p := ⟨O i, k, none⟩) hne (hrow hk2), ?_⟩
    simpa using this
/-- From the rows just made. -/
theorem tb_of {w w0 : World} {b0 rb c : Nat} {X : Nat → Value} {BS : Nat → List Nat} {γ : Nat → Nat} (hc : 0 < c) (h1 : Kp w0 w) (h2 : BC w rb 56 [.slice none 0 0, .slice none 0 0, .slice none 0 0]) (h3 : w0.heap.size ≤ rb) (h4 : w0.heap.size ≤ b0) (h5 : BC w b0 56 [X 0, X 1, X 2])
    (h6 : ∀ i, i < 3 → (BS i).length = c ∧ TbC w w0.heap.size c γ i (X i) (BS i)) : ∃ O P R, Tb w0 b0 rb c O P R (fun _ _ _ => 0) w := by
  have hsl : ∀ i, i < 3 → ∃ o p, X i = .slice (some ⟨o, 0, none⟩) c p := fun i hi => by
    obtain ⟨e1, ⟨hl, h | ⟨g, cap, cur, hv, hb, hg, _⟩⟩, _⟩ := h6 i hi
    · have := h.2
      rw [List.length_map, e1] at this
      omega
    · exact ⟨g, cap, by rw [hv]; simp [e1]⟩
  obtain ⟨o0, p0, e0⟩ := hsl 0 (by omega)
  obtain ⟨o1, p1, e1⟩ := hsl 1 (by omega)
  obtain ⟨o2, p2, e2⟩ := hsl 2 (by omega)
  refine ⟨fun i => if i = 0 then o0 else if i = 1 then o1 else o2, fun i => if i = 0 then p0 else if i = 1 then p1 else p2, fun i r => (BS i).getD r 0, h1, h4, h2, h3, ?_, fun i hi => ?_, fun i hi r hr => ?_, fun i j r q hi hj hr hq e => ?_⟩
  · rw [e0, e1, e2] at h5
    exact h5
  · obtain ⟨hl, ho, _⟩ := h6 i hi
    have hx : X i = .slice (some ⟨if i = 0 then o0 else if i = 1 then o1 else o2, 0, none⟩) c (if i = 0 then p0 else if i = 1 then p1 else p2) := by
      match i, hi with
      | 0, _ => exact e0
      | 1, _ => exact e1
      | 2, _ => exact e2
    rw [hx] at ho
    have : (List.range c).map (fun r => sl c ((BS i).getD r 0)) = (BS i).map (sl c) := by
      apply List.ext_getElem (by simp [hl])
      intro k k1 k2
      simp only [List.getElem_map, List.getElem_range]
      simp at k2
      rw [List.getD_eq_getElem?_getD, List.getElem?_eq_getElem k2]
      rfl
    rw [this]
    exact ho
  · obtain ⟨hl, _, _, hb, _⟩ := h6 i hi
    have hm : (BS i).getD r 0 ∈ BS i := by
      rw [List.getD_eq_getElem?_getD, List.getElem?_eq_getElem (by omega)]
      exact List.getElem_mem _
    obtain ⟨q1, q2, q3⟩ := hb _ hm
    refine ⟨?_, q3⟩
    have : (List.range c).map (fun _ : Nat => (0 : Int)) = List.replicate c 0 := by
      apply List.ext_getElem (by simp)
      intro k k1 k2
      simp
    rw [this]
    exact q1
  · obtain ⟨hl, _, _, hb, hnd⟩ := h6 i hi
    obtain ⟨hl', _, _, hb', _⟩ := h6 j hj
    have e' : (BS i)[r]'(by omega) = (BS j)[q]'(by omega) := by
      simp only [List.getD_eq_getElem?_getD] at e
      rw [List.getElem?_eq_getElem (by omega), List.getElem?_eq_getElem (by omega)] at e
      exact e
    have g1 := (hb _ (List.getElem_mem (show r < (BS i).length by omega))).2.1
    have g2 := (hb' _ (List.getElem_mem (show q < (BS j).length by omega))).2.1
    have hij : i = j := by rw [← g1, e', g2]
    subst hij
    refine ⟨rfl, ?_⟩
    rcases Nat.lt_trichotomy r q with h | h | h
    · exact absurd e' (List.pairwise_iff_getElem.1 hnd r q (by omega) (by omega) h)
    · exact h
    · exact absurd e'.symm (List.pairwise_iff_getElem.1 hnd q r (by omega) (by omega) h)

/-- So far it is filled: all parts shorter than L, and of those of L the first i0. -/
def Dn (h g : Nat → Int) (n L i0 : Nat) (M : Nat → Nat → Nat → Int) : Prop := ∀ i j, i ≤ j → j ≤ n → (j - i < L ∨ (j - i = L ∧ i < i0)) → M 0 i j = bc h g i j ∧ M 1 i j = wgt h g i j ∧ (i < j → M 2 i j = bt h g i j)
section
variable {h g : Nat → Int} {n L i0 : Nat} {M M' : Nat → Nat → Nat → Int}
theorem Dn.start (h0 : ∀ k, k ≤ n → M 0 k k = 0) (h1 : ∀ k, k ≤ n → M 1 k k = g k) : Dn h g n 1 0 M := fun i j hij hj hd => by
  obtain rfl : i = j := by omega
  exact ⟨by rw [bc_self, h0 i hj], by rw [wgt_self, h1 i hj], fun h => by omega⟩
theorem Dn.next (hd : Dn h g n L i0 M) (hi : n < i0 + L) : Dn h g n (L + 1) 0 M := fun i j hij hj hx => hd i j hij hj (by omega)
theorem Dn.step (hd : Dn h g n L i0 M) {j : Nat} (hj : j = i0 + L) (hL : 0 < L) (hn : j ≤ n) (h0 : M' 0 i0 j = bc h g i0 j) (h1 : M' 1 i0 j = wgt h g i0 j) (h2 : M' 2 i0 j = bt h g i0 j) (hk : ∀ t r q, ¬ (r = i0 ∧ q = j) → M' t r q = M t r q) : Dn h g n L (i0 + 1) M' := fun i q hij hq hx => by
  by_cases e : i = i0 ∧ q = j
  · obtain ⟨rfl, rfl⟩ := e
    exact ⟨h0, h1, fun _ => h2⟩
  · rw [hk _ _ _ e, hk _ _ _ e, hk _ _ _ e]
    exact hd i q hij hq (by omega)
theorem pfx_le {h g : Nat → Int} (hh : ∀ k, h k ≤ 1000) (hg : ∀ k, g k ≤ 1000) : ∀ j i, i ≤ j → pfx h g j - pfx h g i ≤ 2000 * ((j - i : Nat) : Int)
  | 0, i, hi => by obtain rfl : i = 0 := by omega
                   simp
  | j + 1, i, hi => by
    by_cases e : i = j + 1
    · subst e; simp
    · have := pfx_le hh hg j i (by omega)
      have h1 := hh j
      have h2 := hg (j + 1)
      simp only [pfx]
      omega
theorem wgt_le (hh : ∀ k, h k ≤ 1000) (hg : ∀ k, g k ≤ 1000) {i j : Nat} (hij : i ≤ j) (hj : j ≤ 20) : wgt h g i j ≤ 41000 := by
  have := pfx_le hh hg j i hij
  have := hg i
  unfold wgt
  omega
theorem bc_le (h0 : ∀ k, 0 ≤ h k) (g0 : ∀ k, 0 ≤ g k) (hh : ∀ k, h k ≤ 1000) (hg : ∀ k, g k ≤ 1000) : ∀ (m i j : Nat), j - i ≤ m → i ≤ j → j ≤ 20 → bc h g i j ≤ 41000 * (m : Int)
  | m, i, j, hm, hij, hj => by
    by_cases e : i = j
    · subst e; rw [bc_self]; omega
    · cases m with
      | zero => omega
      | succ m =>
        obtain ⟨r, r1, r2, r3, r4, r5, _⟩ := bt_spec h0 g0 (i := i) (j := j) (by omega)
        have h1 := r5 i (by omega) (by omega)
        rw [bc_self] at h1
        have h2 := bc_le h0 g0 hh hg m (i + 1) j (by omega) (by omega) hj
        have h3 := wgt_le hh hg (i := i) (j := j) (by omega) hj
        rw [r4]
        push_cast
        omega
end
end Go.Proofs.Ytpmhpogkpkhbfaa
