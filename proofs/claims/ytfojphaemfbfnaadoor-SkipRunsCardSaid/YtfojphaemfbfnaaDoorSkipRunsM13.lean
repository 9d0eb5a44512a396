/-
  slices.Delete at pairs, one element: what it answers. Conditions: the slice is owned by the caller (OW); at most 1000 elements.
-/
import Derived.Test.YtfojphaemfbfnaaDoorSkipRunsM12

namespace Go.Proofs.YtfojphaemfbfnaaDoor
open Go.ChangeShapes Go.WideShapes Go.ChangeAt Go.RowKit
set_option linter.unusedVariables false
set_option linter.unusedSimpArgs false

theorem delete_take (cur cs : List Value) (l : List IP) (i c : Nat) (hi : i < l.length) (hc : l.length ≤ c) (hl : cur.length = c * 2) (ht : cur.take (l.length * 2) = l.flatMap ePair.cells) (hcs : cs.length = 2) :
    (splice (splice cur (i * 2) ((l.drop (i + 1)).flatMap ePair.cells)) ((l.length - 1) * 2) cs).take ((l.take i ++ l.drop (i + 1)).length * 2) = (l.take i ++ l.drop (i + 1)).flatMap ePair.cells := by
  have hdl : ((l.drop (i + 1)).flatMap ePair.cells).length = (l.length - (i + 1)) * 2 := by rw [flat_len, List.length_drop]; rfl
  have hll : (l.take i ++ l.drop (i + 1)).length = l.length - 1 := by simp; omega
  have hs1 := splice_len cur (i * 2) ((l.drop (i + 1)).flatMap ePair.cells) (by omega)
  have hft : (l.take i).flatMap ePair.cells = cur.take (i * 2) := by
    have h1 := flat_take ePair l i (by omega)
    have h2 : ePair.size = 2 := rfl
    rw [h2] at h1
    rw [← h1, ← ht, List.take_take, Nat.min_eq_left (by omega)]
  rw [hll]
  apply List.ext_getElem?
  intro j
  rw [List.getElem?_take]
  by_cases hj : j < (l.length - 1) * 2
  · rw [if_pos hj, splice_at _ _ _ (by omega), if_pos hj, splice_at _ _ _ (by omega), List.flatMap_append, hft]
    have htl : (cur.take (i * 2)).length = i * 2 := by simp; omega
    by_cases h1 : j < i * 2
    · rw [if_pos h1, List.getElem?_append_left (by omega), List.getElem?_take, if_pos h1]
    · rw [if_neg h1, if_pos (by omega), List.getElem?_append_right (by omega), htl]
  · rw [if_neg hj, List.getElem?_eq_none]
    rw [flat_len, hll]
    exact Nat.le_of_not_lt hj

set_option maxRecDepth 100000 in
set_option maxHeartbeats 4000000 in
theorem deletePair_any (l : List IP) (i : Nat) (v : Value) (B : Nat) (w : World) (ho : OW w B 73 ePair v l) (hi : i < l.length) (hn : l.length ≤ 1000) :
    Calls Tryd.prog 61 #[v, .int .i64 (i : Int), .int .i64 ((i : Int) + 1)] w (OPost B 73 (l.take i ++ l.drop (i + 1)) v w) := by
  obtain ⟨g, c, rfl, hBg, hgw, hc, hc63⟩ := ho.shape (by omega)
  obtain ⟨cur, hbk, _, _, hcm, hcl, htk, _⟩ := BK.of_ow ho
  have hes : ePair.size = 2 := rfl
  rw [hes] at hcl htk
  obtain ⟨i0, z0, hu, hinfo, hzero, hsize, hbytes, hzs, _⟩ := row_pair
  rw [hes] at hsize hzs
  have hz0 : z0.cells.toList = ePair.cells (0, 0) := zero_pair i0 z0 hinfo hzero
  have h1d : ∀ v ∈ (l.drop (i + 1)).flatMap ePair.cells, v.oneCell' = true := flat_one ePair _
  have hdl : ((l.drop (i + 1)).flatMap ePair.cells).length = (l.length - (i + 1)) * 2 := by rw [flat_len, List.length_drop]; rfl
  have hfit1 : i * i0.size + ((l.drop (i + 1)).flatMap ePair.cells).length ≤ cur.length := by rw [hsize, hdl]; omega
  obtain ⟨A2, hif⟩ : ∃ A2 : Addr, (if c = i + 1 then some (⟨g, 0, none⟩ : Addr) else some ⟨g, (i + 1) * 2, none⟩) = some A2 := by
    by_cases h : c = i + 1
    · exact ⟨_, by rw [if_pos h]⟩
    · exact ⟨_, by rw [if_neg h]⟩
  have hsrc : ∀ j v, ((l.drop (i + 1)).flatMap ePair.cells)[j]? = some v → w.cell? (A2.add j) = some v := fun j v hj => by
    by_cases h : c = i + 1
    · have : (l.drop (i + 1)) = [] := List.drop_of_length_le (by omega)
      rw [this] at hj; simp at hj
    · rw [if_neg h] at hif
      injection hif with hif
      subst hif
      rw [add_lit]
      exact cells_drop (E := ePair) hbk htk (i + 1) (by omega) j v hj
  have hap : ∀ ty, (Builtin.append_ #[44, 44] ty #[.slice (some ⟨g, 0, none⟩) i c, .slice (some A2) (l.length - (i + 1)) (c - (i + 1))]).run Tryd.prog w.drew = .ok (.slice (some ⟨g, 0, none⟩) (l.length - 1) c) (w.drew.setRow g (splice cur (i * 2) ((l.drop (i + 1)).flatMap ePair.cells)).toArray) := fun ty => by
    have h := run_appendK (P := Tryd.prog) (w := w.drew) (ty := ty) hinfo hu hu i c A2 (l.length - (i + 1)) (c - (i + 1)) (t := 73) hbk (by rw [hdl, hsize]) (by omega) hsrc hfit1 h1d
    rw [hsize, show i + (l.length - (i + 1)) = l.length - 1 from by omega] at h
    exact h
  obtain ⟨cur1, hcur1⟩ : ∃ cur1, cur1 = splice cur (i * 2) ((l.drop (i + 1)).flatMap ePair.cells) := ⟨_, rfl⟩
  have hcl1 : cur1.length = c * 2 := by rw [hcur1, splice_len _ _ _ (by rw [hdl]; omega)]; exact hcl
  have hzl : (Builtin.zeroCells z0.cells 1).toList.length = 2 := by rw [Array.length_toList, size_zeroCells, hzs]
  have hz1c : ∀ v ∈ (Builtin.zeroCells z0.cells 1).toList, v.oneCell' = true := by
    have e : (Builtin.zeroCells z0.cells 1).toList = ePair.cells (0, 0) := by
      have h2 : z0.cells = #[.int .i64 0, .int .i64 0] := by
        have h3 : z0.cells.toList = [.int .i64 0, .int .i64 0] := hz0
        rw [← Array.toArray_toList (xs := z0.cells), h3]
      rw [h2]; simp [Builtin.zeroCells, ePair, Array.range, Array.ofFn_succ]
    rw [e]; exact ePair.one _
  have HFIN := hide (delete_take cur (Builtin.zeroCells z0.cells 1).toList l i c hi hc hcl htk hzl)
  rw [← hcur1] at hap HFIN
  have hcp : ∀ W, BK W g 73 cur1 → ∀ ty cc, (Builtin.clear_ #[44] ty #[.slice (some ⟨g, (l.length - 1) * 2, none⟩) 1 cc]).run Tryd.prog W = .ok (.tuple #[]) (W.setRow g (splice cur1 ((l.length - 1) * 2) (Builtin.zeroCells z0.cells 1).toList).toArray) := fun W hb ty cc =>
    run_clearK hinfo hzero hu ((l.length - 1) * 2) 1 cc (by omega) hb (by rw [hzs, hsize]) (by rw [hcl1, hsize]; omega) hz1c
  have hll : (l.take i ++ l.drop (i + 1)).length = l.length - 1 := by simp; omega
  have HLL := hide hll
  have HAP := hide hap
  have HCP := hide hcp
  have HBK := hide hbk
  have HBg := hide hBg
  have HCM := hide hcm
  have HCL1 := hide hcl1
  have HZL := hide hzl
  have HLC : Hid (l.length ≤ c) := hide hc
  obtain ⟨k, hk⟩ : ∃ k, l.length = k + 1 := ⟨l.length - 1, by omega⟩
  have HK := hide hk
  rw [hk, Nat.add_sub_cancel, Nat.add_sub_add_right] at HAP
  rw [hk, Nat.add_sub_cancel] at HCP HLL
  rw [hk] at hi hc hn ⊢
  have hwi : IntKind.i64.wrap ((i : Int) + 1) = (i : Int) + 1 := IntWalk.i64_in _ (by omega)
  have tni : ((i : Int) + 1).toNat = i + 1 := by omega
  have hnei' : ((i : Int) == (i : Int) + 1) = false := by simp; omega
  have bi0 : (0 : Int) ≤ (i : Int) + 1 := by omega
  have bi1 : (i : Int) ≤ (i : Int) + 1 := by omega
  have bi2 : (i : Int) + 1 ≤ (k : Int) + 1 := by omega
  have bi3 : (i : Int) + 1 ≤ (c : Int) := by omega
  have bi4 : (i : Int) ≤ (c : Int) := by omega
  have bck : ¬ (c = k) := by omega
  have bkc : (k : Int) + 1 ≤ (c : Int) := by omega
  have bi5 : (i : Int) ≤ (k : Int) + 1 := by omega
  clear hap hcp hcur1 hcl1 hbk htk hcl hinfo hzero hsize hbytes hzs h1d hdl hfit1 hsrc hz0 hzl hz1c ho hgw hcm hk hll
  go_enter Tryd.func61, Tryd.ntmps61
  go_wp2_with fail
  go_region_law (refine step_appK rfl (.tmp 22) (.tmp 25) rfl (.slice (some ⟨g, 0, none⟩) i c) (.slice (some A2) (k - i) (c - (i + 1))) (.slice (some ⟨g, 0, none⟩) k c) (by simp [Act.eval, Act.put]) (by simp [Act.eval, Act.put]) (w := w.drew) HBK.out (fun ty => HAP.out ty) ?_; intro w2 hb2 hk2)
  have hk2' : Kg g w w2 := (Kg.of (Kp.refl w).drew).trans hk2
  go_wp2_with ((with_reducible refine list_clear ?_ (.tmp 31) ?_ (.slice (some ⟨g, k * 2, none⟩) 1 (c - k)) ?_ hb2.out (fun ty => HCP.out _ hb2.out ty (c - k)) ?_); (with_reducible rfl); (with_reducible rfl); rfl; intro w3 hb3 hk3)
  go_ret
  refine ⟨_, rfl, ?_, (show w.grownBy w3 (some g) from hk2'.trans hk3), .inl rfl⟩
  rw [← HLL.out]
  have h9 := HCL1.out
  have h8 := HZL.out
  have h7 := HK.out
  exact BK.ow (E := ePair) hb3.out HBg.out (by rw [HLL.out]; omega) HCM.out (by
    rw [splice_len _ _ _ (by rw [h9, h8]; omega), h9]; rfl) (by rw [← show l.length - 1 = k from by omega]; exact HFIN.out)
end Go.Proofs.YtfojphaemfbfnaaDoor
