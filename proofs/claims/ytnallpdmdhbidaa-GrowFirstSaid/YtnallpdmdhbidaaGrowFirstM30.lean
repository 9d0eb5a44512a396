/-
  slices.Delete at pairs, one element: what it answers. Conditions: the slice is owned by the caller (OW); at most 1000 elements.
  plain.told, plain.put: what they answer. Conditions: of each contract.
-/
import Derived.Test.YtnallpdmdhbidaaGrowFirstM29
import Derived.Test.YtnallpdmdhbidaaGrowFirstM3
import Derived.Test.YtnallpdmdhbidaaGrowFirstM12
import Derived.Test.YtnallpdmdhbidaaGrowFirstM15
import Derived.Test.YtnallpdmdhbidaaGrowFirstM8

namespace Go.Proofs.Ytnallpdmdhbidaa
open Go.ChangeShapes Go.WideShapes Go.ChangeAt Go.RowKit
set_option linter.unusedVariables false
set_option linter.unusedSimpArgs false

theorem delete_take (cur cs : List Value) (l : List IP) (i c : Nat) (hi : i < l.length) (hc : l.length ≤ c) (hl : cur.length = c * 2) (ht : cur.take (l.length * 2) = l.flatMap ePair.cells) (hcs : cs.length = 2) :
    (splice (splice cur (i * 2) ((l.drop (i + 1)).flatMap ePair.cells)) ((l.length - 1) * 2) cs).take ((l.take i ++ l.drop (i + 1)).length * 2) = (l.take i ++ l.drop (i + 1)).flatMap ePair.cells := by
  have hdl : ((l.drop (i + 1)).flatMap ePair.cells).length = (l.length - (i + 1)) * 2 := by rw [flat_len, List.length_drop]; rfl
  have hll : (l.take i ++ l.drop (i + 1)).length = l.length - 1 := by simp; omega
  have hs1 := splice_len cur (i * 2) ((l.drop (i + 1)).flatMap ePair.cells) (by omega)
  have hft : (l.take i).flatMap ePair.cells = cur.take (i * 2) := by
    have h1 := flat_take ePair l i (by omega)
    have h2 : ePair.size = 2 := rfl
    rw [h2] at h1
    rw [← h1, ← ht, List.take_take, Nat.min_eq_left (by omega)]
  rw [hll]
  apply List.ext_getElem?
  intro j
  rw [List.getElem?_take]
  by_cases hj : j < (l.length - 1) * 2
  · rw [if_pos hj, splice_at _ _ _ (by omega), if_pos hj, splice_at _ _ _ (by omega), List.flatMap_append, hft]
    have htl : (cur.take (i * 2)).length = i * 2 := by simp; omega
    by_cases h1 : j < i * 2
    · rw [if_pos h1, List.getElem?_append_left (by omega), List.getElem?_take, if_pos h1]
    · rw [if_neg h1, if_pos (by omega), List.getElem?_append_right (by omega), htl]
  · rw [if_neg hj, List.getElem?_eq_none]
    rw [flat_len, hll]
    exact Nat.le_of_not_lt hj

set_option maxRecDepth 100000 in
set_option maxHeartbeats 4000000 in
theorem deletePair_any (l : List IP) (i : Nat) (v : Value) (B : Nat) (w : World) (ho : OW w B 58 ePair v l) (hi : i < l.length) (hn : l.length ≤ 1000) :
    Calls Try.prog 63 #[v, .int .i64 (i : Int), .int .i64 ((i : Int) + 1)] w (OPost B 58 (l.take i ++ l.drop (i + 1)) v w) := by
  obtain ⟨g, c, rfl, hBg, hgw, hc, hc63⟩ := ho.shape (by omega)
  obtain ⟨cur, hbk, _, _, hcm, hcl, htk, _⟩ := BK.of_ow ho
  have hes : ePair.size = 2 := rfl
  rw [hes] at hcl htk
  obtain ⟨i0, z0, hu, hinfo, hzero, hsize, hbytes, hzs, _⟩ := row_pair
  rw [hes] at hsize hzs
  have hz0 : z0.cells.toList = ePair.cells (0, 0) := zero_pair i0 z0 hinfo hzero
  have h1d : ∀ v ∈ (l.drop (i + 1)).flatMap ePair.cells, v.oneCell' = true := flat_one ePair _
  have hdl : ((l.drop (i + 1)).flatMap ePair.cells).length = (l.length - (i + 1)) * 2 := by rw [flat_len, List.length_drop]; rfl
  have hfit1 : i * i0.size + ((l.drop (i + 1)).flatMap ePair.cells).length ≤ cur.length := by rw [hsize, hdl]; omega
  obtain ⟨A2, hif⟩ : ∃ A2 : Addr, (if c = i + 1 then some (⟨g, 0, none⟩ : Addr) else some ⟨g, (i + 1) * 2, none⟩) = some A2 := by
    by_cases h : c = i + 1
    · exact ⟨_, by rw [if_pos h]⟩
    · exact ⟨_, by rw [if_neg h]⟩
  have hsrc : ∀ j v, ((l.drop (i + 1)).flatMap ePair.cells)[j]? = some v → w.cell? (A2.add j) = some v := fun j v hj => by
    by_cases h : c = i + 1
    · have : (l.drop (i + 1)) = [] := List.drop_of_length_le (by omega)
      rw [this] at hj; simp at hj
    · rw [if_neg h] at hif
      injection hif with hif
      subst hif
      rw [add_lit]
      exact cells_drop (E := ePair) hbk htk (i + 1) (by omega) j v hj
  have hap : ∀ ty, (Builtin.append_ #[48, 48] ty #[.slice (some ⟨g, 0, none⟩) i c, .slice (some A2) (l.length - (i + 1)) (c - (i + 1))]).run Try.prog w.drew = .ok (.slice (some ⟨g, 0, none⟩) (l.length - 1) c) (w.drew.setRow g (splice cur (i * 2) ((l.drop (i + 1)).flatMap ePair.cells)).toArray) := fun ty => by
    have h := run_appendK (P := Try.prog) (w := w.drew) (ty := ty) hinfo hu hu i c A2 (l.length - (i + 1)) (c - (i + 1)) (t := 58) hbk (by rw [hdl, hsize]) (by omega) hsrc hfit1 h1d
    rw [hsize, show i + (l.length - (i + 1)) = l.length - 1 from by omega] at h
    exact h
  obtain ⟨cur1, hcur1⟩ : ∃ cur1, cur1 = splice cur (i * 2) ((l.drop (i + 1)).flatMap ePair.cells) := ⟨_, rfl⟩
  have hcl1 : cur1.length = c * 2 := by rw [hcur1, splice_len _ _ _ (by rw [hdl]; omega)]; exact hcl
  have hzl : (Builtin.zeroCells z0.cells 1).toList.length = 2 := by rw [Array.length_toList, size_zeroCells, hzs]
  have hz1c : ∀ v ∈ (Builtin.zeroCells z0.cells 1).toList, v.oneCell' = true := by
    have e : (Builtin.zeroCells z0.cells 1).toList = ePair.cells (0, 0) := by
      have h2 : z0.cells = #[.int .i64 0, .int .i64 0] := by
        have h3 : z0.cells.toList = [.int .i64 0, .int .i64 0] := hz0
        rw [← Array.toArray_toList (xs := z0.cells), h3]
      rw [h2]; simp [Builtin.zeroCells, ePair, Array.range, Array.ofFn_succ]
    rw [e]; exact ePair.one _
  have HFIN := hide (delete_take cur (Builtin.zeroCells z0.cells 1).toList l i c hi hc hcl htk hzl)
  rw [← hcur1] at hap HFIN
  have hcp : ∀ W, BK W g 58 cur1 → ∀ ty cc, (Builtin.clear_ #[48] ty #[.slice (some ⟨g, (l.length - 1) * 2, none⟩) 1 cc]).run Try.prog W = .ok (.tuple #[]) (W.setRow g (splice cur1 ((l.length - 1) * 2) (Builtin.zeroCells z0.cells 1).toList).toArray) := fun W hb ty cc =>
    run_clearK hinfo hzero hu ((l.length - 1) * 2) 1 cc (by omega) hb (by rw [hzs, hsize]) (by rw [hcl1, hsize]; omega) hz1c
  have hll : (l.take i ++ l.drop (i + 1)).length = l.length - 1 := by simp; omega
  have HLL := hide hll
  have HAP := hide hap
  have HCP := hide hcp
  have HBK := hide hbk
  have HBg := hide hBg
  have HCM := hide hcm
  have HCL1 := hide hcl1
  have HZL := hide hzl
  have HLC : Hid (l.length ≤ c) := hide hc
  obtain ⟨k, hk⟩ : ∃ k, l.length = k + 1 := ⟨l.length - 1, by omega⟩
  have HK := hide hk
  rw [hk, Nat.add_sub_cancel, Nat.add_sub_add_right] at HAP
  rw [hk, Nat.add_sub_cancel] at HCP HLL
  rw [hk] at hi hc hn ⊢
  have hwi : IntKind.i64.wrap ((i : Int) + 1) = (i : Int) + 1 := IntWalk.i64_in _ (by omega)
  have tni : ((i : Int) + 1).toNat = i + 1 := by omega
  have hnei' : ((i : Int) == (i : Int) + 1) = false := by simp; omega
  have bi0 : (0 : Int) ≤ (i : Int) + 1 := by omega
  have bi1 : (i : Int) ≤ (i : Int) + 1 := by omega
  have bi2 : (i : Int) + 1 ≤ (k : Int) + 1 := by omega
  have bi3 : (i : Int) + 1 ≤ (c : Int) := by omega
  have bi4 : (i : Int) ≤ (c : Int) := by omega
  have bck : ¬ (c = k) := by omega
  have bkc : (k : Int) + 1 ≤ (c : Int) := by omega
  have bi5 : (i : Int) ≤ (k : Int) + 1 := by omega
  clear hap hcp hcur1 hcl1 hbk htk hcl hinfo hzero hsize hbytes hzs h1d hdl hfit1 hsrc hz0 hzl hz1c ho hgw hcm hk hll
  go_enter Try.func63, Try.ntmps63
  go_wp2_with fail
  go_region_law (refine step_appK rfl (.tmp 22) (.tmp 25) rfl (.slice (some ⟨g, 0, none⟩) i c) (.slice (some A2) (k - i) (c - (i + 1))) (.slice (some ⟨g, 0, none⟩) k c) (by simp [Act.eval, Act.put]) (by simp [Act.eval, Act.put]) (w := w.drew) HBK.out (fun ty => HAP.out ty) ?_; intro w2 hb2 hk2)
  have hk2' : Kg g w w2 := (Kg.of (Kp.refl w).drew).trans hk2
  go_wp2_with ((with_reducible refine list_clear ?_ (.tmp 31) ?_ (.slice (some ⟨g, k * 2, none⟩) 1 (c - k)) ?_ hb2.out (fun ty => HCP.out _ hb2.out ty (c - k)) ?_); (with_reducible rfl); (with_reducible rfl); rfl; intro w3 hb3 hk3)
  go_ret
  refine ⟨_, rfl, ?_, (show w.grownBy w3 (some g) from hk2'.trans hk3), .inl rfl⟩
  rw [← HLL.out]
  have h9 := HCL1.out
  have h8 := HZL.out
  have h7 := HK.out
  exact BK.ow (E := ePair) hb3.out HBg.out (by rw [HLL.out]; omega) HCM.out (by
    rw [splice_len _ _ _ (by rw [h9, h8]; omega), h9]; rfl) (by rw [← show l.length - 1 = k from by omega]; exact HFIN.out)
end Go.Proofs.Ytnallpdmdhbidaa
namespace Go.Proofs.Ytnallpdmdhbidaa
open Go.ChangeShapes Go.WideShapes Go.ChangeAt Go.RowKit
set_option linter.unusedVariables false
set_option linter.unusedSimpArgs false

def toldL (l : List IP) (at_ : Int) : An := if h : 0 ≤ at_ ∧ at_ < l.length then ⟨0, (l[at_.toNat]'(by omega)).1, (l[at_.toNat]'(by omega)).2, true⟩ else ⟨0, 0, 0, false⟩
theorem toldL_no (l : List IP) (at_ : Int) (h : ¬ (0 ≤ at_ ∧ at_ < l.length)) : toldL l at_ = ⟨0, 0, 0, false⟩ := by rw [toldL, dif_neg h]
theorem toldL_at (l : List IP) (k : Nat) (h : k < l.length) : toldL l (k : Int) = ⟨0, l[k].1, l[k].2, true⟩ := by
  rw [toldL, dif_pos (by omega)]; rfl

set_option maxRecDepth 100000 in
set_option maxHeartbeats 1000000 in
theorem told_any (l : List IP) (v : Value) (at_ : Int) (w : World) (hr : RD w ePair v l) (hn : l.length ≤ 1000) : Calls Try.prog 64 #[v, .int .i64 at_] w (Ret (toldL l at_).v w) := by
  obtain ⟨A, c, rfl, hc, hm⟩ := hr.shape
  have HR := hide hr
  clear hr
  have hw : IntKind.i64.wrap ((l.length : Int) - 1) = (l.length : Int) - 1 := IntWalk.i64_in _ (by omega)
  by_cases hin : 0 ≤ at_ ∧ at_ < l.length
  · obtain ⟨k, rfl⟩ : ∃ k : Nat, at_ = k := ⟨at_.toNat, by omega⟩
    have hk : k < l.length := by omega
    have HT := hide (toldL_at l k hk)
    obtain ⟨b, o, rfl, _, c0, c1⟩ := HR.out.pair hk
    have hb : btw (k : Int) 0 ((l.length : Int) - 1) = true := (btw_iff _ _ _).2 (by omega)
    have b1 : (k : Int) < (l.length : Int) := by omega
    have b0 : (0 : Int) ≤ (k : Int) := by omega
    have d0 : (w.alloc (.cells #[.int .i64 0, .int .i64 0, .int .i64 0, .bool false] 54)).cell? ⟨b, o + k * 2, none⟩ = some (.int .i64 l[k].1) := (Kp.refl w).alloc.cell c0
    have HB := hide hb
    clear hin hb
    go_enter Try.func64, Try.ntmps64
    go_wp2_with (go_at_call 60; refine (within_to _ _ _ true _ HB.out).mono ?_; rintro e w' ⟨rfl, rfl⟩)
    go_region_held3 (fun w' => w'.cell? ⟨b, o + k * 2, none⟩ = some (.int .i64 l[k].1) ∧ w'.cell? ⟨b, o + k * 2 + 1, none⟩ = some (.int .i64 l[k].2))
      (first | go_keep | fail)
      (fail)
    go_wp2
    refine bodyPost_ret (v := (⟨0, l[k].1, l[k].2, true⟩ : An).v) (by simp [results, Try.results64, go_sem, An.v]) rfl ⟨by rw [HT.out], ?_⟩
    exact Kp.bel (by (focus ((repeat (first | (with_reducible assumption) | (with_reducible exact Kp.refl _) | (with_reducible apply Kp.drew) | (with_reducible apply Kp.drewN) | ((with_reducible apply Kp.setR); (focus (first | (with_reducible assumption) | (simp; done) | (simp; omega)))) | (with_reducible apply Kp.alloc) | ((with_reducible apply Kp.call); (with_reducible assumption)) | ((with_reducible apply Kp.app); (with_reducible assumption)))); done)))
  · have HT := hide (toldL_no l at_ hin)
    have hb : btw at_ 0 ((l.length : Int) - 1) = false := (btw_f_iff _ _ _).2 (by omega)
    have HB := hide hb
    clear hin hb
    go_enter Try.func64, Try.ntmps64
    go_wp2_with (go_at_call 60; refine (within_to _ _ _ false _ HB.out).mono ?_; rintro e w' ⟨rfl, rfl⟩)
    refine bodyPost_ret (v := (⟨0, 0, 0, false⟩ : An).v) (by simp [results, Try.results64, go_sem, An.v]) rfl ⟨by rw [HT.out], ?_⟩
    exact Kp.bel (by (focus ((repeat (first | (with_reducible assumption) | (with_reducible exact Kp.refl _) | (with_reducible apply Kp.drew) | (with_reducible apply Kp.drewN) | ((with_reducible apply Kp.setR); (focus (first | (with_reducible assumption) | (simp; done) | (simp; omega)))) | (with_reducible apply Kp.alloc) | ((with_reducible apply Kp.call); (with_reducible assumption)) | ((with_reducible apply Kp.app); (with_reducible assumption)))); done)))
def putL (l : List IP) (key val : Int) : List IP × An :=
  if hasKey l key then (l.set (below l key) (key, val), ⟨0, 0, 0, true⟩)
  else if l.length = 200 then (l, ⟨2, 0, 0, false⟩)
  else (l.take (below l key) ++ [(key, val)] ++ l.drop (below l key), ⟨0, 0, 0, false⟩)
def PutPost (w0 : World) (r : List IP × An) (e : Ending) (w' : World) : Prop := ∃ v', e = .returned (.tuple #[v', r.2.v]) ∧ OW w' w0.heap.size 58 ePair v' r.1 ∧ Kp w0 w'

set_option maxRecDepth 100000 in
set_option maxHeartbeats 4000000 in
theorem put_any (l : List IP) (key val : Int) (v : Value) (w0 w : World) (ho : OW w w0.heap.size 58 ePair v l) (hk0 : Kp w0 w) (hs : Rise l) (hn : l.length ≤ 200) :
    Calls Try.prog 62 #[v, .agg #[.int .i64 key, .int .i64 val]] w (PutPost w0 (putL l key val)) := by
  have hble := below_le l key
  have HSZ := hk0.size
  have HF := hide (fun W v h => find_any l v key W h (by omega) hs)
  obtain ⟨A, c, rfl, hc, hm⟩ := ho.rd.shape
  have hhi := ho.hi
  have HO := hide ho
  have HS := hide hs
  obtain ⟨W1, hW1⟩ : ∃ W1, W1 = (w.alloc (.cells #[.int .i64 key, .int .i64 val] 58)).alloc (.cells #[.int .i64 0, .int .i64 0, .int .i64 0, .bool false] 54) := ⟨_, rfl⟩
  have hk1 : Kp w W1 := by rw [hW1]; exact (Kp.refl w).alloc.alloc
  have hz1 : W1.heap.size = w.heap.size + 2 := by rw [hW1]; simp
  have q0 : W1.cell? ⟨w.heap.size, 0, none⟩ = some (.int .i64 key) := by rw [hW1]; simp [go_sem]
  have q1 : W1.cell? ⟨w.heap.size, 1, none⟩ = some (.int .i64 val) := by rw [hW1]; simp [go_sem]
  have r0 : W1.cell? ⟨w.heap.size + 1, 0, none⟩ = some (.int .i64 0) := by rw [hW1]; simp [go_sem]
  have r1 : W1.cell? ⟨w.heap.size + 1, 1, none⟩ = some (.int .i64 0) := by rw [hW1]; simp [go_sem]
  have r2 : W1.cell? ⟨w.heap.size + 1, 2, none⟩ = some (.int .i64 0) := by rw [hW1]; simp [go_sem]
  have r3 : W1.cell? ⟨w.heap.size + 1, 3, none⟩ = some (.bool false) := by rw [hW1]; simp [go_sem]
  have g0 : ∀ j, W1.frozen? ⟨w.heap.size + 1, j, none⟩ = false := fun j => by rw [hW1]; simp [go_sem]
  have HK1 := hide hk1
  have HQ0 := hide q0
  have HQ1 := hide q1
  have HR0 := hide r0
  have HR1 := hide r1
  have HR2 := hide r2
  have HR3 := hide r3
  have HG0 := hide g0
  have HZ1 := hide hz1
  have HK0 := hide hk0
  have HW1 := hide hW1
  have HHI := hide hhi
  clear ho hs hk1 q0 q1 r0 r1 r2 r3 g0 hz1 hk0 hhi hW1
  obtain ⟨b, hbe⟩ : ∃ b, b = below l key := ⟨_, rfl⟩
  cases hh : hasKey l key with
  | true =>
    obtain ⟨hbl, hbk⟩ : ∃ hb : b < l.length, l[b].1 = key := by rw [hbe]; exact (hasKey_iff l HS.out key).1 hh
    have HP : Hid (putL l key val = (l.set b (key, val), ⟨0, 0, 0, true⟩)) := hide (by rw [putL, hh, if_pos rfl, hbe])
    rw [hh, ← hbe] at HF
    obtain ⟨g, c', hv, hg0, hgw, _, _⟩ := HO.out.shape (by omega)
    injection hv with e1 e2 e3
    subst e1
    subst e3
    have HBK := hide hbk
    have bb : (b : Int) < (l.length : Int) := by omega
    have b0 : (0 : Int) ≤ (b : Int) := by omega
    have n1 : ¬ g = w.heap.size + 1 := by omega
    have n2 : ¬ w.heap.size + 1 = g := by omega
    clear hbe hh hbk
    go_enter Try.func62, Try.ntmps62
    go_wp2_with fail
    refine (HF.out _ _ ((HO.out.rd.alloc _).alloc _)).mono ?_
    rintro e w2 ⟨rfl, hb2⟩
    have hk2 : Kp W1 w2 := by rw [HW1.out]; exact hb2
    have hk20 := HK1.out.trans hk2
    have q0 := hk2.cell HQ0.out
    have q1 := hk2.cell HQ1.out
    have r0 := hk2.cell HR0.out
    have r1 := hk2.cell HR1.out
    have r2 := hk2.cell HR2.out
    have r3 := hk2.cell HR3.out
    have hz1 := HZ1.out
    have f0 := (hk2.frozen (p := ⟨w.heap.size + 1, 0, none⟩) (by simp; omega)).trans (HG0.out 0)
    have f1 := (hk2.frozen (p := ⟨w.heap.size + 1, 1, none⟩) (by simp; omega)).trans (HG0.out 1)
    have f2 := (hk2.frozen (p := ⟨w.heap.size + 1, 2, none⟩) (by simp; omega)).trans (HG0.out 2)
    have f3 := (hk2.frozen (p := ⟨w.heap.size + 1, 3, none⟩) (by simp; omega)).trans (HG0.out 3)
    have HO2 := hide (HO.out.kp hk20)
    obtain ⟨y1, fy⟩ : w2.cell? ⟨g, b * 2 + 1, none⟩ = some (.int .i64 l[b].2) ∧ w2.frozen? ⟨g, b * 2 + 1, none⟩ = false := HO2.out.cellPair b (by omega)
    have HZ := hide hz1
    clear hb2 hz1
    go_wp2
    refine bodyPost_ret (v := .tuple #[.slice (some ⟨g, 0, none⟩) l.length c, (⟨0, 0, 0, true⟩ : An).v]) (by simp [results, Try.results62, go_sem, An.v, r0, r1, r2, r3, n1, n2, y1, World.cell?_setCell_far]) rfl ⟨_, by rw [HP.out], ?_, ?_⟩
    · rw [HP.out, ← HBK.out]
      have hne : (Value.slice (some ⟨g, 0, none⟩) l.length c).ownBlock ≠ some (w.heap.size + 1) := fun h => n1 (by injection h)
      exact ((((HO2.out.setVal b hbl val).setCell hne _).setCell hne _).setCell hne _).setCell hne _
    · exact Kp.setR (by simp; omega) (Kp.setR (by simp; omega) (Kp.setR (by simp; omega) (Kp.setR (by simp; omega) (Kp.setR (by simp; omega) (HK0.out.trans hk20)))))
  | false =>
    rw [hh, ← hbe] at HF
    rw [← hbe] at hble
    by_cases h200 : l.length = 200
    · have HP : Hid (putL l key val = (l, ⟨2, 0, 0, false⟩)) := hide (by rw [putL, hh, if_neg (by simp), if_pos h200])
      have H2 := hide h200
      have t200 : ((l.length : Int) == 200) = true := by simp [h200]
      clear hbe hh h200
      go_enter Try.func62, Try.ntmps62
      go_wp2_with fail
      refine (HF.out _ _ ((HO.out.rd.alloc _).alloc _)).mono ?_
      rintro e w2 ⟨rfl, hb2⟩
      have hk2 : Kp W1 w2 := by rw [HW1.out]; exact hb2
      have hk20 := HK1.out.trans hk2
      have r0 := hk2.cell HR0.out
      have r1 := hk2.cell HR1.out
      have r2 := hk2.cell HR2.out
      have r3 := hk2.cell HR3.out
      have hz1 := HZ1.out
      have f0 := (hk2.frozen (p := ⟨w.heap.size + 1, 0, none⟩) (by simp; omega)).trans (HG0.out 0)
      have f1 := (hk2.frozen (p := ⟨w.heap.size + 1, 1, none⟩) (by simp; omega)).trans (HG0.out 1)
      have f2 := (hk2.frozen (p := ⟨w.heap.size + 1, 2, none⟩) (by simp; omega)).trans (HG0.out 2)
      have f3 := (hk2.frozen (p := ⟨w.heap.size + 1, 3, none⟩) (by simp; omega)).trans (HG0.out 3)
      have HO2 := hide (HO.out.kp hk20)
      have HLO : Hid ((Value.slice A l.length c).ownBlock ≠ some (w.heap.size + 1)) := hide (fun h => by
        have := HO.out.lt _ h; omega)
      have HZ := hide hz1
      clear hb2 hz1
      go_wp2
      refine bodyPost_ret (v := .tuple #[.slice A l.length c, (⟨2, 0, 0, false⟩ : An).v]) (by simp [results, Try.results62, go_sem, An.v, r0, r1, r2, r3]) rfl ⟨_, by rw [HP.out], ?_, ?_⟩
      · rw [HP.out]
        exact (((HO2.out.setCell HLO.out _).setCell HLO.out _).setCell HLO.out _).setCell HLO.out _
      · exact Kp.setR (by simp; omega) (Kp.setR (by simp; omega) (Kp.setR (by simp; omega) (Kp.setR (by simp; omega) (HK0.out.trans hk20))))
    · have HP : Hid (putL l key val = (l.take b ++ [(key, val)] ++ l.drop b, ⟨0, 0, 0, false⟩)) := hide (by rw [putL, hh, if_neg (by simp), if_neg h200, hbe])
      have t200 : ((l.length : Int) == 200) = false := by simp; omega
      clear hbe hh h200
      go_enter Try.func62, Try.ntmps62
      go_wp2_with fail
      refine (HF.out _ _ ((HO.out.rd.alloc _).alloc _)).mono ?_
      rintro e w2 ⟨rfl, hb2⟩
      have hk2 : Kp W1 w2 := by rw [HW1.out]; exact hb2
      have hk20 := HK1.out.trans hk2
      have q0 := hk2.cell HQ0.out
      have q1 := hk2.cell HQ1.out
      have hz1 := HZ1.out
      have hz2 := hk2.size
      have HO2 := hide (HO.out.kp hk20)
      have HLO : Hid ((Value.slice A l.length c).ownBlock ≠ some (w.heap.size + 1)) := hide (fun h => by
        have := HO.out.lt _ h; omega)
      have HLO2 : Hid ((Value.slice A l.length c).ownBlock ≠ some w2.heap.size) := hide (fun h => by
        have := HO.out.lt _ h; omega)
      have hsz : w.heap.size + 2 ≤ w2.heap.size := by omega
      have HZ := hide hz1
      clear hb2 hz1 hz2
      go_wp2_with fail
      refine (insertPair_any l (key, val) b (.slice A l.length c) w2.heap.size w0.heap.size _ (HO2.out.alloc _) (heap_alloc_new w2 _) HLO2.out hble (by omega) (by simp; omega)).mono ?_
      rintro e w3 ⟨v3, rfl, ho3, hg3, hat3⟩
      have hw3 : w2.heap.size + 1 ≤ w3.heap.size := by have := hg3.size; simpa using this
      have ka : Kp W1 (w2.alloc (.cells #[.int .i64 key, .int .i64 val] 58)) := hk2.alloc
      have hne1 : ∀ j, some (⟨w.heap.size + 1, j, none⟩ : Addr).block ≠ (Value.slice A l.length c).ownBlock := fun j e => HLO.out e.symm
      have r0 := hg3.cell (ka.cell HR0.out) (hne1 0)
      have r1 := hg3.cell (ka.cell HR1.out) (hne1 1)
      have r2 := hg3.cell (ka.cell HR2.out) (hne1 2)
      have r3 := hg3.cell (ka.cell HR3.out) (hne1 3)
      have hz1 := HZ.out
      have f0 := ((hg3.frozen_far ⟨w.heap.size + 1, 0, none⟩ (by simp; omega) (hne1 0)).trans (ka.frozen (p := ⟨w.heap.size + 1, 0, none⟩) (by simp; omega))).trans (HG0.out 0)
      have f1 := ((hg3.frozen_far ⟨w.heap.size + 1, 1, none⟩ (by simp; omega) (hne1 1)).trans (ka.frozen (p := ⟨w.heap.size + 1, 1, none⟩) (by simp; omega))).trans (HG0.out 1)
      have f2 := ((hg3.frozen_far ⟨w.heap.size + 1, 2, none⟩ (by simp; omega) (hne1 2)).trans (ka.frozen (p := ⟨w.heap.size + 1, 2, none⟩) (by simp; omega))).trans (HG0.out 2)
      have f3 := ((hg3.frozen_far ⟨w.heap.size + 1, 3, none⟩ (by simp; omega) (hne1 3)).trans (ka.frozen (p := ⟨w.heap.size + 1, 3, none⟩) (by simp; omega))).trans (HG0.out 3)
      have HLO3 : Hid (v3.ownBlock ≠ some (w.heap.size + 1)) := hide (fun h => by
        rcases hat3 with h3 | ⟨k, h3, h4⟩
        · exact HLO.out (h3.symm.trans h)
        · rw [h] at h3
          injection h3 with h3
          simp at h4
          omega)
      have HO3 := hide ho3
      have HK3 : Hid (Kp w0 w3) := hide (Kp.app hg3 ((HK0.out.trans hk20).alloc) HHI.out)
      clear ho3 hg3 hat3 hne1 hz1
      go_wp2
      refine bodyPost_ret (v := .tuple #[v3, (⟨0, 0, 0, false⟩ : An).v]) (by simp [results, Try.results62, go_sem, An.v, r0, r1, r2, r3]) rfl ⟨_, by rw [HP.out], ?_, ?_⟩
      · rw [HP.out]
        exact (((HO3.out.setCell HLO3.out _).setCell HLO3.out _).setCell HLO3.out _).setCell HLO3.out _
      · exact Kp.setR (by simp; omega) (Kp.setR (by simp; omega) (Kp.setR (by simp; omega) (Kp.setR (by simp; omega) HK3.out)))
end Go.Proofs.Ytnallpdmdhbidaa
