/-
  slices.Insert at pairs, one value: what it answers. Conditions: the slice is owned by the caller (OW); the value lies in a block of its own; at most 1000 elements.
-/
import Derived.Test.YtnallpdmdhbidaaGrowFirstM6
import Derived.Laws.NewBlocks

namespace Go.Proofs.Ytnallpdmdhbidaa
open Go.ChangeShapes Go.WideShapes Go.ChangeAt Go.RowKit
set_option linter.unusedVariables false
set_option linter.unusedSimpArgs false

/-- What a call leaves that answers a slice made of one that its caller owned. -/
def OPost (B : Nat) (t : TypeId) (l : List IP) (v : Value) (w : World) (e : Ending) (w' : World) : Prop :=
  ∃ v', e = .returned v' ∧ OW w' B t ePair v' l ∧ w.grownBy w' v.ownBlock ∧ (v'.ownBlock = v.ownBlock ∨ ∃ k, v'.ownBlock = some k ∧ w.heap.size ≤ k)
theorem OPost.kp {w0 w w' : World} {v : Value} (hg : w.grownBy w' v.ownBlock) (h : Kp w0 w) (hv : Hi w0.heap.size v) : Kp w0 w' := Kp.app hg h hv
theorem flat_take {α : Type} (E : Enc α) (l : List α) (k : Nat) (h : k ≤ l.length) : (l.flatMap E.cells).take (k * E.size) = (l.take k).flatMap E.cells := by
  have e : l.flatMap E.cells = (l.take k).flatMap E.cells ++ (l.drop k).flatMap E.cells := by rw [← List.flatMap_append, List.take_append_drop]
  rw [e, List.take_left']
  rw [flat_len]; simp [h]
theorem flat_drop {α : Type} (E : Enc α) (l : List α) (k : Nat) (h : k ≤ l.length) : (l.flatMap E.cells).drop (k * E.size) = (l.drop k).flatMap E.cells := by
  have e : l.flatMap E.cells = (l.take k).flatMap E.cells ++ (l.drop k).flatMap E.cells := by rw [← List.flatMap_append, List.take_append_drop]
  rw [e, List.drop_left']
  rw [flat_len]; simp [h]
/-- Cells of a part of a list. -/
theorem cells_drop {w : World} {g : Nat} {t : TypeId} {cur : List Value} {α : Type} {E : Enc α} {l : List α} (hg : BK w g t cur) (ht : cur.take (l.length * E.size) = l.flatMap E.cells) (k : Nat) (hk : k ≤ l.length) :
    ∀ j v, ((l.drop k).flatMap E.cells)[j]? = some v → w.cell? ⟨g, k * E.size + j, none⟩ = some v := fun j v hj => by
  rw [hg.cell, ← hj, ← flat_drop E l k hk, ← ht, List.getElem?_drop, List.getElem?_take, if_pos]
  have h1 := (List.getElem?_eq_some_iff.1 hj).1
  rw [flat_len, List.length_drop] at h1
  have h2 : (l.length - k) * E.size = l.length * E.size - k * E.size := Nat.sub_mul _ _ _
  have h3 : k * E.size ≤ l.length * E.size := Nat.mul_le_mul_right _ hk
  omega

/-- In place: all from i on is moved by one, the new one laid. -/
theorem insert_take (cur : List Value) (l : List IP) (x : IP) (i c : Nat) (hi : i < l.length) (hc : l.length + 1 ≤ c) (hl : cur.length = c * 2) (ht : cur.take (l.length * 2) = l.flatMap ePair.cells) :
    (splice (splice cur ((i + 1) * 2) ((l.drop i).flatMap ePair.cells)) (i * 2) (ePair.cells x)).take ((l.take i ++ [x] ++ l.drop i).length * 2) = (l.take i ++ [x] ++ l.drop i).flatMap ePair.cells := by
  have hdl : ((l.drop i).flatMap ePair.cells).length = (l.length - i) * 2 := by rw [flat_len, List.length_drop]; rfl
  have hxl : (ePair.cells x).length = 2 := rfl
  have hll : (l.take i ++ [x] ++ l.drop i).length = l.length + 1 := by simp; omega
  have hs1 := splice_len cur ((i + 1) * 2) ((l.drop i).flatMap ePair.cells) (by omega)
  have hft : (l.take i).flatMap ePair.cells = cur.take (i * 2) := by
    have h1 := flat_take ePair l i (by omega)
    have h2 : ePair.size = 2 := rfl
    rw [h2] at h1
    rw [← h1, ← ht, List.take_take, Nat.min_eq_left (by omega)]
  rw [hll]
  apply List.ext_getElem?
  intro j
  rw [List.getElem?_take]
  by_cases hj : j < (l.length + 1) * 2
  · rw [if_pos hj, splice_at _ _ _ (by omega)]
    simp only [List.flatMap_append, List.flatMap_cons, List.flatMap_nil, List.append_nil, List.append_assoc]
    rw [hft]
    have htl : (cur.take (i * 2)).length = i * 2 := by simp; omega
    by_cases h1 : j < i * 2
    · rw [if_pos h1, splice_at _ _ _ (by omega), if_pos (by omega), List.getElem?_append_left (by omega), List.getElem?_take, if_pos h1]
    · rw [if_neg h1, List.getElem?_append_right (by omega), htl]
      by_cases h2 : j < i * 2 + (ePair.cells x).length
      · rw [if_pos h2, List.getElem?_append_left (by omega)]
      · rw [if_neg h2, splice_at _ _ _ (by omega), if_neg (by omega), if_pos (by omega), List.getElem?_append_right (by omega), hxl]
        congr 1; omega
  · rw [if_neg hj, List.getElem?_eq_none]
    rw [flat_len, hll]
    exact Nat.le_of_not_lt hj
/-- In a new block: what stood ahead, the new one, what stood from i on. -/
theorem insert_new (cur Z : List Value) (l : List IP) (x : IP) (i c G : Nat) (hi : i < l.length) (hG : l.length + 1 ≤ G) (hZ : i * 2 + Z.length = G * 2) :
    (splice (splice ((l.take i).flatMap ePair.cells ++ Z) (i * 2) (ePair.cells x)) ((i + 1) * 2) ((l.drop i).flatMap ePair.cells)).take ((l.take i ++ [x] ++ l.drop i).length * 2) = (l.take i ++ [x] ++ l.drop i).flatMap ePair.cells := by
  have hdl : ((l.drop i).flatMap ePair.cells).length = (l.length - i) * 2 := by rw [flat_len, List.length_drop]; rfl
  have hxl : (ePair.cells x).length = 2 := rfl
  have hll : (l.take i ++ [x] ++ l.drop i).length = l.length + 1 := by simp; omega
  have htl : ((l.take i).flatMap ePair.cells).length = i * 2 := by rw [flat_len, List.length_take, Nat.min_eq_left (by omega)]; rfl
  have hcl : ((l.take i).flatMap ePair.cells ++ Z).length = G * 2 := by rw [List.length_append]; omega
  have hs1 := splice_len ((l.take i).flatMap ePair.cells ++ Z) (i * 2) (ePair.cells x) (by omega)
  rw [hll]
  apply List.ext_getElem?
  intro j
  rw [List.getElem?_take]
  by_cases hj : j < (l.length + 1) * 2
  · rw [if_pos hj, splice_at _ _ _ (by omega)]
    simp only [List.flatMap_append, List.flatMap_cons, List.flatMap_nil, List.append_nil, List.append_assoc]
    by_cases h1 : j < (i + 1) * 2
    · rw [if_pos h1, splice_at _ _ _ (by omega)]
      by_cases h2 : j < i * 2
      · rw [if_pos h2, List.getElem?_append_left (by omega), List.getElem?_append_left (by omega)]
      · rw [if_neg h2, if_pos (by omega), List.getElem?_append_right (by omega), List.getElem?_append_left (by omega), htl]
    · rw [if_neg h1, if_pos (by omega), List.getElem?_append_right (by omega), List.getElem?_append_right (by omega)]
      congr 1; omega
  · rw [if_neg hj, List.getElem?_eq_none]
    rw [flat_len, hll]
    exact Nat.le_of_not_lt hj

set_option maxRecDepth 100000 in
theorem grow_zeros (l : List IP) (i g c : Nat) (w : World) {cur : List Value} (hbk : BK w g 58 cur) (htk : cur.take (l.length * 2) = l.flatMap ePair.cells) (hi : i < l.length) (hc : l.length ≤ c) (hroom : c < l.length + 1) (hn : l.length ≤ 1000) :
    ∃ (G : Nat) (C Z : List Value), l.length + 1 ≤ G ∧ G ≤ maxLen ∧ i * 2 + Z.length = G * 2 ∧ C = (l.take i).flatMap ePair.cells ++ Z ∧ ∀ ty, (Builtin.append_ #[48, 3] ty #[.slice (some ⟨g, 0, none⟩) i c, .int .i64 ((l.length : Int) + 1 - (i : Int))]).run Try.prog w =
      .ok (.slice (some ⟨w.heap.size, 0, none⟩) (l.length + 1) G) (w.drew.alloc (.cells C.toArray 58)) := by
  obtain ⟨i0, z0, hu, hinfo, hzero, hsize, hbytes, hzs, _⟩ := row_pair
  have hes : ePair.size = 2 := rfl
  rw [hes] at hsize hzs
  have hft := flat_take ePair l i (by omega)
  rw [hes] at hft
  have hold : (Builtin.firstCells i0.size i (.slice (some ⟨g, 0, none⟩) i c)).run Try.prog w.drew = .ok ((l.take i).flatMap ePair.cells).toArray w.drew := by
    rw [hsize]
    refine run_firstCells_some w.drew 2 i ⟨g, 0, none⟩ i c _ (by rw [flat_len, List.length_take, Nat.min_eq_left (by omega)]; rfl) fun j v hj => ?_
    rw [add_lit, Nat.zero_add]
    show w.cell? _ = _
    have h1 := (List.getElem?_eq_some_iff.1 hj).1
    rw [flat_len, List.length_take, Nat.min_eq_left (by omega), hes] at h1
    rw [hbk.cell, ← hj, ← hft, ← htk, List.getElem?_take, if_pos h1, List.getElem?_take, if_pos (by omega)]
  have hkk : (l.length : Int) + 1 - (i : Int) = ((l.length + 1 - i : Nat) : Int) := by omega
  have hik : i + (l.length + 1 - i) = l.length + 1 := by omega
  have hG := grownCap_ge w (l.length + 1) c 58
  have hG2 := grownCap_le_maxLen w (l.length + 1) c 58 (by unfold maxLen; omega)
  refine ⟨grownCap w (l.length + 1) c 58, _, (Builtin.zeroCells z0.cells (l.length + 1 - i)).toList ++ (Builtin.zeroCells z0.cells (grownCap w (l.length + 1) c 58 - (l.length + 1))).toList, hG, hG2, ?_, rfl, fun ty => ?_⟩
  · simp only [List.length_append, Array.length_toList, size_zeroCells, hzs]; omega
  · have h := Lib.run_append_grow_zeros w 48 3 ty 58 i0 z0 .i64 .i64 hu Try.underlying3 hinfo hzero (some ⟨g, 0, none⟩) i c _ hold (l.length + 1 - i) (by omega) (by omega) (by omega) (by omega) (by rw [hbytes]; omega) (by rw [hbytes, hik]; exact growslice_fits hroom (by omega))
    rw [hik] at h
    rw [hkk, h]
    congr 3
    simp

set_option maxRecDepth 100000 in
set_option maxHeartbeats 4000000 in
theorem insertPair_any (l : List IP) (x : IP) (i : Nat) (v : Value) (h B : Nat) (w : World) (ho : OW w B 58 ePair v l) (hx : AR w h 58 ePair [x]) (hne : v.ownBlock ≠ some h) (hi : i ≤ l.length) (hn : l.length ≤ 1000) (hB : B ≤ w.heap.size) :
    Calls Try.prog 69 #[v, .int .i64 (i : Int), .slice (some ⟨h, 0, none⟩) 1 1] w (OPost B 58 (l.take i ++ [x] ++ l.drop i) v w) := by
  have HX := hide hx
  have hz1 : ¬ ((1 : Int) = 0) := by omega
  by_cases hin : i = l.length
  · -- at the end
    subst hin
    have hl' : Hid (l.take l.length ++ [x] ++ l.drop l.length = l ++ [x]) := hide (by simp)
    have HO := hide ho
    have HM1 : Hid ((l.length + [x].length) * 16 ≤ 140737488355328) := hide (by simp; omega)
    have HM2 : Hid (l.length + [x].length ≤ maxLen) := hide (by simp [maxLen]; omega)
    have HB := hide hB
    have HRX := hide (hx.rd (by simp [maxLen]))
    obtain ⟨A, c, rfl, hc, hm, hA, _⟩ := ho.rd
    have hm' : c ≤ 9223372036854775807 := by unfold maxLen at hm; omega
    clear ho hx hB hne hm
    cases A with
    | none =>
      have hc0 : c = 0 := hA rfl
      have hl0 : l = [] := List.eq_nil_of_length_eq_zero (by omega)
      subst hl0
      subst hc0
      clear hA
      simp only [List.length_nil] at HO ⊢
      go_enter Try.func69, Try.ntmps69
      go_wp2_with (at_builtin; (with_reducible refine list_app (B := B) (l := ([] : List IP)) (m := [x]) row_pair (.slice none 0 0) ?_ (.tmp 23) (.tmp 24) ?_ ?_ ?_ ?_ HM1.out HM2.out ?_ ?_); (with_reducible rfl); (with_reducible rfl); rfl; (exact HO.out); (show RD _ _ (.slice (some ⟨h, 0, none⟩) 1 1) _; exact HRX.out); (exact HB.out); intro v3 w3 ho3 hg3 hat3)
      go_ret
      exact ⟨_, rfl, ho3, hg3, hat3.imp id (fun h => ⟨_, h, Nat.le_refl _⟩)⟩
    | some a =>
      obtain ⟨ab, ao, asp⟩ := a
      obtain ⟨A2, hif⟩ : ∃ A2, (if c = l.length then some (⟨ab, ao, asp⟩ : Addr) else some ((⟨ab, ao, asp⟩ : Addr).add (l.length * 2))) = A2 := ⟨_, rfl⟩
      clear hA
      go_enter Try.func69, Try.ntmps69
      go_wp2_with (at_builtin; (with_reducible refine list_app (B := B) (l := l) (m := [x]) row_pair (.slice (some ⟨ab, ao, asp⟩) l.length c) ?_ (.tmp 23) (.tmp 24) ?_ ?_ ?_ ?_ HM1.out HM2.out ?_ ?_); (with_reducible rfl); (with_reducible rfl); rfl; (exact HO.out); (show RD _ _ (.slice (some ⟨h, 0, none⟩) 1 1) _; exact HRX.out); (exact HB.out); intro v3 w3 ho3 hg3 hat3)
      all_goals
        go_ret
        exact ⟨_, rfl, by rw [hl'.out]; exact ho3, hg3, hat3.imp id (fun h => ⟨_, h, Nat.le_refl _⟩)⟩
  · have hlt : i < l.length := by omega
    obtain ⟨g, c, rfl, hBg, hgw, hc, hc63⟩ := ho.shape (by omega)
    obtain ⟨cur, hbk, _, _, hcm, hcl, htk, _⟩ := BK.of_ow ho
    have hes : ePair.size = 2 := rfl
    rw [hes] at hcl htk
    have hgh : h ≠ g := fun e => hne (by rw [e]; rfl)
    obtain ⟨i0, z0, hu, hinfo, hzero, hsize, hbytes, hzs, _⟩ := row_pair
    rw [hes] at hsize hzs
    have hxs : ∀ j v, (ePair.cells x)[j]? = some v → w.cell? ((⟨h, 0, none⟩ : Addr).add j) = some v := fun j v hj => by
      rw [add_lit, Nat.zero_add]
      have h1 : j < 2 := (List.getElem?_eq_some_iff.1 hj).1
      have := hx.cell 0 (by simp) j h1
      rw [Nat.zero_mul, Nat.zero_add] at this
      rw [this, ← hj]
      rfl
    have h1x : ∀ v ∈ ePair.cells x, v.oneCell' = true := ePair.one x
    have h1d : ∀ v ∈ (l.drop i).flatMap ePair.cells, v.oneCell' = true := flat_one ePair _
    have hdl : ((l.drop i).flatMap ePair.cells).length = (l.length - i) * 2 := by rw [flat_len, List.length_drop]; rfl
    have hwn : IntKind.i64.wrap ((l.length : Int) + 1) = (l.length : Int) + 1 := IntWalk.i64_in _ (by omega)
    have hwi : IntKind.i64.wrap ((i : Int) + 1) = (i : Int) + 1 := IntWalk.i64_in _ (by omega)
    have tni : ((i : Int) + 1).toNat = i + 1 := by omega
    have tnn : ((l.length : Int) + 1).toNat = l.length + 1 := by omega
    have hnei : ¬ ((i : Int) = (l.length : Int)) := by omega
    have hnei' : ((i : Int) == (l.length : Int)) = false := by simp; omega
    have hci : ¬ (c = i) := by omega
    have bi1 : (i : Int) < (l.length : Int) := by omega
    have bi0 : (0 : Int) ≤ (i : Int) + 1 := by omega
    have bn0 : (0 : Int) ≤ (l.length : Int) + 1 := by omega
    have bi2 : (i : Int) ≤ (l.length : Int) + 1 := by omega
    have bi3 : (i : Int) + 1 ≤ (l.length : Int) + 1 := by omega
    by_cases hroom : l.length + 1 ≤ c
    · -- there is room
      have hov : ∀ lb cb, (callFunc 71 #[.slice (some ⟨h, 0, none⟩) 1 1, .slice (some ⟨g, (i + 1) * 2, none⟩) lb cb]).run Try.prog w = .ok (.value (.bool false)) w := fun lb cb => by
        rw [run_callFunc_extern Try.func71 (by kernel_rfl) (by kernel_rfl) (by kernel_rfl) (e := Extern.SlicesOverlaps.overlaps #[48, 48] #[4]) (by kernel_rfl),
          Lib.run_overlaps_apart w 48 4 58 hu 2 (fun w => by simp [sizeOf, typeInfo, hinfo, hsize]) ⟨h, 0, none⟩ ⟨g, (i + 1) * 2, none⟩ 1 1 lb cb hgh 58 58 2 (c * 2)
            (by have h3 := hx; unfold AR at h3; simp [World.shape?, h3, ePair]) (by have h3 := hbk; unfold BK at h3; simp [World.shape?, h3, hcl]) (by omega) (hx.frozen _) (hx.frozen _)]
        rfl
      have hcp1 : ∀ ty dc sc, (Builtin.copy_ #[48, 48] ty #[.slice (some ⟨g, (i + 1) * 2, none⟩) (l.length - i) dc, .slice (some ⟨g, i * 2, none⟩) (l.length + 1 - i) sc]).run Try.prog w.drew =
          .ok (goInt (Nat.min (l.length + 1 - i) (l.length - i))) (w.drew.setRow g (splice cur ((i + 1) * 2) ((l.drop i).flatMap ePair.cells)).toArray) := fun ty dc sc =>
        run_copyK hinfo hu ((i + 1) * 2) _ dc ⟨g, i * 2, none⟩ _ sc (w := w.drew) (t := 58) hbk (by rw [hdl, hsize]; simp only [Nat.min_def]; split <;> omega)
          (fun j v hj => by rw [add_lit]; exact cells_drop (E := ePair) hbk htk i (by omega) j v hj) (by omega) h1d
      obtain ⟨cur1, hcur1⟩ : ∃ cur1, cur1 = splice cur ((i + 1) * 2) ((l.drop i).flatMap ePair.cells) := ⟨_, rfl⟩
      have hcl1 : cur1.length = c * 2 := by rw [hcur1, splice_len _ _ _ (by omega)]; exact hcl
      rw [← hcur1] at hcp1
      have hcp2 : ∀ W, BK W g 58 cur1 → (∀ j v, (ePair.cells x)[j]? = some v → W.cell? ((⟨h, 0, none⟩ : Addr).add j) = some v) → ∀ ty dc, (Builtin.copy_ #[48, 48] ty #[.slice (some ⟨g, i * 2, none⟩) (l.length + 1 - i) dc, .slice (some ⟨h, 0, none⟩) 1 1]).run Try.prog W =
          .ok (goInt (Nat.min 1 (l.length + 1 - i))) (W.setRow g (splice cur1 (i * 2) (ePair.cells x)).toArray) := fun W hb hxs ty dc =>
        run_copyK hinfo hu (i * 2) _ dc ⟨h, 0, none⟩ 1 1 hb (by rw [hsize, show Nat.min 1 (l.length + 1 - i) = 1 from by simp only [Nat.min_def]; split <;> omega]; rfl) hxs (by rw [hcl1]; show i * 2 + 2 ≤ _; omega) h1x
      have HBK := hide hbk
      have HFIN := hide (insert_take cur l x i c hlt hroom hcl htk)
      rw [← hcur1] at HFIN
      have HCL1 := hide hcl1
      have HXS := hide hxs
      have HCP1 := hide hcp1
      have HCP2 := hide hcp2
      have HBg := hide hBg
      have HCM := hide hcm
      have HX2 := hide hgh
      have bnr : (l.length : Int) + 1 ≤ (c : Int) := by omega
      have bci : ¬ (c = i + 1) := by omega
      clear hcp1 hcp2 hcur1 hcl1 hbk htk hcl hxs hx hinfo hzero hsize hbytes hzs h1x h1d hdl hB ho hne
      go_enter Try.func69, Try.ntmps69
      go_wp2_with (simp only [hov])
      go_region_law (refine step_copy rfl (.tmp 73) (.tmp 76) rfl (.slice (some ⟨g, (i + 1) * 2, none⟩) (l.length - i) (c - (i + 1))) (.slice (some ⟨g, i * 2, none⟩) (l.length + 1 - i) (c - i)) (by simp [Act.eval, Act.put]) (by simp [Act.eval, Act.put]) (w := w.drew) HBK.out (fun ty => HCP1.out ty _ _) ?_; intro w2 hb2 hk2)
      have hk2' : Kg g w w2 := (Kg.of (Kp.refl w).drew).trans hk2
      have HXS2 : Hid (∀ j v, (ePair.cells x)[j]? = some v → w2.cell? ((⟨h, 0, none⟩ : Addr).add j) = some v) := hide (fun j v hj => by
        rw [← HXS.out j v hj, add_lit]
        exact World.cell?_of_block (hk2'.block HX.out.lt HX2.out))
      go_wp2_with ((with_reducible refine list_copy ?_ (.tmp 80) (.tmp 81) ?_ (.slice (some ⟨g, i * 2, none⟩) (l.length + 1 - i) (c - i)) (.slice (some ⟨h, 0, none⟩) 1 1) ?_ ?_ hb2.out (fun ty => HCP2.out _ hb2.out HXS2.out ty (c - i)) ?_); (with_reducible rfl); (with_reducible rfl); rfl; rfl; intro w3 hb3 hk3)
      go_ret
      have hll : (l.take i ++ [x] ++ l.drop i).length = l.length + 1 := by simp; omega
      refine ⟨_, rfl, ?_, (show w.grownBy w3 (some g) from hk2'.trans hk3), .inl rfl⟩
      rw [← hll]
      exact BK.ow (E := ePair) hb3.out HBg.out (by omega) HCM.out (by
        have h9 := HCL1.out
        rw [splice_len _ _ _ (by rw [h9]; show i * 2 + 2 ≤ _; omega), h9]; rfl) HFIN.out
    · -- no room: a new block
      obtain ⟨G, C, Z, hG1, hG2, hZ, hC, hrz⟩ := grow_zeros l i g c w hbk htk hlt hc (by omega) hn
      have hG3 : G ≤ 9223372036854775807 := by unfold maxLen at hG2; omega
      have hCl : C.length = G * 2 := by rw [hC, List.length_append, flat_len, List.length_take, Nat.min_eq_left (by omega), hes]; exact hZ
      have HFIN := hide (insert_new cur Z l x i c G hlt hG1 hZ)
      rw [← hC] at HFIN
      have hcpA : ∀ W, BK W w.heap.size 58 C → (∀ j v, (ePair.cells x)[j]? = some v → W.cell? ((⟨h, 0, none⟩ : Addr).add j) = some v) → ∀ ty dc, (Builtin.copy_ #[48, 48] ty #[.slice (some ⟨w.heap.size, i * 2, none⟩) (l.length + 1 - i) dc, .slice (some ⟨h, 0, none⟩) 1 1]).run Try.prog W =
          .ok (goInt (Nat.min 1 (l.length + 1 - i))) (W.setRow w.heap.size (splice C (i * 2) (ePair.cells x)).toArray) := fun W hb hxs ty dc =>
        run_copyK hinfo hu (i * 2) _ dc ⟨h, 0, none⟩ 1 1 hb (by rw [hsize, show Nat.min 1 (l.length + 1 - i) = 1 from by simp only [Nat.min_def]; split <;> omega]; rfl) hxs (by rw [hCl]; show i * 2 + 2 ≤ _; omega) h1x
      obtain ⟨C1, hC1⟩ : ∃ C1, C1 = splice C (i * 2) (ePair.cells x) := ⟨_, rfl⟩
      have hC1l : C1.length = G * 2 := by rw [hC1, splice_len _ _ _ (by rw [hCl]; show i * 2 + 2 ≤ _; omega)]; exact hCl
      rw [← hC1] at hcpA HFIN
      have hcpB : ∀ W, BK W w.heap.size 58 C1 → BK W g 58 cur → ∀ ty dc sc, (Builtin.copy_ #[48, 48] ty #[.slice (some ⟨w.heap.size, (i + 1) * 2, none⟩) (l.length - i) dc, .slice (some ⟨g, i * 2, none⟩) (l.length - i) sc]).run Try.prog W =
          .ok (goInt (Nat.min (l.length - i) (l.length - i))) (W.setRow w.heap.size (splice C1 ((i + 1) * 2) ((l.drop i).flatMap ePair.cells)).toArray) := fun W hb hbg ty dc sc =>
        run_copyK hinfo hu ((i + 1) * 2) _ dc ⟨g, i * 2, none⟩ _ sc hb (by rw [hdl, hsize]; simp only [Nat.min_def]; split <;> omega)
          (fun j v hj => by rw [add_lit]; exact cells_drop (E := ePair) hbg htk i (by omega) j v hj) (by omega) h1d
      have HBK := hide hbk
      have HXS := hide hxs
      have HCA := hide hcpA
      have HCB := hide hcpB
      have HBg := hide hBg
      have HX2 := hide hgh
      have HG2 := hide hG2
      have HC1L := hide hC1l
      have HB := hide hB
      have HN : Hid (g ≠ w.heap.size) := hide (by omega)
      have HNEW : Hid (BK (w.drew.alloc (.cells C.toArray 58)) w.heap.size 58 C) := hide (heap_alloc_new w.drew _)
      have bnr : (c : Int) < (l.length : Int) + 1 := by omega
      have bG1 : ¬ (G = i) := by omega
      have bG2 : ¬ (G = i + 1) := by omega
      have bG3 : (l.length : Int) + 1 ≤ (G : Int) := by omega
      have bw1 : IntKind.i64.wrap ((l.length : Int) + 1 - (i : Int)) = (l.length : Int) + 1 - (i : Int) := IntWalk.i64_in _ (by omega)
      have K1 : Hid (Kp w (w.drew.alloc (.cells C.toArray 58))) := hide (Kp.refl w).drew.alloc
      obtain ⟨W1, hW1⟩ : ∃ W1, W1 = w.drew.alloc (.cells C.toArray 58) := ⟨_, rfl⟩
      rw [← hW1] at hrz K1 HNEW
      have HXS1 : Hid (∀ j v, (ePair.cells x)[j]? = some v → W1.cell? ((⟨h, 0, none⟩ : Addr).add j) = some v) := hide (fun j v hj => by
        rw [← HXS.out j v hj, add_lit]
        exact World.cell?_of_block (K1.out.bel.block _ HX.out.lt))
      have HBK1 := hide (HBK.out.kp K1.out)
      clear hcpA hcpB hC hC1 hC1l hCl hbk htk hcl hxs hx hinfo hzero hsize hbytes hzs h1x h1d hdl hB ho hne hW1 hroom hgw
      go_enter Try.func69, Try.ntmps69
      go_wp2_with (first
        | (at_builtin; (with_reducible refine Lib.wpList_append_run _ ?_ (.tmp 34) (.tmp 39) _ _ ?_ (.slice (some ⟨g, 0, none⟩) i c) (.int .i64 ((l.length : Int) + 1 - (i : Int))) ?_ ?_ _ _ (hrz _) ?_); (with_reducible rfl); (with_reducible rfl); rfl; rfl)
        | ((with_reducible refine list_copy ?_ (.tmp 43) (.tmp 44) ?_ (.slice (some ⟨w.heap.size, i * 2, none⟩) (l.length + 1 - i) (G - i)) (.slice (some ⟨h, 0, none⟩) 1 1) ?_ ?_ HNEW.out (fun ty => HCA.out _ HNEW.out HXS1.out ty (G - i)) ?_); (with_reducible rfl); (with_reducible rfl); rfl; rfl; intro w2 hb2 hk2))
      have hbk2 := hide (HBK1.out.kg HN.out hk2)
      go_region_law (refine step_copy rfl (.tmp 50) (.tmp 53) rfl (.slice (some ⟨w.heap.size, (i + 1) * 2, none⟩) (l.length - i) (G - (i + 1))) (.slice (some ⟨g, i * 2, none⟩) (l.length - i) (c - i)) (by simp [Act.eval, Act.put]) (by simp [Act.eval, Act.put]) (w := w2.drew) hb2.out (fun ty => HCB.out w2.drew hb2.out hbk2.out ty _ _) ?_; intro w3 hb3 hk3)
      go_wp2
      go_ret
      have hll : (l.take i ++ [x] ++ l.drop i).length = l.length + 1 := by simp; omega
      have hk23 : Kg w.heap.size W1 w3 := (hk2.trans (Kg.of (Kp.refl w2).drew)).trans hk3
      have hkw : Kp w w3 := hk23.kp K1.out (Nat.le_refl _)
      refine ⟨_, rfl, ?_, (show w.grownBy w3 (some g) from Kg.of hkw), .inr ⟨w.heap.size, rfl, Nat.le_refl _⟩⟩
      rw [← hll]
      exact BK.ow (E := ePair) hb3.out HB.out (by omega) HG2.out (by
        have h9 := HC1L.out
        rw [splice_len _ _ _ (by rw [h9, flat_len, List.length_drop]; show (i + 1) * 2 + (l.length - i) * 2 ≤ _; omega), h9]; rfl) HFIN.out
end Go.Proofs.Ytnallpdmdhbidaa
