/-
  slices.Insert at pairs, one value: what it answers
  slices.Delete at pairs, one element: what it answers
  plain.told, plain.put: what they answer
-/
import Derived.Test.YtcljlnagpjilaaaGreatDoorG6
import Derived.Laws.NewBlocks
import Derived.Test.YtcljlnagpjilaaaGreatDoorG1

set_option linter.unusedVariables false
set_option linter.unusedSimpArgs false
set_option maxRecDepth 100000
set_option maxHeartbeats 8000000
namespace Go.Proofs.YtcljlnagpjilaaaGreatDoor
open Go.ChangeShapes Go.WideShapes Go.ChangeAt Go.RowKit
def OPost (B : Nat) (t : TypeId) (l : List IP) (v : Value) (w : World) (e : Ending) (w' : World) : Prop :=
 ∃ v', e = .returned v' /\ OW w' B t ePair v' l /\ w.grownBy w' v.ownBlock /\ (v'.ownBlock = v.ownBlock ∨ ∃ k, v'.ownBlock = some k /\ w.heap.size <= k)
theorem flat_take {α : Type} (E : Enc α) (l : List α) (k : Nat) (h : k <= l.length) : (l.flatMap E.cells).take (k * E.size) = (l.take k).flatMap E.cells := by
 have e : l.flatMap E.cells = (l.take k).flatMap E.cells ++ (l.drop k).flatMap E.cells := by rw [<- List.flatMap_append, List.take_append_drop]
 rw [e, List.take_left']
 rw [flat_len]; simp [h]
theorem flat_drop {α : Type} (E : Enc α) (l : List α) (k : Nat) (h : k <= l.length) : (l.flatMap E.cells).drop (k * E.size) = (l.drop k).flatMap E.cells := by
 have e : l.flatMap E.cells = (l.take k).flatMap E.cells ++ (l.drop k).flatMap E.cells := by rw [<- List.flatMap_append, List.take_append_drop]
 rw [e, List.drop_left']
 rw [flat_len]; simp [h]
theorem cells_drop {w : World} {g : Nat} {t : TypeId} {cur : List Value} {α : Type} {E : Enc α} {l : List α} (hg : BK w g t cur) (ht : cur.take (l.length * E.size) = l.flatMap E.cells) (k : Nat) (hk : k <= l.length) :
  ∀ j v, ((l.drop k).flatMap E.cells)[j]? = some v -> w.cell? ⟨g, k * E.size + j, none⟩ = some v := fun j v hj => by
 rw [hg.cell, <- hj, <- flat_drop E l k hk, <- ht, List.getElem?_drop, List.getElem?_take, if_pos]
 have h1 := (List.getElem?_eq_some_iff.1 hj).1
 rw [flat_len, List.length_drop] at h1
 have h2 : (l.length - k) * E.size = l.length * E.size - k * E.size := Nat.sub_mul _ _ _
 have h3 : k * E.size <= l.length * E.size := Nat.mul_le_mul_right _ hk
 omega
theorem insert_take (cur : List Value) (l : List IP) (x : IP) (i c : Nat) (hi : i < l.length) (hc : l.length + 1 <= c) (hl : cur.length = c * 2) (ht : cur.take (l.length * 2) = l.flatMap ePair.cells) :
  (splice (splice cur ((i + 1) * 2) ((l.drop i).flatMap ePair.cells)) (i * 2) (ePair.cells x)).take ((l.take i ++ [x] ++ l.drop i).length * 2) = (l.take i ++ [x] ++ l.drop i).flatMap ePair.cells := by
 have hdl : ((l.drop i).flatMap ePair.cells).length = (l.length - i) * 2 := by rw [flat_len, List.length_drop]; rfl
 have hxl : (ePair.cells x).length = 2 := rfl
 have hll : (l.take i ++ [x] ++ l.drop i).length = l.length + 1 := by simp; omega
 have hs1 := splice_len cur ((i + 1) * 2) ((l.drop i).flatMap ePair.cells) (by omega)
 have hft : (l.take i).flatMap ePair.cells = cur.take (i * 2) := by
  have h1 := flat_take ePair l i (by omega)
  have h2 : ePair.size = 2 := rfl
  rw [h2] at h1
  rw [<- h1, <- ht, List.take_take, Nat.min_eq_left (by omega)]
 rw [hll]
 apply List.ext_getElem?
 intro j
 rw [List.getElem?_take]
 by_cases hj : j < (l.length + 1) * 2
 ·rw [if_pos hj, splice_at _ _ _ (by omega)]
  simp only [List.flatMap_append, List.flatMap_cons, List.flatMap_nil, List.append_nil, List.append_assoc]
  rw [hft]
  have htl : (cur.take (i * 2)).length = i * 2 := by simp; omega
  by_cases h1 : j < i * 2
  ·rw [if_pos h1, splice_at _ _ _ (by omega), if_pos (by omega), List.getElem?_append_left (by omega), List.getElem?_take, if_pos h1]
  ·rw [if_neg h1, List.getElem?_append_right (by omega), htl]
   by_cases h2 : j < i * 2 + (ePair.cells x).length
   ·rw [if_pos h2, List.getElem?_append_left (by omega)]
   ·rw [if_neg h2, splice_at _ _ _ (by omega), if_neg (by omega), if_pos (by omega), List.getElem?_append_right (by omega), hxl]
    congr 1; omega
 ·rw [if_neg hj, List.getElem?_eq_none]
  rw [flat_len, hll]
  exact Nat.le_of_not_lt hj
theorem insert_new (cur Z : List Value) (l : List IP) (x : IP) (i c G : Nat) (hi : i < l.length) (hG : l.length + 1 <= G) (hZ : i * 2 + Z.length = G * 2) :
  (splice (splice ((l.take i).flatMap ePair.cells ++ Z) (i * 2) (ePair.cells x)) ((i + 1) * 2) ((l.drop i).flatMap ePair.cells)).take ((l.take i ++ [x] ++ l.drop i).length * 2) = (l.take i ++ [x] ++ l.drop i).flatMap ePair.cells := by
 have hdl : ((l.drop i).flatMap ePair.cells).length = (l.length - i) * 2 := by rw [flat_len, List.length_drop]; rfl
 have hxl : (ePair.cells x).length = 2 := rfl
 have hll : (l.take i ++ [x] ++ l.drop i).length = l.length + 1 := by simp; omega
 have htl : ((l.take i).flatMap ePair.cells).length = i * 2 := by rw [flat_len, List.length_take, Nat.min_eq_left (by omega)]; rfl
 have hcl : ((l.take i).flatMap ePair.cells ++ Z).length = G * 2 := by rw [List.length_append]; omega
 have hs1 := splice_len ((l.take i).flatMap ePair.cells ++ Z) (i * 2) (ePair.cells x) (by omega)
 rw [hll]
 apply List.ext_getElem?
 intro j
 rw [List.getElem?_take]
 by_cases hj : j < (l.length + 1) * 2
 ·rw [if_pos hj, splice_at _ _ _ (by omega)]
  simp only [List.flatMap_append, List.flatMap_cons, List.flatMap_nil, List.append_nil, List.append_assoc]
  by_cases h1 : j < (i + 1) * 2
  ·rw [if_pos h1, splice_at _ _ _ (by omega)]
   by_cases h2 : j < i * 2
   ·rw [if_pos h2, List.getElem?_append_left (by omega), List.getElem?_append_left (by omega)]
   ·rw [if_neg h2, if_pos (by omega), List.getElem?_append_right (by omega), List.getElem?_append_left (by omega), htl]
  ·rw [if_neg h1, if_pos (by omega), List.getElem?_append_right (by omega), List.getElem?_append_right (by omega)]
   congr 1; omega
 ·rw [if_neg hj, List.getElem?_eq_none]
  rw [flat_len, hll]
  exact Nat.le_of_not_lt hj
theorem grow_zeros (l : List IP) (i g c : Nat) (w : World) {cur : List Value} (hbk : BK w g 141 cur) (htk : cur.take (l.length * 2) = l.flatMap ePair.cells) (hi : i < l.length) (hc : l.length <= c) (hroom : c < l.length + 1) (hn : l.length <= 1000) :
  ∃ (G : Nat) (C Z : List Value), l.length + 1 <= G /\ G <= maxLen /\ i * 2 + Z.length = G * 2 /\ C = (l.take i).flatMap ePair.cells ++ Z /\ ∀ ty, (Builtin.append_ #[37, 3] ty #[.slice (some ⟨g, 0, none⟩) i c, .int .i64 ((l.length : Int) + 1 - (i : Int))]).run Tryz.prog w =
   .ok (.slice (some ⟨w.heap.size, 0, none⟩) (l.length + 1) G) (w.drew.alloc (.cells C.toArray 141)) := by
 obtain ⟨i0, z0, hu, hinfo, hzero, hsize, hbytes, hzs, _⟩ := row_pair
 have hes : ePair.size = 2 := rfl
 rw [hes] at hsize hzs
 have hft := flat_take ePair l i (by omega)
 rw [hes] at hft
 have hold : (Builtin.firstCells i0.size i (.slice (some ⟨g, 0, none⟩) i c)).run Tryz.prog w.drew = .ok ((l.take i).flatMap ePair.cells).toArray w.drew := by
  rw [hsize]
  refine run_firstCells_some w.drew 2 i ⟨g, 0, none⟩ i c _ (by rw [flat_len, List.length_take, Nat.min_eq_left (by omega)]; rfl) fun j v hj => ?_
  rw [add_lit, Nat.zero_add]
  show w.cell? _ = _
  have h1 := (List.getElem?_eq_some_iff.1 hj).1
  rw [flat_len, List.length_take, Nat.min_eq_left (by omega), hes] at h1
  rw [hbk.cell, <- hj, <- hft, <- htk, List.getElem?_take, if_pos h1, List.getElem?_take, if_pos (by omega)]
 have hkk : (l.length : Int) + 1 - (i : Int) = ((l.length + 1 - i : Nat) : Int) := by omega
 have hik : i + (l.length + 1 - i) = l.length + 1 := by omega
 have hG := grownCap_ge w (l.length + 1) c 141
 have hG2 := grownCap_le_maxLen w (l.length + 1) c 141 (by unfold maxLen; omega)
 refine ⟨grownCap w (l.length + 1) c 141, _, (Builtin.zeroCells z0.cells (l.length + 1 - i)).toList ++ (Builtin.zeroCells z0.cells (grownCap w (l.length + 1) c 141 - (l.length + 1))).toList, hG, hG2, ?_, rfl, fun ty => ?_⟩
 ·simp only [List.length_append, Array.length_toList, size_zeroCells, hzs]; omega
 ·have h := Lib.run_append_grow_zeros w 37 3 ty 141 i0 z0 .i64 .i64 hu Tryz.underlying3 hinfo hzero (some ⟨g, 0, none⟩) i c _ hold (l.length + 1 - i) (by omega) (by omega) (by omega) (by omega) (by rw [hbytes]; omega) (by rw [hbytes, hik]; exact growslice_fits hroom (by omega))
  rw [hik] at h
  rw [hkk, h]
  congr 3
  simp
theorem insertPair_any (l : List IP) (x : IP) (i : Nat) (v : Value) (h B : Nat) (w : World) (ho : OW w B 141 ePair v l) (hx : AR w h 141 ePair [x]) (hne : v.ownBlock ≠ some h) (hi : i <= l.length) (hn : l.length <= 1000) (hB : B <= w.heap.size) :
  Calls Tryz.prog 156 #[v, .int .i64 (i : Int), .slice (some ⟨h, 0, none⟩) 1 1] w (OPost B 141 (l.take i ++ [x] ++ l.drop i) v w) := by
 have HX := hide hx
 have hz1 : ¬ ((1 : Int) = 0) := by omega
 by_cases hin : i = l.length
 ·-- at the end
  subst hin
  have hl' : Hid (l.take l.length ++ [x] ++ l.drop l.length = l ++ [x]) := hide (by simp)
  have HO := hide ho
  have HM1 : Hid ((l.length + [x].length) * 16 <= 140737488355328) := hide (by simp; omega)
  have HM2 : Hid (l.length + [x].length <= maxLen) := hide (by simp [maxLen]; omega)
  have HB := hide hB
  have HRX := hide (hx.rd (by simp [maxLen]))
  obtain ⟨A, c, rfl, hc, hm, hA, _⟩ := ho.rd
  have hm' : c <= 9223372036854775807 := by unfold maxLen at hm; omega
  clear ho hx hB hne hm
  cases A with
  | none =>
   have hc0 : c = 0 := hA rfl
   have hl0 : l = [] := List.eq_nil_of_length_eq_zero (by omega)
   subst hl0
   subst hc0
   clear hA
   simp only [List.length_nil] at HO ⊢
   go_enter Tryz.func156, Tryz.ntmps156
   go_wp2_with (at_builtin; (with_reducible refine list_app (B := B) (l := ([] : List IP)) (m := [x]) row_pair (.slice none 0 0) ?_ (.tmp 23) (.tmp 24) ?_ ?_ ?_ ?_ HM1.out HM2.out ?_ ?_); (with_reducible rfl); (with_reducible rfl); rfl; (exact HO.out); (show RD _ _ (.slice (some ⟨h, 0, none⟩) 1 1) _; exact HRX.out); (exact HB.out); intro v3 w3 ho3 hg3 hat3)
   go_ret
   exact ⟨_, rfl, ho3, hg3, hat3.imp id (fun h => ⟨_, h, Nat.le_refl _⟩)⟩
  | some a =>
   obtain ⟨ab, ao, asp⟩ := a
   obtain ⟨A2, hif⟩ : ∃ A2, (if c = l.length then some (⟨ab, ao, asp⟩ : Addr) else some ((⟨ab, ao, asp⟩ : Addr).add (l.length * 2))) = A2 := ⟨_, rfl⟩
   clear hA
   go_enter Tryz.func156, Tryz.ntmps156
   go_wp2_with (at_builtin; (with_reducible refine list_app (B := B) (l := l) (m := [x]) row_pair (.slice (some ⟨ab, ao, asp⟩) l.length c) ?_ (.tmp 23) (.tmp 24) ?_ ?_ ?_ ?_ HM1.out HM2.out ?_ ?_); (with_reducible rfl); (with_reducible rfl); rfl; (exact HO.out); (show RD _ _ (.slice (some ⟨h, 0, none⟩) 1 1) _; exact HRX.out); (exact HB.out); intro v3 w3 ho3 hg3 hat3)
   all_goals
    go_ret
    exact ⟨_, rfl, by rw [hl'.out]; exact ho3, hg3, hat3.imp id (fun h => ⟨_, h, Nat.le_refl _⟩)⟩
 ·have hlt : i < l.length := by omega
  obtain ⟨g, c, rfl, hBg, hgw, hc, hc63⟩ := ho.shape (by omega)
  obtain ⟨cur, hbk, _, _, hcm, hcl, htk, _⟩ := BK.of_ow ho
  have hes : ePair.size = 2 := rfl
  rw [hes] at hcl htk
  have hgh : h ≠ g := fun e => hne (by rw [e]; rfl)
  obtain ⟨i0, z0, hu, hinfo, hzero, hsize, hbytes, hzs, _⟩ := row_pair
  rw [hes] at hsize hzs
  have hxs : ∀ j v, (ePair.cells x)[j]? = some v -> w.cell? ((⟨h, 0, none⟩ : Addr).add j) = some v := fun j v hj => by
   rw [add_lit, Nat.zero_add]
   have h1 : j < 2 := (List.getElem?_eq_some_iff.1 hj).1
   have := hx.cell 0 (by simp) j h1
   rw [Nat.zero_mul, Nat.zero_add] at this
   rw [this, <- hj]
   rfl
  have h1x : ∀ v ∈ ePair.cells x, v.oneCell' = true := ePair.one x
  have h1d : ∀ v ∈ (l.drop i).flatMap ePair.cells, v.oneCell' = true := flat_one ePair _
  have hdl : ((l.drop i).flatMap ePair.cells).length = (l.length - i) * 2 := by rw [flat_len, List.length_drop]; rfl
  have hwn : IntKind.i64.wrap ((l.length : Int) + 1) = (l.length : Int) + 1 := IntWalk.i64_in _ (by omega)
  have hwi : IntKind.i64.wrap ((i : Int) + 1) = (i : Int) + 1 := IntWalk.i64_in _ (by omega)
  have tni : ((i : Int) + 1).toNat = i + 1 := by omega
  have tnn : ((l.length : Int) + 1).toNat = l.length + 1 := by omega
  have hnei : ¬ ((i : Int) = (l.length : Int)) := by omega
  have hnei' : ((i : Int) == (l.length : Int)) = false := by simp; omega
  have hci : ¬ (c = i) := by omega
  have bi1 : (i : Int) < (l.length : Int) := by omega
  have bi0 : (0 : Int) <= (i : Int) + 1 := by omega
  have bn0 : (0 : Int) <= (l.length : Int) + 1 := by omega
  have bi2 : (i : Int) <= (l.length : Int) + 1 := by omega
  have bi3 : (i : Int) + 1 <= (l.length : Int) + 1 := by omega
  by_cases hroom : l.length + 1 <= c
  ·-- there is room
   have hov : ∀ lb cb, (callFunc 186 #[.slice (some ⟨h, 0, none⟩) 1 1, .slice (some ⟨g, (i + 1) * 2, none⟩) lb cb]).run Tryz.prog w = .ok (.value (.bool false)) w := fun lb cb => by
    rw [run_callFunc_extern Tryz.func186 (by kernel_rfl) (by kernel_rfl) (by kernel_rfl) (e := Extern.SlicesOverlaps.overlaps #[37, 37] #[4]) (by kernel_rfl),
     Lib.run_overlaps_apart w 37 4 141 hu 2 (fun w => by simp [sizeOf, typeInfo, hinfo, hsize]) ⟨h, 0, none⟩ ⟨g, (i + 1) * 2, none⟩ 1 1 lb cb hgh 141 141 2 (c * 2)
      (by have h3 := hx; unfold AR at h3; simp [World.shape?, h3, ePair]) (by have h3 := hbk; unfold BK at h3; simp [World.shape?, h3, hcl]) (by omega) (hx.frozen _) (hx.frozen _)]
    rfl
   have hcp1 : ∀ ty dc sc, (Builtin.copy_ #[37, 37] ty #[.slice (some ⟨g, (i + 1) * 2, none⟩) (l.length - i) dc, .slice (some ⟨g, i * 2, none⟩) (l.length + 1 - i) sc]).run Tryz.prog w.drew =
     .ok (goInt (Nat.min (l.length + 1 - i) (l.length - i))) (w.drew.setRow g (splice cur ((i + 1) * 2) ((l.drop i).flatMap ePair.cells)).toArray) := fun ty dc sc =>
    run_copyK hinfo hu ((i + 1) * 2) _ dc ⟨g, i * 2, none⟩ _ sc (w := w.drew) (t := 141) hbk (by rw [hdl, hsize]; simp only [Nat.min_def]; split <;> omega)
     (fun j v hj => by rw [add_lit]; exact cells_drop (E := ePair) hbk htk i (by omega) j v hj) (by omega) h1d
   obtain ⟨cur1, hcur1⟩ : ∃ cur1, cur1 = splice cur ((i + 1) * 2) ((l.drop i).flatMap ePair.cells) := ⟨_, rfl⟩
   have hcl1 : cur1.length = c * 2 := by rw [hcur1, splice_len _ _ _ (by omega)]; exact hcl
   rw [<- hcur1] at hcp1
   have hcp2 : ∀ W, BK W g 141 cur1 -> (∀ j v, (ePair.cells x)[j]? = some v -> W.cell? ((⟨h, 0, none⟩ : Addr).add j) = some v) -> ∀ ty dc, (Builtin.copy_ #[37, 37] ty #[.slice (some ⟨g, i * 2, none⟩) (l.length + 1 - i) dc, .slice (some ⟨h, 0, none⟩) 1 1]).run Tryz.prog W =
     .ok (goInt (Nat.min 1 (l.length + 1 - i))) (W.setRow g (splice cur1 (i * 2) (ePair.cells x)).toArray) := fun W hb hxs ty dc =>
    run_copyK hinfo hu (i * 2) _ dc ⟨h, 0, none⟩ 1 1 hb (by rw [hsize, show Nat.min 1 (l.length + 1 - i) = 1 from by simp only [Nat.min_def]; split <;> omega]; rfl) hxs (by rw [hcl1]; show i * 2 + 2 <= _; omega) h1x
   have HBK := hide hbk
   have HFIN := hide (insert_take cur l x i c hlt hroom hcl htk)
   rw [<- hcur1] at HFIN
   have HCL1 := hide hcl1
   have HXS := hide hxs
   have HCP1 := hide hcp1
   have HCP2 := hide hcp2
   have HBg := hide hBg
   have HCM := hide hcm
   have HX2 := hide hgh
   have bnr : (l.length : Int) + 1 <= (c : Int) := by omega
   have bci : ¬ (c = i + 1) := by omega
   clear hcp1 hcp2 hcur1 hcl1 hbk htk hcl hxs hx hinfo hzero hsize hbytes hzs h1x h1d hdl hB ho hne
   go_enter Tryz.func156, Tryz.ntmps156
   go_wp2_with (simp only [hov])
   go_region_law (refine step_copy rfl (.tmp 73) (.tmp 76) rfl (.slice (some ⟨g, (i + 1) * 2, none⟩) (l.length - i) (c - (i + 1))) (.slice (some ⟨g, i * 2, none⟩) (l.length + 1 - i) (c - i)) (by simp [Act.eval, Act.put]) (by simp [Act.eval, Act.put]) (w := w.drew) HBK.out (fun ty => HCP1.out ty _ _) ?_; intro w2 hb2 hk2)
   have hk2' : Kg g w w2 := (Kg.of (Kp.refl w).drew).trans hk2
   have HXS2 : Hid (∀ j v, (ePair.cells x)[j]? = some v -> w2.cell? ((⟨h, 0, none⟩ : Addr).add j) = some v) := hide (fun j v hj => by
    rw [<- HXS.out j v hj, add_lit]
    exact World.cell?_of_block (hk2'.block HX.out.lt HX2.out))
   go_wp2_with ((with_reducible refine list_copy ?_ (.tmp 80) (.tmp 81) ?_ (.slice (some ⟨g, i * 2, none⟩) (l.length + 1 - i) (c - i)) (.slice (some ⟨h, 0, none⟩) 1 1) ?_ ?_ hb2.out (fun ty => HCP2.out _ hb2.out HXS2.out ty (c - i)) ?_); (with_reducible rfl); (with_reducible rfl); rfl; rfl; intro w3 hb3 hk3)
   go_ret
   have hll : (l.take i ++ [x] ++ l.drop i).length = l.length + 1 := by simp; omega
   refine ⟨_, rfl, ?_, (show w.grownBy w3 (some g) from hk2'.trans hk3), .inl rfl⟩
   rw [<- hll]
   exact BK.ow (E := ePair) hb3.out HBg.out (by omega) HCM.out (by
    have h9 := HCL1.out
    rw [splice_len _ _ _ (by rw [h9]; show i * 2 + 2 <= _; omega), h9]; rfl) HFIN.out
  ·-- no room: a new block
   obtain ⟨G, C, Z, hG1, hG2, hZ, hC, hrz⟩ := grow_zeros l i g c w hbk htk hlt hc (by omega) hn
   have hG3 : G <= 9223372036854775807 := by unfold maxLen at hG2; omega
   have hCl : C.length = G * 2 := by rw [hC, List.length_append, flat_len, List.length_take, Nat.min_eq_left (by omega), hes]; exact hZ
   have HFIN := hide (insert_new cur Z l x i c G hlt hG1 hZ)
   rw [<- hC] at HFIN
   have hcpA : ∀ W, BK W w.heap.size 141 C -> (∀ j v, (ePair.cells x)[j]? = some v -> W.cell? ((⟨h, 0, none⟩ : Addr).add j) = some v) -> ∀ ty dc, (Builtin.copy_ #[37, 37] ty #[.slice (some ⟨w.heap.size, i * 2, none⟩) (l.length + 1 - i) dc, .slice (some ⟨h, 0, none⟩) 1 1]).run Tryz.prog W =
     .ok (goInt (Nat.min 1 (l.length + 1 - i))) (W.setRow w.heap.size (splice C (i * 2) (ePair.cells x)).toArray) := fun W hb hxs ty dc =>
    run_copyK hinfo hu (i * 2) _ dc ⟨h, 0, none⟩ 1 1 hb (by rw [hsize, show Nat.min 1 (l.length + 1 - i) = 1 from by simp only [Nat.min_def]; split <;> omega]; rfl) hxs (by rw [hCl]; show i * 2 + 2 <= _; omega) h1x
   obtain ⟨C1, hC1⟩ : ∃ C1, C1 = splice C (i * 2) (ePair.cells x) := ⟨_, rfl⟩
   have hC1l : C1.length = G * 2 := by rw [hC1, splice_len _ _ _ (by rw [hCl]; show i * 2 + 2 <= _; omega)]; exact hCl
   rw [<- hC1] at hcpA HFIN
   have hcpB : ∀ W, BK W w.heap.size 141 C1 -> BK W g 141 cur -> ∀ ty dc sc, (Builtin.copy_ #[37, 37] ty #[.slice (some ⟨w.heap.size, (i + 1) * 2, none⟩) (l.length - i) dc, .slice (some ⟨g, i * 2, none⟩) (l.length - i) sc]).run Tryz.prog W =
     .ok (goInt (Nat.min (l.length - i) (l.length - i))) (W.setRow w.heap.size (splice C1 ((i + 1) * 2) ((l.drop i).flatMap ePair.cells)).toArray) := fun W hb hbg ty dc sc =>
    run_copyK hinfo hu ((i + 1) * 2) _ dc ⟨g, i * 2, none⟩ _ sc hb (by rw [hdl, hsize]; simp only [Nat.min_def]; split <;> omega)
     (fun j v hj => by rw [add_lit]; exact cells_drop (E := ePair) hbg htk i (by omega) j v hj) (by omega) h1d
   have HBK := hide hbk
   have HXS := hide hxs
   have HCA := hide hcpA
   have HCB := hide hcpB
   have HBg := hide hBg
   have HX2 := hide hgh
   have HG2 := hide hG2
   have HC1L := hide hC1l
   have HB := hide hB
   have HN : Hid (g ≠ w.heap.size) := hide (by omega)
   have HNEW : Hid (BK (w.drew.alloc (.cells C.toArray 141)) w.heap.size 141 C) := hide (heap_alloc_new w.drew _)
   have bnr : (c : Int) < (l.length : Int) + 1 := by omega
   have bG1 : ¬ (G = i) := by omega
   have bG2 : ¬ (G = i + 1) := by omega
   have bG3 : (l.length : Int) + 1 <= (G : Int) := by omega
   have bw1 : IntKind.i64.wrap ((l.length : Int) + 1 - (i : Int)) = (l.length : Int) + 1 - (i : Int) := IntWalk.i64_in _ (by omega)
   have K1 : Hid (Kp w (w.drew.alloc (.cells C.toArray 141))) := hide (Kp.refl w).drew.alloc
   obtain ⟨W1, hW1⟩ : ∃ W1, W1 = w.drew.alloc (.cells C.toArray 141) := ⟨_, rfl⟩
   rw [<- hW1] at hrz K1 HNEW
   have HXS1 : Hid (∀ j v, (ePair.cells x)[j]? = some v -> W1.cell? ((⟨h, 0, none⟩ : Addr).add j) = some v) := hide (fun j v hj => by
    rw [<- HXS.out j v hj, add_lit]
    exact World.cell?_of_block (K1.out.bel.block _ HX.out.lt))
   have HBK1 := hide (HBK.out.kp K1.out)
   clear hcpA hcpB hC hC1 hC1l hCl hbk htk hcl hxs hx hinfo hzero hsize hbytes hzs h1x h1d hdl hB ho hne hW1 hroom hgw
   go_enter Tryz.func156, Tryz.ntmps156
   go_wp2_with (first
    | (at_builtin; (with_reducible refine Lib.wpList_append_run _ ?_ (.tmp 34) (.tmp 39) _ _ ?_ (.slice (some ⟨g, 0, none⟩) i c) (.int .i64 ((l.length : Int) + 1 - (i : Int))) ?_ ?_ _ _ (hrz _) ?_); (with_reducible rfl); (with_reducible rfl); rfl; rfl)
    | ((with_reducible refine list_copy ?_ (.tmp 43) (.tmp 44) ?_ (.slice (some ⟨w.heap.size, i * 2, none⟩) (l.length + 1 - i) (G - i)) (.slice (some ⟨h, 0, none⟩) 1 1) ?_ ?_ HNEW.out (fun ty => HCA.out _ HNEW.out HXS1.out ty (G - i)) ?_); (with_reducible rfl); (with_reducible rfl); rfl; rfl; intro w2 hb2 hk2))
   have hbk2 := hide (HBK1.out.kg HN.out hk2)
   go_region_law (refine step_copy rfl (.tmp 50) (.tmp 53) rfl (.slice (some ⟨w.heap.size, (i + 1) * 2, none⟩) (l.length - i) (G - (i + 1))) (.slice (some ⟨g, i * 2, none⟩) (l.length - i) (c - i)) (by simp [Act.eval, Act.put]) (by simp [Act.eval, Act.put]) (w := w2.drew) hb2.out (fun ty => HCB.out w2.drew hb2.out hbk2.out ty _ _) ?_; intro w3 hb3 hk3)
   go_wp2
   go_ret
   have hll : (l.take i ++ [x] ++ l.drop i).length = l.length + 1 := by simp; omega
   have hk23 : Kg w.heap.size W1 w3 := (hk2.trans (Kg.of (Kp.refl w2).drew)).trans hk3
   have hkw : Kp w w3 := hk23.kp K1.out (Nat.le_refl _)
   refine ⟨_, rfl, ?_, (show w.grownBy w3 (some g) from Kg.of hkw), .inr ⟨w.heap.size, rfl, Nat.le_refl _⟩⟩
   rw [<- hll]
   exact BK.ow (E := ePair) hb3.out HB.out (by omega) HG2.out (by
    have h9 := HC1L.out
    rw [splice_len _ _ _ (by rw [h9, flat_len, List.length_drop]; show (i + 1) * 2 + (l.length - i) * 2 <= _; omega), h9]; rfl) HFIN.out
theorem delete_take (cur cs : List Value) (l : List IP) (i c : Nat) (hi : i < l.length) (hc : l.length <= c) (hl : cur.length = c * 2) (ht : cur.take (l.length * 2) = l.flatMap ePair.cells) (hcs : cs.length = 2) :
  (splice (splice cur (i * 2) ((l.drop (i + 1)).flatMap ePair.cells)) ((l.length - 1) * 2) cs).take ((l.take i ++ l.drop (i + 1)).length * 2) = (l.take i ++ l.drop (i + 1)).flatMap ePair.cells := by
 have hdl : ((l.drop (i + 1)).flatMap ePair.cells).length = (l.length - (i + 1)) * 2 := by rw [flat_len, List.length_drop]; rfl
 have hll : (l.take i ++ l.drop (i + 1)).length = l.length - 1 := by simp; omega
 have hs1 := splice_len cur (i * 2) ((l.drop (i + 1)).flatMap ePair.cells) (by omega)
 have hft : (l.take i).flatMap ePair.cells = cur.take (i * 2) := by
  have h1 := flat_take ePair l i (by omega)
  have h2 : ePair.size = 2 := rfl
  rw [h2] at h1
  rw [<- h1, <- ht, List.take_take, Nat.min_eq_left (by omega)]
 rw [hll]
 apply List.ext_getElem?
 intro j
 rw [List.getElem?_take]
 by_cases hj : j < (l.length - 1) * 2
 ·rw [if_pos hj, splice_at _ _ _ (by omega), if_pos hj, splice_at _ _ _ (by omega), List.flatMap_append, hft]
  have htl : (cur.take (i * 2)).length = i * 2 := by simp; omega
  by_cases h1 : j < i * 2
  ·rw [if_pos h1, List.getElem?_append_left (by omega), List.getElem?_take, if_pos h1]
  ·rw [if_neg h1, if_pos (by omega), List.getElem?_append_right (by omega), htl]
 ·rw [if_neg hj, List.getElem?_eq_none]
  rw [flat_len, hll]
  exact Nat.le_of_not_lt hj
theorem deletePair_any (l : List IP) (i : Nat) (v : Value) (B : Nat) (w : World) (ho : OW w B 141 ePair v l) (hi : i < l.length) (hn : l.length <= 1000) :
  Calls Tryz.prog 111 #[v, .int .i64 (i : Int), .int .i64 ((i : Int) + 1)] w (OPost B 141 (l.take i ++ l.drop (i + 1)) v w) := by
 obtain ⟨g, c, rfl, hBg, hgw, hc, hc63⟩ := ho.shape (by omega)
 obtain ⟨cur, hbk, _, _, hcm, hcl, htk, _⟩ := BK.of_ow ho
 have hes : ePair.size = 2 := rfl
 rw [hes] at hcl htk
 obtain ⟨i0, z0, hu, hinfo, hzero, hsize, hbytes, hzs, _⟩ := row_pair
 rw [hes] at hsize hzs
 have hz0 : z0.cells.toList = ePair.cells (0, 0) := zero_pair i0 z0 hinfo hzero
 have h1d : ∀ v ∈ (l.drop (i + 1)).flatMap ePair.cells, v.oneCell' = true := flat_one ePair _
 have hdl : ((l.drop (i + 1)).flatMap ePair.cells).length = (l.length - (i + 1)) * 2 := by rw [flat_len, List.length_drop]; rfl
 have hfit1 : i * i0.size + ((l.drop (i + 1)).flatMap ePair.cells).length <= cur.length := by rw [hsize, hdl]; omega
 obtain ⟨A2, hif⟩ : ∃ A2 : Addr, (if c = i + 1 then some (⟨g, 0, none⟩ : Addr) else some ⟨g, (i + 1) * 2, none⟩) = some A2 := by
  by_cases h : c = i + 1
  ·exact ⟨_, by rw [if_pos h]⟩
  ·exact ⟨_, by rw [if_neg h]⟩
 have hsrc : ∀ j v, ((l.drop (i + 1)).flatMap ePair.cells)[j]? = some v -> w.cell? (A2.add j) = some v := fun j v hj => by
  by_cases h : c = i + 1
  ·have : (l.drop (i + 1)) = [] := List.drop_of_length_le (by omega)
   rw [this] at hj; simp at hj
  ·rw [if_neg h] at hif
   injection hif with hif
   subst hif
   rw [add_lit]
   exact cells_drop (E := ePair) hbk htk (i + 1) (by omega) j v hj
 have hap : ∀ ty, (Builtin.append_ #[37, 37] ty #[.slice (some ⟨g, 0, none⟩) i c, .slice (some A2) (l.length - (i + 1)) (c - (i + 1))]).run Tryz.prog w.drew = .ok (.slice (some ⟨g, 0, none⟩) (l.length - 1) c) (w.drew.setRow g (splice cur (i * 2) ((l.drop (i + 1)).flatMap ePair.cells)).toArray) := fun ty => by
  have h := run_appendK (P := Tryz.prog) (w := w.drew) (ty := ty) hinfo hu hu i c A2 (l.length - (i + 1)) (c - (i + 1)) (t := 141) hbk (by rw [hdl, hsize]) (by omega) hsrc hfit1 h1d
  rw [hsize, show i + (l.length - (i + 1)) = l.length - 1 from by omega] at h
  exact h
 obtain ⟨cur1, hcur1⟩ : ∃ cur1, cur1 = splice cur (i * 2) ((l.drop (i + 1)).flatMap ePair.cells) := ⟨_, rfl⟩
 have hcl1 : cur1.length = c * 2 := by rw [hcur1, splice_len _ _ _ (by rw [hdl]; omega)]; exact hcl
 have hzl : (Builtin.zeroCells z0.cells 1).toList.length = 2 := by rw [Array.length_toList, size_zeroCells, hzs]
 have hz1c : ∀ v ∈ (Builtin.zeroCells z0.cells 1).toList, v.oneCell' = true := by
  have e : (Builtin.zeroCells z0.cells 1).toList = ePair.cells (0, 0) := by
   have h2 : z0.cells = #[.int .i64 0, .int .i64 0] := by
    have h3 : z0.cells.toList = [.int .i64 0, .int .i64 0] := hz0
    rw [<- Array.toArray_toList (xs := z0.cells), h3]
   rw [h2]; simp [Builtin.zeroCells, ePair, Array.range, Array.ofFn_succ]
  rw [e]; exact ePair.one _
 have HFIN := hide (delete_take cur (Builtin.zeroCells z0.cells 1).toList l i c hi hc hcl htk hzl)
 rw [<- hcur1] at hap HFIN
 have hcp : ∀ W, BK W g 141 cur1 -> ∀ ty cc, (Builtin.clear_ #[37] ty #[.slice (some ⟨g, (l.length - 1) * 2, none⟩) 1 cc]).run Tryz.prog W = .ok (.tuple #[]) (W.setRow g (splice cur1 ((l.length - 1) * 2) (Builtin.zeroCells z0.cells 1).toList).toArray) := fun W hb ty cc =>
  run_clearK hinfo hzero hu ((l.length - 1) * 2) 1 cc (by omega) hb (by rw [hzs, hsize]) (by rw [hcl1, hsize]; omega) hz1c
 have hll : (l.take i ++ l.drop (i + 1)).length = l.length - 1 := by simp; omega
 have HLL := hide hll
 have HAP := hide hap
 have HCP := hide hcp
 have HBK := hide hbk
 have HBg := hide hBg
 have HCM := hide hcm
 have HCL1 := hide hcl1
 have HZL := hide hzl
 have HLC : Hid (l.length <= c) := hide hc
 obtain ⟨k, hk⟩ : ∃ k, l.length = k + 1 := ⟨l.length - 1, by omega⟩
 have HK := hide hk
 rw [hk, Nat.add_sub_cancel, Nat.add_sub_add_right] at HAP
 rw [hk, Nat.add_sub_cancel] at HCP HLL
 rw [hk] at hi hc hn ⊢
 have hwi : IntKind.i64.wrap ((i : Int) + 1) = (i : Int) + 1 := IntWalk.i64_in _ (by omega)
 have tni : ((i : Int) + 1).toNat = i + 1 := by omega
 have hnei' : ((i : Int) == (i : Int) + 1) = false := by simp; omega
 have bi0 : (0 : Int) <= (i : Int) + 1 := by omega
 have bi1 : (i : Int) <= (i : Int) + 1 := by omega
 have bi2 : (i : Int) + 1 <= (k : Int) + 1 := by omega
 have bi3 : (i : Int) + 1 <= (c : Int) := by omega
 have bi4 : (i : Int) <= (c : Int) := by omega
 have bck : ¬ (c = k) := by omega
 have bkc : (k : Int) + 1 <= (c : Int) := by omega
 have bi5 : (i : Int) <= (k : Int) + 1 := by omega
 clear hap hcp hcur1 hcl1 hbk htk hcl hinfo hzero hsize hbytes hzs h1d hdl hfit1 hsrc hz0 hzl hz1c ho hgw hcm hk hll
 go_enter Tryz.func111, Tryz.ntmps111
 go_wp2_with fail
 go_region_law (refine step_appK rfl (.tmp 22) (.tmp 25) rfl (.slice (some ⟨g, 0, none⟩) i c) (.slice (some A2) (k - i) (c - (i + 1))) (.slice (some ⟨g, 0, none⟩) k c) (by simp [Act.eval, Act.put]) (by simp [Act.eval, Act.put]) (w := w.drew) HBK.out (fun ty => HAP.out ty) ?_; intro w2 hb2 hk2)
 have hk2' : Kg g w w2 := (Kg.of (Kp.refl w).drew).trans hk2
 go_wp2_with ((with_reducible refine list_clear ?_ (.tmp 31) ?_ (.slice (some ⟨g, k * 2, none⟩) 1 (c - k)) ?_ hb2.out (fun ty => HCP.out _ hb2.out ty (c - k)) ?_); (with_reducible rfl); (with_reducible rfl); rfl; intro w3 hb3 hk3)
 go_ret
 refine ⟨_, rfl, ?_, (show w.grownBy w3 (some g) from hk2'.trans hk3), .inl rfl⟩
 rw [<- HLL.out]
 have h9 := HCL1.out
 have h8 := HZL.out
 have h7 := HK.out
 exact BK.ow (E := ePair) hb3.out HBg.out (by rw [HLL.out]; omega) HCM.out (by
  rw [splice_len _ _ _ (by rw [h9, h8]; omega), h9]; rfl) (by rw [<- show l.length - 1 = k from by omega]; exact HFIN.out)
def toldL (l : List IP) (at_ : Int) : An := if h : 0 <= at_ /\ at_ < l.length then ⟨0, (l[at_.toNat]'(by omega)).1, (l[at_.toNat]'(by omega)).2, true⟩ else ⟨0, 0, 0, false⟩
theorem toldL_no (l : List IP) (at_ : Int) (h : ¬ (0 <= at_ /\ at_ < l.length)) : toldL l at_ = ⟨0, 0, 0, false⟩ := by rw [toldL, dif_neg h]
theorem toldL_at (l : List IP) (k : Nat) (h : k < l.length) : toldL l (k : Int) = ⟨0, l[k].1, l[k].2, true⟩ := by
 rw [toldL, dif_pos (by omega)]; rfl
theorem told_any (l : List IP) (v : Value) (at_ : Int) (w : World) (hr : RD w ePair v l) (hn : l.length <= 1000) : Calls Tryz.prog 112 #[v, .int .i64 at_] w (Ret (toldL l at_).v w) := by
 obtain ⟨A, c, rfl, hc, hm⟩ := hr.shape
 have HR := hide hr
 clear hr
 have hw : IntKind.i64.wrap ((l.length : Int) - 1) = (l.length : Int) - 1 := IntWalk.i64_in _ (by omega)
 by_cases hin : 0 <= at_ /\ at_ < l.length
 ·obtain ⟨k, rfl⟩ : ∃ k : Nat, at_ = k := ⟨at_.toNat, by omega⟩
  have hk : k < l.length := by omega
  have HT := hide (toldL_at l k hk)
  obtain ⟨b, o, rfl, _, c0, c1⟩ := HR.out.pair hk
  have hb : btw (k : Int) 0 ((l.length : Int) - 1) = true := (btw_iff _ _ _).2 (by omega)
  have b1 : (k : Int) < (l.length : Int) := by omega
  have b0 : (0 : Int) <= (k : Int) := by omega
  have d0 : (w.alloc (.cells #[.int .i64 0, .int .i64 0, .int .i64 0, .bool false] 84)).cell? ⟨b, o + k * 2, none⟩ = some (.int .i64 l[k].1) := (Kp.refl w).alloc.cell c0
  have HB := hide hb
  clear hin hb
  go_enter Tryz.func112, Tryz.ntmps112
  go_wp2_with (go_at_call 108; refine (within_to _ _ _ true _ HB.out).mono ?_; rintro e w' ⟨rfl, rfl⟩)
  go_region_held3 (fun w' => w'.cell? ⟨b, o + k * 2, none⟩ = some (.int .i64 l[k].1) /\ w'.cell? ⟨b, o + k * 2 + 1, none⟩ = some (.int .i64 l[k].2))
   (first | go_keep | fail)
   (fail)
  go_wp2
  refine bodyPost_ret (v := (⟨0, l[k].1, l[k].2, true⟩ : An).v) (by simp [results, Tryz.results112, go_sem, An.v]) rfl ⟨by rw [HT.out], ?_⟩
  exact Kp.bel (by (exact Kp.auto))
 ·have HT := hide (toldL_no l at_ hin)
  have hb : btw at_ 0 ((l.length : Int) - 1) = false := (btw_f_iff _ _ _).2 (by omega)
  have HB := hide hb
  clear hin hb
  go_enter Tryz.func112, Tryz.ntmps112
  go_wp2_with (go_at_call 108; refine (within_to _ _ _ false _ HB.out).mono ?_; rintro e w' ⟨rfl, rfl⟩)
  refine bodyPost_ret (v := (⟨0, 0, 0, false⟩ : An).v) (by simp [results, Tryz.results112, go_sem, An.v]) rfl ⟨by rw [HT.out], ?_⟩
  exact Kp.bel (by (exact Kp.auto))
def putL (l : List IP) (key val : Int) : List IP × An :=
 if hasKey l key then (l.set (below l key) (key, val), ⟨0, 0, 0, true⟩)
 else if l.length = 200 then (l, ⟨2, 0, 0, false⟩)
 else (l.take (below l key) ++ [(key, val)] ++ l.drop (below l key), ⟨0, 0, 0, false⟩)
def PutPost (w0 : World) (r : List IP × An) (e : Ending) (w' : World) : Prop := ∃ v', e = .returned (.tuple #[v', r.2.v]) /\ OW w' w0.heap.size 141 ePair v' r.1 /\ Kp w0 w'
theorem put_any (l : List IP) (key val : Int) (v : Value) (w0 w : World) (ho : OW w w0.heap.size 141 ePair v l) (hk0 : Kp w0 w) (hs : Rise l) (hn : l.length <= 200) :
  Calls Tryz.prog 110 #[v, .agg #[.int .i64 key, .int .i64 val]] w (PutPost w0 (putL l key val)) := by
 have hble := below_le l key
 have HSZ := hk0.size
 have HF := hide (fun W v h => find_any l v key W h (by omega) hs)
 obtain ⟨A, c, rfl, hc, hm⟩ := ho.rd.shape
 have hhi := ho.hi
 have HO := hide ho
 have HS := hide hs
 obtain ⟨W1, hW1⟩ : ∃ W1, W1 = (w.alloc (.cells #[.int .i64 key, .int .i64 val] 141)).alloc (.cells #[.int .i64 0, .int .i64 0, .int .i64 0, .bool false] 84) := ⟨_, rfl⟩
 have hk1 : Kp w W1 := by rw [hW1]; exact (Kp.refl w).alloc.alloc
 have hz1 : W1.heap.size = w.heap.size + 2 := by rw [hW1]; simp
 have q0 : W1.cell? ⟨w.heap.size, 0, none⟩ = some (.int .i64 key) := by rw [hW1]; simp [go_sem]
 have q1 : W1.cell? ⟨w.heap.size, 1, none⟩ = some (.int .i64 val) := by rw [hW1]; simp [go_sem]
 have r0 : W1.cell? ⟨w.heap.size + 1, 0, none⟩ = some (.int .i64 0) := by rw [hW1]; simp [go_sem]
 have r1 : W1.cell? ⟨w.heap.size + 1, 1, none⟩ = some (.int .i64 0) := by rw [hW1]; simp [go_sem]
 have r2 : W1.cell? ⟨w.heap.size + 1, 2, none⟩ = some (.int .i64 0) := by rw [hW1]; simp [go_sem]
 have r3 : W1.cell? ⟨w.heap.size + 1, 3, none⟩ = some (.bool false) := by rw [hW1]; simp [go_sem]
 have g0 : ∀ j, W1.frozen? ⟨w.heap.size + 1, j, none⟩ = false := fun j => by rw [hW1]; simp [go_sem]
 have HK1 := hide hk1
 have HQ0 := hide q0
 have HQ1 := hide q1
 have HR0 := hide r0
 have HR1 := hide r1
 have HR2 := hide r2
 have HR3 := hide r3
 have HG0 := hide g0
 have HZ1 := hide hz1
 have HK0 := hide hk0
 have HW1 := hide hW1
 have HHI := hide hhi
 clear ho hs hk1 q0 q1 r0 r1 r2 r3 g0 hz1 hk0 hhi hW1
 obtain ⟨b, hbe⟩ : ∃ b, b = below l key := ⟨_, rfl⟩
 cases hh : hasKey l key with
 | true =>
  obtain ⟨hbl, hbk⟩ : ∃ hb : b < l.length, l[b].1 = key := by rw [hbe]; exact (hasKey_iff l HS.out key).1 hh
  have HP : Hid (putL l key val = (l.set b (key, val), ⟨0, 0, 0, true⟩)) := hide (by rw [putL, hh, if_pos rfl, hbe])
  rw [hh, <- hbe] at HF
  obtain ⟨g, c', hv, hg0, hgw, _, _⟩ := HO.out.shape (by omega)
  injection hv with e1 e2 e3
  subst e1
  subst e3
  have HBK := hide hbk
  have bb : (b : Int) < (l.length : Int) := by omega
  have b0 : (0 : Int) <= (b : Int) := by omega
  have n1 : ¬ g = w.heap.size + 1 := by omega
  have n2 : ¬ w.heap.size + 1 = g := by omega
  clear hbe hh hbk
  go_enter Tryz.func110, Tryz.ntmps110
  go_wp2_with fail
  refine (HF.out _ _ ((HO.out.rd.alloc _).alloc _)).mono ?_
  rintro e w2 ⟨rfl, hb2⟩
  have hk2 : Kp W1 w2 := by rw [HW1.out]; exact hb2
  have hk20 := HK1.out.trans hk2
  have q0 := hk2.cell HQ0.out
  have q1 := hk2.cell HQ1.out
  have r0 := hk2.cell HR0.out
  have r1 := hk2.cell HR1.out
  have r2 := hk2.cell HR2.out
  have r3 := hk2.cell HR3.out
  have hz1 := HZ1.out
  have f0 := (hk2.frozen (p := ⟨w.heap.size + 1, 0, none⟩) (by simp; omega)).trans (HG0.out 0)
  have f1 := (hk2.frozen (p := ⟨w.heap.size + 1, 1, none⟩) (by simp; omega)).trans (HG0.out 1)
  have f2 := (hk2.frozen (p := ⟨w.heap.size + 1, 2, none⟩) (by simp; omega)).trans (HG0.out 2)
  have f3 := (hk2.frozen (p := ⟨w.heap.size + 1, 3, none⟩) (by simp; omega)).trans (HG0.out 3)
  have HO2 := hide (HO.out.kp hk20)
  obtain ⟨y1, fy⟩ : w2.cell? ⟨g, b * 2 + 1, none⟩ = some (.int .i64 l[b].2) /\ w2.frozen? ⟨g, b * 2 + 1, none⟩ = false := HO2.out.cellPair b (by omega)
  have HZ := hide hz1
  clear hb2 hz1
  go_wp2
  refine bodyPost_ret (v := .tuple #[.slice (some ⟨g, 0, none⟩) l.length c, (⟨0, 0, 0, true⟩ : An).v]) (by simp [results, Tryz.results110, go_sem, An.v, r0, r1, r2, r3, n1, n2, y1, World.cell?_setCell_far]) rfl ⟨_, by rw [HP.out], ?_, ?_⟩
  ·rw [HP.out, <- HBK.out]
   have hne : (Value.slice (some ⟨g, 0, none⟩) l.length c).ownBlock ≠ some (w.heap.size + 1) := fun h => n1 (by injection h)
   exact ((((HO2.out.setVal b hbl val).setCell hne _).setCell hne _).setCell hne _).setCell hne _
  ·exact Kp.setR (by simp; omega) (Kp.setR (by simp; omega) (Kp.setR (by simp; omega) (Kp.setR (by simp; omega) (Kp.setR (by simp; omega) (HK0.out.trans hk20)))))
 | false =>
  rw [hh, <- hbe] at HF
  rw [<- hbe] at hble
  by_cases h200 : l.length = 200
  ·have HP : Hid (putL l key val = (l, ⟨2, 0, 0, false⟩)) := hide (by rw [putL, hh, if_neg (by simp), if_pos h200])
   have H2 := hide h200
   have t200 : ((l.length : Int) == 200) = true := by simp [h200]
   clear hbe hh h200
   go_enter Tryz.func110, Tryz.ntmps110
   go_wp2_with fail
   refine (HF.out _ _ ((HO.out.rd.alloc _).alloc _)).mono ?_
   rintro e w2 ⟨rfl, hb2⟩
   have hk2 : Kp W1 w2 := by rw [HW1.out]; exact hb2
   have hk20 := HK1.out.trans hk2
   have r0 := hk2.cell HR0.out
   have r1 := hk2.cell HR1.out
   have r2 := hk2.cell HR2.out
   have r3 := hk2.cell HR3.out
   have hz1 := HZ1.out
   have f0 := (hk2.frozen (p := ⟨w.heap.size + 1, 0, none⟩) (by simp; omega)).trans (HG0.out 0)
   have f1 := (hk2.frozen (p := ⟨w.heap.size + 1, 1, none⟩) (by simp; omega)).trans (HG0.out 1)
   have f2 := (hk2.frozen (p := ⟨w.heap.size + 1, 2, none⟩) (by simp; omega)).trans (HG0.out 2)
   have f3 := (hk2.frozen (p := ⟨w.heap.size + 1, 3, none⟩) (by simp; omega)).trans (HG0.out 3)
   have HO2 := hide (HO.out.kp hk20)
   have HLO : Hid ((Value.slice A l.length c).ownBlock ≠ some (w.heap.size + 1)) := hide (fun h => by
    have := HO.out.lt _ h; omega)
   have HZ := hide hz1
   clear hb2 hz1
   go_wp2
   refine bodyPost_ret (v := .tuple #[.slice A l.length c, (⟨2, 0, 0, false⟩ : An).v]) (by simp [results, Tryz.results110, go_sem, An.v, r0, r1, r2, r3]) rfl ⟨_, by rw [HP.out], ?_, ?_⟩
   ·rw [HP.out]
    exact (((HO2.out.setCell HLO.out _).setCell HLO.out _).setCell HLO.out _).setCell HLO.out _
   ·exact Kp.setR (by simp; omega) (Kp.setR (by simp; omega) (Kp.setR (by simp; omega) (Kp.setR (by simp; omega) (HK0.out.trans hk20))))
  ·have HP : Hid (putL l key val = (l.take b ++ [(key, val)] ++ l.drop b, ⟨0, 0, 0, false⟩)) := hide (by rw [putL, hh, if_neg (by simp), if_neg h200, hbe])
   have t200 : ((l.length : Int) == 200) = false := by simp; omega
   clear hbe hh h200
   go_enter Tryz.func110, Tryz.ntmps110
   go_wp2_with fail
   refine (HF.out _ _ ((HO.out.rd.alloc _).alloc _)).mono ?_
   rintro e w2 ⟨rfl, hb2⟩
   have hk2 : Kp W1 w2 := by rw [HW1.out]; exact hb2
   have hk20 := HK1.out.trans hk2
   have q0 := hk2.cell HQ0.out
   have q1 := hk2.cell HQ1.out
   have hz1 := HZ1.out
   have hz2 := hk2.size
   have HO2 := hide (HO.out.kp hk20)
   have HLO : Hid ((Value.slice A l.length c).ownBlock ≠ some (w.heap.size + 1)) := hide (fun h => by
    have := HO.out.lt _ h; omega)
   have HLO2 : Hid ((Value.slice A l.length c).ownBlock ≠ some w2.heap.size) := hide (fun h => by
    have := HO.out.lt _ h; omega)
   have hsz : w.heap.size + 2 <= w2.heap.size := by omega
   have HZ := hide hz1
   clear hb2 hz1 hz2
   go_wp2_with fail
   refine (insertPair_any l (key, val) b (.slice A l.length c) w2.heap.size w0.heap.size _ (HO2.out.alloc _) (heap_alloc_new w2 _) HLO2.out hble (by omega) (by simp; omega)).mono ?_
   rintro e w3 ⟨v3, rfl, ho3, hg3, hat3⟩
   have hw3 : w2.heap.size + 1 <= w3.heap.size := by have := hg3.size; simpa using this
   have ka : Kp W1 (w2.alloc (.cells #[.int .i64 key, .int .i64 val] 141)) := hk2.alloc
   have hne1 : ∀ j, some (⟨w.heap.size + 1, j, none⟩ : Addr).block ≠ (Value.slice A l.length c).ownBlock := fun j e => HLO.out e.symm
   have r0 := hg3.cell (ka.cell HR0.out) (hne1 0)
   have r1 := hg3.cell (ka.cell HR1.out) (hne1 1)
   have r2 := hg3.cell (ka.cell HR2.out) (hne1 2)
   have r3 := hg3.cell (ka.cell HR3.out) (hne1 3)
   have hz1 := HZ.out
   have f0 := ((hg3.frozen_far ⟨w.heap.size + 1, 0, none⟩ (by simp; omega) (hne1 0)).trans (ka.frozen (p := ⟨w.heap.size + 1, 0, none⟩) (by simp; omega))).trans (HG0.out 0)
   have f1 := ((hg3.frozen_far ⟨w.heap.size + 1, 1, none⟩ (by simp; omega) (hne1 1)).trans (ka.frozen (p := ⟨w.heap.size + 1, 1, none⟩) (by simp; omega))).trans (HG0.out 1)
   have f2 := ((hg3.frozen_far ⟨w.heap.size + 1, 2, none⟩ (by simp; omega) (hne1 2)).trans (ka.frozen (p := ⟨w.heap.size + 1, 2, none⟩) (by simp; omega))).trans (HG0.out 2)
   have f3 := ((hg3.frozen_far ⟨w.heap.size + 1, 3, none⟩ (by simp; omega) (hne1 3)).trans (ka.frozen (p := ⟨w.heap.size + 1, 3, none⟩) (by simp; omega))).trans (HG0.out 3)
   have HLO3 : Hid (v3.ownBlock ≠ some (w.heap.size + 1)) := hide (fun h => by
    rcases hat3 with h3 | ⟨k, h3, h4⟩
    ·exact HLO.out (h3.symm.trans h)
    ·rw [h] at h3
     injection h3 with h3
     simp at h4
     omega)
   have HO3 := hide ho3
   have HK3 : Hid (Kp w0 w3) := hide (Kp.app hg3 ((HK0.out.trans hk20).alloc) HHI.out)
   clear ho3 hg3 hat3 hne1 hz1
   go_wp2
   refine bodyPost_ret (v := .tuple #[v3, (⟨0, 0, 0, false⟩ : An).v]) (by simp [results, Tryz.results110, go_sem, An.v, r0, r1, r2, r3]) rfl ⟨_, by rw [HP.out], ?_, ?_⟩
   ·rw [HP.out]
    exact (((HO3.out.setCell HLO3.out _).setCell HLO3.out _).setCell HLO3.out _).setCell HLO3.out _
   ·exact Kp.setR (by simp; omega) (Kp.setR (by simp; omega) (Kp.setR (by simp; omega) (Kp.setR (by simp; omega) HK3.out)))
end Go.Proofs.YtcljlnagpjilaaaGreatDoor
