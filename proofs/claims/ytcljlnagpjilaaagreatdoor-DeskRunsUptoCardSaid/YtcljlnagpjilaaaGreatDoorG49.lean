/-
  desk.lines' test of a rune, strings.FieldsFunc by it: what they answer
  desk.lines: what it answers
  The words of a line: cut, blanks for tabs, parted at blanks, the empty ones struck
  More of the shelf's contracts, laid: strings.SplitN, ReplaceAll, Count, HasPrefix, HasSuff
-/
import Derived.Test.YtcljlnagpjilaaaGreatDoorG3
import Derived.Test.YtcljlnagpjilaaaGreatDoorG15
import Derived.Lib.TrimUEq
import Derived.Lib.MapLaws
import Derived.Lib.SplitLaws
import Derived.Lib.Replace
import Derived.Lib.IndexBytes
import Derived.Lib.IndexLaws
import Derived.Test.YtcljlnagpjilaaaGreatDoorProg
import Derived.Shelf.LaysM
import Derived.Shelf.Strings.OnBuilder
import Derived.Shelf.Strings.SplitShaped
import Derived.Shelf.Strings.Prefix
import Derived.Shelf.Strings.Count

set_option linter.unusedVariables false
set_option linter.unusedSimpArgs false
set_option maxRecDepth 100000
set_option maxHeartbeats 8000000
namespace Go.Proofs.YtcljlnagpjilaaaGreatDoor
open Go.ChangeShapes Go.WideShapes Go.ChangeAt Go.RowKit
def spP (x : Nat) : Bool := decide (x = 32) || decide (x = 9)
theorem space_any (x : Nat) (w : World) : Calls Tryz.prog 32 #[.int .i32 (x : Int)] w (fun e w' => e = .returned (.bool (spP x)) /\ w = w') := by
 by_cases h1 : x = 32
 ·subst h1
  go_enter Tryz.func32, Tryz.ntmps32
  go_wp2
  go_ret
  exact ⟨rfl, rfl⟩
 ·have b1 : ((x : Int) == 32) = false := beq_eq_false_iff_ne.2 (by omega)
  by_cases h2 : x = 9
  ·subst h2
   go_enter Tryz.func32, Tryz.ntmps32
   go_wp2
   go_ret
   exact ⟨rfl, rfl⟩
  ·have b2 : ((x : Int) == 9) = false := beq_eq_false_iff_ne.2 (by omega)
   have HS : Hid (spP x = false) := hide (by rw [spP, decide_eq_false h1, decide_eq_false h2]; rfl)
   clear h1 h2
   go_enter Tryz.func32, Tryz.ntmps32
   go_wp2
   go_ret
   exact ⟨by rw [HS.out]; rfl, rfl⟩
theorem flat_str : ∀ l : List ByteArray, l.flatMap eStr.cells = l.map Value.string
 | [] => rfl
 | x :: l => by rw [List.flatMap_cons, flat_str l]; rfl
theorem fields_any (s : ByteArray) (w : World) (hs : s.size <= 4294967296) : Calls Tryz.prog 31 #[.string s, .func (.func 32) #[] #[]] w (RetOW 9 eStr (Lib.goFieldsP spP s) w) := by
 have h := Any.strings_FieldsFunc lFields 32 #[] (fun args w => by kernel_rfl) spP s w hs (fun W x hb => (space_any x W).mono (by rintro e w' ⟨rfl, rfl⟩; exact ⟨rfl, 0, rfl⟩)) (by kernel_rfl) (by kernel_rfl)
 refine Calls.mono h ?_
 rintro e w' ⟨A, rfl, hA, ho, hb⟩
 refine ⟨_, rfl, ?_, hb⟩
 unfold OW
 rw [flat_str]
 exact ho
def MaxL (w : World) : Prop := ∃ m : Int, w.cell? ⟨0, 0, none⟩ = some (.int .i64 m)
theorem MaxL.kp {w w' : World} (h : MaxL w) (hk : Kp w w') : MaxL w' := by
 obtain ⟨m, h⟩ := h
 exact ⟨m, hk.cell h⟩
theorem cut_any (s : ByteArray) (sep : ByteArray) (w : World) (hs : s.size < 4294967281) (hm : MaxL w) : Calls Tryz.prog 30 #[.string s, .string sep] w (fun e w' =>
  e = .returned (.tuple #[.string (bs (Lib.cut s.data.toList sep.data.toList).1), .string (bs (Lib.cut s.data.toList sep.data.toList).2.1), .bool (Lib.cut s.data.toList sep.data.toList).2.2]) /\ Kp w w') := by
 obtain ⟨m, hm⟩ := hm
 have h := Any.strings_Cut { lCut with } s sep m w hs hm
 refine Calls.mono h ?_
 rintro e w' ⟨rfl, n, rfl⟩
 exact ⟨rfl, (Kp.refl w).drewN⟩
theorem split_any (s sep : ByteArray) (w : World) (hs : s.size < 4294967281) (h1 : 1 <= sep.size) (hm : MaxL w) : Calls Tryz.prog 9 #[.string s, .string sep] w (fun e w' =>
  ∃ v, e = .returned v /\ RD w' eStr v (Lib.splitB sep 0 (Lib.countB s sep) s) /\ Kp w w') := by
 obtain ⟨m, hm⟩ := hm
 have h := Any.strings_Split { lSplit with } (by kernel_rfl) s sep m w hs hm h1
 have hl := Lib.splitB_all sep h1 0 _ s rfl
 have hc := Lib.countB_le sep h1 s.size s (Nat.le_refl _)
 obtain ⟨xs, hx⟩ : ∃ xs, Lib.splitB sep 0 (Lib.countB s sep) s = xs := ⟨_, rfl⟩
 rw [hx] at hl h ⊢
 refine Calls.mono h ?_
 rintro e w' ⟨rfl, rfl⟩
 refine ⟨_, rfl, ?_, (Kp.refl w).alloc⟩
 rw [<- hl]
 exact RD.block (l := xs) (heap_alloc_new w _) (by rw [flat_str]) (by rw [hl]; unfold maxLen; omega)
theorem bs_sizeF (a : By) : (bs a).size = a.length := by rw [Lib.size_eq]; rfl
theorem splitB_le (sep : ByteArray) (save : Nat) : ∀ (k : Nat) (s : ByteArray), ∀ x ∈ Lib.splitB sep save k s, x.size <= s.size
 | 0, s, x, h => by
  rw [Lib.splitB_zero, List.mem_singleton] at h
  rw [h]; exact Nat.le_refl _
 | k + 1, s, x, h => by
  unfold Lib.splitB at h
  split at h
  ·rw [List.mem_singleton] at h
   rw [h]; exact Nat.le_refl _
  ·rcases List.mem_cons.1 h with h | h
   ·rw [h, ByteArray.size_extract]; omega
   ·have h1 := splitB_le sep save k _ x h
    rw [ByteArray.size_extract] at h1
    omega
theorem cut_le (l sep : By) : (Lib.cut l sep).1.length <= l.length := by
 unfold Lib.cut
 split
 ·rw [List.length_take]; omega
 ·exact Nat.le_refl _
def nlB : ByteArray := ⟨#[10]⟩
def lineW (l : ByteArray) : List ByteArray := Lib.goFieldsP spP (bs (Lib.cut l.data.toList [59]).1)
def linesF (s : ByteArray) : List (List ByteArray) := ((Lib.splitB nlB 0 (Lib.countB s nlB) s).map lineW).filter fun w => decide (w ≠ [])
theorem info_strs : (Tryz.prog.info? 26).map (fun i => (i.zero, i.size, i.bytes)) = some (some (.slice none 0 0), 1, 24) := by kernel_rfl
theorem row_strs : Row Tryz.prog 22 26 eVal 24 := row_of info_strs Tryz.underlying22 rfl rfl (by decide)
def lnT (ps : List ByteArray) : List (List ByteArray) := (ps.map lineW).filter fun w => decide (w ≠ [])
theorem lnT_len (ps : List ByteArray) : (lnT ps).length <= ps.length := Nat.le_trans (List.length_filter_le _ _) (by rw [List.length_map]; exact Nat.le_refl _)
theorem lnT_take (ps : List ByteArray) (k : Nat) (h : k < ps.length) : lnT (ps.take (k + 1)) = if lineW ps[k] = [] then lnT (ps.take k) else lnT (ps.take k) ++ [lineW ps[k]] := by
 unfold lnT
 rw [List.take_succ_eq_append_getElem h, List.map_append, List.filter_append]
 split
 ·rename_i h0
  simp [h0]
 ·rename_i h0
  simp [h0]
def LnPost (s : ByteArray) (w : World) (e : Ending) (w' : World) : Prop := ∃ v, e = .returned v /\ OWS w' w.heap.size 26 9 eStr v (linesF s) /\ Kp w w'
def LnRel (ps : List ByteArray) (w : World) (ov iv : Value) (wr : World) : Prop := ∃ k : Nat, k <= ps.length /\ iv = .int .i64 k /\ OWS wr w.heap.size 26 9 eStr ov (lnT (ps.take k)) /\ Kp w wr
theorem lines_any (s : ByteArray) (w : World) (hs : s.size < 4294967281) (hm : MaxL w) : Calls Tryz.prog 18 #[.string s] w (LnPost s w) := by
 have HS := hide (split_any s nlB w hs (by decide) hm)
 have HM := hide hm
 obtain ⟨ps, hps⟩ : ∃ ps, Lib.splitB nlB 0 (Lib.countB s nlB) s = ps := ⟨_, rfl⟩
 have HL : Hid (linesF s = lnT ps) := hide (by rw [linesF, hps, lnT])
 have HB : Hid (∀ x ∈ ps, x.size <= s.size) := hide (by rw [<- hps]; exact splitB_le nlB 0 _ s)
 have hpl : ps.length <= s.size + 1 := by rw [<- hps, Lib.splitB_all nlB (by decide) 0 _ s rfl]; have := Lib.countB_le nlB (by decide) s.size s (Nat.le_refl _); omega
 rw [hps] at HS
 clear hps hm
 have HSZ := hide hs
 have HPL : Hid (ps.length <= 4294967282) := hide (by omega)
 clear hs hpl
 go_enter Tryz.func18, Tryz.ntmps18
 go_wp2_with fail
 refine HS.out.mono ?_
 rintro e w1 ⟨v1, rfl, hr1, hk1⟩
 obtain ⟨A, c, rfl, hc, hm⟩ := hr1.shape
 have HR := hide hr1
 clear hr1
 go_wp2
 go_loopw [3, 10] (LnRel ps w1) (fun _ i _ => ps.length - (intOf i).toNat)
 case atStart => exact ⟨0, by omega, rfl, OWS.nil, Kp.refl _⟩
 case round =>
  obtain ⟨k, hk, rfl, ho, hkp⟩ := hrel
  have HO := hide ho
  obtain ⟨u, hu⟩ : ∃ u, u = u3 := ⟨_, rfl⟩
  by_cases hlt : k < ps.length
  ·obtain ⟨b, o, rfl, _, x0⟩ := (HR.out.kp hkp).str hlt
   have HT := hide (lnT_take ps k hlt)
   obtain ⟨y, hy⟩ : ∃ y, y = ps[k] := ⟨_, rfl⟩
   have hyb := HB.out y (by rw [hy]; exact List.getElem_mem hlt)
   rw [<- hy] at x0 HT
   have hcs : (bs (Lib.cut y.data.toList [59]).1).size <= 4294967296 := by
    rw [bs_sizeF]
    have h1 := cut_le y.data.toList [59]
    have h2 := Lib.size_eq y
    have := HSZ.out
    omega
   have HC := hide (cut_any y ⟨#[59]⟩ wr (Nat.lt_of_le_of_lt hyb HSZ.out) (HM.out.kp (hk1.trans hkp)))
   have HF := hide (fun W => fields_any (bs (Lib.cut y.data.toList [59]).1) W hcs)
   clear hy hyb hcs ho hu
   go_wp2_with fail
   refine HC.out.mono ?_
   rintro e w2 ⟨rfl, hk2⟩
   go_wp2_with fail
   refine (HF.out _).mono ?_
   rw [show Lib.goFieldsP spP (bs (Lib.cut y.data.toList [59]).1) = lineW y from rfl]
   rintro e w3 ⟨v3, rfl, ho3, hk3⟩
   have hk3 := Kp.of hk3
   have hkp3 := (hkp.trans hk2).trans hk3
   have HOWS := hide (HO.out.kp (hk2.trans hk3))
   obtain ⟨A5, c5, rfl, hc5, _⟩ := ho3.rd.shape
   have HLE := hide (ho3.more (hkp.trans hk2).size)
   obtain ⟨N5, hN5⟩ : ∃ N5, N5 = (lineW y).length := ⟨_, rfl⟩
   rw [<- hN5] at HLE ⊢
   clear ho3 hc5
   have HK3 := hide hkp3
   clear hk2 hk3 hkp3 HC HF HO
   by_cases he : N5 = 0
   ·have hrs : Hid (lnT (ps.take (k + 1)) = lnT (ps.take k)) := hide (by
     rw [HT.out, if_pos (List.eq_nil_of_length_eq_zero (by omega))])
    have d1 : decide (0 < N5) = false := by simp [he]
    clear hN5 he
    go_wp2
    go_roundw
    case rel => exact ⟨k + 1, by omega, by go_num, by rw [hrs.out]; exact HOWS.out, HK3.out⟩
    case measure => simp [intOf] <;> omega
   ·have hrs : Hid (lnT (ps.take (k + 1)) = lnT (ps.take k) ++ [lineW y]) := hide (by
     rw [HT.out, if_neg (fun h => he (by rw [hN5, h]; rfl))])
    have d1 : decide (0 < N5) = true := by simp; omega
    have hln := lnT_len (ps.take k)
    rw [List.length_take] at hln
    have hpl := HPL.out
    obtain ⟨vs, hv, hvl, hin⟩ := HOWS.out
    obtain ⟨A3, c3, hu3, _, _⟩ := hv.rd.shape
    subst hu3
    have hhi3 := hv.hi
    have HV := hide hv
    have HVL := hide hvl
    have HIN := hide hin
    have HM1 : Hid ((vs.length + [(⟨.slice A5 N5 c5, slice_one A5 N5 c5⟩ : V1)].length) * 24 <= 140737488355328) := hide (by simp; omega)
    have HM2 : Hid (vs.length + [(⟨.slice A5 N5 c5, slice_one A5 N5 c5⟩ : V1)].length <= maxLen) := hide (by simp [maxLen]; omega)
    have HHI3 := hide hhi3
    clear hN5 he hv hvl hin hhi3 hln hpl
    go_wp2_with (at_builtin; (with_reducible refine list_app (B := w1.heap.size) (l := vs) (m := [(⟨.slice A5 N5 c5, slice_one A5 N5 c5⟩ : V1)]) row_strs (.slice A3 vs.length c3) ?_ (.tmp 25) (.tmp 27) ?_ ?_ ?_ ?_ HM1.out HM2.out ?_ ?_); (with_reducible rfl); (with_reducible rfl); rfl; (exact HV.out.alloc _); (show RD _ _ (.slice (some ⟨_, 0, none⟩) 1 1) _; exact RD.new1e _ (by simp) rfl); (have := HK3.out.size; simp; omega); intro v6 w6 ho6 hg6 hat6)
    go_roundw
    case rel =>
     have kka : Kp w3 (w3.alloc (.cells #[.slice A5 N5 c5] 26)) := (Kp.refl _).alloc
     have h1 := OWS.app (u := ⟨.slice A5 N5 c5, slice_one A5 N5 c5⟩) (l := lineW y) (HV.out.kp kka) HVL.out (fun k a b => (HIN.out k a b).kp kka) (by decide) (HLE.out.kp kka) ho6 hg6
     exact ⟨k + 1, by omega, by go_num, by rw [hrs.out]; exact h1, Kp.app hg6 HK3.out.alloc HHI3.out⟩
    case measure => simp [intOf] <;> omega
  ·have hkl : Hid (lnT (ps.take k) = linesF s) := hide (by rw [List.take_of_length_le (by omega), HL.out])
   clear ho hu
   go_wp2
   go_ret
   refine ⟨_, rfl, ?_, hk1.trans hkp⟩
   have h := HO.out
   rw [hkl.out] at h
   exact h.more hk1.size
def sp1 (c : UInt8) (cur : By) : By -> List By
 | [] => [cur]
 | b :: r => if b = c then cur :: sp1 c [] r else sp1 c (cur ++ [b]) r
def fw (p : UInt8 -> Bool) (cur : By) : By -> List By
 | [] => if cur = [] then [] else [cur]
 | b :: r => if p b then (if cur = [] then fw p [] r else cur :: fw p [] r) else fw p (cur ++ [b]) r
theorem sp1_none (c : UInt8) : ∀ (r cur : By), c ∉ r -> sp1 c cur r = [cur ++ r]
 | [], cur, _ => by simp [sp1]
 | b :: r, cur, h => by
  have h1 : b ≠ c := fun e => h (by simp [e])
  rw [sp1, if_neg h1, sp1_none c r _ (fun e => h (List.mem_cons_of_mem _ e)), List.append_assoc]
  rfl
theorem sp1_hit (c : UInt8) : ∀ (a cur r : By), c ∉ a -> sp1 c cur (a ++ c :: r) = (cur ++ a) :: sp1 c [] r
 | [], cur, r, _ => by simp [sp1]
 | b :: a, cur, r, h => by
  have h1 : b ≠ c := fun e => h (by simp [e])
  rw [List.cons_append, sp1, if_neg h1, sp1_hit c a _ r (fun e => h (List.mem_cons_of_mem _ e)), List.append_assoc]
  rfl
theorem index_1 (l : By) (c : UInt8) : (Lib.index l [c] = -1 /\ c ∉ l) ∨ ∃ i : Nat, Lib.index l [c] = i /\ i < l.length /\ l = l.take i ++ c :: l.drop (i + 1) /\ c ∉ l.take i := by
 rw [Lib.index_one]
 have hge := Lib.indexByte_ge l c
 by_cases h : Lib.indexByte l c = -1
 ·refine .inl ⟨h, fun hm => ?_⟩
  obtain ⟨k, hk, e⟩ := List.mem_iff_getElem.1 hm
  exact Lib.indexByte_none h k (by rw [List.getElem?_eq_getElem hk, e])
 ·obtain ⟨i, hi⟩ : ∃ i : Nat, Lib.indexByte l c = i := ⟨(Lib.indexByte l c).toNat, by omega⟩
  obtain ⟨h1, h2⟩ := Lib.indexByte_some hi
  obtain ⟨hl, e⟩ := List.getElem?_eq_some_iff.1 h1
  refine .inr ⟨i, hi, hl, ?_, fun hm => ?_⟩
  ·conv => lhs; rw [<- List.take_append_drop i l]
   rw [List.drop_eq_getElem_cons hl, e]
  ·obtain ⟨k, hk, e⟩ := List.mem_iff_getElem.1 hm
   rw [List.getElem_take] at e
   rw [List.length_take] at hk
   exact h2 k (by omega) (by rw [List.getElem?_eq_getElem (by omega), e])
theorem splitK_sp1 (c : UInt8) : ∀ (k : Nat) (l : By), l.count c <= k -> Lib.splitK [c] 0 k l = sp1 c [] l
 | 0, l, h => by
  rw [sp1_none c l [] (fun hm => by have := List.count_pos_iff.2 hm; omega)]
  rfl
 | k + 1, l, h => by
  unfold Lib.splitK
  rcases index_1 l c with ⟨h1, h2⟩ | ⟨i, h1, h2, h3, h4⟩
  ·rw [h1, if_pos (by decide), sp1_none c l [] h2]
   rfl
  ·have e1 : (Lib.index l [c] == -1) = false := by rw [h1, beq_eq_false_iff_ne]; omega
   have e2 : (Lib.index l [c]).toNat = i := by omega
   rw [e1, if_neg (by decide), e2]
   have hcnt : (l.drop (i + 1)).count c <= k := by
    rw [h3, List.count_append, List.count_cons_self] at h
    have : (l.take i).count c = 0 := List.count_eq_zero.2 h4
    have e3 : (l.take i ++ c :: l.drop (i + 1)).drop (i + 1) = l.drop (i + 1) := by rw [<- h3]
    omega
   rw [show i + ([c] : By).length = i + 1 from rfl, Nat.add_zero, splitK_sp1 c k _ hcnt]
   conv => rhs; rw [h3, sp1_hit c _ [] _ h4]
   rfl
theorem count_1 (c : UInt8) : ∀ (k : Nat) (l : By), l.length < k -> Lib.countFrom [c] k l = l.count c
 | 0, l, h => by omega
 | k + 1, l, h => by
  unfold Lib.countFrom
  rcases index_1 l c with ⟨h1, h2⟩ | ⟨i, h1, h2, h3, h4⟩
  ·rw [h1, if_pos (by decide), List.count_eq_zero.2 h2]
  ·have e1 : (Lib.index l [c] == -1) = false := by rw [h1, beq_eq_false_iff_ne]; omega
   have e2 : (Lib.index l [c]).toNat = i := by omega
   rw [e1, if_neg (by decide), e2, show i + ([c] : By).length = i + 1 from rfl, count_1 c k _ (by rw [List.length_drop]; omega)]
   conv => rhs; rw [h3, List.count_append, List.count_cons_self, List.count_eq_zero.2 h4]
   omega
theorem count_one (l : By) (c : UInt8) : Lib.count l [c] = l.count c := count_1 c _ l (Nat.lt_succ_self _)
theorem fw_sp1 (c : UInt8) : ∀ (l cur : By), (sp1 c cur l).filter (fun w => decide (w ≠ [])) = fw (fun b => decide (b = c)) cur l
 | [], cur => by
  unfold sp1 fw
  by_cases h : cur = []
  ·simp [h]
  ·simp [h]
 | b :: r, cur => by
  unfold sp1 fw
  by_cases h : b = c
  ·rw [if_pos h, if_pos (by simp [h]), List.filter_cons, fw_sp1 c r []]
   by_cases hc : cur = []
   ·simp [hc]
   ·simp [hc]
  ·rw [if_neg h, if_neg (by simp [h]), fw_sp1 c r]
def spb (b : UInt8) : Bool := decide (b = 32) || decide (b = 9)
def tab0 (b : UInt8) : UInt8 := if b = 9 then 32 else b
theorem fw_tab : ∀ (l cur : By), fw (fun b => decide (b = 32)) cur (l.map tab0) = fw spb cur l
 | [], cur => rfl
 | b :: r, cur => by
  rw [List.map_cons]
  unfold fw
  by_cases h : spb b = true
  ·have h1 : tab0 b = 32 := by
    unfold spb at h
    unfold tab0
    simp at h
    rcases h with h | h
    ·rw [if_neg (by rw [h]; decide)]; exact h
    ·rw [if_pos h]
   rw [h, h1, fw_tab r []]
   rfl
  ·have h0 : spb b = false := by simpa using h
   have h2 : b ≠ 9 /\ b ≠ 32 := by
    unfold spb at h0
    simp at h0
    exact ⟨h0.2, h0.1⟩
   have h1 : tab0 b = b := by unfold tab0; rw [if_neg h2.1]
   rw [h0, h1]
   simp [h2.2]
   exact fw_tab r _
theorem replaceK_tab : ∀ (k : Nat) (l : By), l.count 9 <= k -> Lib.replaceK [9] [32] k l = l.map tab0
 | 0, l, h => by
  have hn : (9 : UInt8) ∉ l := fun hm => by have := List.count_pos_iff.2 hm; omega
  have : l.map tab0 = l.map id := List.map_congr_left fun b hb => by
   unfold tab0
   rw [if_neg (fun e => hn (by rw [<- e]; exact hb))]; rfl
  rw [this, List.map_id]
  rfl
 | k + 1, l, h => by
  unfold Lib.replaceK
  have hno : ∀ a : By, (9 : UInt8) ∉ a -> a.map tab0 = a := fun a hn => by
   have : a.map tab0 = a.map id := List.map_congr_left fun b hb => by
    unfold tab0
    rw [if_neg (fun e => hn (by rw [<- e]; exact hb))]; rfl
   rw [this, List.map_id]
  rcases index_1 l 9 with ⟨h1, h2⟩ | ⟨i, h1, h2, h3, h4⟩
  ·rw [h1, if_pos (by decide), hno l h2]
  ·have e1 : (Lib.index l [9] == -1) = false := by rw [h1, beq_eq_false_iff_ne]; omega
   have e2 : (Lib.index l [9]).toNat = i := by omega
   rw [e1, if_neg (by decide), e2]
   have hcnt : (l.drop (i + 1)).count 9 <= k := by
    rw [h3, List.count_append, List.count_cons_self] at h
    have e3 : (l.take i ++ (9 : UInt8) :: l.drop (i + 1)).drop (i + 1) = l.drop (i + 1) := by rw [<- h3]
    omega
   rw [show i + ([9] : By).length = i + 1 from rfl, replaceK_tab k _ hcnt]
   conv => rhs; rw [h3, List.map_append, List.map_cons, hno _ h4]
   rw [List.append_assoc]
   rfl
theorem replaceAll_tab (l : By) : Lib.replaceAll l [9] [32] = l.map tab0 := by
 unfold Lib.replaceAll Lib.replace
 rw [if_neg (by decide)]
 refine replaceK_tab _ l ?_
 unfold Lib.replaceNum
 rw [if_pos (.inl (by decide)), count_one]
 exact Nat.le_refl _
theorem fw_take (p : UInt8 -> Bool) : ∀ (a cur r : By), (∀ b ∈ a, p b = false) -> fw p cur (a ++ r) = fw p (cur ++ a) r
 | [], cur, r, _ => by simp
 | b :: a, cur, r, h => by
  rw [List.cons_append, fw, h b List.mem_cons_self, if_neg (by decide), fw_take p a _ r (fun x hx => h x (List.mem_cons_of_mem _ hx)), List.append_assoc]
  rfl
theorem rune_step (s : ByteArray) (pos : Nat) (h : pos < s.data.toList.length) :
  (spP (Utf8.decode s pos).1 = true /\ (Utf8.decode s pos).2 = 1 /\ ∃ b, (s.data.toList.drop pos) = b :: s.data.toList.drop (pos + 1) /\ spb b = true) ∨
  (spP (Utf8.decode s pos).1 = false /\ 1 <= (Utf8.decode s pos).2 /\ pos + (Utf8.decode s pos).2 <= s.data.toList.length /\ ∀ b ∈ (s.data.toList.drop pos).take (Utf8.decode s pos).2, spb b = false) := by
 rw [Lib.decode_N]
 obtain ⟨L, hL⟩ : ∃ L, L = s.data.toList := ⟨_, rfl⟩
 rw [<- hL] at h ⊢
 have hd : L.drop pos = L.getD pos 0 :: L.drop (pos + 1) := by
  rw [List.drop_eq_getElem_cons h, List.getD_eq_getElem?_getD, List.getElem?_eq_getElem h]; rfl
 have hi : ∀ b : UInt8, 128 <= b.toNat -> spb b = false := fun b hb => by
  unfold spb
  rw [decide_eq_false (fun e => by rw [e] at hb; exact absurd hb (by decide)), decide_eq_false (fun e => by rw [e] at hb; exact absurd hb (by decide))]
  rfl
 have hspP : ∀ x, 128 <= x -> spP x = false := fun x hx => by
  unfold spP
  rw [decide_eq_false (by omega), decide_eq_false (by omega)]; rfl
 have hb0 := (L.getD pos 0).toNat_lt
 have take1 : (L.drop pos).take 1 = [L.getD pos 0] := by rw [hd]; rfl
 have tk : ∀ n, pos + n <= L.length -> ∀ b ∈ (L.drop pos).take n, ∃ j, j < n /\ b = L.getD (pos + j) 0 := fun n hn b hb => by
  obtain ⟨j, hj, e⟩ := List.mem_iff_getElem.1 hb
  rw [List.length_take, List.length_drop] at hj
  rw [List.getElem_take, List.getElem_drop] at e
  refine ⟨j, by omega, ?_⟩
  rw [<- e, List.getD_eq_getElem?_getD, List.getElem?_eq_getElem (by omega)]
  rfl
 rcases Lib.decodeN_shape (L.length - pos) (L.getD pos 0).toNat (L.getD (pos + 1) 0).toNat (L.getD (pos + 2) 0).toNat (L.getD (pos + 3) 0).toNat with ⟨a, e⟩ | ⟨a1, a2, a3, a4, e⟩ | ⟨a1, a2, a3, a4, a5, _, e⟩ | ⟨a1, a2, a3, a4, a5, a6, _, e⟩ | e
 ·rw [e]
  by_cases hsp : spb (L.getD pos 0) = true
  ·refine .inl ⟨?_, rfl, _, hd, hsp⟩
   unfold spb at hsp
   simp at hsp
   unfold spP
   rcases hsp with hsp | hsp
   ·have : (L.getD pos 0).toNat = 32 := by rw [List.getD_eq_getElem?_getD, hsp]; rfl
    rw [this]; rfl
   ·have : (L.getD pos 0).toNat = 9 := by rw [List.getD_eq_getElem?_getD, hsp]; rfl
    rw [this]; rfl
  ·have hsp0 : spb (L.getD pos 0) = false := by simpa using hsp
   refine .inr ⟨?_, Nat.le_refl _, by simp only; omega, fun b hb => ?_⟩
   ·unfold spb at hsp0
    simp only [Bool.or_eq_false_iff, decide_eq_false_iff_not] at hsp0
    unfold spP
    show (decide ((L.getD pos 0).toNat = 32) || decide ((L.getD pos 0).toNat = 9)) = false
    have n1 : (L.getD pos 0).toNat ≠ 32 := fun e => hsp0.1 (UInt8.toNat_inj.1 e)
    have n2 : (L.getD pos 0).toNat ≠ 9 := fun e => hsp0.2 (UInt8.toNat_inj.1 e)
    rw [decide_eq_false n1, decide_eq_false n2]
    rfl
   ·rw [take1, List.mem_singleton] at hb
    rw [hb]; exact hsp0
 ·rw [e]
  refine .inr ⟨hspP _ a4, by simp only; omega, by simp only; omega, fun b hb => ?_⟩
  obtain ⟨j, hj, rfl⟩ := tk 2 (by omega) b hb
  refine hi _ ?_
  match j, hj with
  | 0, _ => simp only [Nat.add_zero]; omega
  | 1, _ => omega
 ·rw [e]
  refine .inr ⟨hspP _ (by omega), by simp only; omega, by simp only; omega, fun b hb => ?_⟩
  obtain ⟨j, hj, rfl⟩ := tk 3 (by omega) b hb
  refine hi _ ?_
  match j, hj with
  | 0, _ => simp only [Nat.add_zero]; omega
  | 1, _ => omega
  | 2, _ => omega
 ·rw [e]
  refine .inr ⟨hspP _ (by omega), by simp only; omega, by simp only; omega, fun b hb => ?_⟩
  obtain ⟨j, hj, rfl⟩ := tk 4 (by omega) b hb
  refine hi _ ?_
  match j, hj with
  | 0, _ => simp only [Nat.add_zero]; omega
  | 1, _ => omega
  | 2, _ => omega
  | 3, _ => omega
 ·rw [e]
  refine .inr ⟨hspP _ (by decide), by simp only; omega, by simp only; omega, fun b hb => ?_⟩
  rw [take1, List.mem_singleton] at hb
  rw [hb]
  refine hi _ ?_
  refine Decidable.byContradiction fun h128 => ?_
  rw [Lib.decodeN_ascii _ _ _ _ _ (by omega)] at e
  injection e with e1 _
  omega
theorem ext_data (s : ByteArray) (a b : Nat) : (s.extract a b).data.toList = (s.data.toList.drop a).take (b - a) := by
 rw [Lib.extract_data]
theorem spans_fw (s : ByteArray) : ∀ (f pos : Nat) (st : Option Nat) (acc : List (Nat × Nat)), s.data.toList.length <= pos + f -> pos <= s.data.toList.length -> (∀ a, st = some a -> a < pos) ->
  (Lib.closeSpans s (Lib.spansFromP spP s f pos st acc)).map (fun x => (s.extract x.1 x.2).data.toList) = acc.map (fun x => (s.extract x.1 x.2).data.toList) ++ fw spb (match st with | some a => (s.data.toList.drop a).take (pos - a) | none => []) (s.data.toList.drop pos) := by
 have hsz := Lib.size_eq s
 intro f
 induction f with
 | zero =>
  intro pos st acc h1 h2 h3
  have hp : pos = s.data.toList.length := by omega
  unfold Lib.spansFromP
  rw [List.drop_of_length_le (by omega)]
  cases st with
  | none => simp [Lib.closeSpans, fw]
  | some a =>
   have := h3 a rfl
   have hne : (s.data.toList.drop a).take (pos - a) ≠ [] := fun e => by
    have := congrArg List.length e
    rw [List.length_take, List.length_drop, List.length_nil] at this
    omega
   unfold Lib.closeSpans
   simp only [List.map_append, List.map_cons, List.map_nil, fw, if_neg hne, ext_data, hsz, hp]
   rw [if_neg (by rw [<- hp]; exact hne)]
 | succ f ih =>
  intro pos st acc h1 h2 h3
  by_cases hlt : pos < s.data.toList.length
  ·have hstep := rune_step s pos hlt
   unfold Lib.spansFromP
   rw [if_pos (by omega)]
   rcases hstep with ⟨q1, q2, b, q3, q4⟩ | ⟨q1, q2, q3, q4⟩
   ·rw [q1, if_pos rfl, q2]
    cases st with
    | none =>
     simp only
     rw [ih (pos + 1) none acc (by omega) (by omega) (fun a e => by cases e), q3]
     conv => rhs; rw [fw, q4, if_pos rfl, if_pos rfl]
    | some a =>
     have ha := h3 a rfl
     have hne : (s.data.toList.drop a).take (pos - a) ≠ [] := fun e => by
      have := congrArg List.length e
      rw [List.length_take, List.length_drop, List.length_nil] at this
      omega
     simp only
     rw [ih (pos + 1) none _ (by omega) (by omega) (fun a e => by cases e), q3]
     conv => rhs; rw [fw, q4, if_pos rfl, if_neg hne]
     rw [List.map_append, List.append_assoc, List.map_cons, List.map_nil, ext_data]
     rfl
   ·rw [q1, if_neg (by decide)]
    have hsplit : s.data.toList.drop pos = (s.data.toList.drop pos).take (Utf8.decode s pos).2 ++ s.data.toList.drop (pos + (Utf8.decode s pos).2) := by
     conv => lhs; rw [<- List.take_append_drop (Utf8.decode s pos).2 (s.data.toList.drop pos)]
     rw [List.drop_drop]
    generalize Utf8.decode s pos = dec at *
    cases st with
    | none =>
     simp only
     rw [ih (pos + dec.2) (some pos) acc (by omega) q3 (fun a e => by injection e with e; omega)]
     conv => rhs; rw [hsplit, fw_take spb _ _ _ q4, List.nil_append]
     simp only
     rw [show pos + dec.2 - pos = dec.2 from by omega]
    | some a =>
     have ha := h3 a rfl
     simp only
     rw [ih (pos + dec.2) (some a) acc (by omega) q3 (fun a' e => by injection e with e; omega)]
     conv => rhs; rw [hsplit, fw_take spb _ _ _ q4]
     simp only
     congr 2
     rw [show pos + dec.2 - a = (pos - a) + dec.2 from by omega, List.take_add, List.drop_drop, show a + (pos - a) = pos from by omega]
  ·have hp : pos = s.data.toList.length := by omega
   rw [Lib.spansFromP_end _ _ _ _ _ _ (by omega)]
   rw [List.drop_of_length_le (by omega)]
   cases st with
   | none => simp [Lib.closeSpans, fw]
   | some a =>
    have := h3 a rfl
    have hne : (s.data.toList.drop a).take (pos - a) ≠ [] := fun e => by
     have := congrArg List.length e
     rw [List.length_take, List.length_drop, List.length_nil] at this
     omega
    unfold Lib.closeSpans
    simp only [List.map_append, List.map_cons, List.map_nil, fw, ext_data, hsz, hp]
    rw [if_neg (by rw [<- hp]; exact hne)]
theorem fields_fw (s : ByteArray) : (Lib.goFieldsP spP s).map (·.data.toList) = fw spb [] s.data.toList := by
 unfold Lib.goFieldsP Lib.spansOfP
 rw [List.map_map]
 have := spans_fw s s.size 0 none [] (by rw [Lib.size_eq]; omega) (by omega) (fun a e => by cases e)
 rw [List.map_nil, List.nil_append, List.drop_zero] at this
 exact this
def docW (y : ByteArray) : List ByteArray :=
 (Lib.splitB ⟨#[32]⟩ 0 (Lib.countB (bs (Lib.replaceAll (Lib.cut y.data.toList [59]).1 [9] [32])) ⟨#[32]⟩) (bs (Lib.replaceAll (Lib.cut y.data.toList [59]).1 [9] [32]))).filter fun w => decide (w ≠ ByteArray.empty)
theorem docW_line (y : ByteArray) : docW y = lineW y := by
 have inj : ∀ a b : List ByteArray, a.map (·.data.toList) = b.map (·.data.toList) -> a = b := fun a b h => by
  have := congrArg (List.map bs) h
  rw [List.map_map, List.map_map] at this
  exact (List.map_id a).symm.trans (this.trans (List.map_id b))
 refine inj _ _ ?_
 unfold lineW docW
 rw [fields_fw]
 obtain ⟨z, hz⟩ : ∃ z, z = (Lib.cut y.data.toList [59]).1 := ⟨_, rfl⟩
 rw [<- hz, replaceAll_tab, show (bs z).data.toList = z from rfl, <- fw_tab, <- fw_sp1]
 have h1 := Lib.splitB_data ⟨#[32]⟩ 0 (Lib.countB (bs (z.map tab0)) ⟨#[32]⟩) (bs (z.map tab0))
 have h2 : Lib.countB (bs (z.map tab0)) ⟨#[32]⟩ = (z.map tab0).count 32 := count_one (z.map tab0) 32
 rw [show (⟨#[32]⟩ : ByteArray).data.toList = [32] from rfl, show (bs (z.map tab0)).data.toList = z.map tab0 from rfl, splitK_sp1 32 _ _ (by rw [h2]; exact Nat.le_refl _)] at h1
 rw [<- h1, List.filter_map]
 congr 1
 refine List.filter_congr fun x _ => ?_
 show decide (x ≠ ByteArray.empty) = decide (x.data.toList ≠ [])
 refine decide_eq_decide.2 (not_congr ⟨fun e => by rw [e]; rfl, fun e => ?_⟩)
 exact ByteArray.ext (Array.toList_inj.1 e)
end Go.Proofs.YtcljlnagpjilaaaGreatDoor
namespace Go.Proofs.YtcljlnagpjilaaaGreatDoor
open Go.Shelf
def lSplitN_ren : Go.Shelf.Ren := ⟨fun | 147 => 16 | 221 => 17 | 268 => 29 | 138 => 12 | 143 => 25 | 195 => 23 | 197 => 65 | 218 => 24 | 219 => 63 | 260 => 104 | 217 => 99 | 225 => 100 | 224 => 101 | 267 => 102 | 266 => 147 | 314 => 148 | n => n, fun | 9 => 9 | 3 => 3 | 31 => 26 | 4 => 4 | 0 => 0 | 105 => 110 | 21 => 21 | 5 => 5 | 46 => 155 | 119 => 210 | 139 => 213 | 138 => 212 | 146 => 207 | 51 => 206 | n => n, fun | 1 => 0 | 3 => 1 | 4 => 2 | n => n⟩
theorem lSplitN : Go.Proofs.LaysM.n147 Tryz.prog lSplitN_ren := {
 mixed := by kernel_rfl
 f138 := Tryz.func12.trans (congrArg some (by kernel_rfl))
 f143 := Tryz.func25.trans (congrArg some (by kernel_rfl))
 f147 := Tryz.func16.trans (congrArg some (by kernel_rfl))
 f195 := Tryz.func23.trans (congrArg some (by kernel_rfl))
 f197 := Tryz.func65.trans (congrArg some (by kernel_rfl))
 f217 := Tryz.func99.trans (congrArg some (by kernel_rfl))
 f218 := Tryz.func24.trans (congrArg some (by kernel_rfl))
 f219 := Tryz.func63.trans (congrArg some (by kernel_rfl))
 f221 := Tryz.func17.trans (congrArg some (by kernel_rfl))
 f224 := Tryz.func101.trans (congrArg some (by kernel_rfl))
 f225 := Tryz.func100.trans (congrArg some (by kernel_rfl))
 f260 := Tryz.func104.trans (congrArg some (by kernel_rfl))
 f266 := Tryz.func147.trans (congrArg some (by kernel_rfl))
 f267 := Tryz.func102.trans (congrArg some (by kernel_rfl))
 f268 := Tryz.func29.trans (congrArg some (by kernel_rfl))
 f314 := Tryz.func148.trans (congrArg some (by kernel_rfl))
 t0 := Tryz.underlying0
 a0 := Tryz.isAgg0
 z0 := Tryz.sizeOf0
 v0 := Tryz.zeroValue0
 t3 := Tryz.underlying3
 a3 := Tryz.isAgg3
 z3 := Tryz.sizeOf3
 v3 := Tryz.zeroValue3
 t4 := Tryz.underlying4
 a4 := Tryz.isAgg4
 z4 := Tryz.sizeOf4
 v4 := Tryz.zeroValue4
 t5 := Tryz.underlying5
 a5 := Tryz.isAgg5
 z5 := Tryz.sizeOf5
 v5 := Tryz.zeroValue5
 t9 := Tryz.underlying9
 a9 := Tryz.isAgg9
 z9 := Tryz.sizeOf9
 v9 := Tryz.zeroValue9
 t21 := Tryz.underlying21
 a21 := Tryz.isAgg21
 z21 := Tryz.sizeOf21
 v21 := Tryz.zeroValue21
 t31 := Tryz.underlying26
 a31 := Tryz.isAgg26
 z31 := Tryz.sizeOf26
 v31 := Tryz.zeroValue26
 t46 := Tryz.underlying155
 a46 := Tryz.isAgg155
 z46 := Tryz.sizeOf155
 v46 := Tryz.zeroValue155
 t51 := Tryz.underlying206
 a51 := Tryz.isAgg206
 z51 := Tryz.sizeOf206
 v51 := Tryz.zeroValue206
 t105 := Tryz.underlying110
 a105 := Tryz.isAgg110
 z105 := Tryz.sizeOf110
 v105 := Tryz.zeroValue110
 t119 := Tryz.underlying210
 a119 := Tryz.isAgg210
 z119 := Tryz.sizeOf210
 t138 := Tryz.underlying212
 a138 := Tryz.isAgg212
 z138 := Tryz.sizeOf212
 v138 := Tryz.zeroValue212
 t139 := Tryz.underlying213
 a139 := Tryz.isAgg213
 z139 := Tryz.sizeOf213
 v139 := Tryz.zeroValue213
 t146 := Tryz.underlying207
 a146 := Tryz.isAgg207
 z146 := Tryz.sizeOf207
 v146 := Tryz.zeroValue207
 g1 := by kernel_rfl
 g3 := by kernel_rfl
 g4 := by kernel_rfl
 i0 := by kernel_rfl
 i3 := by kernel_rfl
 i4 := by kernel_rfl
 i5 := by kernel_rfl
 i9 := by kernel_rfl
 i21 := by kernel_rfl
 i31 := by kernel_rfl
 i46 := by kernel_rfl
 i51 := by kernel_rfl
 i105 := by kernel_rfl
 i138 := by kernel_rfl
 i139 := by kernel_rfl
 i146 := by kernel_rfl
 m1 := by kernel_rfl
 s1_3 := fun w h => Go.Proofs.cell_of_shapedOpen_int (zero := #[.int .i64 0]) (t := 3) h (of_decide_eq_true (by kernel_rfl)) (by kernel_rfl) rfl (by kernel_rfl) (by kernel_rfl) Tryz.underlying3
 m3 := by kernel_rfl
 m4 := by kernel_rfl }
def lReplaceAll_ren : Go.Shelf.Ren := ⟨fun | 155 => 15 | 154 => 28 | 138 => 12 | 165 => 64 | 143 => 25 | 166 => 19 | 197 => 65 | 169 => 21 | 195 => 23 | 218 => 24 | 240 => 33 | 241 => 103 | 219 => 63 | 260 => 104 | 276 => 67 | 277 => 149 | 217 => 99 | 225 => 100 | 224 => 101 | 267 => 102 | 266 => 147 | 314 => 148 | n => n, fun | 9 => 9 | 3 => 3 | 4 => 4 | 72 => 44 | 0 => 0 | 76 => 47 | 105 => 110 | 21 => 21 | 5 => 5 | 70 => 41 | 20 => 20 | 37 => 42 | 75 => 46 | 127 => 77 | 164 => 115 | 46 => 155 | 119 => 210 | 139 => 213 | 138 => 212 | 146 => 207 | 51 => 206 | 80 => 50 | n => n, fun | 1 => 0 | 3 => 1 | 4 => 2 | n => n⟩
theorem lReplaceAll : Go.Proofs.LaysM.n155 Tryz.prog lReplaceAll_ren := {
 mixed := by kernel_rfl
 f138 := Tryz.func12.trans (congrArg some (by kernel_rfl))
 f143 := Tryz.func25.trans (congrArg some (by kernel_rfl))
 f154 := Tryz.func28.trans (congrArg some (by kernel_rfl))
 f155 := Tryz.func15.trans (congrArg some (by kernel_rfl))
 f165 := Tryz.func64.trans (congrArg some (by kernel_rfl))
 f166 := Tryz.func19.trans (congrArg some (by kernel_rfl))
 f169 := Tryz.func21.trans (congrArg some (by kernel_rfl))
 f195 := Tryz.func23.trans (congrArg some (by kernel_rfl))
 f197 := Tryz.func65.trans (congrArg some (by kernel_rfl))
 f217 := Tryz.func99.trans (congrArg some (by kernel_rfl))
 f218 := Tryz.func24.trans (congrArg some (by kernel_rfl))
 f219 := Tryz.func63.trans (congrArg some (by kernel_rfl))
 f224 := Tryz.func101.trans (congrArg some (by kernel_rfl))
 f225 := Tryz.func100.trans (congrArg some (by kernel_rfl))
 f240 := Tryz.func33.trans (congrArg some (by kernel_rfl))
 f241 := Tryz.func103.trans (congrArg some (by kernel_rfl))
 f260 := Tryz.func104.trans (congrArg some (by kernel_rfl))
 f266 := Tryz.func147.trans (congrArg some (by kernel_rfl))
 f267 := Tryz.func102.trans (congrArg some (by kernel_rfl))
 f276 := Tryz.func67.trans (congrArg some (by kernel_rfl))
 f277 := Tryz.func149.trans (congrArg some (by kernel_rfl))
 f314 := Tryz.func148.trans (congrArg some (by kernel_rfl))
 t0 := Tryz.underlying0
 a0 := Tryz.isAgg0
 z0 := Tryz.sizeOf0
 v0 := Tryz.zeroValue0
 t3 := Tryz.underlying3
 a3 := Tryz.isAgg3
 z3 := Tryz.sizeOf3
 v3 := Tryz.zeroValue3
 t4 := Tryz.underlying4
 a4 := Tryz.isAgg4
 z4 := Tryz.sizeOf4
 v4 := Tryz.zeroValue4
 t5 := Tryz.underlying5
 a5 := Tryz.isAgg5
 z5 := Tryz.sizeOf5
 v5 := Tryz.zeroValue5
 t9 := Tryz.underlying9
 a9 := Tryz.isAgg9
 z9 := Tryz.sizeOf9
 v9 := Tryz.zeroValue9
 t20 := Tryz.underlying20
 a20 := Tryz.isAgg20
 z20 := Tryz.sizeOf20
 v20 := Tryz.zeroValue20
 t21 := Tryz.underlying21
 a21 := Tryz.isAgg21
 z21 := Tryz.sizeOf21
 v21 := Tryz.zeroValue21
 t37 := Tryz.underlying42
 a37 := Tryz.isAgg42
 z37 := Tryz.sizeOf42
 v37 := Tryz.zeroValue42
 t46 := Tryz.underlying155
 a46 := Tryz.isAgg155
 z46 := Tryz.sizeOf155
 v46 := Tryz.zeroValue155
 t51 := Tryz.underlying206
 a51 := Tryz.isAgg206
 z51 := Tryz.sizeOf206
 v51 := Tryz.zeroValue206
 t70 := Tryz.underlying41
 a70 := Tryz.isAgg41
 z70 := Tryz.sizeOf41
 v70 := Tryz.zeroValue41
 t72 := Tryz.underlying44
 a72 := Tryz.isAgg44
 z72 := Tryz.sizeOf44
 v72 := Tryz.zeroValue44
 t75 := Tryz.underlying46
 a75 := Tryz.isAgg46
 z75 := Tryz.sizeOf46
 v75 := Tryz.zeroValue46
 t76 := Tryz.underlying47
 a76 := Tryz.isAgg47
 z76 := Tryz.sizeOf47
 v76 := Tryz.zeroValue47
 t105 := Tryz.underlying110
 a105 := Tryz.isAgg110
 z105 := Tryz.sizeOf110
 v105 := Tryz.zeroValue110
 t119 := Tryz.underlying210
 a119 := Tryz.isAgg210
 z119 := Tryz.sizeOf210
 t127 := Tryz.underlying77
 a127 := Tryz.isAgg77
 z127 := Tryz.sizeOf77
 v127 := Tryz.zeroValue77
 t138 := Tryz.underlying212
 a138 := Tryz.isAgg212
 z138 := Tryz.sizeOf212
 v138 := Tryz.zeroValue212
 t139 := Tryz.underlying213
 a139 := Tryz.isAgg213
 z139 := Tryz.sizeOf213
 v139 := Tryz.zeroValue213
 t146 := Tryz.underlying207
 a146 := Tryz.isAgg207
 z146 := Tryz.sizeOf207
 v146 := Tryz.zeroValue207
 t164 := Tryz.underlying115
 a164 := Tryz.isAgg115
 z164 := Tryz.sizeOf115
 v164 := Tryz.zeroValue115
 g1 := by kernel_rfl
 g3 := by kernel_rfl
 g4 := by kernel_rfl
 t80 := Tryz.underlying50
 a80 := Tryz.isAgg50
 z80 := Tryz.sizeOf50
 v80 := Tryz.zeroValue50
 i0 := by kernel_rfl
 i3 := by kernel_rfl
 i4 := by kernel_rfl
 i5 := by kernel_rfl
 i9 := by kernel_rfl
 i20 := by kernel_rfl
 i21 := by kernel_rfl
 i37 := by kernel_rfl
 i46 := by kernel_rfl
 i51 := by kernel_rfl
 i70 := by kernel_rfl
 i72 := by kernel_rfl
 i75 := by kernel_rfl
 i76 := by kernel_rfl
 i80 := by kernel_rfl
 i105 := by kernel_rfl
 i127 := by kernel_rfl
 i138 := by kernel_rfl
 i139 := by kernel_rfl
 i146 := by kernel_rfl
 i164 := by kernel_rfl
 m1 := by kernel_rfl
 s1_3 := fun w h => Go.Proofs.cell_of_shapedOpen_int (zero := #[.int .i64 0]) (t := 3) h (of_decide_eq_true (by kernel_rfl)) (by kernel_rfl) rfl (by kernel_rfl) (by kernel_rfl) Tryz.underlying3
 m3 := by kernel_rfl
 m4 := by kernel_rfl }
theorem lReplaceAll_x : Builder.Extra Tryz.prog lReplaceAll_ren := {
 sizeBuilder := by kernel_rfl
 liesBuilder := by kernel_rfl
 t5 := Tryz.underlying5
 a5 := Tryz.isAgg5
 z5 := Tryz.sizeOf5
 v5 := Tryz.zeroValue5
 infoByte := by kernel_rfl
 cellsByte := by kernel_rfl
 sizeByte := by kernel_rfl
 neB5 := by decide }
end Go.Proofs.YtcljlnagpjilaaaGreatDoor
