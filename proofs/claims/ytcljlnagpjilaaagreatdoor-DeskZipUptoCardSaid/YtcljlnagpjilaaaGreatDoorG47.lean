/-
  desk.lines' test of a rune, strings.FieldsFunc by it: what they answer
  desk.lines: what it answers
  The words of a line: cut, blanks for tabs, parted at blanks, the empty ones struck
  More of the shelf's contracts, laid: strings.SplitN, ReplaceAll, Count, HasPrefix, HasSuff
  hedgref.DeskLines: what it answers: desk.lines' lines
  desk.Run: what it answers
  hedgref.DeskTold: what it answers: desk.Run's answer
  The frame of a law of the desk's chapter: what the condition gives a walk (DTb, T10; MaxL 
  hedgkeep.deskLives: what desk.Run answers to its text
  More lines only go on
  The desk's answers bear no newline; so what it writes bears one for each line
  What desk.Run answers to a text with the zipped tree and the rows asked for at its end: pl
  The lines that put keys anew: what words they have
-/
import Derived.Test.YtcljlnagpjilaaaGreatDoorG4
import Derived.Test.YtcljlnagpjilaaaGreatDoorG14
import Derived.Lib.TrimUEq
import Derived.Lib.MapLaws
import Derived.Lib.SplitLaws
import Derived.Lib.Replace
import Derived.Lib.IndexBytes
import Derived.Lib.IndexLaws
import Derived.Test.YtcljlnagpjilaaaGreatDoorProg
import Derived.Shelf.LaysM
import Derived.Shelf.Strings.OnBuilder
import Derived.Shelf.Strings.SplitShaped
import Derived.Shelf.Strings.Prefix
import Derived.Shelf.Strings.Count
import Derived.Test.YtcljlnagpjilaaaGreatDoorG32
import Derived.Shelf.Strings.BuilderK
import Derived.Test.YtcljlnagpjilaaaGreatDoorG46
import Derived.Test.YtcljlnagpjilaaaGreatDoorG1
import Derived.Lib.LaidTab
import Derived.LaidHandle
import Derived.LaidLaws
import Derived.Stop.LaidErr
import Derived.ShutString
import Derived.Deep.DeepWitnessRowRef
import Derived.Test.YtcljlnagpjilaaaGreatDoorG40

set_option linter.unusedVariables false
set_option linter.unusedSimpArgs false
set_option maxRecDepth 100000
set_option maxHeartbeats 8000000
namespace Go.Proofs.YtcljlnagpjilaaaGreatDoor
open Go.ChangeShapes Go.WideShapes Go.ChangeAt Go.RowKit
def spP (x : Nat) : Bool := decide (x = 32) || decide (x = 9)
theorem space_any (x : Nat) (w : World) : Calls Tryz.prog 32 #[.int .i32 (x : Int)] w (fun e w' => e = .returned (.bool (spP x)) /\ w = w') := by
 by_cases h1 : x = 32
 ·subst h1
  go_enter Tryz.func32, Tryz.ntmps32
  go_wp2
  go_ret
  exact ⟨rfl, rfl⟩
 ·have b1 : ((x : Int) == 32) = false := beq_eq_false_iff_ne.2 (by omega)
  by_cases h2 : x = 9
  ·subst h2
   go_enter Tryz.func32, Tryz.ntmps32
   go_wp2
   go_ret
   exact ⟨rfl, rfl⟩
  ·have b2 : ((x : Int) == 9) = false := beq_eq_false_iff_ne.2 (by omega)
   have HS : Hid (spP x = false) := hide (by rw [spP, decide_eq_false h1, decide_eq_false h2]; rfl)
   clear h1 h2
   go_enter Tryz.func32, Tryz.ntmps32
   go_wp2
   go_ret
   exact ⟨by rw [HS.out]; rfl, rfl⟩
theorem flat_str : ∀ l : List ByteArray, l.flatMap eStr.cells = l.map Value.string
 | [] => rfl
 | x :: l => by rw [List.flatMap_cons, flat_str l]; rfl
theorem fields_any (s : ByteArray) (w : World) (hs : s.size <= 4294967296) : Calls Tryz.prog 31 #[.string s, .func (.func 32) #[] #[]] w (RetOW 9 eStr (Lib.goFieldsP spP s) w) := by
 have h := Any.strings_FieldsFunc lFields 32 #[] (fun args w => by kernel_rfl) spP s w hs (fun W x hb => (space_any x W).mono (by rintro e w' ⟨rfl, rfl⟩; exact ⟨rfl, 0, rfl⟩)) (by kernel_rfl) (by kernel_rfl)
 refine Calls.mono h ?_
 rintro e w' ⟨A, rfl, hA, ho, hb⟩
 refine ⟨_, rfl, ?_, hb⟩
 unfold OW
 rw [flat_str]
 exact ho
def MaxL (w : World) : Prop := ∃ m : Int, w.cell? ⟨0, 0, none⟩ = some (.int .i64 m)
theorem MaxL.kp {w w' : World} (h : MaxL w) (hk : Kp w w') : MaxL w' := by
 obtain ⟨m, h⟩ := h
 exact ⟨m, hk.cell h⟩
theorem cut_any (s : ByteArray) (sep : ByteArray) (w : World) (hs : s.size < 4294967281) (hm : MaxL w) : Calls Tryz.prog 30 #[.string s, .string sep] w (fun e w' =>
  e = .returned (.tuple #[.string (bs (Lib.cut s.data.toList sep.data.toList).1), .string (bs (Lib.cut s.data.toList sep.data.toList).2.1), .bool (Lib.cut s.data.toList sep.data.toList).2.2]) /\ Kp w w') := by
 obtain ⟨m, hm⟩ := hm
 have h := Any.strings_Cut { lCut with } s sep m w hs hm
 refine Calls.mono h ?_
 rintro e w' ⟨rfl, n, rfl⟩
 exact ⟨rfl, (Kp.refl w).drewN⟩
theorem split_any (s sep : ByteArray) (w : World) (hs : s.size < 4294967281) (h1 : 1 <= sep.size) (hm : MaxL w) : Calls Tryz.prog 9 #[.string s, .string sep] w (fun e w' =>
  ∃ v, e = .returned v /\ RD w' eStr v (Lib.splitB sep 0 (Lib.countB s sep) s) /\ Kp w w') := by
 obtain ⟨m, hm⟩ := hm
 have h := Any.strings_Split { lSplit with } (by kernel_rfl) s sep m w hs hm h1
 have hl := Lib.splitB_all sep h1 0 _ s rfl
 have hc := Lib.countB_le sep h1 s.size s (Nat.le_refl _)
 obtain ⟨xs, hx⟩ : ∃ xs, Lib.splitB sep 0 (Lib.countB s sep) s = xs := ⟨_, rfl⟩
 rw [hx] at hl h ⊢
 refine Calls.mono h ?_
 rintro e w' ⟨rfl, rfl⟩
 refine ⟨_, rfl, ?_, (Kp.refl w).alloc⟩
 rw [<- hl]
 exact RD.block (l := xs) (heap_alloc_new w _) (by rw [flat_str]) (by rw [hl]; unfold maxLen; omega)
theorem bs_sizeF (a : By) : (bs a).size = a.length := by rw [Lib.size_eq]; rfl
theorem splitB_le (sep : ByteArray) (save : Nat) : ∀ (k : Nat) (s : ByteArray), ∀ x ∈ Lib.splitB sep save k s, x.size <= s.size
 | 0, s, x, h => by
  rw [Lib.splitB_zero, List.mem_singleton] at h
  rw [h]; exact Nat.le_refl _
 | k + 1, s, x, h => by
  unfold Lib.splitB at h
  split at h
  ·rw [List.mem_singleton] at h
   rw [h]; exact Nat.le_refl _
  ·rcases List.mem_cons.1 h with h | h
   ·rw [h, ByteArray.size_extract]; omega
   ·have h1 := splitB_le sep save k _ x h
    rw [ByteArray.size_extract] at h1
    omega
theorem cut_le (l sep : By) : (Lib.cut l sep).1.length <= l.length := by
 unfold Lib.cut
 split
 ·rw [List.length_take]; omega
 ·exact Nat.le_refl _
def nlB : ByteArray := ⟨#[10]⟩
def lineW (l : ByteArray) : List ByteArray := Lib.goFieldsP spP (bs (Lib.cut l.data.toList [59]).1)
def linesF (s : ByteArray) : List (List ByteArray) := ((Lib.splitB nlB 0 (Lib.countB s nlB) s).map lineW).filter fun w => decide (w ≠ [])
theorem info_strs : (Tryz.prog.info? 26).map (fun i => (i.zero, i.size, i.bytes)) = some (some (.slice none 0 0), 1, 24) := by kernel_rfl
theorem row_strs : Row Tryz.prog 22 26 eVal 24 := row_of info_strs Tryz.underlying22 rfl rfl (by decide)
def lnT (ps : List ByteArray) : List (List ByteArray) := (ps.map lineW).filter fun w => decide (w ≠ [])
theorem lnT_len (ps : List ByteArray) : (lnT ps).length <= ps.length := Nat.le_trans (List.length_filter_le _ _) (by rw [List.length_map]; exact Nat.le_refl _)
theorem lnT_take (ps : List ByteArray) (k : Nat) (h : k < ps.length) : lnT (ps.take (k + 1)) = if lineW ps[k] = [] then lnT (ps.take k) else lnT (ps.take k) ++ [lineW ps[k]] := by
 unfold lnT
 rw [List.take_succ_eq_append_getElem h, List.map_append, List.filter_append]
 split
 ·rename_i h0
  simp [h0]
 ·rename_i h0
  simp [h0]
def LnPost (s : ByteArray) (w : World) (e : Ending) (w' : World) : Prop := ∃ v, e = .returned v /\ OWS w' w.heap.size 26 9 eStr v (linesF s) /\ Kp w w'
def LnRel (ps : List ByteArray) (w : World) (ov iv : Value) (wr : World) : Prop := ∃ k : Nat, k <= ps.length /\ iv = .int .i64 k /\ OWS wr w.heap.size 26 9 eStr ov (lnT (ps.take k)) /\ Kp w wr
theorem lines_any (s : ByteArray) (w : World) (hs : s.size < 4294967281) (hm : MaxL w) : Calls Tryz.prog 18 #[.string s] w (LnPost s w) := by
 have HS := hide (split_any s nlB w hs (by decide) hm)
 have HM := hide hm
 obtain ⟨ps, hps⟩ : ∃ ps, Lib.splitB nlB 0 (Lib.countB s nlB) s = ps := ⟨_, rfl⟩
 have HL : Hid (linesF s = lnT ps) := hide (by rw [linesF, hps, lnT])
 have HB : Hid (∀ x ∈ ps, x.size <= s.size) := hide (by rw [<- hps]; exact splitB_le nlB 0 _ s)
 have hpl : ps.length <= s.size + 1 := by rw [<- hps, Lib.splitB_all nlB (by decide) 0 _ s rfl]; have := Lib.countB_le nlB (by decide) s.size s (Nat.le_refl _); omega
 rw [hps] at HS
 clear hps hm
 have HSZ := hide hs
 have HPL : Hid (ps.length <= 4294967282) := hide (by omega)
 clear hs hpl
 go_enter Tryz.func18, Tryz.ntmps18
 go_wp2_with fail
 refine HS.out.mono ?_
 rintro e w1 ⟨v1, rfl, hr1, hk1⟩
 obtain ⟨A, c, rfl, hc, hm⟩ := hr1.shape
 have HR := hide hr1
 clear hr1
 go_wp2
 go_loopw [3, 10] (LnRel ps w1) (fun _ i _ => ps.length - (intOf i).toNat)
 case atStart => exact ⟨0, by omega, rfl, OWS.nil, Kp.refl _⟩
 case round =>
  obtain ⟨k, hk, rfl, ho, hkp⟩ := hrel
  have HO := hide ho
  obtain ⟨u, hu⟩ : ∃ u, u = u3 := ⟨_, rfl⟩
  by_cases hlt : k < ps.length
  ·obtain ⟨b, o, rfl, _, x0⟩ := (HR.out.kp hkp).str hlt
   have HT := hide (lnT_take ps k hlt)
   obtain ⟨y, hy⟩ : ∃ y, y = ps[k] := ⟨_, rfl⟩
   have hyb := HB.out y (by rw [hy]; exact List.getElem_mem hlt)
   rw [<- hy] at x0 HT
   have hcs : (bs (Lib.cut y.data.toList [59]).1).size <= 4294967296 := by
    rw [bs_sizeF]
    have h1 := cut_le y.data.toList [59]
    have h2 := Lib.size_eq y
    have := HSZ.out
    omega
   have HC := hide (cut_any y ⟨#[59]⟩ wr (Nat.lt_of_le_of_lt hyb HSZ.out) (HM.out.kp (hk1.trans hkp)))
   have HF := hide (fun W => fields_any (bs (Lib.cut y.data.toList [59]).1) W hcs)
   clear hy hyb hcs ho hu
   go_wp2_with fail
   refine HC.out.mono ?_
   rintro e w2 ⟨rfl, hk2⟩
   go_wp2_with fail
   refine (HF.out _).mono ?_
   rw [show Lib.goFieldsP spP (bs (Lib.cut y.data.toList [59]).1) = lineW y from rfl]
   rintro e w3 ⟨v3, rfl, ho3, hk3⟩
   have hk3 := Kp.of hk3
   have hkp3 := (hkp.trans hk2).trans hk3
   have HOWS := hide (HO.out.kp (hk2.trans hk3))
   obtain ⟨A5, c5, rfl, hc5, _⟩ := ho3.rd.shape
   have HLE := hide (ho3.more (hkp.trans hk2).size)
   obtain ⟨N5, hN5⟩ : ∃ N5, N5 = (lineW y).length := ⟨_, rfl⟩
   rw [<- hN5] at HLE ⊢
   clear ho3 hc5
   have HK3 := hide hkp3
   clear hk2 hk3 hkp3 HC HF HO
   by_cases he : N5 = 0
   ·have hrs : Hid (lnT (ps.take (k + 1)) = lnT (ps.take k)) := hide (by
     rw [HT.out, if_pos (List.eq_nil_of_length_eq_zero (by omega))])
    have d1 : decide (0 < N5) = false := by simp [he]
    clear hN5 he
    go_wp2
    go_roundw
    case rel => exact ⟨k + 1, by omega, by go_num, by rw [hrs.out]; exact HOWS.out, HK3.out⟩
    case measure => simp [intOf] <;> omega
   ·have hrs : Hid (lnT (ps.take (k + 1)) = lnT (ps.take k) ++ [lineW y]) := hide (by
     rw [HT.out, if_neg (fun h => he (by rw [hN5, h]; rfl))])
    have d1 : decide (0 < N5) = true := by simp; omega
    have hln := lnT_len (ps.take k)
    rw [List.length_take] at hln
    have hpl := HPL.out
    obtain ⟨vs, hv, hvl, hin⟩ := HOWS.out
    obtain ⟨A3, c3, hu3, _, _⟩ := hv.rd.shape
    subst hu3
    have hhi3 := hv.hi
    have HV := hide hv
    have HVL := hide hvl
    have HIN := hide hin
    have HM1 : Hid ((vs.length + [(⟨.slice A5 N5 c5, slice_one A5 N5 c5⟩ : V1)].length) * 24 <= 140737488355328) := hide (by simp; omega)
    have HM2 : Hid (vs.length + [(⟨.slice A5 N5 c5, slice_one A5 N5 c5⟩ : V1)].length <= maxLen) := hide (by simp [maxLen]; omega)
    have HHI3 := hide hhi3
    clear hN5 he hv hvl hin hhi3 hln hpl
    go_wp2_with (at_builtin; (with_reducible refine list_app (B := w1.heap.size) (l := vs) (m := [(⟨.slice A5 N5 c5, slice_one A5 N5 c5⟩ : V1)]) row_strs (.slice A3 vs.length c3) ?_ (.tmp 25) (.tmp 27) ?_ ?_ ?_ ?_ HM1.out HM2.out ?_ ?_); (with_reducible rfl); (with_reducible rfl); rfl; (exact HV.out.alloc _); (show RD _ _ (.slice (some ⟨_, 0, none⟩) 1 1) _; exact RD.new1e _ (by simp) rfl); (have := HK3.out.size; simp; omega); intro v6 w6 ho6 hg6 hat6)
    go_roundw
    case rel =>
     have kka : Kp w3 (w3.alloc (.cells #[.slice A5 N5 c5] 26)) := (Kp.refl _).alloc
     have h1 := OWS.app (u := ⟨.slice A5 N5 c5, slice_one A5 N5 c5⟩) (l := lineW y) (HV.out.kp kka) HVL.out (fun k a b => (HIN.out k a b).kp kka) (by decide) (HLE.out.kp kka) ho6 hg6
     exact ⟨k + 1, by omega, by go_num, by rw [hrs.out]; exact h1, Kp.app hg6 HK3.out.alloc HHI3.out⟩
    case measure => simp [intOf] <;> omega
  ·have hkl : Hid (lnT (ps.take k) = linesF s) := hide (by rw [List.take_of_length_le (by omega), HL.out])
   clear ho hu
   go_wp2
   go_ret
   refine ⟨_, rfl, ?_, hk1.trans hkp⟩
   have h := HO.out
   rw [hkl.out] at h
   exact h.more hk1.size
def sp1 (c : UInt8) (cur : By) : By -> List By
 | [] => [cur]
 | b :: r => if b = c then cur :: sp1 c [] r else sp1 c (cur ++ [b]) r
def fw (p : UInt8 -> Bool) (cur : By) : By -> List By
 | [] => if cur = [] then [] else [cur]
 | b :: r => if p b then (if cur = [] then fw p [] r else cur :: fw p [] r) else fw p (cur ++ [b]) r
theorem sp1_none (c : UInt8) : ∀ (r cur : By), c ∉ r -> sp1 c cur r = [cur ++ r]
 | [], cur, _ => by simp [sp1]
 | b :: r, cur, h => by
  have h1 : b ≠ c := fun e => h (by simp [e])
  rw [sp1, if_neg h1, sp1_none c r _ (fun e => h (List.mem_cons_of_mem _ e)), List.append_assoc]
  rfl
theorem sp1_hit (c : UInt8) : ∀ (a cur r : By), c ∉ a -> sp1 c cur (a ++ c :: r) = (cur ++ a) :: sp1 c [] r
 | [], cur, r, _ => by simp [sp1]
 | b :: a, cur, r, h => by
  have h1 : b ≠ c := fun e => h (by simp [e])
  rw [List.cons_append, sp1, if_neg h1, sp1_hit c a _ r (fun e => h (List.mem_cons_of_mem _ e)), List.append_assoc]
  rfl
theorem index_1 (l : By) (c : UInt8) : (Lib.index l [c] = -1 /\ c ∉ l) ∨ ∃ i : Nat, Lib.index l [c] = i /\ i < l.length /\ l = l.take i ++ c :: l.drop (i + 1) /\ c ∉ l.take i := by
 rw [Lib.index_one]
 have hge := Lib.indexByte_ge l c
 by_cases h : Lib.indexByte l c = -1
 ·refine .inl ⟨h, fun hm => ?_⟩
  obtain ⟨k, hk, e⟩ := List.mem_iff_getElem.1 hm
  exact Lib.indexByte_none h k (by rw [List.getElem?_eq_getElem hk, e])
 ·obtain ⟨i, hi⟩ : ∃ i : Nat, Lib.indexByte l c = i := ⟨(Lib.indexByte l c).toNat, by omega⟩
  obtain ⟨h1, h2⟩ := Lib.indexByte_some hi
  obtain ⟨hl, e⟩ := List.getElem?_eq_some_iff.1 h1
  refine .inr ⟨i, hi, hl, ?_, fun hm => ?_⟩
  ·conv => lhs; rw [<- List.take_append_drop i l]
   rw [List.drop_eq_getElem_cons hl, e]
  ·obtain ⟨k, hk, e⟩ := List.mem_iff_getElem.1 hm
   rw [List.getElem_take] at e
   rw [List.length_take] at hk
   exact h2 k (by omega) (by rw [List.getElem?_eq_getElem (by omega), e])
theorem splitK_sp1 (c : UInt8) : ∀ (k : Nat) (l : By), l.count c <= k -> Lib.splitK [c] 0 k l = sp1 c [] l
 | 0, l, h => by
  rw [sp1_none c l [] (fun hm => by have := List.count_pos_iff.2 hm; omega)]
  rfl
 | k + 1, l, h => by
  unfold Lib.splitK
  rcases index_1 l c with ⟨h1, h2⟩ | ⟨i, h1, h2, h3, h4⟩
  ·rw [h1, if_pos (by decide), sp1_none c l [] h2]
   rfl
  ·have e1 : (Lib.index l [c] == -1) = false := by rw [h1, beq_eq_false_iff_ne]; omega
   have e2 : (Lib.index l [c]).toNat = i := by omega
   rw [e1, if_neg (by decide), e2]
   have hcnt : (l.drop (i + 1)).count c <= k := by
    rw [h3, List.count_append, List.count_cons_self] at h
    have : (l.take i).count c = 0 := List.count_eq_zero.2 h4
    have e3 : (l.take i ++ c :: l.drop (i + 1)).drop (i + 1) = l.drop (i + 1) := by rw [<- h3]
    omega
   rw [show i + ([c] : By).length = i + 1 from rfl, Nat.add_zero, splitK_sp1 c k _ hcnt]
   conv => rhs; rw [h3, sp1_hit c _ [] _ h4]
   rfl
theorem count_1 (c : UInt8) : ∀ (k : Nat) (l : By), l.length < k -> Lib.countFrom [c] k l = l.count c
 | 0, l, h => by omega
 | k + 1, l, h => by
  unfold Lib.countFrom
  rcases index_1 l c with ⟨h1, h2⟩ | ⟨i, h1, h2, h3, h4⟩
  ·rw [h1, if_pos (by decide), List.count_eq_zero.2 h2]
  ·have e1 : (Lib.index l [c] == -1) = false := by rw [h1, beq_eq_false_iff_ne]; omega
   have e2 : (Lib.index l [c]).toNat = i := by omega
   rw [e1, if_neg (by decide), e2, show i + ([c] : By).length = i + 1 from rfl, count_1 c k _ (by rw [List.length_drop]; omega)]
   conv => rhs; rw [h3, List.count_append, List.count_cons_self, List.count_eq_zero.2 h4]
   omega
theorem count_one (l : By) (c : UInt8) : Lib.count l [c] = l.count c := count_1 c _ l (Nat.lt_succ_self _)
theorem fw_sp1 (c : UInt8) : ∀ (l cur : By), (sp1 c cur l).filter (fun w => decide (w ≠ [])) = fw (fun b => decide (b = c)) cur l
 | [], cur => by
  unfold sp1 fw
  by_cases h : cur = []
  ·simp [h]
  ·simp [h]
 | b :: r, cur => by
  unfold sp1 fw
  by_cases h : b = c
  ·rw [if_pos h, if_pos (by simp [h]), List.filter_cons, fw_sp1 c r []]
   by_cases hc : cur = []
   ·simp [hc]
   ·simp [hc]
  ·rw [if_neg h, if_neg (by simp [h]), fw_sp1 c r]
def spb (b : UInt8) : Bool := decide (b = 32) || decide (b = 9)
def tab0 (b : UInt8) : UInt8 := if b = 9 then 32 else b
theorem fw_tab : ∀ (l cur : By), fw (fun b => decide (b = 32)) cur (l.map tab0) = fw spb cur l
 | [], cur => rfl
 | b :: r, cur => by
  rw [List.map_cons]
  unfold fw
  by_cases h : spb b = true
  ·have h1 : tab0 b = 32 := by
    unfold spb at h
    unfold tab0
    simp at h
    rcases h with h | h
    ·rw [if_neg (by rw [h]; decide)]; exact h
    ·rw [if_pos h]
   rw [h, h1, fw_tab r []]
   rfl
  ·have h0 : spb b = false := by simpa using h
   have h2 : b ≠ 9 /\ b ≠ 32 := by
    unfold spb at h0
    simp at h0
    exact ⟨h0.2, h0.1⟩
   have h1 : tab0 b = b := by unfold tab0; rw [if_neg h2.1]
   rw [h0, h1]
   simp [h2.2]
   exact fw_tab r _
theorem replaceK_tab : ∀ (k : Nat) (l : By), l.count 9 <= k -> Lib.replaceK [9] [32] k l = l.map tab0
 | 0, l, h => by
  have hn : (9 : UInt8) ∉ l := fun hm => by have := List.count_pos_iff.2 hm; omega
  have : l.map tab0 = l.map id := List.map_congr_left fun b hb => by
   unfold tab0
   rw [if_neg (fun e => hn (by rw [<- e]; exact hb))]; rfl
  rw [this, List.map_id]
  rfl
 | k + 1, l, h => by
  unfold Lib.replaceK
  have hno : ∀ a : By, (9 : UInt8) ∉ a -> a.map tab0 = a := fun a hn => by
   have : a.map tab0 = a.map id := List.map_congr_left fun b hb => by
    unfold tab0
    rw [if_neg (fun e => hn (by rw [<- e]; exact hb))]; rfl
   rw [this, List.map_id]
  rcases index_1 l 9 with ⟨h1, h2⟩ | ⟨i, h1, h2, h3, h4⟩
  ·rw [h1, if_pos (by decide), hno l h2]
  ·have e1 : (Lib.index l [9] == -1) = false := by rw [h1, beq_eq_false_iff_ne]; omega
   have e2 : (Lib.index l [9]).toNat = i := by omega
   rw [e1, if_neg (by decide), e2]
   have hcnt : (l.drop (i + 1)).count 9 <= k := by
    rw [h3, List.count_append, List.count_cons_self] at h
    have e3 : (l.take i ++ (9 : UInt8) :: l.drop (i + 1)).drop (i + 1) = l.drop (i + 1) := by rw [<- h3]
    omega
   rw [show i + ([9] : By).length = i + 1 from rfl, replaceK_tab k _ hcnt]
   conv => rhs; rw [h3, List.map_append, List.map_cons, hno _ h4]
   rw [List.append_assoc]
   rfl
theorem replaceAll_tab (l : By) : Lib.replaceAll l [9] [32] = l.map tab0 := by
 unfold Lib.replaceAll Lib.replace
 rw [if_neg (by decide)]
 refine replaceK_tab _ l ?_
 unfold Lib.replaceNum
 rw [if_pos (.inl (by decide)), count_one]
 exact Nat.le_refl _
theorem fw_take (p : UInt8 -> Bool) : ∀ (a cur r : By), (∀ b ∈ a, p b = false) -> fw p cur (a ++ r) = fw p (cur ++ a) r
 | [], cur, r, _ => by simp
 | b :: a, cur, r, h => by
  rw [List.cons_append, fw, h b List.mem_cons_self, if_neg (by decide), fw_take p a _ r (fun x hx => h x (List.mem_cons_of_mem _ hx)), List.append_assoc]
  rfl
theorem rune_step (s : ByteArray) (pos : Nat) (h : pos < s.data.toList.length) :
  (spP (Utf8.decode s pos).1 = true /\ (Utf8.decode s pos).2 = 1 /\ ∃ b, (s.data.toList.drop pos) = b :: s.data.toList.drop (pos + 1) /\ spb b = true) ∨
  (spP (Utf8.decode s pos).1 = false /\ 1 <= (Utf8.decode s pos).2 /\ pos + (Utf8.decode s pos).2 <= s.data.toList.length /\ ∀ b ∈ (s.data.toList.drop pos).take (Utf8.decode s pos).2, spb b = false) := by
 rw [Lib.decode_N]
 obtain ⟨L, hL⟩ : ∃ L, L = s.data.toList := ⟨_, rfl⟩
 rw [<- hL] at h ⊢
 have hd : L.drop pos = L.getD pos 0 :: L.drop (pos + 1) := by
  rw [List.drop_eq_getElem_cons h, List.getD_eq_getElem?_getD, List.getElem?_eq_getElem h]; rfl
 have hi : ∀ b : UInt8, 128 <= b.toNat -> spb b = false := fun b hb => by
  unfold spb
  rw [decide_eq_false (fun e => by rw [e] at hb; exact absurd hb (by decide)), decide_eq_false (fun e => by rw [e] at hb; exact absurd hb (by decide))]
  rfl
 have hspP : ∀ x, 128 <= x -> spP x = false := fun x hx => by
  unfold spP
  rw [decide_eq_false (by omega), decide_eq_false (by omega)]; rfl
 have hb0 := (L.getD pos 0).toNat_lt
 have take1 : (L.drop pos).take 1 = [L.getD pos 0] := by rw [hd]; rfl
 have tk : ∀ n, pos + n <= L.length -> ∀ b ∈ (L.drop pos).take n, ∃ j, j < n /\ b = L.getD (pos + j) 0 := fun n hn b hb => by
  obtain ⟨j, hj, e⟩ := List.mem_iff_getElem.1 hb
  rw [List.length_take, List.length_drop] at hj
  rw [List.getElem_take, List.getElem_drop] at e
  refine ⟨j, by omega, ?_⟩
  rw [<- e, List.getD_eq_getElem?_getD, List.getElem?_eq_getElem (by omega)]
  rfl
 rcases Lib.decodeN_shape (L.length - pos) (L.getD pos 0).toNat (L.getD (pos + 1) 0).toNat (L.getD (pos + 2) 0).toNat (L.getD (pos + 3) 0).toNat with ⟨a, e⟩ | ⟨a1, a2, a3, a4, e⟩ | ⟨a1, a2, a3, a4, a5, _, e⟩ | ⟨a1, a2, a3, a4, a5, a6, _, e⟩ | e
 ·rw [e]
  by_cases hsp : spb (L.getD pos 0) = true
  ·refine .inl ⟨?_, rfl, _, hd, hsp⟩
   unfold spb at hsp
   simp at hsp
   unfold spP
   rcases hsp with hsp | hsp
   ·have : (L.getD pos 0).toNat = 32 := by rw [List.getD_eq_getElem?_getD, hsp]; rfl
    rw [this]; rfl
   ·have : (L.getD pos 0).toNat = 9 := by rw [List.getD_eq_getElem?_getD, hsp]; rfl
    rw [this]; rfl
  ·have hsp0 : spb (L.getD pos 0) = false := by simpa using hsp
   refine .inr ⟨?_, Nat.le_refl _, by simp only; omega, fun b hb => ?_⟩
   ·unfold spb at hsp0
    simp only [Bool.or_eq_false_iff, decide_eq_false_iff_not] at hsp0
    unfold spP
    show (decide ((L.getD pos 0).toNat = 32) || decide ((L.getD pos 0).toNat = 9)) = false
    have n1 : (L.getD pos 0).toNat ≠ 32 := fun e => hsp0.1 (UInt8.toNat_inj.1 e)
    have n2 : (L.getD pos 0).toNat ≠ 9 := fun e => hsp0.2 (UInt8.toNat_inj.1 e)
    rw [decide_eq_false n1, decide_eq_false n2]
    rfl
   ·rw [take1, List.mem_singleton] at hb
    rw [hb]; exact hsp0
 ·rw [e]
  refine .inr ⟨hspP _ a4, by simp only; omega, by simp only; omega, fun b hb => ?_⟩
  obtain ⟨j, hj, rfl⟩ := tk 2 (by omega) b hb
  refine hi _ ?_
  match j, hj with
  | 0, _ => simp only [Nat.add_zero]; omega
  | 1, _ => omega
 ·rw [e]
  refine .inr ⟨hspP _ (by omega), by simp only; omega, by simp only; omega, fun b hb => ?_⟩
  obtain ⟨j, hj, rfl⟩ := tk 3 (by omega) b hb
  refine hi _ ?_
  match j, hj with
  | 0, _ => simp only [Nat.add_zero]; omega
  | 1, _ => omega
  | 2, _ => omega
 ·rw [e]
  refine .inr ⟨hspP _ (by omega), by simp only; omega, by simp only; omega, fun b hb => ?_⟩
  obtain ⟨j, hj, rfl⟩ := tk 4 (by omega) b hb
  refine hi _ ?_
  match j, hj with
  | 0, _ => simp only [Nat.add_zero]; omega
  | 1, _ => omega
  | 2, _ => omega
  | 3, _ => omega
 ·rw [e]
  refine .inr ⟨hspP _ (by decide), by simp only; omega, by simp only; omega, fun b hb => ?_⟩
  rw [take1, List.mem_singleton] at hb
  rw [hb]
  refine hi _ ?_
  refine Decidable.byContradiction fun h128 => ?_
  rw [Lib.decodeN_ascii _ _ _ _ _ (by omega)] at e
  injection e with e1 _
  omega
theorem ext_data (s : ByteArray) (a b : Nat) : (s.extract a b).data.toList = (s.data.toList.drop a).take (b - a) := by
 rw [Lib.extract_data]
theorem spans_fw (s : ByteArray) : ∀ (f pos : Nat) (st : Option Nat) (acc : List (Nat × Nat)), s.data.toList.length <= pos + f -> pos <= s.data.toList.length -> (∀ a, st = some a -> a < pos) ->
  (Lib.closeSpans s (Lib.spansFromP spP s f pos st acc)).map (fun x => (s.extract x.1 x.2).data.toList) = acc.map (fun x => (s.extract x.1 x.2).data.toList) ++ fw spb (match st with | some a => (s.data.toList.drop a).take (pos - a) | none => []) (s.data.toList.drop pos) := by
 have hsz := Lib.size_eq s
 intro f
 induction f with
 | zero =>
  intro pos st acc h1 h2 h3
  have hp : pos = s.data.toList.length := by omega
  unfold Lib.spansFromP
  rw [List.drop_of_length_le (by omega)]
  cases st with
  | none => simp [Lib.closeSpans, fw]
  | some a =>
   have := h3 a rfl
   have hne : (s.data.toList.drop a).take (pos - a) ≠ [] := fun e => by
    have := congrArg List.length e
    rw [List.length_take, List.length_drop, List.length_nil] at this
    omega
   unfold Lib.closeSpans
   simp only [List.map_append, List.map_cons, List.map_nil, fw, if_neg hne, ext_data, hsz, hp]
   rw [if_neg (by rw [<- hp]; exact hne)]
 | succ f ih =>
  intro pos st acc h1 h2 h3
  by_cases hlt : pos < s.data.toList.length
  ·have hstep := rune_step s pos hlt
   unfold Lib.spansFromP
   rw [if_pos (by omega)]
   rcases hstep with ⟨q1, q2, b, q3, q4⟩ | ⟨q1, q2, q3, q4⟩
   ·rw [q1, if_pos rfl, q2]
    cases st with
    | none =>
     simp only
     rw [ih (pos + 1) none acc (by omega) (by omega) (fun a e => by cases e), q3]
     conv => rhs; rw [fw, q4, if_pos rfl, if_pos rfl]
    | some a =>
     have ha := h3 a rfl
     have hne : (s.data.toList.drop a).take (pos - a) ≠ [] := fun e => by
      have := congrArg List.length e
      rw [List.length_take, List.length_drop, List.length_nil] at this
      omega
     simp only
     rw [ih (pos + 1) none _ (by omega) (by omega) (fun a e => by cases e), q3]
     conv => rhs; rw [fw, q4, if_pos rfl, if_neg hne]
     rw [List.map_append, List.append_assoc, List.map_cons, List.map_nil, ext_data]
     rfl
   ·rw [q1, if_neg (by decide)]
    have hsplit : s.data.toList.drop pos = (s.data.toList.drop pos).take (Utf8.decode s pos).2 ++ s.data.toList.drop (pos + (Utf8.decode s pos).2) := by
     conv => lhs; rw [<- List.take_append_drop (Utf8.decode s pos).2 (s.data.toList.drop pos)]
     rw [List.drop_drop]
    generalize Utf8.decode s pos = dec at *
    cases st with
    | none =>
     simp only
     rw [ih (pos + dec.2) (some pos) acc (by omega) q3 (fun a e => by injection e with e; omega)]
     conv => rhs; rw [hsplit, fw_take spb _ _ _ q4, List.nil_append]
     simp only
     rw [show pos + dec.2 - pos = dec.2 from by omega]
    | some a =>
     have ha := h3 a rfl
     simp only
     rw [ih (pos + dec.2) (some a) acc (by omega) q3 (fun a' e => by injection e with e; omega)]
     conv => rhs; rw [hsplit, fw_take spb _ _ _ q4]
     simp only
     congr 2
     rw [show pos + dec.2 - a = (pos - a) + dec.2 from by omega, List.take_add, List.drop_drop, show a + (pos - a) = pos from by omega]
  ·have hp : pos = s.data.toList.length := by omega
   rw [Lib.spansFromP_end _ _ _ _ _ _ (by omega)]
   rw [List.drop_of_length_le (by omega)]
   cases st with
   | none => simp [Lib.closeSpans, fw]
   | some a =>
    have := h3 a rfl
    have hne : (s.data.toList.drop a).take (pos - a) ≠ [] := fun e => by
     have := congrArg List.length e
     rw [List.length_take, List.length_drop, List.length_nil] at this
     omega
    unfold Lib.closeSpans
    simp only [List.map_append, List.map_cons, List.map_nil, fw, ext_data, hsz, hp]
    rw [if_neg (by rw [<- hp]; exact hne)]
theorem fields_fw (s : ByteArray) : (Lib.goFieldsP spP s).map (·.data.toList) = fw spb [] s.data.toList := by
 unfold Lib.goFieldsP Lib.spansOfP
 rw [List.map_map]
 have := spans_fw s s.size 0 none [] (by rw [Lib.size_eq]; omega) (by omega) (fun a e => by cases e)
 rw [List.map_nil, List.nil_append, List.drop_zero] at this
 exact this
def docW (y : ByteArray) : List ByteArray :=
 (Lib.splitB ⟨#[32]⟩ 0 (Lib.countB (bs (Lib.replaceAll (Lib.cut y.data.toList [59]).1 [9] [32])) ⟨#[32]⟩) (bs (Lib.replaceAll (Lib.cut y.data.toList [59]).1 [9] [32]))).filter fun w => decide (w ≠ ByteArray.empty)
theorem docW_line (y : ByteArray) : docW y = lineW y := by
 have inj : ∀ a b : List ByteArray, a.map (·.data.toList) = b.map (·.data.toList) -> a = b := fun a b h => by
  have := congrArg (List.map bs) h
  rw [List.map_map, List.map_map] at this
  exact (List.map_id a).symm.trans (this.trans (List.map_id b))
 refine inj _ _ ?_
 unfold lineW docW
 rw [fields_fw]
 obtain ⟨z, hz⟩ : ∃ z, z = (Lib.cut y.data.toList [59]).1 := ⟨_, rfl⟩
 rw [<- hz, replaceAll_tab, show (bs z).data.toList = z from rfl, <- fw_tab, <- fw_sp1]
 have h1 := Lib.splitB_data ⟨#[32]⟩ 0 (Lib.countB (bs (z.map tab0)) ⟨#[32]⟩) (bs (z.map tab0))
 have h2 : Lib.countB (bs (z.map tab0)) ⟨#[32]⟩ = (z.map tab0).count 32 := count_one (z.map tab0) 32
 rw [show (⟨#[32]⟩ : ByteArray).data.toList = [32] from rfl, show (bs (z.map tab0)).data.toList = z.map tab0 from rfl, splitK_sp1 32 _ _ (by rw [h2]; exact Nat.le_refl _)] at h1
 rw [<- h1, List.filter_map]
 congr 1
 refine List.filter_congr fun x _ => ?_
 show decide (x ≠ ByteArray.empty) = decide (x.data.toList ≠ [])
 refine decide_eq_decide.2 (not_congr ⟨fun e => by rw [e]; rfl, fun e => ?_⟩)
 exact ByteArray.ext (Array.toList_inj.1 e)
end Go.Proofs.YtcljlnagpjilaaaGreatDoor
namespace Go.Proofs.YtcljlnagpjilaaaGreatDoor
open Go.Shelf
def lSplitN_ren : Go.Shelf.Ren := ⟨fun | 147 => 16 | 221 => 17 | 268 => 29 | 138 => 12 | 143 => 25 | 195 => 23 | 197 => 65 | 218 => 24 | 219 => 63 | 260 => 104 | 217 => 99 | 225 => 100 | 224 => 101 | 267 => 102 | 266 => 147 | 314 => 148 | n => n, fun | 9 => 9 | 3 => 3 | 31 => 26 | 4 => 4 | 0 => 0 | 105 => 110 | 21 => 21 | 5 => 5 | 46 => 155 | 119 => 210 | 139 => 213 | 138 => 212 | 146 => 207 | 51 => 206 | n => n, fun | 1 => 0 | 3 => 1 | 4 => 2 | n => n⟩
theorem lSplitN : Go.Proofs.LaysM.n147 Tryz.prog lSplitN_ren := {
 mixed := by kernel_rfl
 f138 := Tryz.func12.trans (congrArg some (by kernel_rfl))
 f143 := Tryz.func25.trans (congrArg some (by kernel_rfl))
 f147 := Tryz.func16.trans (congrArg some (by kernel_rfl))
 f195 := Tryz.func23.trans (congrArg some (by kernel_rfl))
 f197 := Tryz.func65.trans (congrArg some (by kernel_rfl))
 f217 := Tryz.func99.trans (congrArg some (by kernel_rfl))
 f218 := Tryz.func24.trans (congrArg some (by kernel_rfl))
 f219 := Tryz.func63.trans (congrArg some (by kernel_rfl))
 f221 := Tryz.func17.trans (congrArg some (by kernel_rfl))
 f224 := Tryz.func101.trans (congrArg some (by kernel_rfl))
 f225 := Tryz.func100.trans (congrArg some (by kernel_rfl))
 f260 := Tryz.func104.trans (congrArg some (by kernel_rfl))
 f266 := Tryz.func147.trans (congrArg some (by kernel_rfl))
 f267 := Tryz.func102.trans (congrArg some (by kernel_rfl))
 f268 := Tryz.func29.trans (congrArg some (by kernel_rfl))
 f314 := Tryz.func148.trans (congrArg some (by kernel_rfl))
 t0 := Tryz.underlying0
 a0 := Tryz.isAgg0
 z0 := Tryz.sizeOf0
 v0 := Tryz.zeroValue0
 t3 := Tryz.underlying3
 a3 := Tryz.isAgg3
 z3 := Tryz.sizeOf3
 v3 := Tryz.zeroValue3
 t4 := Tryz.underlying4
 a4 := Tryz.isAgg4
 z4 := Tryz.sizeOf4
 v4 := Tryz.zeroValue4
 t5 := Tryz.underlying5
 a5 := Tryz.isAgg5
 z5 := Tryz.sizeOf5
 v5 := Tryz.zeroValue5
 t9 := Tryz.underlying9
 a9 := Tryz.isAgg9
 z9 := Tryz.sizeOf9
 v9 := Tryz.zeroValue9
 t21 := Tryz.underlying21
 a21 := Tryz.isAgg21
 z21 := Tryz.sizeOf21
 v21 := Tryz.zeroValue21
 t31 := Tryz.underlying26
 a31 := Tryz.isAgg26
 z31 := Tryz.sizeOf26
 v31 := Tryz.zeroValue26
 t46 := Tryz.underlying155
 a46 := Tryz.isAgg155
 z46 := Tryz.sizeOf155
 v46 := Tryz.zeroValue155
 t51 := Tryz.underlying206
 a51 := Tryz.isAgg206
 z51 := Tryz.sizeOf206
 v51 := Tryz.zeroValue206
 t105 := Tryz.underlying110
 a105 := Tryz.isAgg110
 z105 := Tryz.sizeOf110
 v105 := Tryz.zeroValue110
 t119 := Tryz.underlying210
 a119 := Tryz.isAgg210
 z119 := Tryz.sizeOf210
 t138 := Tryz.underlying212
 a138 := Tryz.isAgg212
 z138 := Tryz.sizeOf212
 v138 := Tryz.zeroValue212
 t139 := Tryz.underlying213
 a139 := Tryz.isAgg213
 z139 := Tryz.sizeOf213
 v139 := Tryz.zeroValue213
 t146 := Tryz.underlying207
 a146 := Tryz.isAgg207
 z146 := Tryz.sizeOf207
 v146 := Tryz.zeroValue207
 g1 := by kernel_rfl
 g3 := by kernel_rfl
 g4 := by kernel_rfl
 i0 := by kernel_rfl
 i3 := by kernel_rfl
 i4 := by kernel_rfl
 i5 := by kernel_rfl
 i9 := by kernel_rfl
 i21 := by kernel_rfl
 i31 := by kernel_rfl
 i46 := by kernel_rfl
 i51 := by kernel_rfl
 i105 := by kernel_rfl
 i138 := by kernel_rfl
 i139 := by kernel_rfl
 i146 := by kernel_rfl
 m1 := by kernel_rfl
 s1_3 := fun w h => Go.Proofs.cell_of_shapedOpen_int (zero := #[.int .i64 0]) (t := 3) h (of_decide_eq_true (by kernel_rfl)) (by kernel_rfl) rfl (by kernel_rfl) (by kernel_rfl) Tryz.underlying3
 m3 := by kernel_rfl
 m4 := by kernel_rfl }
def lReplaceAll_ren : Go.Shelf.Ren := ⟨fun | 155 => 15 | 154 => 28 | 138 => 12 | 165 => 64 | 143 => 25 | 166 => 19 | 197 => 65 | 169 => 21 | 195 => 23 | 218 => 24 | 240 => 33 | 241 => 103 | 219 => 63 | 260 => 104 | 276 => 67 | 277 => 149 | 217 => 99 | 225 => 100 | 224 => 101 | 267 => 102 | 266 => 147 | 314 => 148 | n => n, fun | 9 => 9 | 3 => 3 | 4 => 4 | 72 => 44 | 0 => 0 | 76 => 47 | 105 => 110 | 21 => 21 | 5 => 5 | 70 => 41 | 20 => 20 | 37 => 42 | 75 => 46 | 127 => 77 | 164 => 115 | 46 => 155 | 119 => 210 | 139 => 213 | 138 => 212 | 146 => 207 | 51 => 206 | 80 => 50 | n => n, fun | 1 => 0 | 3 => 1 | 4 => 2 | n => n⟩
theorem lReplaceAll : Go.Proofs.LaysM.n155 Tryz.prog lReplaceAll_ren := {
 mixed := by kernel_rfl
 f138 := Tryz.func12.trans (congrArg some (by kernel_rfl))
 f143 := Tryz.func25.trans (congrArg some (by kernel_rfl))
 f154 := Tryz.func28.trans (congrArg some (by kernel_rfl))
 f155 := Tryz.func15.trans (congrArg some (by kernel_rfl))
 f165 := Tryz.func64.trans (congrArg some (by kernel_rfl))
 f166 := Tryz.func19.trans (congrArg some (by kernel_rfl))
 f169 := Tryz.func21.trans (congrArg some (by kernel_rfl))
 f195 := Tryz.func23.trans (congrArg some (by kernel_rfl))
 f197 := Tryz.func65.trans (congrArg some (by kernel_rfl))
 f217 := Tryz.func99.trans (congrArg some (by kernel_rfl))
 f218 := Tryz.func24.trans (congrArg some (by kernel_rfl))
 f219 := Tryz.func63.trans (congrArg some (by kernel_rfl))
 f224 := Tryz.func101.trans (congrArg some (by kernel_rfl))
 f225 := Tryz.func100.trans (congrArg some (by kernel_rfl))
 f240 := Tryz.func33.trans (congrArg some (by kernel_rfl))
 f241 := Tryz.func103.trans (congrArg some (by kernel_rfl))
 f260 := Tryz.func104.trans (congrArg some (by kernel_rfl))
 f266 := Tryz.func147.trans (congrArg some (by kernel_rfl))
 f267 := Tryz.func102.trans (congrArg some (by kernel_rfl))
 f276 := Tryz.func67.trans (congrArg some (by kernel_rfl))
 f277 := Tryz.func149.trans (congrArg some (by kernel_rfl))
 f314 := Tryz.func148.trans (congrArg some (by kernel_rfl))
 t0 := Tryz.underlying0
 a0 := Tryz.isAgg0
 z0 := Tryz.sizeOf0
 v0 := Tryz.zeroValue0
 t3 := Tryz.underlying3
 a3 := Tryz.isAgg3
 z3 := Tryz.sizeOf3
 v3 := Tryz.zeroValue3
 t4 := Tryz.underlying4
 a4 := Tryz.isAgg4
 z4 := Tryz.sizeOf4
 v4 := Tryz.zeroValue4
 t5 := Tryz.underlying5
 a5 := Tryz.isAgg5
 z5 := Tryz.sizeOf5
 v5 := Tryz.zeroValue5
 t9 := Tryz.underlying9
 a9 := Tryz.isAgg9
 z9 := Tryz.sizeOf9
 v9 := Tryz.zeroValue9
 t20 := Tryz.underlying20
 a20 := Tryz.isAgg20
 z20 := Tryz.sizeOf20
 v20 := Tryz.zeroValue20
 t21 := Tryz.underlying21
 a21 := Tryz.isAgg21
 z21 := Tryz.sizeOf21
 v21 := Tryz.zeroValue21
 t37 := Tryz.underlying42
 a37 := Tryz.isAgg42
 z37 := Tryz.sizeOf42
 v37 := Tryz.zeroValue42
 t46 := Tryz.underlying155
 a46 := Tryz.isAgg155
 z46 := Tryz.sizeOf155
 v46 := Tryz.zeroValue155
 t51 := Tryz.underlying206
 a51 := Tryz.isAgg206
 z51 := Tryz.sizeOf206
 v51 := Tryz.zeroValue206
 t70 := Tryz.underlying41
 a70 := Tryz.isAgg41
 z70 := Tryz.sizeOf41
 v70 := Tryz.zeroValue41
 t72 := Tryz.underlying44
 a72 := Tryz.isAgg44
 z72 := Tryz.sizeOf44
 v72 := Tryz.zeroValue44
 t75 := Tryz.underlying46
 a75 := Tryz.isAgg46
 z75 := Tryz.sizeOf46
 v75 := Tryz.zeroValue46
 t76 := Tryz.underlying47
 a76 := Tryz.isAgg47
 z76 := Tryz.sizeOf47
 v76 := Tryz.zeroValue47
 t105 := Tryz.underlying110
 a105 := Tryz.isAgg110
 z105 := Tryz.sizeOf110
 v105 := Tryz.zeroValue110
 t119 := Tryz.underlying210
 a119 := Tryz.isAgg210
 z119 := Tryz.sizeOf210
 t127 := Tryz.underlying77
 a127 := Tryz.isAgg77
 z127 := Tryz.sizeOf77
 v127 := Tryz.zeroValue77
 t138 := Tryz.underlying212
 a138 := Tryz.isAgg212
 z138 := Tryz.sizeOf212
 v138 := Tryz.zeroValue212
 t139 := Tryz.underlying213
 a139 := Tryz.isAgg213
 z139 := Tryz.sizeOf213
 v139 := Tryz.zeroValue213
 t146 := Tryz.underlying207
 a146 := Tryz.isAgg207
 z146 := Tryz.sizeOf207
 v146 := Tryz.zeroValue207
 t164 := Tryz.underlying115
 a164 := Tryz.isAgg115
 z164 := Tryz.sizeOf115
 v164 := Tryz.zeroValue115
 g1 := by kernel_rfl
 g3 := by kernel_rfl
 g4 := by kernel_rfl
 t80 := Tryz.underlying50
 a80 := Tryz.isAgg50
 z80 := Tryz.sizeOf50
 v80 := Tryz.zeroValue50
 i0 := by kernel_rfl
 i3 := by kernel_rfl
 i4 := by kernel_rfl
 i5 := by kernel_rfl
 i9 := by kernel_rfl
 i20 := by kernel_rfl
 i21 := by kernel_rfl
 i37 := by kernel_rfl
 i46 := by kernel_rfl
 i51 := by kernel_rfl
 i70 := by kernel_rfl
 i72 := by kernel_rfl
 i75 := by kernel_rfl
 i76 := by kernel_rfl
 i80 := by kernel_rfl
 i105 := by kernel_rfl
 i127 := by kernel_rfl
 i138 := by kernel_rfl
 i139 := by kernel_rfl
 i146 := by kernel_rfl
 i164 := by kernel_rfl
 m1 := by kernel_rfl
 s1_3 := fun w h => Go.Proofs.cell_of_shapedOpen_int (zero := #[.int .i64 0]) (t := 3) h (of_decide_eq_true (by kernel_rfl)) (by kernel_rfl) rfl (by kernel_rfl) (by kernel_rfl) Tryz.underlying3
 m3 := by kernel_rfl
 m4 := by kernel_rfl }
theorem lReplaceAll_x : Builder.Extra Tryz.prog lReplaceAll_ren := {
 sizeBuilder := by kernel_rfl
 liesBuilder := by kernel_rfl
 t5 := Tryz.underlying5
 a5 := Tryz.isAgg5
 z5 := Tryz.sizeOf5
 v5 := Tryz.zeroValue5
 infoByte := by kernel_rfl
 cellsByte := by kernel_rfl
 sizeByte := by kernel_rfl
 neB5 := by decide }
end Go.Proofs.YtcljlnagpjilaaaGreatDoor
namespace Go.Proofs.YtcljlnagpjilaaaGreatDoor
open Go.ChangeShapes Go.WideShapes Go.ChangeAt Go.RowKit
theorem splitN_head (s : ByteArray) (c : UInt8) : ∃ r, Lib.splitB ⟨#[c]⟩ 0 (min 2 (s.size + 1) - 1) s = bs (Lib.cut s.data.toList [c]).1 :: r := by
 have hx : ∀ x : ByteArray, bs x.data.toList = x := fun _ => rfl
 have hi : Lib.indexB s ⟨#[c]⟩ = Lib.index s.data.toList [c] := rfl
 have hsz := Lib.size_eq s
 unfold Lib.cut
 rcases index_1 s.data.toList c with ⟨h1, h2⟩ | ⟨i, h1, h2, h3, h4⟩
 ·refine ⟨[], ?_⟩
  rw [h1, if_neg (by decide), Lib.splitB_miss _ _ _ _ (hi.trans h1)]
  rfl
 ·have e1 : min 2 (s.size + 1) - 1 = 0 + 1 := by omega
  rw [e1, Lib.splitB_hit _ _ _ _ i (hi.trans h1), h1, if_pos (by omega)]
  refine ⟨Lib.splitB ⟨#[c]⟩ 0 0 (s.extract (i + (⟨#[c]⟩ : ByteArray).size) s.size), ?_⟩
  congr 1
  rw [<- hx (s.extract 0 (i + 0)), ext_data]
  rfl
theorem splitN_any (s : ByteArray) (c : UInt8) (w : World) (hs : s.size < 4294967281) (hm : MaxL w) : Calls Tryz.prog 16 #[.string s, .string ⟨#[c]⟩, .int .i64 2] w (fun e w' =>
  ∃ (b N C : Nat), e = .returned (.slice (some ⟨b, 0, none⟩) N C) /\ 0 < N /\ N <= C /\ C <= 9223372036854775807 /\ w'.cell? ⟨b, 0, none⟩ = some (.string (bs (Lib.cut s.data.toList [c]).1)) /\ Kp w w') := by
 obtain ⟨m, hm⟩ := hm
 have h := Any.strings_SplitN { lSplitN with } (by kernel_rfl) s ⟨#[c]⟩ 2 m w hs hm (by show 1 <= 1; omega) (by omega) (by omega)
 refine Calls.mono h ?_
 rintro e w' ⟨rfl, rfl⟩
 obtain ⟨r, hr⟩ := splitN_head s c
 have hl := Lib.splitB_length_le ⟨#[c]⟩ 0 (min 2 (s.size + 1) - 1) s
 refine ⟨w.heap.size, _, _, rfl, by rw [hr]; simp, by omega, by omega, ?_, (Kp.refl w).alloc⟩
 rw [hr, cell_of_row _ _ _ _ _ (0, 0) (heap_alloc_new w _)]
 rfl
theorem replace_any (s : ByteArray) (w : World) (hs : s.size < 4294967281) (hm : MaxL w) : Calls Tryz.prog 15 #[.string s, .string ⟨#[9]⟩, .string ⟨#[32]⟩] w (RetS (Lib.replaceAll s.data.toList [9] [32]) w) := by
 obtain ⟨m, hm⟩ := hm
 have hc := Lib.countB_le ⟨#[9]⟩ (by decide) s.size s (Nat.le_refl _)
 have h := Any.strings_ReplaceAll { lReplaceAll with } lReplaceAll_x s ⟨#[9]⟩ ⟨#[32]⟩ m w hs hm (by decide) (by
  have : (⟨#[32]⟩ : ByteArray).size = 1 := rfl
  rw [this]; omega)
 refine Calls.mono h ?_
 rintro e w' ⟨rfl, hb⟩
 exact ⟨rfl, hb⟩
def DlPost (s : ByteArray) (w : World) (e : Ending) (w' : World) : Prop := ∃ v, e = .returned (.tuple #[v, .int .i64 ((linesF s).length : Int)]) /\ RDS w' eStr v (linesF s) /\ Kp w w'
def neF (ps : List ByteArray) : List ByteArray := ps.filter fun w => decide (w ≠ ByteArray.empty)
theorem neF_take (ps : List ByteArray) (k : Nat) (h : k < ps.length) : neF (ps.take (k + 1)) = if ps[k] = ByteArray.empty then neF (ps.take k) else neF (ps.take k) ++ [ps[k]] := by
 unfold neF
 rw [List.take_succ_eq_append_getElem h, List.filter_append]
 split
 ·rename_i h0; simp [h0]
 ·rename_i h0; simp [h0]
theorem neF_len (ps : List ByteArray) : (neF ps).length <= ps.length := List.length_filter_le _ _
def DlIn (ps : List ByteArray) (w : World) (ov jv : Value) (wr : World) : Prop := ∃ j : Nat, j <= ps.length /\ jv = .int .i64 j /\ OW wr w.heap.size 9 eStr ov (neF (ps.take j)) /\ Kp w wr
theorem deskLines_any (s : ByteArray) (w : World) (hs : s.size < 4294967281) (hm : MaxL w) : Calls Tryz.prog 7 #[.string s] w (DlPost s w) := by
 have HS := hide (split_any s nlB w hs (by decide) hm)
 have HM := hide hm
 obtain ⟨ps, hps⟩ : ∃ ps, Lib.splitB nlB 0 (Lib.countB s nlB) s = ps := ⟨_, rfl⟩
 have HL : Hid (linesF s = lnT ps) := hide (by rw [linesF, hps, lnT])
 have HB : Hid (∀ x ∈ ps, x.size <= s.size) := hide (by rw [<- hps]; exact splitB_le nlB 0 _ s)
 have hpl : ps.length <= s.size + 1 := by rw [<- hps, Lib.splitB_all nlB (by decide) 0 _ s rfl]; have := Lib.countB_le nlB (by decide) s.size s (Nat.le_refl _); omega
 rw [hps] at HS
 clear hps hm
 have HSZ := hide hs
 have HPL : Hid (ps.length <= 4294967282) := hide (by omega)
 clear hs hpl
 go_enter Tryz.func7, Tryz.ntmps7
 go_wp2_with fail
 refine HS.out.mono ?_
 rintro e w1 ⟨v1, rfl, hr1, hk1⟩
 obtain ⟨A, c, rfl, hc, hm⟩ := hr1.shape
 have HR := hide hr1
 clear hr1
 go_wp2
 go_loopw [4, 13] (LnRel ps w1) (fun _ i _ => ps.length - (intOf i).toNat)
 case atStart => exact ⟨0, by omega, rfl, OWS.nil, Kp.refl _⟩
 case round =>
  obtain ⟨k, hk, rfl, ho, hkp⟩ := hrel
  have HO := hide ho
  obtain ⟨u, hu⟩ : ∃ u, u = u4 := ⟨_, rfl⟩
  by_cases hlt : k < ps.length
  ·obtain ⟨b, o, rfl, _, x0⟩ := (HR.out.kp hkp).str hlt
   have HT := hide (lnT_take ps k hlt)
   obtain ⟨y, hy⟩ : ∃ y, y = ps[k] := ⟨_, rfl⟩
   have hyb := HB.out y (by rw [hy]; exact List.getElem_mem hlt)
   rw [<- hy] at x0 HT
   have hcl := cut_le y.data.toList [59]
   have hys := Lib.size_eq y
   have hs1 : (bs (Lib.cut y.data.toList [59]).1).size < 4294967281 := by rw [bs_sizeF]; have := HSZ.out; omega
   have hs2 : (bs (Lib.replaceAll (Lib.cut y.data.toList [59]).1 [9] [32])).size < 4294967281 := by rw [bs_sizeF, replaceAll_tab, List.length_map]; have := HSZ.out; omega
   have HC := hide (splitN_any y 59 wr (Nat.lt_of_le_of_lt hyb HSZ.out) (HM.out.kp (hk1.trans hkp)))
   have HF := hide (fun W (h : Kp wr W) => replace_any (bs (Lib.cut y.data.toList [59]).1) W hs1 (HM.out.kp ((hk1.trans hkp).trans h)))
   have HP := hide (fun W (h : Kp wr W) => split_any (bs (Lib.replaceAll (Lib.cut y.data.toList [59]).1 [9] [32])) ⟨#[32]⟩ W hs2 (by decide) (HM.out.kp ((hk1.trans hkp).trans h)))
   have hql : (Lib.splitB ⟨#[32]⟩ 0 (Lib.countB (bs (Lib.replaceAll (Lib.cut y.data.toList [59]).1 [9] [32])) ⟨#[32]⟩) (bs (Lib.replaceAll (Lib.cut y.data.toList [59]).1 [9] [32]))).length <= 4294967282 := by
    rw [Lib.splitB_all ⟨#[32]⟩ (by decide) 0 _ _ rfl]
    have := Lib.countB_le ⟨#[32]⟩ (by decide) _ (bs (Lib.replaceAll (Lib.cut y.data.toList [59]).1 [9] [32])) (Nat.le_refl _)
    omega
   have HD : Hid (neF (Lib.splitB ⟨#[32]⟩ 0 (Lib.countB (bs (Lib.replaceAll (Lib.cut y.data.toList [59]).1 [9] [32])) ⟨#[32]⟩) (bs (Lib.replaceAll (Lib.cut y.data.toList [59]).1 [9] [32]))) = lineW y) := hide (docW_line y)
   obtain ⟨z1, hz1⟩ : ∃ z1, z1 = (Lib.cut y.data.toList [59]).1 := ⟨_, rfl⟩
   rw [<- hz1] at HC HF HP hql HD
   obtain ⟨z2, hz2⟩ : ∃ z2, z2 = Lib.replaceAll z1 [9] [32] := ⟨_, rfl⟩
   rw [show (bs z1).data.toList = z1 from rfl, <- hz2] at HF
   rw [<- hz2] at HP hql HD
   obtain ⟨qs, hqs⟩ : ∃ qs, qs = Lib.splitB ⟨#[32]⟩ 0 (Lib.countB (bs z2) ⟨#[32]⟩) (bs z2) := ⟨_, rfl⟩
   rw [<- hqs] at HP hql HD
   have HQL := hide hql
   clear hy hyb ho hu hcl hys hs1 hs2 hql hz1 hz2 hqs
   go_wp2_with fail
   refine HC.out.mono ?_
   rintro e w2 ⟨b2, N2, C2, rfl, hN, hNC, hC2, x2, hk2⟩
   have hN0 : decide (0 < N2) = true := decide_eq_true hN
   have hNi : (0 : Int) < (N2 : Int) := by omega
   go_wp2_with fail
   refine (HF.out _ hk2).mono ?_
   rintro e w3 ⟨rfl, hk3⟩
   go_wp2_with fail
   refine (HP.out _ (hk2.trans hk3)).mono ?_
   rintro e w4 ⟨v4, rfl, hr4, hk4⟩
   obtain ⟨A4, c4, rfl, hc4, _⟩ := hr4.shape
   have HR4 := hide hr4
   have kk4 := (hk2.trans hk3).trans hk4
   have HOWS := hide (HO.out.kp kk4)
   have HK4 := hide (hkp.trans kk4)
   clear hr4 hk2 hk3 hk4 kk4 HO hkp HC HF HP hN hNC x2
   go_wp2_with fail
   go_loopw [7, 25] (DlIn qs w4) (fun _ i _ => qs.length - (intOf i).toNat)
   case atStart => exact ⟨0, by omega, rfl, OW.nil, Kp.refl _⟩
   case round =>
    obtain ⟨j, hj, rfl, ho, hkp⟩ := hrel
    have hi := ho.hi
    have HO := hide ho
    obtain ⟨u', hu'⟩ : ∃ u', u' = u7 := ⟨_, rfl⟩
    by_cases hjl : j < qs.length
    ·obtain ⟨b, o, rfl, _, y0⟩ := (HR4.out.kp hkp).str hjl
     have HT2 := hide (neF_take qs j hjl)
     obtain ⟨x, hx⟩ : ∃ x, x = qs[j] := ⟨_, rfl⟩
     rw [<- hx] at y0 HT2
     by_cases hxe : x = ByteArray.empty
     ·have hrs : Hid (neF (qs.take (j + 1)) = neF (qs.take j)) := hide (by rw [HT2.out, if_pos hxe])
      subst hxe
      clear hx ho hu'
      go_wp2
      go_roundw
      case rel => exact ⟨j + 1, by omega, by go_num, by rw [hrs.out]; exact HO.out, hkp⟩
      case measure => simp [intOf]; omega
     ·have hrs : Hid (neF (qs.take (j + 1)) = neF (qs.take j) ++ [x]) := hide (by rw [HT2.out, if_neg hxe])
      have hxl : x.toList.isEmpty = false := by
       rw [ByteArray.toList_eq]
       cases h : x.data.toList with
       | nil => exact absurd (ByteArray.ext (Array.toList_inj.1 h)) hxe
       | cons a r => rfl
      have hln := neF_len (qs.take j)
      rw [List.length_take] at hln
      have HM1 : Hid (((neF (qs.take j)).length + [x].length) * 16 <= 140737488355328) := hide (by simp; have := HQL.out; omega)
      have HM2 : Hid ((neF (qs.take j)).length + [x].length <= maxLen) := hide (by simp [maxLen]; have := HQL.out; omega)
      clear hx ho hu' hxe hln
      go_wp2_with (at_builtin; (with_reducible refine list_app (B := w4.heap.size) (l := neF (qs.take j)) (m := [x]) row_str u7 ?_ (.tmp 31) (.tmp 33) ?_ ?_ ?_ ?_ HM1.out HM2.out ?_ ?_); (with_reducible rfl); (with_reducible rfl); rfl; ((with_reducible apply OW.alloc); exact HO.out); (show RD _ _ (.slice (some ⟨_, 0, none⟩) 1 1) _; (exact RD.auto)); (have := hkp.size; simp; omega); intro v3 w3' ho3 hg3 hat3)
      go_roundw
      case rel => exact ⟨j + 1, by omega, by go_num, by rw [hrs.out]; exact ho3, Kp.app hg3 hkp.alloc hi⟩
      case measure => simp [intOf]; omega
    ·have hjk : Hid (neF (qs.take j) = lineW y) := hide (by rw [List.take_of_length_le (by omega), HD.out])
     rw [hjk.out] at HO
     have hrd3 := HO.out.rd
     obtain ⟨A5, c5, hu5, hc5, _⟩ := hrd3.shape
     subst hu5
     have HLE := hide (HO.out.more (Nat.le_trans HK4.out.size (Nat.le_refl _)))
     have HK3 := hide (HK4.out.trans hkp)
     have HOWS3 := hide (HOWS.out.kp hkp)
     obtain ⟨N5, hN5⟩ : ∃ N5, N5 = (lineW y).length := ⟨_, rfl⟩
     rw [<- hN5] at HLE ⊢
     clear hrd3 hc5 HO ho hu' hi hkp HOWS HK4
     by_cases he : N5 = 0
     ·have hrs : Hid (lnT (ps.take (k + 1)) = lnT (ps.take k)) := hide (by
       rw [HT.out, if_pos (List.eq_nil_of_length_eq_zero (by omega))])
      have d1 : decide (0 < N5) = false := by simp [he]
      clear hN5 he
      go_wp2
      go_roundw
      case rel => exact ⟨k + 1, by omega, by go_num, by rw [hrs.out]; exact HOWS3.out, HK3.out⟩
      case measure => simp [intOf] <;> omega
     ·have hrs : Hid (lnT (ps.take (k + 1)) = lnT (ps.take k) ++ [lineW y]) := hide (by
       rw [HT.out, if_neg (fun h => he (by rw [hN5, h]; rfl))])
      have d1 : decide (0 < N5) = true := by simp; omega
      have hln := lnT_len (ps.take k)
      rw [List.length_take] at hln
      have hpl := HPL.out
      obtain ⟨vs, hv, hvl, hin⟩ := HOWS3.out
      obtain ⟨A3, c3, hu3, _, _⟩ := hv.rd.shape
      subst hu3
      have hhi3 := hv.hi
      have HV := hide hv
      have HVL := hide hvl
      have HIN := hide hin
      have HM1 : Hid ((vs.length + [(⟨.slice A5 N5 c5, slice_one A5 N5 c5⟩ : V1)].length) * 24 <= 140737488355328) := hide (by simp; omega)
      have HM2 : Hid (vs.length + [(⟨.slice A5 N5 c5, slice_one A5 N5 c5⟩ : V1)].length <= maxLen) := hide (by simp [maxLen]; omega)
      have HHI3 := hide hhi3
      clear hN5 he hv hvl hin hhi3 hln hpl
      go_wp2_with (at_builtin; (with_reducible refine list_app (B := w1.heap.size) (l := vs) (m := [(⟨.slice A5 N5 c5, slice_one A5 N5 c5⟩ : V1)]) row_strs (.slice A3 vs.length c3) ?_ (.tmp 39) (.tmp 41) ?_ ?_ ?_ ?_ HM1.out HM2.out ?_ ?_); (with_reducible rfl); (with_reducible rfl); rfl; (exact HV.out.alloc _); (show RD _ _ (.slice (some ⟨_, 0, none⟩) 1 1) _; exact RD.new1e _ (by simp) rfl); (have := HK3.out.size; simp; omega); intro v6 w6 ho6 hg6 hat6)
      go_roundw
      case rel =>
       have kka := (Kp.refl wr).alloc (o := .cells #[.slice A5 N5 c5] 26)
       have h1 := OWS.app (u := ⟨.slice A5 N5 c5, slice_one A5 N5 c5⟩) (l := lineW y) (HV.out.kp kka) HVL.out (fun k a b => (HIN.out k a b).kp kka) (by decide) (HLE.out.kp kka) ho6 hg6
       exact ⟨k + 1, by omega, by go_num, by rw [hrs.out]; exact h1, Kp.app hg6 HK3.out.alloc HHI3.out⟩
      case measure => simp [intOf] <;> omega
  ·have hkl : Hid (lnT (ps.take k) = linesF s) := hide (by rw [List.take_of_length_le (by omega), HL.out])
   have HRS := HO.out
   rw [hkl.out] at HRS
   have hln := lnT_len ps
   rw [<- HL.out] at hln
   have hrds := HRS.rds (by have := HPL.out; unfold maxLen; omega)
   have HRD := hide hrds
   obtain ⟨A9, c9, hu9, _, _⟩ := hrds.shape
   subst hu9
   clear ho hu HRS hrds hln
   go_wp2
   go_ret2
   exact ⟨_, rfl, HRD.out, hk1.trans hkp⟩
theorem lStr : Lays.n169 Tryz.prog lJoin_ren := { lJoin with }
theorem bu_kd {B B' g d : Nat} {bs : List Value} {w w' : World} {cs : List Value} (h : Lib.IsBuilderF 44 5 B g bs w) (hd : BC w d 40 cs) (k : KD B' d w w') : Lib.IsBuilderF 44 5 B g bs w' := by
 have key : ∀ p, Lib.BuilderAtF 44 5 B g p bs w -> Lib.BuilderAtF 44 5 B g p bs w' := by
  rintro p ⟨h1, v, h2, h3, h4⟩
  refine ⟨h1, v, k.1 g _ h2 (fun e => ?_) (fun c fz e => ?_), ?_, h4⟩
  ·have e := Option.some.inj e
   subst e
   unfold BC at hd
   rw [h2] at hd
   injection hd with hd
   injection hd with _ e
   exact absurd e (by decide)
  ·injection e with _ e
   exact absurd e (by decide)
  ·refine ⟨h3.1, ?_⟩
   rcases h3.2 with h5 | ⟨g', cap, cur, fz, a1, a2, a3, a4⟩
   ·exact .inl h5
   ·refine .inr ⟨g', cap, cur, fz, a1, a2, k.1 g' _ a3 (fun e => ?_) (fun c fz e => ?_), a4⟩
    ·have e := Option.some.inj e
     subst e
     unfold BC at hd
     rw [a3] at hd
     injection hd with hd
     injection hd with _ e
     exact absurd e (by decide)
    ·injection e with _ e
     exact absurd e (by decide)
 exact h.elim (fun h => .inl (key _ h)) (fun h => .inr (key _ h))
theorem ds_bu {B g d : Nat} {l : List IP} {ops : List O3} {w w' : World} {x : List Value} (h : DS w B d l ops) (hg : BC w g 44 x) (k : Lib.OthersKept 5 (some g) w w') : DS w' B d l ops := by
 obtain ⟨v, u, h1, h2, h3⟩ := h
 have row : ∀ {α : Type} {e : TypeId} {E : Enc α} {v : Value} {l : List α}, e ≠ 5 -> e ≠ 44 -> OW w B e E v l -> OW w' B e E v l := by
  intro α e E v l n1 n2 h
  refine ⟨h.1, ?_⟩
  rcases h.2 with h5 | ⟨g', cap, cur, a1, a2, a3, a4⟩
  ·exact .inl h5
  ·refine .inr ⟨g', cap, cur, a1, a2, k g' _ a3 (fun e1 => ?_) (fun c fz e1 => ?_), a4⟩
   ·have e1 := Option.some.inj e1
    subst e1
    unfold BC at hg
    rw [a3] at hg
    injection hg with hg
    injection hg with _ e2
    exact n2 e2
   ·injection e1 with _ e1
    exact n1 e1
 refine ⟨v, u, k d _ h1 (fun e => ?_) (fun c fz e => ?_), row (by decide) (by decide) h2, row (by decide) (by decide) h3⟩
 ·exact h1.ne hg (by decide) (Option.some.inj e)
 ·injection e with _ e
  exact absurd e (by decide)
theorem bu_bc {B g : Nat} {bs : List Value} {w : World} (h : Lib.IsBuilderF 44 5 B g bs w) : ∃ x, BC w g 44 x := by
 rcases h with ⟨_, v, h, _⟩ | ⟨_, v, h, _⟩
 ·exact ⟨_, h⟩
 ·exact ⟨_, h⟩
def stepD (st : List IP × List O3 × By) (ws : List ByteArray) : List IP × List O3 × By := ((ansW st.1 st.2.1 ws).1, (ansW st.1 st.2.1 ws).2.1, st.2.2 ++ ((ansW st.1 st.2.1 ws).2.2 ++ [10]))
def deskSt (ls : List (List ByteArray)) : List IP × List O3 × By := ls.foldl stepD ([], [], [])
def twoB : By := [101, 114, 114, 111, 114, 32, 50, 10]
def deskRun (s : ByteArray) : By := if 8192 < s.size ∨ 100 < (linesF s).length then twoB else (deskSt (linesF s)).2.2
theorem deskSt_snoc (ls : List (List ByteArray)) (k : Nat) (h : k < ls.length) : deskSt (ls.take (k + 1)) = stepD (deskSt (ls.take k)) ls[k] := by
 unfold deskSt
 rw [List.take_succ_eq_append_getElem h, List.foldl_append]
 rfl
theorem deskSt_in (ls : List (List ByteArray)) : ∀ k, k <= ls.length -> DkIn (deskSt (ls.take k)).1 (deskSt (ls.take k)).2.1 /\ (deskSt (ls.take k)).2.1.length <= k
 | 0, _ => ⟨DkIn.start, Nat.le_refl 0⟩
 | k + 1, h => by
  obtain ⟨h1, h2⟩ := deskSt_in ls k (by omega)
  rw [deskSt_snoc ls k h]
  have := h1.line ls[k]
  exact ⟨this.1, by have := this.2; unfold stepD; simp only; omega⟩
theorem itoa_len (n : Int) (h : -9223372036854775808 <= n /\ n <= 9223372036854775807) : (Lib.itoa n).length <= 21 := Lib.itoa_length_le n h.1 h.2
theorem errB_len (e : Int) (h : -9223372036854775808 <= e /\ e <= 9223372036854775807) : (errB e).length <= 30 := by
 have := itoa_len e h
 unfold errB
 rw [List.length_append]
 have : ([101, 114, 114, 111, 114, 32] : By).length = 6 := rfl
 omega
theorem lineS_len {l : List IP} {ops : List O3} (h : LnOk l ops) {ws : List ByteArray} {s : By} (hs : lineS (l.map Prod.fst) ops ws = .ok s) : s.length <= 100000000000 := by
 have w : ∀ (x : List Int), In64 x -> x.length <= 1000000 -> (wordsF x noneB).length <= 100000000000 := fun x h1 h2 => Nat.le_trans (wordsF_len x h1 h2 noneB (by decide)) (by decide)
 have nn : (noneB : By).length <= 100000000000 := by decide
 unfold lineS at hs
 split at hs
 ·unfold rowsS at hs
  split at hs
  ·injection hs with hs
   subst hs
   split
   ·exact nn
   ·have hj := join_lenN 22000021 [124] ((rowsOf (l.map Prod.fst)).1.map (fun r => wordsF r [])) (fun x hx => by
     obtain ⟨r, hr, rfl⟩ := List.mem_map.1 hx
     exact wordsF_len r (h.rows.2 r hr).2 (h.rows.2 r hr).1 [] (by simp))
    rw [List.length_map] at hj
    have h1 := h.rows.1
    have e1 : ([124] : By).length = 1 := rfl
    rw [e1] at hj
    have := Nat.mul_le_mul_right (1 + 22000021) h1
    omega
  ·cases hs
 ·split at hs
  ·cases hs
  ·split at hs
   ·split at hs
    ·cases hs
    ·rename_i n _
     unfold pathS at hs
     split at hs
     ·injection hs with hs
      subst hs
      exact w _ (h.path n).2 (by rw [List.length_map]; exact (h.path n).1)
     ·cases hs
   ·split at hs
    ·split at hs
     ·cases hs
     ·rename_i t ht
      split at hs
      ·injection hs with hs
       subst hs
       exact w _ (h.tree _ t ht).2.1 (h.tree _ t ht).1
      ·cases hs
    ·split at hs
     ·split at hs
      ·cases hs
      ·rename_i t ht
       split at hs
       ·injection hs with hs
        subst hs
        split
        ·exact nn
        ·have := itoa_len (sumOf t).1 ((h.tree _ t ht).2.2 _ (by simp))
         omega
       ·cases hs
     ·cases hs
theorem told_len {l : List IP} {k key val : Int} {r : An} (h : In64 [r.key, r.val]) : (toldS k r).length <= 100000000000 := by
 have nn : (noneB : By).length <= 100000000000 := by decide
 have hi := itoa_len r.val (h _ (by simp))
 unfold toldS
 split
 ·split <;> decide
 ·split
  ·omega
  ·split
   ·exact nn
   ·split
    ·omega
    ·exact Nat.le_trans (wordsF_len [r.key, r.val] h (by simp) [] (by simp)) (by decide)
theorem askW_len {l : List IP} {ops : List O3} (h : LnOk l ops) {ws : List ByteArray} {x : List IP × List O3 × By} (hx : askW l ops ws = .ok x) : x.2.2.length <= 100000000000 := by
 have key : ∀ k key val, askO l ops k key val = .ok x -> x.2.2.length <= 100000000000 := fun k key val hx => by
  unfold askO at hx
  split at hx
  ·injection hx with hx
   subst hx
   exact told_len (l := l) (key := key) (val := val) (h.ask k key val)
  ·cases hx
 unfold askW at hx
 split at hx
 ·split at hx
  ·cases hx
  ·split at hx
   ·cases hx
   ·split at hx
    ·cases hx
    ·exact key _ _ _ hx
 ·split at hx
  ·cases hx
  ·split at hx
   ·cases hx
   ·exact key _ _ _ hx
theorem ansW_len {l : List IP} {ops : List O3} (h : LnOk l ops) (ws : List ByteArray) : (ansW l ops ws).2.2.length <= 100000000000 := by
 unfold ansW
 split
 ·cases hr : askW l ops ws with
  | ok x => exact askW_len h hr
  | error e =>
   have := errB_len e (askW_err h.err hr)
   simp only
   omega
 ·cases hr : lineS (l.map Prod.fst) ops ws with
  | ok s => exact lineS_len h hr
  | error e =>
   have := errB_len e (h.line ws e hr)
   simp only
   omega
theorem deskSt_len (ls : List (List ByteArray)) (hn : ls.length <= 100) : ∀ k, k <= ls.length -> (deskSt (ls.take k)).2.2.length <= k * 100000000001
 | 0, _ => by simp [deskSt]
 | k + 1, h => by
  have h1 := deskSt_len ls hn k (by omega)
  obtain ⟨h2, h3⟩ := deskSt_in ls k (by omega)
  have h4 := ansW_len (h2.ok (by omega)) ls[k]
  rw [deskSt_snoc ls k h]
  unfold stepD
  simp only [List.length_append, List.length_singleton]
  omega
theorem linesF_ne (s : ByteArray) : ∀ ws ∈ linesF s, ws ≠ [] := fun ws h => by
 have := (List.mem_filter.1 h).2
 simpa using this
theorem linesF_size (s : ByteArray) : ∀ ws ∈ linesF s, ∀ x ∈ ws, x.size <= s.size := fun ws h x hx => by
 obtain ⟨y, hy, rfl⟩ := List.mem_map.1 (List.mem_filter.1 h).1
 have h1 := splitB_le nlB 0 _ s y hy
 have h2 := cut_le y.data.toList [59]
 have h3 := Lib.size_eq y
 unfold lineW Lib.goFieldsP at hx
 obtain ⟨z, _, rfl⟩ := List.mem_map.1 hx
 rw [ByteArray.size_extract]
 have := bs_sizeF (Lib.cut y.data.toList [59]).1
 omega
theorem Kp.trans_bel {a b c d : World} (h : Kp a b) (k : Below a.heap.size b c) (m : Below a.heap.size c d) : Kp a d := Kp.of ((h.bel.trans k).trans m)
def DrRel (ls : List (List ByteArray)) (w : World) (iv : Value) (wr : World) : Prop :=
 ∃ k : Nat, k <= ls.length /\ iv = .int .i64 k /\ DS wr w.heap.size w.heap.size (deskSt (ls.take k)).1 (deskSt (ls.take k)).2.1 /\ Lib.IsBuilderF 44 5 w.heap.size (w.heap.size + 1) (Lib.byteCells (deskSt (ls.take k)).2.2) wr /\ Kp w wr
theorem deskRun_any (s : ByteArray) (w : World) (hs : s.size < 4294967281) (hm : MaxL w) (ht : T10 w) (hdb : DTb w) : Calls Tryz.prog 10 #[.string s] w (RetS (deskRun s) w) := by
 have HL := hide (lines_any s w hs hm)
 have HT := hide (And.intro ht hdb)
 clear hm ht hdb
 obtain ⟨ls, hls⟩ : ∃ ls, linesF s = ls := ⟨_, rfl⟩
 have HNE : Hid (∀ ws ∈ ls, ws ≠ []) := hide (by rw [<- hls]; exact linesF_ne s)
 have HSZ : Hid (∀ ws ∈ ls, ∀ x ∈ ws, x.size <= s.size) := hide (by rw [<- hls]; exact linesF_size s)
 unfold LnPost at HL
 rw [hls] at HL
 by_cases h1 : 8192 < s.size
 ·have H1 : Hid (deskRun s = twoB) := hide (by rw [deskRun, if_pos (.inl h1)])
  have d1 : decide ((8192 : Int) < s.size) = true := decide_eq_true (by omega)
  clear h1 hls
  go_enter Tryz.func10, Tryz.ntmps10
  go_wp2_with fail
  refine HL.out.mono ?_
  rintro e w1 ⟨v, rfl, ho, hk1⟩
  obtain ⟨vs, hvv, hvl, _⟩ := ho
  obtain ⟨A, c, rfl, _, _⟩ := hvv.rd.shape
  clear hvv
  go_wp2
  go_ret
  exact ⟨by rw [H1.out]; rfl, hk1⟩
 ·have d1 : decide ((8192 : Int) < s.size) = false := decide_eq_false (by omega)
  by_cases h2 : 100 < ls.length
  ·have H1 : Hid (deskRun s = twoB) := hide (by rw [deskRun, if_pos (.inr (by rw [hls]; exact h2))])
   have d2 : decide ((100 : Int) < ls.length) = true := decide_eq_true (by omega)
   clear h1 h2 hls
   go_enter Tryz.func10, Tryz.ntmps10
   go_wp2_with fail
   refine HL.out.mono ?_
   rintro e w1 ⟨v, rfl, ho, hk1⟩
   obtain ⟨vs, hvv, hvl, _⟩ := ho
   obtain ⟨A, c, rfl, _, _⟩ := hvv.rd.shape
   clear hvv
   rw [hvl]
   go_wp2
   go_ret
   exact ⟨by rw [H1.out]; rfl, hk1⟩
  ·have H1 : Hid (deskRun s = (deskSt ls).2.2) := hide (by rw [deskRun, hls, if_neg (by omega)])
   have d2 : decide ((100 : Int) < ls.length) = false := decide_eq_false (by omega)
   have HN : Hid (ls.length <= 100) := hide (by omega)
   clear h1 h2 hls
   go_enter Tryz.func10, Tryz.ntmps10
   go_wp2_with fail
   refine HL.out.mono ?_
   rintro e w1 ⟨v, rfl, ho, hk1⟩
   have hrds := ho.rds (by have := HN.out; unfold maxLen; omega)
   obtain ⟨A, c, rfl, _, _⟩ := hrds.shape
   have HR := hide hrds
   have HTT : Hid (TT w1.heap.size w1) := hide (TT.of (HT.out.1.kp hk1) (HT.out.2.kp hk1) (Nat.le_refl _))
   have HK1 := hide hk1
   clear ho hrds hk1
   go_wp2
   go_loopw [22] (DrRel ls w1) (fun i _ => ls.length - (intOf i).toNat)
   case atStart =>
    refine ⟨0, by omega, rfl, ⟨.slice none 0 0, .slice none 0 0, (BC.new w1 _ [.slice none 0 0, .slice none 0 0]).kp (Kp.refl _).alloc, OW.nil, OW.nil⟩, ?_, (Kp.refl w1).alloc.alloc⟩
    have hb := BC.new (w1.alloc (.cells #[.slice none 0 0, .slice none 0 0] 40)) 44 [.pointer none, .slice none 0 0]
    have hz : (w1.alloc (.cells #[.slice none 0 0, .slice none 0 0] 40)).heap.size = w1.heap.size + 1 := by simp
    rw [hz] at hb
    exact .inl ⟨by omega, .slice none 0 0, hb, ⟨rfl, .inl ⟨rfl, rfl⟩⟩, by simp [Value.ownBlock]⟩
   case round =>
    obtain ⟨k, hk, rfl, hds, hbu, hkp⟩ := hrel
    by_cases hlt : k < ls.length
    ·obtain ⟨b, o, u1, rfl, _, x0, hru⟩ := (HR.out.kp hkp).at_ hlt
     obtain ⟨hin, hol⟩ := deskSt_in ls k hk
     have hsl := deskSt_len ls HN.out k hk
     have HSN := hide (deskSt_snoc ls k hlt)
     have hne := HNE.out _ (List.getElem_mem hlt)
     have hsz := HSZ.out _ (List.getElem_mem hlt)
     obtain ⟨y, hy⟩ : ∃ y, y = ls[k] := ⟨_, rfl⟩
     rw [<- hy] at hru HSN hne hsz
     obtain ⟨⟨l, ops, out⟩, hst⟩ : ∃ st, st = deskSt (ls.take k) := ⟨_, rfl⟩
     rw [<- hst] at hds hbu hin hol hsl HSN
     dsimp only at hds hbu hin hol hsl HSN
     have hok := hin.ok (by have := HN.out; omega)
     have HA := hide (answer_any w1.heap.size w1.heap.size l ops y u1 wr hds hru hkp.size (Nat.le_refl _) (HTT.out.go hkp.bel) (fun x hx => by have := hsz x hx; omega) hne hok)
     have hal := ansW_len hok y
     obtain ⟨X, hX⟩ : ∃ X, X = ansW l ops y := ⟨_, rfl⟩
     unfold stepD at HSN
     dsimp only at HSN
     rw [<- hX] at HA hal HSN
     obtain ⟨l', ops', an⟩ := X
     dsimp only at hal HSN
     have hb6 : ¬ (9223372036854775807 < ((bs an).size : Int) + 1) := by rw [bs_size]; omega
     have HSL := hide hsl
     have HAL := hide hal
     have HDS := hide hds
     have HBU := hide hbu
     have HNN := HN.out
     clear hy hst hru hne hsz hin hol hok hsl hal hX hds hbu
     go_wp2_with fail
     refine HA.out.mono ?_
     rintro e w5 ⟨rfl, hkd, hds5⟩
     obtain ⟨v0, u0, hbd, _, _⟩ := id HDS.out
     have hbu5 := bu_kd HBU.out hbd hkd
     obtain ⟨xb, hxb⟩ := bu_bc hbu5
     have HW := hide (Any.Builder_WriteString_k lWrite lJoin_x w1.heap.size (w1.heap.size + 1) (Lib.byteCells out) (bs an ++ ⟨#[10]⟩) w5 hbu5 (by
      have e1 : (bs an ++ ⟨#[10]⟩ : ByteArray).size = an.length + 1 := by rw [ByteArray.size_append, bs_size]; rfl
      rw [e1, Lib.byteCells_length]
      have := HSL.out
      have := HAL.out
      omega) (Nat.le_trans hkp.size hkd.2.size))
     clear hbd
     go_wp2_with fail
     refine HW.out.mono ?_
     rintro e w6 ⟨rfl, hbu6, hb6', hok6⟩
     have hds6 := ds_bu hds5 hxb hok6
     have hcells : Lib.byteCells out ++ Lib.strCells (bs an ++ ⟨#[10]⟩) = Lib.byteCells (out ++ (an ++ [10])) := by
      have e1 : (bs an ++ ⟨#[10]⟩ : ByteArray) = bs (an ++ [10]) := bs_app an [10]
      rw [e1]
      unfold Lib.byteCells Lib.strCells
      rw [List.map_append]
      rfl
     rw [hcells] at hbu6
     have hkp6 : Kp w1 w6 := hkp.trans_bel hkd.2 hb6'
     clear hbu5 hxb hok6 hb6' hkd hds5 hcells HW HA HSL HAL HDS HBU
     go_wp2
     go_roundw
     case rel => exact ⟨k + 1, by omega, by go_num, by rw [HSN.out]; exact hds6, by rw [HSN.out]; exact .inr hbu6, hkp6⟩
     case measure => simp [intOf]; omega
    ·have hkl : Hid (ls.take k = ls) := hide (List.take_of_length_le (by omega))
     rw [hkl.out] at hbu hds
     have HS := hide (Any.Builder_String_any_f lStr lJoin_x w1.heap.size (w1.heap.size + 1) (deskSt ls).2.2 wr hbu hkp.size)
     clear hbu hds
     go_wp2_with fail
     refine HS.out.mono ?_
     rintro e w5 ⟨rfl, _, hb5⟩
     go_wp2
     go_ret
     exact ⟨by rw [H1.out]; rfl, HK1.out.trans (hkp.trans_bel hb5 (Below.refl _ _))⟩
end Go.Proofs.YtcljlnagpjilaaaGreatDoor
namespace Go.Proofs.YtcljlnagpjilaaaGreatDoor
open Go.ChangeShapes Go.WideShapes Go.ChangeAt Go.RowKit Go.Deep
def DkLaid : List (String × DataW Unit) := [("math/bits.deBruijn32tab", Rows.laid_math_bits_deBruijn32tab), ("math/bits.deBruijn64tab", Rows.laid_math_bits_deBruijn64tab), ("internal/strconv.uint64pow10", Rows.laid_internal_strconv_uint64pow10), ("unicode/utf8.acceptRanges", Rows.laid_unicode_utf8_acceptRanges), ("strconv.ErrRange", Rows.laid_strconv_ErrRange), ("strconv.ErrSyntax", Rows.laid_strconv_ErrSyntax), ("unicode/utf8.first", Rows.laid_unicode_utf8_first)]
theorem gDb : Tryz.prog.globalNamed "math/bits.deBruijn64tab" = some 6 := by kernel_rfl
theorem gDbType : (Tryz.prog.globals[6]?).map (·.type) = some 280 := by kernel_rfl
theorem gPwType : (Tryz.prog.globals[3]?).map (·.type) = some 261 := by kernel_rfl
theorem cellsPw : Tryz.prog.cellsOf 261 = 20 := by kernel_rfl
theorem cellsU64 : Tryz.prog.cellsOf 202 = 1 := by kernel_rfl
theorem cellsTab : Tryz.prog.cellsOf 280 = 64 := by kernel_rfl
theorem cellsU8 : Tryz.prog.cellsOf 5 = 1 := by kernel_rfl
theorem desk_laid {W : World} (h : laidMetH Tryz.prog DkLaid W) : laidMet Tryz.prog DkLaid W := h
theorem desk_db {W : World} (h : laidMetH Tryz.prog DkLaid W) : DTb W := by
 have h1 : laidMet Tryz.prog (("math/bits.deBruijn64tab", Lib.tabData .u8 dbTab) :: DkLaid.tail.tail) W := (desk_laid h).tail
 have hT := Lib.tabIs_of_head gDb gDbType Tryz.underlying280 Tryz.underlying5 cellsU8 cellsTab h1
 intro i hi
 exact hT.cell gDb i (by simpa [dbTab] using hi)
theorem desk_t10 {W : World} (h : laidMetH Tryz.prog DkLaid W) : T10 W := by
 have h1 : laidMet Tryz.prog (("internal/strconv.uint64pow10", Lib.tabData .u64 Lib.pow10Tab) :: DkLaid.tail.tail.tail) W := (desk_laid h).tail.tail
 exact Lib.tabIs_of_head gT10 gPwType Tryz.underlying261 Tryz.underlying202 cellsU64 cellsPw h1
theorem desk_maxL {W : World} (h : W.ShapedOpen Tryz.prog) : MaxL W :=
 Go.Proofs.cell_of_shapedOpen_int (zero := #[.int .i64 0]) (t := 3) h (of_decide_eq_true (by kernel_rfl)) (by kernel_rfl) rfl (by kernel_rfl) (by kernel_rfl) Tryz.underlying3
noncomputable abbrev dkLow : Nat := (World.holding Tryz.prog default ⟨#[], #[], []⟩).heap.size
noncomputable def deskWorld (os : Os) : World :=
 let w0 := World.holding Tryz.prog os ⟨#[.cells #[.string ⟨#[118, 97, 108, 117, 101, 32, 111, 117, 116, 32, 111, 102, 32, 114, 97, 110, 103, 101]⟩] 279, .cells #[.string ⟨#[105, 110, 118, 97, 108, 105, 100, 32, 115, 121, 110, 116, 97, 120]⟩] 279], #[], []⟩
 let put (h : Array Obj) (g : Nat) (cs : Array Value) : Array Obj := h.modify g fun
  | .cells _ t frozen => .cells cs t frozen
  | o => o
 let h0 := put (put w0.heap 5 #[.iface 277 (.pointer (some ⟨dkLow, 0, none⟩))]) 4 #[.iface 277 (.pointer (some ⟨dkLow + 1, 0, none⟩))]
 let h1 := put (put (put h0 3 (Lib.pow10Tab.map fun z => Value.int .u64 z).toArray) 6 (dbTab.map fun z => Value.int .u8 z).toArray) 1 (Pinned.utf8FirstZ.map fun (z : Nat) => Value.int .u8 (z : Int)).toArray
 let h2 := put (put h1 2 (([128, 191, 160, 191, 128, 159, 144, 191, 128, 143, 0, 0, 0, 0, 0, 0, 0, 0, 0, 0, 0, 0, 0, 0, 0, 0, 0, 0, 0, 0, 0, 0] : List Int).map fun z => Value.int .u8 z).toArray) 7 (([0, 1, 28, 2, 29, 14, 24, 3, 30, 22, 20, 15, 25, 17, 4, 8, 31, 27, 13, 23, 21, 19, 16, 7, 26, 12, 18, 6, 11, 5, 10, 9] : List Int).map fun z => Value.int .u8 z).toArray
 { w0 with heap := h2 }
theorem desk_met (os : Os) (args : Array Value) : laidMetH Tryz.prog DkLaid ((deskWorld os).forCall (fun _ _ => 0) ⟨#[], args, []⟩).memory := by
 have h : laidMet Tryz.prog DkLaid ((deskWorld os).forCall (fun _ _ => 0) ⟨#[], args, []⟩).memory := laidMet_of_run' 10 (by kernel_rfl) (by kernel_rfl)
 exact h
theorem string_bulk {H : Type} (bytes : List UInt8) : Rows.uptoBulk (DataW.lit (H := H) (.string bytes)) = bytes.length + 1 := by simp [Rows.uptoBulk]
end Go.Proofs.YtcljlnagpjilaaaGreatDoor
namespace Go.Proofs.YtcljlnagpjilaaaGreatDoor
open Go.ChangeShapes Go.WideShapes Go.ChangeAt Go.RowKit
def liveT : ByteArray := ⟨#[112, 117, 116, 32, 50, 32, 50, 48, 32, 59, 32, 115, 111, 10, 112, 117, 116, 32, 49, 32, 49, 48, 10, 112, 117, 116, 32, 51, 32, 51, 48, 10, 110, 101, 120, 116, 32, 49, 10, 32, 102, 114, 111, 98, 10, 116, 114, 101, 101, 32, 103, 114, 111, 119, 10, 100, 101, 101, 112, 32, 101, 118, 101, 110, 10, 99, 117, 116, 32, 50, 10, 116, 114, 101, 101, 32, 103, 114, 111, 119, 10]⟩
def liveA : By := [110, 101, 119, 10, 110, 101, 119, 10, 110, 101, 119, 10, 50, 32, 50, 48, 10, 101, 114, 114, 111, 114, 32, 49, 10, 50, 32, 49, 32, 51, 10, 49, 10, 50, 48, 10, 51, 32, 49, 10]
theorem live_run : deskRun liveT = liveA := by decide +kernel
theorem deskLives_any (w : World) (hm : MaxL w) (ht : T10 w) (hdb : DTb w) : Calls Tryz.prog 8 #[] w (Ret (.bool true) w) := by
 have HR := hide (deskRun_any liveT w (by decide) hm ht hdb)
 rw [live_run] at HR
 clear hm ht hdb
 go_enter Tryz.func8, Tryz.ntmps8
 go_wp2_with fail
 refine HR.out.mono ?_
 rintro e w1 ⟨rfl, kk1⟩
 go_wp2
 go_ret
 exact ⟨by kernel_rfl, kk1.bel⟩
theorem sp1_mid (c : UInt8) (b : By) : ∀ (a cur : By), sp1 c cur (a ++ c :: b) = sp1 c cur a ++ sp1 c [] b
 | [], cur => by simp [sp1]
 | x :: a, cur => by
  rw [List.cons_append, sp1, sp1]
  split
  ·rw [sp1_mid c b a []]; rfl
  ·exact sp1_mid c b a _
def lnF (ys : List By) : List (List ByteArray) := ((ys.map bs).map lineW).filter fun w => decide (w ≠ [])
theorem linesF_sp (s : ByteArray) : linesF s = lnF (sp1 10 [] s.data.toList) := by
 have h1 := Lib.splitB_data nlB 0 (Lib.countB s nlB) s
 have h2 : Lib.countB s nlB = s.data.toList.count 10 := count_one s.data.toList 10
 rw [show nlB.data.toList = [10] from rfl, splitK_sp1 10 _ _ (by rw [h2]; exact Nat.le_refl _)] at h1
 have h3 : (sp1 10 [] s.data.toList).map bs = Lib.splitB nlB 0 (Lib.countB s nlB) s := by
  rw [<- h1, List.map_map]
  exact List.map_id _
 unfold linesF lnF
 rw [h3]
theorem lnF_app (a b : List By) : lnF (a ++ b) = lnF a ++ lnF b := by simp [lnF]
def NoNl (l : By) : Prop := ∀ b ∈ l, b ≠ 10
theorem NoNl.app {a b : By} (h : NoNl a) (k : NoNl b) : NoNl (a ++ b) := fun x hx => (List.mem_append.1 hx).elim (h x) (k x)
theorem dg_no (b : Nat) (h : b < 10) : UInt8.ofNat (48 + b) ≠ 10 := by
 intro e
 have := congrArg UInt8.toNat e
 rw [UInt8.toNat_ofNat'] at this
 have h2 : (10 : UInt8).toNat = 10 := rfl
 omega
theorem decDigits_no : ∀ (N u : Nat), u <= N -> NoNl (Lib.decDigits u)
 | 0, u, h => by
  obtain rfl : u = 0 := by omega
  rw [Lib.decDigits_one (by omega)]
  intro b hb
  obtain rfl := List.mem_singleton.1 hb
  exact dg_no 0 (by omega)
 | N + 1, u, h => by
  by_cases h1 : u < 10
  ·rw [Lib.decDigits_one h1]
   intro b hb
   obtain rfl := List.mem_singleton.1 hb
   exact dg_no u h1
  ·rw [Lib.decDigits, dif_neg h1]
   refine (decDigits_no N (u / 10) (by omega)).app fun b hb => ?_
   obtain rfl := List.mem_singleton.1 hb
   exact dg_no _ (by omega)
theorem itoa_no (n : Int) : NoNl (Lib.itoa n) := by
 unfold Lib.itoa
 split
 ·intro b hb
  rcases List.mem_cons.1 hb with rfl | hb
  ·decide
  ·exact decDigits_no _ _ (Nat.le_refl _) b hb
 ·exact decDigits_no _ _ (Nat.le_refl _)
theorem joinTail_no (sep : By) (hs : NoNl sep) : ∀ r : List By, (∀ x ∈ r, NoNl x) -> NoNl (Lib.joinTail sep r)
 | [], _ => by intro b hb; simp [Lib.joinTail] at hb
 | x :: r, h => by
  have h3 : Lib.joinTail sep (x :: r) = (sep ++ x) ++ Lib.joinTail sep r := by simp [Lib.joinTail]
  rw [h3]
  exact (hs.app (h x List.mem_cons_self)).app (joinTail_no sep hs r fun y hy => h y (List.mem_cons_of_mem _ hy))
theorem join_no (sep : By) (hs : NoNl sep) : ∀ r : List By, (∀ x ∈ r, NoNl x) -> NoNl (Lib.join r sep)
 | [], _ => by intro b hb; simp [Lib.join] at hb
 | x :: r, h => by
  rw [Lib.join_cons]
  exact (h x List.mem_cons_self).app (joinTail_no sep hs r fun y hy => h y (List.mem_cons_of_mem _ hy))
theorem wordsF_no (l : List Int) (n : By) (hn : NoNl n) : NoNl (wordsF l n) := by
 unfold wordsF
 split
 ·exact hn
 ·refine join_no _ (by intro b hb; revert b; decide) _ fun x hx => ?_
  obtain ⟨y, _, rfl⟩ := List.mem_map.1 hx
  exact itoa_no y
theorem nil_no : NoNl [] := fun b hb => by cases hb
theorem noneB_no : NoNl noneB := by intro b hb; revert b; decide
theorem errB_no (k : Int) : NoNl (errB k) := NoNl.app (by intro b hb; revert b; decide) (itoa_no k)
theorem toldS_no (k : Int) (a : An) : NoNl (toldS k a) := by
 unfold toldS
 split
 ·split <;> (intro b hb; revert b; decide)
 ·split
  ·exact itoa_no _
  ·split
   ·exact noneB_no
   ·split
    ·exact itoa_no _
    ·exact wordsF_no _ _ nil_no
theorem askO_no {l : List IP} {ops : List O3} {k key val : Int} {x : List IP × List O3 × By} (h : askO l ops k key val = .ok x) : NoNl x.2.2 := by
 unfold askO at h
 split at h
 ·cases h; exact toldS_no _ _
 ·cases h
theorem askW_no {l : List IP} {ops : List O3} {ws : List ByteArray} {x : List IP × List O3 × By} (h : askW l ops ws = .ok x) : NoNl x.2.2 := by
 unfold askW at h
 repeat' (first | exact askO_no h | cases h; done | split at h)
theorem lineS_no {ks : List Int} {ops : List O3} {ws : List ByteArray} {x : By} (h : lineS ks ops ws = .ok x) : NoNl x := by
 unfold lineS at h
 split at h
 ·unfold rowsS at h
  split at h
  ·cases h
   split
   ·exact noneB_no
   ·refine join_no _ (by intro b hb; revert b; decide) _ fun y hy => ?_
    obtain ⟨r, _, rfl⟩ := List.mem_map.1 hy
    exact wordsF_no _ _ nil_no
  ·cases h
 ·split at h
  ·cases h
  ·split at h
   ·split at h
    ·cases h
    ·unfold pathS at h
     split at h
     ·cases h; exact wordsF_no _ _ noneB_no
     ·cases h
   ·split at h
    ·split at h
     ·cases h
     ·split at h
      ·cases h; exact wordsF_no _ _ noneB_no
      ·cases h
    ·split at h
     ·split at h
      ·cases h
      ·split at h
       ·cases h
        split
        ·exact noneB_no
        ·exact itoa_no _
       ·cases h
     ·cases h
theorem ansW_no (l : List IP) (ops : List O3) (ws : List ByteArray) : NoNl (ansW l ops ws).2.2 := by
 unfold ansW
 split
 ·cases h : askW l ops ws with
  | ok x => exact askW_no h
  | error e => exact errB_no e
 ·cases h : lineS (l.map Prod.fst) ops ws with
  | ok x => exact lineS_no h
  | error e => exact errB_no e
theorem NoNl.count {l : By} (h : NoNl l) : l.count 10 = 0 := List.count_eq_zero.2 fun hm => h 10 hm rfl
theorem deskSt_count (ls : List (List ByteArray)) : ∀ k, k <= ls.length -> (deskSt (ls.take k)).2.2.count 10 = k /\ ((deskSt (ls.take k)).2.2 = [] ∨ ∃ l, (deskSt (ls.take k)).2.2 = l ++ [10])
 | 0, _ => ⟨rfl, .inl rfl⟩
 | k + 1, h => by
  obtain ⟨h1, h2⟩ := deskSt_count ls k (by omega)
  rw [deskSt_snoc ls k h]
  unfold stepD
  refine ⟨?_, .inr ⟨_, (List.append_assoc _ _ _).symm⟩⟩
  simp only [List.count_append, h1, (ansW_no _ _ _).count]
  rfl
def endT : By := [10, 116, 114, 101, 101, 32, 122, 105, 112, 10, 114, 111, 119, 115, 10]
def tzL : List ByteArray := [bs treeB, bs zipB]
def rwL : List ByteArray := [bs rowsB]
theorem end_lines : lnF (sp1 10 [] endT.tail) = [tzL, rwL] := by decide +kernel
theorem linesF_end (s : ByteArray) : linesF (s ++ bs endT) = linesF s ++ [tzL, rwL] := by
 have e : (s ++ bs endT).data.toList = s.data.toList ++ 10 :: endT.tail := by simp [endT, bs]
 rw [linesF_sp, linesF_sp, e, sp1_mid, lnF_app, end_lines]
def tzW (ks : List Int) : By := wordsF (told1 (heapTree (ks.map zk))) noneB
def rwW (ks : List Int) : By := match rowsS ks with | .ok s => s | .error e => errB e
theorem tz_ans {l : List IP} {ops : List O3} (h : DkIn l ops) (hn : ops.length <= 300) : ansW l ops tzL = (l, ops, tzW (l.map Prod.fst)) := by
 have hk : kOf tzL = 0 := by decide +kernel
 have h0 : wAt tzL 0 = treeB := rfl
 have h1 : wAt tzL 1 = zipB := rfl
 have h2 : refT (l.map Prod.fst) ops (wAt tzL 1) = some (heapTree ((l.map Prod.fst).map zk)) := by rw [h1]; rfl
 have h3 := line_tree (ws := tzL) (link_some h hn h2) (by decide) h0
 rw [ansW, if_neg (by rw [hk]; decide), h3]
 rfl
theorem rw_ans (l : List IP) (ops : List O3) : ansW l ops rwL = (l, ops, rwW (l.map Prod.fst)) := by
 have hk : kOf rwL = 0 := by decide +kernel
 have h3 : lineS (l.map Prod.fst) ops rwL = rowsS (l.map Prod.fst) := by rw [lineS, if_pos ⟨rfl, rfl⟩]
 rw [ansW, if_neg (by rw [hk]; decide), h3]
 rfl
theorem deskRun_end (s : ByteArray) (hs : s.size <= 8000) (hn : (linesF s).length <= 90) :
  deskRun (s ++ bs endT) = (deskSt (linesF s)).2.2 ++ (tzW ((deskSt (linesF s)).1.map Prod.fst) ++ 10 :: (rwW ((deskSt (linesF s)).1.map Prod.fst) ++ [10])) := by
 have hz : (s ++ bs endT).size = s.size + 15 := ByteArray.size_append
 have hi := deskSt_in (linesF s) (linesF s).length (Nat.le_refl _)
 rw [List.take_length] at hi
 rw [deskRun, if_neg (by rw [linesF_end, List.length_append]; simp only [List.length_cons, List.length_nil]; omega), linesF_end]
 have e : deskSt (linesF s ++ [tzL, rwL]) = stepD (stepD (deskSt (linesF s)) tzL) rwL := by unfold deskSt; rw [List.foldl_append]; rfl
 rw [e]
 obtain ⟨⟨l, ops, out⟩, hst⟩ : ∃ x, x = deskSt (linesF s) := ⟨_, rfl⟩
 rw [<- hst] at hi ⊢
 dsimp only at hi ⊢
 have h1 := tz_ans hi.1 (by omega)
 unfold stepD
 simp only [h1, rw_ans]
 simp
theorem sp1_front {P : By} (h : P = [] ∨ ∃ l, P = l ++ [10]) (m : By) : ∃ X, sp1 10 [] (P ++ m) = X ++ sp1 10 [] m := by
 rcases h with rfl | ⟨l, rfl⟩
 ·exact ⟨[], rfl⟩
 ·exact ⟨sp1 10 [] l, by rw [List.append_assoc, List.singleton_append, sp1_mid]⟩
theorem tzW_no (ks : List Int) : NoNl (tzW ks) := wordsF_no _ _ noneB_no
theorem rwW_no (ks : List Int) : NoNl (rwW ks) := by
 unfold rwW
 split
 ·rename_i s h
  exact lineS_no (ks := ks) (ops := []) (ws := rwL) (by rw [lineS, if_pos ⟨rfl, rfl⟩]; exact h)
 ·exact errB_no _
theorem split_end (s : ByteArray) (hs : s.size <= 8000) (hn : (linesF s).length <= 90) :
  ∃ X, sp1 10 [] (deskRun (s ++ bs endT)) = X ++ [tzW ((deskSt (linesF s)).1.map Prod.fst), rwW ((deskSt (linesF s)).1.map Prod.fst), []] := by
 have h := deskSt_count (linesF s) (linesF s).length (Nat.le_refl _)
 rw [List.take_length] at h
 obtain ⟨X, hX⟩ := sp1_front h.2 (tzW ((deskSt (linesF s)).1.map Prod.fst) ++ 10 :: (rwW ((deskSt (linesF s)).1.map Prod.fst) ++ [10]))
 refine ⟨X, ?_⟩
 rw [deskRun_end s hs hn, hX, sp1_hit 10 _ _ _ (fun hm => tzW_no _ 10 hm rfl), sp1_hit 10 _ _ _ (fun hm => rwW_no _ 10 hm rfl)]
 rfl
theorem dig_of (b : Nat) (h : b < 10) : dig (UInt8.ofNat (48 + b)) = true /\ (UInt8.ofNat (48 + b)).toNat - 48 = b := by
 have e : (UInt8.ofNat (48 + b)).toNat = 48 + b := by rw [UInt8.toNat_ofNat']; omega
 refine ⟨?_, by omega⟩
 unfold dig
 rw [e]
 exact decide_eq_true (by omega)
theorem dec_dig : ∀ (N u : Nat), u <= N -> (Lib.decDigits u).all dig = true /\ decV 0 (Lib.decDigits u) = u /\ 1 <= (Lib.decDigits u).length
 | 0, u, h => by
  obtain rfl : u = 0 := by omega
  rw [Lib.decDigits_one (by omega)]
  decide
 | N + 1, u, h => by
  by_cases h1 : u < 10
  ·rw [Lib.decDigits_one h1]
   obtain ⟨h2, h3⟩ := dig_of u h1
   refine ⟨by rw [List.all_cons, h2]; rfl, ?_, by simp⟩
   rw [decV_cons, decV_nil, h3]
   omega
  ·rw [Lib.decDigits, dif_neg h1]
   obtain ⟨i1, i2, i3⟩ := dec_dig N (u / 10) (by omega)
   obtain ⟨h2, h3⟩ := dig_of (u % 10) (by omega)
   refine ⟨by rw [List.all_append, i1, List.all_cons, h2]; rfl, ?_, by simp⟩
   rw [decV_snoc, i2, h3]
   omega
theorem numF_itoa {k : Int} (h0 : 0 <= k) (h1 : k <= 1000000) : numF (Lib.itoa k) = some k := by
 obtain ⟨u, rfl⟩ : ∃ u : Nat, k = u := ⟨k.toNat, by omega⟩
 rw [Lib.itoa, if_neg (by omega), Int.toNat_natCast, numF]
 obtain ⟨i1, i2, i3⟩ := dec_dig u u (Nat.le_refl _)
 rw [if_pos ⟨i3, nDig_le 7 u (by omega) (by omega), i1⟩, i2]
theorem itoa_digs {k : Int} (h0 : 0 <= k) : (Lib.itoa k).all dig = true /\ Lib.itoa k ≠ [] := by
 obtain ⟨u, rfl⟩ : ∃ u : Nat, k = u := ⟨k.toNat, by omega⟩
 rw [Lib.itoa, if_neg (by omega), Int.toNat_natCast]
 obtain ⟨i1, i2, i3⟩ := dec_dig u u (Nat.le_refl _)
 exact ⟨i1, fun e => by rw [e] at i3; simp at i3⟩
theorem dig_ne {b : UInt8} (h : dig b = true) : spb b = false /\ b ≠ 59 /\ b ≠ 10 /\ b ≠ 32 := by
 have h1 : 48 <= b.toNat /\ b.toNat <= 57 := of_decide_eq_true h
 have n1 : b ≠ 59 := fun e => by rw [e] at h1; revert h1; decide
 have n2 : b ≠ 10 := fun e => by rw [e] at h1; revert h1; decide
 have n3 : b ≠ 32 := fun e => by rw [e] at h1; revert h1; decide
 have n4 : b ≠ 9 := fun e => by rw [e] at h1; revert h1; decide
 exact ⟨by simp [spb, n3, n4], n1, n2, n3⟩
theorem fw_word (p : UInt8 -> Bool) : ∀ (a cur r : By), (∀ b ∈ a, p b = false) -> fw p cur (a ++ r) = fw p (cur ++ a) r
 | [], cur, r, _ => by simp
 | x :: a, cur, r, h => by
  rw [List.cons_append, fw, if_neg (by rw [h x List.mem_cons_self]; decide), fw_word p a _ r fun b hb => h b (List.mem_cons_of_mem _ hb), List.append_assoc]
  rfl
def putT : By := [112, 117, 116]
def putN (k : Int) : By := [112, 117, 116, 32] ++ Lib.itoa k ++ [32, 48, 10]
def putW (k : Int) : List ByteArray := [bs putT, bs (Lib.itoa k), bs [48]]
theorem by_inj {a b : List ByteArray} (h : a.map (·.data.toList) = b.map (·.data.toList)) : a = b := by
 have := congrArg (List.map bs) h
 rw [List.map_map, List.map_map] at this
 exact (List.map_id a).symm.trans (this.trans (List.map_id b))
theorem lineW_put {k : Int} (h0 : 0 <= k) : lineW (bs ([112, 117, 116, 32] ++ Lib.itoa k ++ [32, 48])) = putW k := by
 obtain ⟨hd, hne⟩ := itoa_digs h0
 have hd' : ∀ b ∈ Lib.itoa k, dig b = true := List.all_eq_true.1 hd
 have hcut : (Lib.cut (bs ([112, 117, 116, 32] ++ Lib.itoa k ++ [32, 48])).data.toList [59]).1 = [112, 117, 116, 32] ++ Lib.itoa k ++ [32, 48] := by
  show (Lib.cut ([112, 117, 116, 32] ++ Lib.itoa k ++ [32, 48]) [59]).1 = _
  unfold Lib.cut
  rcases index_1 ([112, 117, 116, 32] ++ Lib.itoa k ++ [32, 48]) 59 with ⟨h1, h2⟩ | ⟨i, h1, h2, h3, h4⟩
  ·rw [h1, if_neg (by decide)]
  ·exfalso
   have hm : (59 : UInt8) ∈ [112, 117, 116, 32] ++ Lib.itoa k ++ [32, 48] := by rw [h3]; simp
   simp only [List.mem_append] at hm
   rcases hm with (hm | hm) | hm
   ·revert hm; decide
   ·exact (dig_ne (hd' _ hm)).2.1 rfl
   ·revert hm; decide
 refine by_inj ?_
 unfold lineW
 rw [fields_fw, hcut]
 show fw spb [] ([112, 117, 116, 32] ++ Lib.itoa k ++ [32, 48]) = [putT, Lib.itoa k, [48]]
 rw [List.append_assoc]
 have e1 : fw spb [] ([112, 117, 116, 32] ++ (Lib.itoa k ++ [32, 48])) = putT :: fw spb [] (Lib.itoa k ++ [32, 48]) := rfl
 rw [e1, fw_word spb _ _ _ fun b hb => (dig_ne (hd' b hb)).1]
 have e2 : fw spb ([] ++ Lib.itoa k) [32, 48] = Lib.itoa k :: [[48]] := by
  rw [List.nil_append]
  unfold fw
  rw [if_pos (by decide), if_neg hne]
  rfl
 rw [e2]
theorem linesF_put {k : Int} (h0 : 0 <= k) (r : By) : linesF (bs (putN k ++ r)) = putW k :: linesF (bs r) := by
 obtain ⟨hd, hne⟩ := itoa_digs h0
 have hd' : ∀ b ∈ Lib.itoa k, dig b = true := List.all_eq_true.1 hd
 have e : putN k ++ r = ([112, 117, 116, 32] ++ Lib.itoa k ++ [32, 48]) ++ 10 :: r := by simp [putN]
 have hn : (10 : UInt8) ∉ [112, 117, 116, 32] ++ Lib.itoa k ++ [32, 48] := fun hm => by
  simp only [List.mem_append] at hm
  rcases hm with (hm | hm) | hm
  ·revert hm; decide
  ·exact (dig_ne (hd' _ hm)).2.2.1 rfl
  ·revert hm; decide
 rw [linesF_sp, linesF_sp]
 show lnF (sp1 10 [] (putN k ++ r)) = putW k :: lnF (sp1 10 [] r)
 rw [e, sp1_hit 10 _ _ _ hn, List.nil_append]
 show ((lineW (bs ([112, 117, 116, 32] ++ Lib.itoa k ++ [32, 48])) :: ((sp1 10 [] r).map bs).map lineW).filter fun w => decide (w ≠ [])) = _
 rw [lineW_put h0, List.filter_cons_of_pos (by simp [putW])]
 rfl
def anewT (K : List Int) : By := K.foldl (fun acc k => putN k ++ acc) []
theorem anew_lines (K : List Int) (h : ∀ k ∈ K, 0 <= k) : ∀ acc, linesF (bs (K.foldl (fun acc k => putN k ++ acc) acc)) = K.reverse.map putW ++ linesF (bs acc) := by
 induction K with
 | nil => intro acc; rfl
 | cons k K ih =>
  intro acc
  rw [List.foldl_cons, ih (fun x hx => h x (List.mem_cons_of_mem _ hx)), linesF_put (h k List.mem_cons_self)]
  simp
end Go.Proofs.YtcljlnagpjilaaaGreatDoor
