/-
  strconv.Itoa and desk.words: what they answer
  desk.keys: what it answers
-/
import Derived.Test.YtcljlnagpjilaaaGreatDoorG2
import Derived.Test.YtcljlnagpjilaaaGreatDoorG3
import Derived.Lib.AppendIntMem
import Derived.Lib.ItoaLen

set_option linter.unusedVariables false
set_option linter.unusedSimpArgs false
set_option maxRecDepth 100000
set_option maxHeartbeats 8000000
namespace Go.Proofs.YtcljlnagpjilaaaGreatDoor
open Go.ChangeShapes Go.WideShapes Go.ChangeAt Go.RowKit
def T10 (w : World) : Prop := Lib.TabIs Tryz.prog w "internal/strconv.uint64pow10" .u64 Lib.pow10Tab
theorem gT10 : Tryz.prog.globalNamed "internal/strconv.uint64pow10" = some 3 := by kernel_rfl
theorem T10.kp {w w' : World} (h : T10 w) (hk : Kp w w') : T10 w' := Go.Joins.tab_stays gT10 h hk (Nat.le_refl _)
def bs (l : By) : ByteArray := ⟨l.toArray⟩
def RetS (l : By) (w : World) (e : Ending) (w' : World) : Prop := e = .returned (.string (bs l)) /\ Kp w w'
theorem itoa_any (n : Int) (h0 : -9223372036854775808 <= n) (h1 : n <= 9223372036854775807) (w : World) (h : T10 w) : Calls Tryz.prog 35 #[.int .i64 n] w (RetS (Lib.itoa n) w) := by
 have := Any.strconv_Itoa lItoa n h0 h1 w h
 refine this.mono ?_
 rintro e w' ⟨rfl, k, os, rfl⟩
 exact ⟨rfl, Go.Lib.below_grow _ w (Nat.le_refl _) k os⟩
theorem info_str : (Tryz.prog.info? 9).map (fun i => (i.zero, i.size, i.bytes)) = some (some (.string ⟨#[]⟩), 1, 16) := by kernel_rfl
theorem row_str : Row Tryz.prog 26 9 eStr 16 := row_of info_str Tryz.underlying26 rfl rfl (by decide)
def wordsF (l : List Int) (none : By) : By := if l = [] then none else Lib.join (l.map Lib.itoa) [32]
def In64 (l : List Int) : Prop := ∀ x ∈ l, -9223372036854775808 <= x /\ x <= 9223372036854775807
theorem joinTail_len (sep : By) : ∀ r : List By, (∀ x ∈ r, x.length <= 21) -> (Lib.joinTail sep r).length <= r.length * (sep.length + 21)
 | [], _ => by simp [Lib.joinTail]
 | x :: r, h => by
  have h1 := joinTail_len sep r (fun y hy => h y (List.mem_cons_of_mem _ hy))
  have h2 := h x List.mem_cons_self
  have h3 : Lib.joinTail sep (x :: r) = (sep ++ x) ++ Lib.joinTail sep r := by simp [Lib.joinTail]
  rw [h3, List.length_append, List.length_append, List.length_cons, Nat.add_mul]
  omega
theorem words_len (l : List Int) (h : In64 l) : (Lib.join (l.map Lib.itoa) [32]).length <= l.length * 22 + 21 := by
 cases l with
 | nil => simp [Lib.join_nil]
 | cons x r =>
  rw [List.map_cons, Lib.join_cons, List.length_append]
  have h1 := joinTail_len [32] (r.map Lib.itoa) (fun y hy => by
   obtain ⟨z, hz, rfl⟩ := List.mem_map.1 hy
   have := h z (List.mem_cons_of_mem _ hz)
   exact Lib.itoa_length_le z this.1 this.2)
  have h2 := Lib.itoa_length_le x (h x List.mem_cons_self).1 (h x List.mem_cons_self).2
  have h3 : (r.map Lib.itoa).length = r.length := List.length_map _
  have h4 : (x :: r).length = r.length + 1 := rfl
  have h5 : ([32] : By).length = 1 := rfl
  rw [h3, h5] at h1
  rw [h4]
  omega
def WdRel (l : List Int) (w : World) (ov iv : Value) (wr : World) : Prop := ∃ k : Nat, k <= l.length /\ iv = .int .i64 k /\ OW wr w.heap.size 9 eStr ov ((l.take k).map fun n => bs (Lib.itoa n)) /\ Kp w wr
theorem words_any (l : List Int) (v : Value) (none : By) (w : World) (hr : RD w eInt v l) (hn : l.length <= 1000000) (h64 : In64 l) (ht : T10 w) : Calls Tryz.prog 44 #[v, .string (bs none)] w (RetS (wordsF l none) w) := by
 obtain ⟨A, c, rfl, hc, hm⟩ := hr.shape
 have HR := hide hr
 have HT := hide ht
 clear hr ht
 by_cases h0 : l = []
 ·have H1 : Hid (wordsF l none = none) := hide (by rw [wordsF, if_pos h0])
  subst h0
  go_enter Tryz.func44, Tryz.ntmps44
  go_wp2
  go_ret
  exact ⟨by rw [H1.out]; rfl, Kp.refl _⟩
 ·have H1 : Hid (wordsF l none = Lib.join (l.map Lib.itoa) [32]) := hide (by rw [wordsF, if_neg h0])
  have hl : 0 < l.length := List.length_pos_iff.2 h0
  have b0 : ((l.length : Int) == 0) = false := beq_eq_false_iff_ne.2 (by omega)
  clear h0
  have HL := hide hl
  clear hl
  go_enter Tryz.func44, Tryz.ntmps44
  go_wp2
  go_loopw [5, 14] (WdRel l w) (fun _ i _ => l.length - (intOf i).toNat)
  case atStart => exact ⟨0, by omega, rfl, OW.nil, Kp.refl _⟩
  case round =>
   obtain ⟨k, hk, rfl, ho, hkp⟩ := hrel
   have hi := ho.hi
   have HO := hide ho
   obtain ⟨u, hu⟩ : ∃ u, u = u5 := ⟨_, rfl⟩
   by_cases hlt : k < l.length
   ·obtain ⟨b, o, rfl, _, x0⟩ := (HR.out.kp hkp).int hlt
    obtain ⟨y, hy⟩ : ∃ y, y = l[k] := ⟨_, rfl⟩
    rw [<- hy] at x0
    have hy64 := h64 y (by rw [hy]; exact List.getElem_mem hlt)
    have HN : Hid ((l.take k).map (fun n => bs (Lib.itoa n)) ++ [bs (Lib.itoa y)] = (l.take (k + 1)).map (fun n => bs (Lib.itoa n))) := hide (by rw [List.take_succ_eq_append_getElem hlt, List.map_append, hy]; rfl)
    have HM1 : Hid ((((l.take k).map (fun n => bs (Lib.itoa n))).length + [bs (Lib.itoa y)].length) * 16 <= 140737488355328) := hide (by simp; omega)
    have HM2 : Hid (((l.take k).map (fun n => bs (Lib.itoa n))).length + [bs (Lib.itoa y)].length <= maxLen) := hide (by simp [maxLen]; omega)
    have HI := hide (itoa_any y hy64.1 hy64.2 wr (HT.out.kp hkp))
    clear hy ho hu hy64
    go_wp2_with fail
    with_reducible refine HI.out.mono ?_
    rintro e w1 ⟨rfl, hk1⟩
    have hkp1 := hkp.trans hk1
    have ho1 := hide (HO.out.kp hk1)
    go_wp2_with (at_builtin; (with_reducible refine list_app (B := w.heap.size) (l := (l.take k).map (fun n => bs (Lib.itoa n))) (m := [bs (Lib.itoa y)]) row_str u5 ?_ (.tmp 18) (.tmp 21) ?_ ?_ ?_ ?_ HM1.out HM2.out ?_ ?_); (with_reducible rfl); (with_reducible rfl); rfl; ((with_reducible apply OW.alloc); exact ho1.out); (show RD _ _ (.slice (some ⟨_, 0, Option.none⟩) 1 1) _; (exact RD.auto)); (have := hkp1.size; simp; omega); intro v3 w3 ho3 hg3 hat3)
    go_roundw
    case rel => exact ⟨k + 1, by omega, by go_num, by rw [<- HN.out]; exact ho3, Kp.app hg3 hkp1.alloc hi⟩
    case measure => simp [intOf]; omega
   ·have hkl : Hid ((l.take k).map (fun n => bs (Lib.itoa n)) = l.map (fun n => bs (Lib.itoa n))) := hide (by rw [List.take_of_length_le (by omega)])
    have hrd := ho.rd
    rw [hkl.out] at hrd
    obtain ⟨A5, c5, rfl, hc5, _⟩ := hrd.shape
    have hlm : (l.map (fun n => bs (Lib.itoa n))).length = l.length := List.length_map _
    obtain ⟨b5, o5, rfl, hb5, hx5⟩ := hrd.str (k := 0) (by rw [hlm]; exact HL.out)
    have hjl : ((l.map (fun n => bs (Lib.itoa n))).map (·.data.toList)) = l.map Lib.itoa := by rw [List.map_map]; exact List.map_congr_left (fun n _ => rfl)
    have hjn := words_len l h64
    have HJ : Calls Tryz.prog 54 #[.slice (some ⟨b5, o5, Option.none⟩) (l.map (fun n => bs (Lib.itoa n))).length c5, .string ⟨#[32]⟩] wr (fun e w' => e = .returned (.string ⟨(Lib.join ((l.map (fun n => bs (Lib.itoa n))).map (·.data.toList)) [32]).toArray⟩) /\ Below wr.heap.size wr w') :=
     Any.strings_Join lJoin lJoin_x b5 o5 c5 (l.map (fun n => bs (Lib.itoa n))) ⟨#[32]⟩ wr (fun j x hx => by
      have hj := (List.getElem?_eq_some_iff.1 hx).1
      have h := hrd.strs j hj
      rw [h, List.getD_eq_getElem?_getD, hx]; rfl) hb5 (by rw [hlm]; omega) hc5 (by show (Lib.join ((l.map (fun n => bs (Lib.itoa n))).map (·.data.toList)) [32]).length <= _; rw [hjl]; omega)
    rw [hjl, hlm] at HJ
    replace HJ := hide HJ
    clear hx5
    clear ho hu hjl hjn hrd hi HO hkl hlm hb5 hc5
    go_wp2_with fail
    with_reducible refine HJ.out.mono ?_
    rintro e w1 ⟨rfl, hk1⟩
    have hkp1 := hkp.trans hk1
    go_wp2
    go_ret
    exact ⟨by rw [H1.out]; rfl, hkp1⟩
def DyRel (l : List IP) (w : World) (ov iv : Value) (wr : World) : Prop := ∃ k : Nat, k <= l.length /\ iv = .int .i64 k /\ OW wr w.heap.size 3 eInt ov ((l.take k).map Prod.fst) /\ Kp w wr
theorem deskKeys_any (d : Nat) (l : List IP) (v : Value) (w : World) (hc0 : w.cell? ⟨d, 0, none⟩ = some v) (hr : RD w ePair v l) (hn : l.length <= 1000000) : Calls Tryz.prog 71 #[.pointer (some ⟨d, 0, none⟩)] w (RetOW 3 eInt (l.map Prod.fst) w) := by
 obtain ⟨A, c, rfl, hc, hm⟩ := hr.shape
 have HR := hide hr
 clear hr
 go_enter Tryz.func71, Tryz.ntmps71
 go_wp2
 go_loopw [3, 11] (DyRel l w) (fun _ i _ => l.length - (intOf i).toNat)
 case atStart => exact ⟨0, by omega, rfl, OW.nil, Kp.refl _⟩
 case round =>
  obtain ⟨k, hk, rfl, ho, hkp⟩ := hrel
  have hi := ho.hi
  have HO := hide ho
  obtain ⟨u, hu⟩ : ∃ u, u = u3 := ⟨_, rfl⟩
  by_cases hlt : k < l.length
  ·obtain ⟨b, o, rfl, _, x0, x1⟩ := (HR.out.kp hkp).pair hlt
   obtain ⟨y, hy⟩ : ∃ y, y = l[k].1 := ⟨_, rfl⟩
   rw [<- hy] at x0
   have HN : Hid ((l.take k).map Prod.fst ++ [y] = (l.take (k + 1)).map Prod.fst) := hide (by rw [List.take_succ_eq_append_getElem hlt, List.map_append, hy]; rfl)
   have HM1 : Hid ((((l.take k).map Prod.fst).length + [y].length) * 8 <= 140737488355328) := hide (by simp; omega)
   have HM2 : Hid (((l.take k).map Prod.fst).length + [y].length <= maxLen) := hide (by simp [maxLen]; omega)
   clear hy ho hu
   go_wp2_with (at_builtin; (with_reducible refine list_app (B := w.heap.size) (l := (l.take k).map Prod.fst) (m := [y]) row_int u3 ?_ (.tmp 15) (.tmp 18) ?_ ?_ ?_ ?_ HM1.out HM2.out ?_ ?_); (with_reducible rfl); (with_reducible rfl); rfl; ((with_reducible apply OW.alloc); (with_reducible apply OW.alloc); exact HO.out); (show RD _ _ (.slice (some ⟨_, 0, none⟩) 1 1) _; (exact RD.auto)); (have := hkp.size; simp; omega); intro v3 w3 ho3 hg3 hat3)
   go_roundw
   case rel => exact ⟨k + 1, by omega, by go_num, by rw [<- HN.out]; exact ho3, Kp.app hg3 hkp.alloc.alloc hi⟩
   case measure => simp [intOf]; omega
  ·have hkl : Hid ((l.take k).map Prod.fst = l.map Prod.fst) := hide (by rw [List.take_of_length_le (by omega)])
   clear ho hu
   go_wp2
   go_ret
   exact ⟨_, rfl, by rw [<- hkl.out]; exact HO.out, hkp.bel⟩
end Go.Proofs.YtcljlnagpjilaaaGreatDoor
